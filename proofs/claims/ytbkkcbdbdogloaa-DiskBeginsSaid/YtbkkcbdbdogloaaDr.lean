/-
  THE DISK's METHODS, MORE: Left, SyncNames, New. Conditions: those of each theorem.
-/
import Derived.Test.YtbkkcbdbdogloaaDq
namespace Go.Proofs.Ytbkkcbdbdogloaa
open Go Go.RowKit Go.MapL Go.Poised

variable {p n₀ : Nat} {r : Rep} {s : DS}
theorem up_call {P : Program} {f : FuncId} {args : Array Value} {w : World} {v : Value} {n : Nat} (h : Calls P f args w fun e w' => e = .returned v ∧ Below w.heap.size w w') (hn : n ≤ w.heap.size) :
    Calls P f args w fun e w' => e = .returned v ∧ Below n w w' := h.mono fun _ _ ⟨he, hb⟩ => ⟨he, hb.mono hn⟩
theorem still_call {P : Program} {f : FuncId} {args : Array Value} {w : World} {v : Value} {n : Nat} (h : Calls P f args w fun e w' => e = .returned v ∧ w' = w) :
    Calls P f args w fun e w' => e = .returned v ∧ Below n w w' := h.mono fun _ _ ⟨he, hw⟩ => ⟨he, by rw [hw]; exact Below.refl _ _⟩

theorem usedOf_le (hwf : WF s) : usedOf s ≤ s.births * 16777216 := by
  unfold usedOf
  have := sum_le (fun j => if held s (j + 1) then (s.file (j + 1)).b.length else 0) 16777216 (fun j => by split; exact hwf.len _; omega) (List.range s.births)
  simpa using this

set_option maxRecDepth 100000 in
set_option maxHeartbeats 2000000 in
theorem left_at (w : World) (h : Lies w p n₀ r s) (hwf : WF s) :
    Calls Try.prog 21 #[ofBlock p] w fun e w' => e = .returned (.int .i64 (if s.dead then 0 else (s.room : Int) - usedOf s)) ∧ Below w.heap.size w w' := by
  have ha := away_at w h
  have hu := usedOf_le hwf
  have hroom := hwf.room
  have hbirths := hwf.births
  obtain ⟨u, hue⟩ : ∃ u, usedOf s = u := ⟨_, rfl⟩
  have hused := fun W (hL : Lies W p n₀ r s) => used_any W p n₀ r s hL hwf
  rw [hue] at hu ⊢
  simp only [hue] at hused
  have g1 : IntKind.i64.wrap ((s.room : Int) - u) = (s.room : Int) - u := IntWalk.i64_in _ (by omega)
  unfold ofBlock at *
  cases hdd : s.dead
  · rw [hdd] at ha
    go_enter Try.func21, Try.ntmps21
    go_wp2_with (go_at_call 30; refine ha.mono ?_; rintro e w' ⟨rfl, rfl⟩)
    refine poised_whole (fun w2 => Below w'.heap.size w' w2) (fun w1 w2 => Below w'.heap.size w1 w2) (by kernel_rfl) (by kernel_rfl) (by kernel_rfl) (fun _ _ h k => h.trans k) ((Below.refl _ _).drew) ?_
    apply Exists.intro
    apply walk_det
    · rfl
    · intro w2 hC hF
      simp only [upon]
      go_simp
      exact ⟨Below.refl _ _, rfl⟩
    simp only [put_lit, List.set_cons_succ, List.set_cons_zero]
    apply walk_det
    · rfl
    · intro w2 hC hF
      simp only [upon]
      go_simp
      exact ⟨Below.refl _ _, rfl⟩
    simp only [put_lit, List.set_cons_succ, List.set_cons_zero]
    apply walk_det
    · rfl
    · intro w2 hC hF
      simp only [upon]
      go_simp
      exact ⟨Below.refl _ _, rfl⟩
    simp only [put_lit, List.set_cons_succ, List.set_cons_zero]
    apply walk_det
    · rfl
    · intro w2 hC hF
      obtain ⟨c0, c1, c2, c3, c4, c5, c6, c7⟩ := (h.below hC).cells
      simp only [upon]
      go_simp
      exact ⟨Below.refl _ _, rfl⟩
    simp only [put_lit, List.set_cons_succ, List.set_cons_zero]
    apply walk_det
    · rfl
    · intro w2 hC hF
      simp only [upon]
      go_simp
      exact ⟨Below.refl _ _, rfl⟩
    simp only [put_lit, List.set_cons_succ, List.set_cons_zero]
    apply walk_det
    · rfl
    · intro w2 hC hF
      obtain ⟨c0, c1, c2, c3, c4, c5, c6, c7⟩ := (h.below hC).cells
      simp only [upon]
      go_simp
      exact up_call (hused _ (h.below hC)) hC.size
    simp only [put_lit, List.set_cons_succ, List.set_cons_zero]
    apply walk_det
    · rfl
    · intro w2 hC hF
      simp only [upon]
      go_simp
      exact ⟨Below.refl _ _, rfl⟩
    simp only [put_lit, List.set_cons_succ, List.set_cons_zero]
    apply walk_det
    · rfl
    · intro w2 hC hF
      simp only [upon]
      go_simp
      exact ⟨Below.refl _ _, rfl⟩
    simp only [put_lit, List.set_cons_succ, List.set_cons_zero]
    apply walk_nil
    intro w2 hC _
    go_wp2
    go_returns
    exact ⟨rfl, hC⟩
  · rw [hdd] at ha
    go_enter Try.func21, Try.ntmps21
    go_wp2_with (go_at_call 30; refine ha.mono ?_; rintro e w' ⟨rfl, rfl⟩)
    go_returns
    exact ⟨rfl, Below.refl _ _⟩

/-- Names, kept names and works are laid anew. -/
theorem Lies.setAll {w w' : World} (h : Lies w p n₀ r s) (bn bk : Nat) (names kept : List (ByteArray × Nat)) (dead : Bool) (hn : MapAt ofText ofBlock w' bn (at_ r.ad names)) (hk : MapAt ofText ofBlock w' bk (at_ r.ad kept)) (hne : bn ≠ bk) (h1 : n₀ ≤ bn) (h2 : n₀ ≤ bk)
    (ht : w'.heap[p]? = some (Ytbkkcbdbdogloaa.top { s with names := names, kept := kept, works := [], dead := dead } { r with bn := bn, bk := bk, wv := .slice none 0 0 })) (hs : ∀ k, k < w.heap.size → k ≠ p → w'.heap[k]? = w.heap[k]?) :
    Lies w' p n₀ { r with bn := bn, bk := bk, wv := .slice none 0 0 } { s with names := names, kept := kept, works := [], dead := dead } := by
  have hb : ∀ k, foot p r s k → sort w k ≠ 59 → w'.heap[k]? = w.heap[k]? := fun k hk g1 => hs k (h.foot_lt k hk).1 (fun e => g1 (by rw [e]; exact h.sP))
  exact {
    top := ht
    names := hn
    kept := hk
    works := World.ownsRow_nil _ _ _ _
    file := fun i h1 h2 => (hb _ (.inr (.inr (.inr (.inr ⟨i, h1, h2, .inl rfl⟩)))) (by rw [h.sF h1 h2]; decide)).trans (h.file i h1 h2)
    data := fun i h1 h2 => row_same (h.data i h1 h2) (fun g hg => hb _ (.inr (.inr (.inr (.inr ⟨i, h1, h2, .inr hg⟩)))) (by rw [h.sB h1 h2 hg]; decide))
    apart := hne
    adInj := h.adInj
    rowInj := h.rowInj
    baseP := h.baseP
    baseN := h1
    baseK := h2
    baseF := h.baseF }

def DS.syncNames (s : DS) : DS := if s.dead then s else { s with kept := s.names, works := [] }

set_option maxRecDepth 100000 in
set_option maxHeartbeats 2000000 in
theorem syncNames_at (w : World) (h : Lies w p n₀ r s) :
    Calls Try.prog 13 #[ofBlock p] w fun e w' => e = .returned (.int .i64 (if s.dead then 51 else 0)) ∧ Turns w w' p n₀ r s s.syncNames := by
  have hL := h
  obtain ⟨c0, c1, c2, c3, c4, c5, c6, c7⟩ := h.cells
  have ha := away_at w h
  have hd := dies_at w h
  have hcl := clone_any r.bn (at_ r.ad s.names) w h.names
  have hpl := (h.foot_lt p (.inl rfl)).1
  have hbl := h.names.lt
  unfold ofBlock at *
  unfold DS.syncNames
  cases hdd : s.dead
  · rw [hdd] at ha c5
    go_enter Try.func13, Try.ntmps13
    go_wp2_with (first | (go_at_call 30; refine ha.mono ?_; rintro e w' ⟨rfl, rfl⟩) | (go_at_call 33; refine hd.mono ?_; rintro e w' ⟨rfl, rfl⟩) | (go_at_call 36; refine hcl.mono ?_; rintro e w1 ⟨rfl, hm1, hs1, hb1⟩; have h1 := h.below hb1; obtain ⟨d0, d1, d2, d3, d4, d5, d6, d7⟩ := h1.cells; have z3 := h1.free 3; have z4 := h1.free 4))
    go_returns
    refine ⟨rfl, { r with bk := w'.heap.size, wv := .slice none 0 0 }, ?_, ((Grown.of_below hb1).setCell (p := ⟨p, 3, none⟩) (.inl (.inl rfl)) _).setCell (p := ⟨p, 4, none⟩) (.inl (.inl rfl)) _, ?_⟩
    · have hp1 : w'.heap.size ≠ p := by omega
      have hp2 : r.bn ≠ p := fun e => by have := hL.sN; rw [e, hL.sP] at this; cases this
      have key := h1.setAll (w' := (w1.setCell ⟨p, 3, none⟩ (.map (some w'.heap.size))).setCell ⟨p, 4, none⟩ (.slice none 0 0)) r.bn w'.heap.size s.names s.names s.dead ?_ ?_ (by omega) hL.baseN ?_ ?_ ?_
      · rw [hdd] at key; exact key
      · exact h1.names.same (by rw [Below.heap_setCell _ _ _ _ hp2, Below.heap_setCell _ _ _ _ hp2])
      · exact hm1.same (by rw [Below.heap_setCell _ _ _ _ hp1, Below.heap_setCell _ _ _ _ hp1])
      · have := (hL.foot_lt p (.inl rfl)).2; omega
      · rw [setCell_heap (setCell_heap h1.top)]; rfl
      · intro k _ hk
        rw [Below.heap_setCell _ _ _ _ hk, Below.heap_setCell _ _ _ _ hk]
    · rintro k (h | h | h | h | ⟨j, g1, g2, h⟩)
      · exact .inl (.inl h)
      · exact .inl (.inr (.inl h))
      · exact .inr (by rw [h]; exact Nat.le_refl _)
      · cases h
      · exact .inl (.inr (.inr (.inr (.inr ⟨j, g1, g2, h⟩))))
  · rw [hdd] at ha
    go_enter Try.func13, Try.ntmps13
    go_wp2_with (go_at_call 30; refine ha.mono ?_; rintro e w' ⟨rfl, rfl⟩)
    go_returns
    exact ⟨rfl, Turns.none hL (Below.refl _ _)⟩

def DS.new (room : Nat) : DS := { room := room, births := 0, file := fun _ => ⟨[], 0⟩, names := [], kept := [], works := [], dead := false }
theorem wf_new (room : Nat) (h : room ≤ 16777216) : WF (DS.new room) := {
  room := h
  births := by simp [DS.new]
  names := by simp [DS.new]
  kept := by simp [DS.new]
  works := by simp [DS.new]
  count := by simp [DS.new]
  bytes := by simp [DS.new]
  len := by simp [DS.new]
  mark := by simp [DS.new] }

set_option maxRecDepth 100000 in
set_option maxHeartbeats 2000000 in
theorem new_at (room : Nat) (hroom : room ≤ 16777216) (w : World) :
    Calls Try.prog 8 #[.int .i64 room] w fun e w' => e = .returned (.tuple #[ofBlock (w.heap.size + 2), .int .i64 0]) ∧ Below w.heap.size w w' ∧ w'.heap.size = w.heap.size + 3 ∧ ∃ r, Lies w' (w.heap.size + 2) w.heap.size r (DS.new room) := by
  have e1 : decide ((16777216 : Int) < room) = false := by simp; omega
  have e2 : (0 : Int) ≤ room := by omega
  have e3 : (room : Int) ≤ 16777216 := by omega
  have hmk := @run_makeMap Try.prog
  go_enter Try.func8, Try.ntmps8
  go_wp2
  go_returns
  refine ⟨rfl, ?_, by simp, ⟨w.heap.size, w.heap.size + 1, fun _ => 0, .slice none 0 0, fun _ => .slice none 0 0⟩, ?_⟩
  · exact (((Below.refl _ w).alloc (Nat.le_refl _) _).alloc (by simp) _).alloc (by simp; omega) _
  · have hm1 : MapAt ofText ofBlock (w.alloc (.map #[] 0)) w.heap.size (at_ (fun _ => 0) []) := MapAt.new w
    have hm2 : MapAt ofText ofBlock ((w.alloc (.map #[] 0)).alloc (.map #[] 0)) (w.alloc (.map #[] 0)).heap.size (at_ (fun _ => 0) []) := MapAt.new _
    rw [World.size_alloc] at hm2
    exact {
      top := by
        have := heap_new ((w.alloc (.map #[] 0)).alloc (.map #[] 0)) (top (DS.new room) ⟨w.heap.size, w.heap.size + 1, fun _ => 0, .slice none 0 0, fun _ => .slice none 0 0⟩)
        simp only [World.size_alloc] at this
        exact this
      names := (hm1.alloc _).alloc _
      kept := hm2.alloc _
      works := World.ownsRow_nil _ _ _ _
      file := fun i h1 h2 => by simp [DS.new] at h2; omega
      data := fun i h1 h2 => by simp [DS.new] at h2; omega
      apart := by show w.heap.size ≠ w.heap.size + 1; omega
      adInj := fun i j h1 h2 => by simp [DS.new] at h2; omega
      rowInj := fun i j h1 h2 => by simp [DS.new] at h2; omega
      baseP := by omega
      baseN := Nat.le_refl _
      baseK := by show w.heap.size ≤ w.heap.size + 1; omega
      baseF := fun i h1 h2 => by simp [DS.new] at h2; omega }
end Go.Proofs.Ytbkkcbdbdogloaa
