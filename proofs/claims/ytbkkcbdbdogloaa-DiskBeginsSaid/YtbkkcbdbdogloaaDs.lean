/-
  Append. Conditions: those of each theorem.
-/
import Derived.Test.YtbkkcbdbdogloaaDr
namespace Go.Proofs.Ytbkkcbdbdogloaa
open Go Go.RowKit Go.MapL Go.Poised

variable {p n₀ : Nat} {r : Rep} {s : DS}

def DS.born (s : DS) : DS := { s with births := s.births + 1, file := upd s.file (s.births + 1) ⟨[], 0⟩ }
def DS.grow (s : DS) (i : Nat) (l : List Nat) : DS := { s with file := upd s.file i ⟨(s.file i).b ++ l, (s.file i).mark⟩ }
/-- A file of that name, a new one if there is none. -/
def DS.find (s : DS) (x : ByteArray) : DS × Nat :=
  match fileOf s x with
  | some i => (s, i)
  | none => (s.born.renamed ⟨#[]⟩ x (some (s.births + 1)), s.births + 1)
/-- Append, plainly. -/
def DS.append (s : DS) (x : ByteArray) (l : List Nat) : DS × Int :=
  if s.dead then (s, 51) else if (decide (1 ≤ x.size) && decide (x.size ≤ 40)) = false then (s, 50) else if s.room < usedOf s + l.length then (s, 52) else ((s.find x).1.grow (s.find x).2 l, 0)

theorem foot_born {B : Nat} :
    ∀ k, foot p { r with ad := upd r.ad (s.births + 1) B, bv := upd r.bv (s.births + 1) (.slice none 0 0) } s.born k → foot p r s k ∨ k = B := by
  rintro k (h | h | h | h | ⟨j, g1, g2, h⟩)
  · exact .inl (.inl h)
  · exact .inl (.inr (.inl h))
  · exact .inl (.inr (.inr (.inl h)))
  · exact .inl (.inr (.inr (.inr (.inl h))))
  · have g2 : j ≤ s.births + 1 := g2
    by_cases hj : j = s.births + 1
    · subst hj
      simp only [upd_same] at h
      rcases h with h | h
      · exact .inr h
      · cases h
    · simp only [upd_other _ _ hj] at h
      exact .inl (.inr (.inr (.inr (.inr ⟨j, g1, by omega, h⟩))))
theorem wf_born (hwf : WF s) (hb : s.births < 1073741824) : WF s.born := {
  room := hwf.room
  births := by show s.births + 1 ≤ _; omega
  names := fun q hq => ⟨(hwf.names q hq).1, Nat.le_succ_of_le (hwf.names q hq).2⟩
  kept := fun q hq => ⟨(hwf.kept q hq).1, Nat.le_succ_of_le (hwf.kept q hq).2⟩
  works := fun q hq i hi => ⟨(hwf.works q hq i hi).1, Nat.le_succ_of_le (hwf.works q hq i hi).2⟩
  count := hwf.count
  bytes := fun i x hx => by
    by_cases hi : i = s.births + 1
    · subst hi; simp [DS.born] at hx
    · simp only [DS.born, upd_other _ _ hi] at hx; exact hwf.bytes i x hx
  len := fun i => by
    by_cases hi : i = s.births + 1
    · subst hi; simp [DS.born]
    · simp only [DS.born, upd_other _ _ hi]; exact hwf.len i
  mark := fun i => by
    by_cases hi : i = s.births + 1
    · subst hi; simp [DS.born]
    · simp only [DS.born, upd_other _ _ hi]; exact hwf.mark i }

set_option maxRecDepth 100000 in
set_option maxHeartbeats 8000000 in
theorem append_at (x : ByteArray) (v : Value) (l : List Nat) (w : World) (h : Lies w p n₀ r s) (hwf : WF s) (hbirths : s.births < 1073741824) (hworks : s.works.length < 1073741824) (hlen : l.length ≤ 4611686018427387904) (hn : n₀ ≤ w.heap.size)
    (hsep : ∀ w', Grown (foot p r s) w w' → BytesIn w' v l) :
    Calls Try.prog 11 #[ofBlock p, .string x, v] w fun e w' => e = .returned (.int .i64 (s.append x l).2) ∧ Turns w w' p n₀ r s (s.append x l).1 := by
  have hL := h
  have hv := hsep w (Grown.refl _ _)
  obtain ⟨vp, vcap, hvs⟩ : ∃ vp vcap, v = .slice vp l.length vcap := by
    rcases hv.2.2 with ⟨rfl, h0⟩ | ⟨a, cap, rfl, h0⟩ | ⟨b, off, cap, rfl, _⟩
    · exact ⟨_, _, by rw [h0]; rfl⟩
    · exact ⟨_, _, by rw [h0]; rfl⟩
    · exact ⟨_, _, rfl⟩
  subst hvs
  clear hv
  have ha := away_at w h
  have hi := isName_any x w
  have hule := usedOf_le hwf
  have hroom := hwf.room
  obtain ⟨u, hue⟩ : ∃ u, usedOf s = u := ⟨_, rfl⟩
  have hused := fun W (hLW : Lies W p n₀ r s) => used_any W p n₀ r s hLW hwf
  unfold DS.append
  rw [hue] at hule ⊢
  simp only [hue] at hused
  generalize hok : (decide (1 ≤ x.size) && decide (x.size ≤ 40)) = ok at hi ⊢
  clear hok hue
  unfold ofBlock at *
  cases hdd : s.dead
  · rw [hdd] at ha
    cases ok
    · go_enter Try.func11, Try.ntmps11
      go_wp2_with (first | (go_at_call 30; refine ha.mono ?_; rintro e w' ⟨rfl, rfl⟩) | (go_at_call 31; refine hi.mono ?_; rintro e w' ⟨rfl, rfl⟩))
      go_returns
      exact ⟨rfl, Turns.none hL (Below.refl _ _)⟩
    · have g1 : IntKind.i64.wrap ((u : Int) + l.length) = (u : Int) + l.length := IntWalk.i64_in _ (by omega)
      by_cases hfit : s.room < u + l.length
      · have g2 : decide ((s.room : Int) < (u : Int) + l.length) = true := by simp; omega
        go_enter Try.func11, Try.ntmps11
        go_wp2_with (first | (go_at_call 30; refine ha.mono ?_; rintro e w' ⟨rfl, rfl⟩) | (go_at_call 31; refine hi.mono ?_; rintro e w' ⟨rfl, rfl⟩))
        have hL := hL
        refine poised_whole (fun w2 => Below w'.heap.size w' w2) (fun w1 w2 => Below w'.heap.size w1 w2) (by kernel_rfl) (by kernel_rfl) (by kernel_rfl) (fun _ _ h k => h.trans k) ((Below.refl _ _).drew) ?_
        apply Exists.intro
        apply walk_det
        · rfl
        · intro w2 hC hF
          simp only [upon]
          go_simp
          exact ⟨Below.refl _ _, rfl⟩
        simp only [put_lit, List.set_cons_succ, List.set_cons_zero]
        apply walk_det
        · rfl
        · intro w2 hC hF
          obtain ⟨c0, c1, c2, c3, c4, c5, c6, c7⟩ := (hL.below hC).cells
          simp only [upon]
          go_simp
          exact up_call (hused _ (hL.below hC)) hC.size
        simp only [put_lit, List.set_cons_succ, List.set_cons_zero]
        apply walk_det
        · rfl
        · intro w2 hC hF
          simp only [upon]
          go_simp
          exact ⟨Below.refl _ _, rfl⟩
        simp only [put_lit, List.set_cons_succ, List.set_cons_zero]
        apply walk_det
        · rfl
        · intro w2 hC hF
          simp only [upon]
          go_simp
          exact ⟨Below.refl _ _, rfl⟩
        simp only [put_lit, List.set_cons_succ, List.set_cons_zero]
        apply walk_det
        · rfl
        · intro w2 hC hF
          simp only [upon]
          go_simp
          exact ⟨Below.refl _ _, rfl⟩
        simp only [put_lit, List.set_cons_succ, List.set_cons_zero]
        apply walk_det
        · rfl
        · intro w2 hC hF
          simp only [upon]
          go_simp
          exact ⟨Below.refl _ _, rfl⟩
        simp only [put_lit, List.set_cons_succ, List.set_cons_zero]
        apply walk_det
        · rfl
        · intro w2 hC hF
          simp only [upon]
          go_simp
          exact ⟨Below.refl _ _, rfl⟩
        simp only [put_lit, List.set_cons_succ, List.set_cons_zero]
        apply walk_det
        · rfl
        · intro w2 hC hF
          simp only [upon]
          go_simp
          exact ⟨Below.refl _ _, rfl⟩
        simp only [put_lit, List.set_cons_succ, List.set_cons_zero]
        apply walk_det
        · rfl
        · intro w2 hC hF
          obtain ⟨c0, c1, c2, c3, c4, c5, c6, c7⟩ := (hL.below hC).cells
          simp only [upon]
          go_simp
          exact ⟨Below.refl _ _, rfl⟩
        simp only [put_lit, List.set_cons_succ, List.set_cons_zero]
        apply walk_det
        · rfl
        · intro w2 hC hF
          simp only [upon]
          go_simp
          exact ⟨Below.refl _ _, rfl⟩
        simp only [put_lit, List.set_cons_succ, List.set_cons_zero]
        apply walk_det
        · rfl
        · intro w2 hC hF
          simp only [upon]
          go_simp
          exact ⟨Below.refl _ _, rfl⟩
        simp only [put_lit, List.set_cons_succ, List.set_cons_zero]
        apply walk_nil
        intro w2 hC _
        go_wp2
        go_returns
        simp only
        exact ⟨rfl, Turns.none hL hC⟩
      · have g2 : decide ((s.room : Int) < (u : Int) + l.length) = false := by simp; omega
        go_enter Try.func11, Try.ntmps11
        go_wp2_with (first | (go_at_call 30; refine ha.mono ?_; rintro e w' ⟨rfl, rfl⟩) | (go_at_call 31; refine hi.mono ?_; rintro e w' ⟨rfl, rfl⟩))
        refine poised_whole (fun w2 => Below w'.heap.size w' w2) (fun w1 w2 => Below w'.heap.size w1 w2) (by kernel_rfl) (by kernel_rfl) (by kernel_rfl) (fun _ _ h k => h.trans k) ((Below.refl _ _).drew) ?_
        apply Exists.intro
        apply walk_det
        · rfl
        · intro w2 hC hF
          simp only [upon]
          go_simp
          exact ⟨Below.refl _ _, rfl⟩
        simp only [put_lit, List.set_cons_succ, List.set_cons_zero]
        apply walk_det
        · rfl
        · intro w2 hC hF
          obtain ⟨c0, c1, c2, c3, c4, c5, c6, c7⟩ := (hL.below hC).cells
          simp only [upon]
          go_simp
          exact up_call (hused _ (hL.below hC)) hC.size
        simp only [put_lit, List.set_cons_succ, List.set_cons_zero]
        apply walk_det
        · rfl
        · intro w2 hC hF
          simp only [upon]
          go_simp
          exact ⟨Below.refl _ _, rfl⟩
        simp only [put_lit, List.set_cons_succ, List.set_cons_zero]
        apply walk_det
        · rfl
        · intro w2 hC hF
          simp only [upon]
          go_simp
          exact ⟨Below.refl _ _, rfl⟩
        simp only [put_lit, List.set_cons_succ, List.set_cons_zero]
        apply walk_det
        · rfl
        · intro w2 hC hF
          simp only [upon]
          go_simp
          exact ⟨Below.refl _ _, rfl⟩
        simp only [put_lit, List.set_cons_succ, List.set_cons_zero]
        apply walk_det
        · rfl
        · intro w2 hC hF
          simp only [upon]
          go_simp
          exact ⟨Below.refl _ _, rfl⟩
        simp only [put_lit, List.set_cons_succ, List.set_cons_zero]
        apply walk_det
        · rfl
        · intro w2 hC hF
          simp only [upon]
          go_simp
          exact ⟨Below.refl _ _, rfl⟩
        simp only [put_lit, List.set_cons_succ, List.set_cons_zero]
        apply walk_det
        · rfl
        · intro w2 hC hF
          simp only [upon]
          go_simp
          exact ⟨Below.refl _ _, rfl⟩
        simp only [put_lit, List.set_cons_succ, List.set_cons_zero]
        apply walk_det
        · rfl
        · intro w2 hC hF
          obtain ⟨c0, c1, c2, c3, c4, c5, c6, c7⟩ := (hL.below hC).cells
          simp only [upon]
          go_simp
          exact ⟨Below.refl _ _, rfl⟩
        simp only [put_lit, List.set_cons_succ, List.set_cons_zero]
        apply walk_det
        · rfl
        · intro w2 hC hF
          simp only [upon]
          go_simp
          exact ⟨Below.refl _ _, rfl⟩
        simp only [put_lit, List.set_cons_succ, List.set_cons_zero]
        apply walk_det
        · rfl
        · intro w2 hC hF
          simp only [upon]
          go_simp
          exact ⟨Below.refl _ _, rfl⟩
        simp only [put_lit, List.set_cons_succ, List.set_cons_zero]
        apply walk_nil
        intro w2 hC _
        have h2 := hL.below hC
        have hd2 := dies_at w2 h2
        have hl2 := lookup_at h2 x
        have hz2 := hC.size
        obtain ⟨c0, c1, c2, c3, c4, c5, c6, c7⟩ := h2.cells
        unfold ofBlock at hd2
        have hu15 : s.births + 1 ≤ 1073741824 := by omega
        clear ha hi hused
        cases hfo : fileOf s x with
        | some i =>
          obtain ⟨hi1, hi2⟩ := fileOf_in hwf hfo
          rw [hfo] at hl2
          simp only [ptrOf] at hl2
          have hf := h2.file i hi1 hi2
          have hd := h2.data i hi1 hi2
          obtain ⟨q, cap, hbv⟩ := own_shape hd
          rw [hbv] at hf hd
          have hrow : ∀ k, (Value.slice q (s.file i).b.length cap).ownBlock = some k → k ≠ r.ad i ∧ (r.bv i).ownBlock = some k := fun k hk => by
            rw [← hbv] at hk
            exact ⟨(fun e => by have := h2.sB hi1 hi2 hk; rw [e, h2.sF hi1 hi2] at this; cases this), hk⟩
          obtain ⟨f0, f1, f2⟩ := cells3 hf
          have z1 := free_of hf 1
          replace hbv : Hid _ := hbv
          have hBy := hsep w2 (Grown.of_below hC)
          have hli := hwf.len i
          have hfind : Hid (s.find x = (s, i)) := by unfold DS.find; rw [hfo]; rfl
          clear hfo
          go_wp2_with (first | (go_at_call 33; refine hd2.mono ?_; rintro e w' ⟨rfl, rfl⟩) | (at_builtin; refine wpList_append_bytes _ rfl _ _ rfl n₀ (.slice q (s.file i).b.length cap) _ (s.file i).b l rfl rfl hd hBy (by omega) (by omega) ?_; intro v' w4 hown hgrow hwhere; obtain ⟨q', cap', rfl⟩ := own_shape hown; have k0 := (hgrow.block (r.ad i) ((Array.getElem?_eq_some_iff.1 hf).1) (fun e => (hrow _ e.symm).1 rfl)).trans hf; obtain ⟨k1, k2, k3⟩ := cells3 k0; have kz := free_of k0 1))
          go_returns
          refine ⟨rfl, ?_⟩
          rw [hfind.out]
          have hnew : ∀ k, (Value.slice q' ((s.file i).b ++ l).length cap').ownBlock = some k → (r.bv i).ownBlock = some k ∨ _ ≤ k := fun k hk => (hwhere k hk).imp (fun e => (hrow k e).2) id
          refine ⟨{ r with bv := upd r.bv i (.slice q' ((s.file i).b ++ l).length cap') }, ?_, ?_, foot_file hi1 hi2 (fun k hk => (hnew k hk).imp id (fun e => by omega))⟩
          · refine h2.setFile i hi1 hi2 _ ⟨(s.file i).b ++ l, (s.file i).mark⟩ ?_ ?_ hnew ?_
            · rw [setCell_heap k0]; simp [fileAt]
            · refine row_same hown (fun g hg => Below.heap_setCell _ _ _ _ (fun e => ?_))
              have := sort_row hown hg
              rw [e, sort_cells k0] at this; cases this
            · intro k hk g3 g4
              exact (Below.heap_setCell _ _ _ _ g3).trans (hgrow.block k hk (fun e => g4 (hrow k e.symm).2))
          · exact ((Grown.of_below hC).trans (Grown.of_grownBy hgrow (S := foot p r s) (fun k hk => .inl (.inr (.inr (.inr (.inr ⟨i, hi1, hi2, .inr (hrow k hk).2⟩)))))) (fun _ hx => .inl hx)).setCell (p := ⟨r.ad i, 1, none⟩) (.inl (.inr (.inr (.inr (.inr ⟨i, hi1, hi2, .inl rfl⟩))))) _
        | none =>
          rw [hfo] at hl2
          simp only [ptrOf] at hl2
          have hfind : Hid (s.find x = (s.born.renamed ⟨#[]⟩ x (some (s.births + 1)), s.births + 1)) := by unfold DS.find; rw [hfo]; rfl
          clear hfo
          have zp := h2.free 1
          have g3 : IntKind.i64.wrap ((s.births : Int) + 1) = (s.births : Int) + 1 := IntWalk.i64_in _ (by omega)
          have hpl := (h2.foot_lt p (.inl rfl)).1
          have h3 : Lies ((w2.setCell ⟨p, 1, none⟩ (.int .i64 ((s.births : Int) + 1))).alloc (.cells #[.int .i64 ((s.births : Int) + 1), .slice none 0 0, .int .i64 0] 67)) p n₀ { r with ad := upd r.ad (s.births + 1) w2.heap.size, bv := upd r.bv (s.births + 1) (.slice none 0 0) } s.born := by
            refine h2.born hwf w2.heap.size (Nat.le_refl _) (by omega) ?_ ?_ ?_
            · rw [Below.heap_alloc _ _ _ (by simpa using hpl), setCell_heap h2.top]
              simp [top]
            · have hsz : (w2.setCell ⟨p, 1, none⟩ (.int .i64 ((s.births : Int) + 1))).heap.size = w2.heap.size := by simp
              have := heap_new (w2.setCell ⟨p, 1, none⟩ (.int .i64 ((s.births : Int) + 1))) (.cells #[.int .i64 ((s.births : Int) + 1), .slice none 0 0, .int .i64 0] 67)
              rw [hsz] at this
              rw [this]
              simp [fileAt]
            · intro k hk hkp
              rw [Below.heap_alloc _ _ _ (by simpa using hk), Below.heap_setCell _ _ _ _ hkp]
          have hG3 : Grown (foot p r s) w' ((w2.setCell ⟨p, 1, none⟩ (.int .i64 ((s.births : Int) + 1))).alloc (.cells #[.int .i64 ((s.births : Int) + 1), .slice none 0 0, .int .i64 0] 67)) := ((Grown.of_below hC).setCell (p := ⟨p, 1, none⟩) (.inl (.inl rfl)) _).alloc _
          have hz3 : ((w2.setCell ⟨p, 1, none⟩ (.int .i64 ((s.births : Int) + 1))).alloc (.cells #[.int .i64 ((s.births : Int) + 1), .slice none 0 0, .int .i64 0] 67)).heap.size = w2.heap.size + 1 := by simp
          have hren := renamed_any ⟨#[]⟩ x (some (s.births + 1)) _ p n₀ _ s.born h3 (by show s.works.length < _; omega) (by omega)
          simp only [ptrOf, upd_same] at hren
          unfold ofBlock at hren
          have hfoot4 : ∀ k, foot p { r with ad := upd r.ad (s.births + 1) w2.heap.size, bv := upd r.bv (s.births + 1) (.slice none 0 0) } s.born k → foot p r s k ∨ w'.heap.size ≤ k := fun k hk => (foot_born k hk).imp id (fun e => by omega)
          have hup : ∀ (n : Nat) (f : Nat → Nat), (upd f (s.births + 1) n) (s.births + 1) = n := fun n f => upd_same _ _ _
          go_wp2_with (first | (go_at_call 33; refine hd2.mono ?_; rintro e w3 ⟨rfl, hw3⟩; obtain rfl := hw3.symm) | (go_at_call 34; refine hren.mono ?_; rintro e w4 ⟨rfl, wv', hL4, hG4, hw4⟩; have hf4 := hL4.file (s.births + 1) (by omega) (Nat.le_refl _); simp only [DS.renamed, DS.born, upd_same, fileAt] at hf4; obtain ⟨f0, f1, f2⟩ := cells3 hf4; have z1 := free_of hf4 1; have hG5 := hG3.trans hG4 hfoot4; have hBy := hsep w4 hG5; have hz4 := hG4.size) | (at_builtin; refine wpList_append_bytes _ rfl _ _ rfl n₀ (.slice none 0 0) _ [] l rfl rfl (World.ownsRow_nil _ _ _ _) hBy (by simp; omega) (by omega) ?_; intro v' w6 hown hgrow hwhere; obtain ⟨q', cap', rfl⟩ := own_shape hown; have k0 := (hgrow.block w2.heap.size ((Array.getElem?_eq_some_iff.1 hf4).1) (by simp [Value.ownBlock])).trans hf4; obtain ⟨k1, k2, k3⟩ := cells3 k0; have kz := free_of k0 1))
          go_returns
          refine ⟨rfl, ?_⟩
          rw [hfind.out]
          have hge : (s.born.renamed ⟨#[]⟩ x (some (s.births + 1))).grow (s.births + 1) l = { s.born.renamed ⟨#[]⟩ x (some (s.births + 1)) with file := upd (s.born.renamed ⟨#[]⟩ x (some (s.births + 1))).file (s.births + 1) ⟨l, 0⟩ } := by
            simp [DS.grow, DS.renamed, DS.born]
          simp only
          rw [hge]
          have hnew : ∀ k, (Value.slice q' l.length cap').ownBlock = some k → w4.heap.size ≤ k := fun k hk => (hwhere k hk).elim (fun e => by cases e) id
          refine ⟨_, hL4.setFile (s.births + 1) (by omega) (Nat.le_refl _) (.slice q' l.length cap') ⟨l, 0⟩ ?_ ?_ (fun k hk => .inr (hnew k hk)) ?_, ?_, ?_⟩
          · simp only [upd_same]
            rw [setCell_heap k0]; simp [fileAt]
          · refine row_same hown (fun g hg => Below.heap_setCell _ _ _ _ (fun e => ?_))
            have := sort_row hown hg
            rw [e, sort_cells k0] at this; cases this
          · intro k hk g4 g5
            simp only [upd_same] at g4
            exact (Below.heap_setCell _ _ _ _ g4).trans (hgrow.block k hk (by simp [Value.ownBlock]))
          · refine (hG5.trans (Grown.of_grownBy hgrow (S := fun _ => False) (fun k hk => by simp [Value.ownBlock] at hk)) (fun _ hx => hx.elim)).setCell (p := ⟨w2.heap.size, 1, none⟩) (.inr (by show w'.heap.size ≤ w2.heap.size; omega)) _
          · intro k hk
            rcases foot_file (w := w4) (i := s.births + 1) (s := s.born.renamed ⟨#[]⟩ x (some (s.births + 1))) (r := { r with ad := upd r.ad (s.births + 1) w2.heap.size, wv := wv', bv := upd r.bv (s.births + 1) (.slice none 0 0) }) (by omega) (Nat.le_refl _) (fun k hk => .inr (hnew k hk)) k hk with hk | hk
            · rcases foot_wv (r := { r with ad := upd r.ad (s.births + 1) w2.heap.size, bv := upd r.bv (s.births + 1) (.slice none 0 0) }) (s := s.born) hw4 k hk with hk | hk
              · exact hfoot4 k hk
              · exact .inr (by omega)
            · exact .inr (by omega)
  · rw [hdd] at ha
    go_enter Try.func11, Try.ntmps11
    go_wp2_with (go_at_call 30; refine ha.mono ?_; rintro e w' ⟨rfl, rfl⟩)
    go_returns
    exact ⟨rfl, Turns.none hL (Below.refl _ _)⟩
end Go.Proofs.Ytbkkcbdbdogloaa
