/-
  THE DISK's METHODS, MORE: a file by its name, Sync, Read, Left. Conditions: those of each theorem.
  THE DISK's METHODS, MORE: Left, SyncNames, New. Conditions: those of each theorem.
  Append. Conditions: those of each theorem.
  EqBytes, Bring. Conditions: those of each theorem.
-/
import Derived.Test.YtmcmagplaflegaaGreatX2
import Derived.BigQuiet
import Derived.Laws.BytesArg
import Derived.Lib.SlBytesConst

namespace Go.Proofs.YtmcmagplaflegaaGreat
open Go Go.RowKit Go.MapL Go.Poised

variable {p n₀ : Nat} {r : Rep} {s : DS}

/-- A file for a work, or why there is none. -/
def ofRes (s : DS) (x : ByteArray) (ok : Bool) : Option Nat × Int :=
  if s.dead then (none, 51) else match fileOf s x with
    | none => (none, 50)
    | some i => if ok then (some i, 0) else (none, 50)

/-- A work on a file: what it is refused for; the fall; or what is done one work nearer to the fall. -/
def DS.work (s : DS) (q : Option Nat × Int) (f : DS → Nat → DS) : DS × Int :=
  match q.1 with
  | none => (s, q.2)
  | some i => if s.fails = 0 then (s.crash s.keep, 51) else (f s.tick i, 0)
set_option maxRecDepth 100000 in
set_option maxHeartbeats 2000000 in
theorem of_none (x : ByteArray) (ok : Bool) (w : World) (h : Lies w p n₀ r s) (hr : (ofRes s x ok).1 = none) :
    Calls Tryz.prog 54 #[ofBlock p, .string x, .bool ok] w fun e w' => e = .returned (.tuple #[.pointer none, .int .i64 (ofRes s x ok).2]) ∧ w' = w := by
  obtain ⟨c0, c1, c2, c3, c4, c5, c6, c7⟩ := h.cells
  have ha := away_at w h
  have hl := lookup_at h x
  unfold ofBlock at *
  unfold ofRes at *
  cases hdd : s.dead
  · rw [hdd] at ha hr
    cases hf : fileOf s x with
    | none =>
      rw [hf] at hl hr
      unfold ptrOf at *
      clear hr
      go_enter Tryz.func54, Tryz.ntmps54
      go_wp2_with (first | (go_at_call 39; refine ha.mono ?_; rintro e w' ⟨rfl, rfl⟩))
      go_returns
      exact ⟨rfl, rfl⟩
    | some i =>
      rw [hf] at hl hr
      cases ok
      · unfold ptrOf at *
        clear hr
        go_enter Tryz.func54, Tryz.ntmps54
        go_wp2_with (first | (go_at_call 39; refine ha.mono ?_; rintro e w' ⟨rfl, rfl⟩))
        go_returns
        exact ⟨rfl, rfl⟩
      · simp at hr
  · rw [hdd] at ha
    clear hr
    go_enter Tryz.func54, Tryz.ntmps54
    go_wp2_with (go_at_call 39; refine ha.mono ?_; rintro e w' ⟨rfl, rfl⟩)
    go_returns
    exact ⟨rfl, rfl⟩
theorem ofRes_some {x : ByteArray} {ok : Bool} {i : Nat} (h : (ofRes s x ok).1 = some i) : s.dead = false ∧ fileOf s x = some i ∧ ok = true := by
  unfold ofRes at h
  split at h
  · cases h
  · rename_i hd
    split at h
    · cases h
    · rename_i j hj
      split at h
      · rename_i hok; cases h; exact ⟨by simpa using hd, hj, hok⟩
      · cases h
set_option maxRecDepth 100000 in
set_option maxHeartbeats 2000000 in
theorem of_some (x : ByteArray) (ok : Bool) (i : Nat) (w : World) (h : Lies w p n₀ r s) (hwf : WF s) (hr : (ofRes s x ok).1 = some i) (hf0 : s.fails ≠ 0) :
    Calls Tryz.prog 54 #[ofBlock p, .string x, .bool ok] w fun e w' => e = .returned (.tuple #[.pointer (some ⟨r.ad i, 0, none⟩), .int .i64 0]) ∧ Lies w' p n₀ r s.tick ∧ Grown (fun k => k = p) w w' ∧ w'.heap.size = w.heap.size := by
  obtain ⟨c0, c1, c2, c3, c4, c5, c6, c7⟩ := h.cells
  obtain ⟨hdd, hf, rfl⟩ := ofRes_some hr
  have ha := away_at w h
  have hl := lookup_at h x
  have hd := dies_no w h hf0 hwf.fails
  rw [hdd] at ha
  rw [hf] at hl
  unfold ofBlock ptrOf at *
  clear hr hf hdd hf0
  go_enter Tryz.func54, Tryz.ntmps54
  go_wp2_with (first | (go_at_call 39; refine ha.mono ?_; rintro e w' ⟨rfl, rfl⟩) | (go_at_call 52; refine hd.mono ?_; rintro e w1 ⟨rfl, hL1, hG1, hz1⟩; replace hz1 : Hid _ := hz1))
  go_returns
  exact ⟨rfl, hL1, hG1, hz1.out⟩
set_option maxRecDepth 100000 in
set_option maxHeartbeats 2000000 in
theorem of_dies (x : ByteArray) (ok : Bool) (i : Nat) (w : World) (h : Lies w p n₀ r s) (hwf : WF s) (hk : s.kept.length ≤ 1073741824) (hn : n₀ ≤ w.heap.size) (hr : (ofRes s x ok).1 = some i) (hf0 : s.fails = 0) :
    Calls Tryz.prog 54 #[ofBlock p, .string x, .bool ok] w fun e w' => e = .returned (.tuple #[.pointer none, .int .i64 51]) ∧ Turns w w' p n₀ r s (s.crash s.keep) := by
  obtain ⟨c0, c1, c2, c3, c4, c5, c6, c7⟩ := h.cells
  obtain ⟨hdd, hf, rfl⟩ := ofRes_some hr
  have ha := away_at w h
  have hl := lookup_at h x
  have hd := dies_yes w h hwf hk hn hf0
  rw [hdd] at ha
  rw [hf] at hl
  unfold ofBlock ptrOf at *
  clear hr hf hdd hf0
  go_enter Tryz.func54, Tryz.ntmps54
  go_wp2_with (first | (go_at_call 39; refine ha.mono ?_; rintro e w' ⟨rfl, rfl⟩) | (go_at_call 52; refine hd.mono ?_; rintro e w1 ⟨rfl, ht⟩))
  go_returns
  exact ⟨rfl, ht⟩
theorem Grown.top {w w' : World} (h : Grown (fun k => k = p) w w') : Grown (foot p r s) w w' := h.mono (fun _ hk => .inl hk)
-- MORE
theorem fileOf_in (hwf : WF s) {x : ByteArray} {i : Nat} (h : fileOf s x = some i) : 1 ≤ i ∧ i ≤ s.births := hwf.names _ (look_mem h)
theorem ofRes_in (hwf : WF s) {x : ByteArray} {ok : Bool} {i : Nat} (h : (ofRes s x ok).1 = some i) : 1 ≤ i ∧ i ≤ s.births := by
  unfold ofRes at h
  split at h
  · cases h
  · split at h
    · cases h
    · rename_i j hj
      split at h
      · cases h; exact fileOf_in hwf hj
      · cases h
theorem ofRes_code (s : DS) (x : ByteArray) (ok : Bool) : ((ofRes s x ok).2 = 0 ↔ ∃ i, (ofRes s x ok).1 = some i) := by
  unfold ofRes
  split
  · simp
  · split
    · simp
    · split <;> simp
theorem ofRes_codes (s : DS) (x : ByteArray) (ok : Bool) : (ofRes s x ok).2 = 0 ∨ (ofRes s x ok).2 = 50 ∨ (ofRes s x ok).2 = 51 := by
  unfold ofRes
  split
  · simp
  · split
    · simp
    · split <;> simp

def DS.sync (s : DS) (x : ByteArray) : DS × Int := s.work (ofRes s x true) fun s i => { s with file := upd s.file i ⟨(s.file i).b, (s.file i).b.length⟩ }

theorem upd_self {β : Type} (f : Nat → β) (i : Nat) : upd f i (f i) = f := by
  funext k; unfold upd; split
  · rename_i h; rw [h]
  · rfl
theorem wf_tick (h : WF s) : WF s.tick := {
  room := h.room
  births := h.births
  names := h.names
  kept := h.kept
  works := h.works
  count := h.count
  bytes := h.bytes
  len := h.len
  mark := h.mark
  fails := by have := h.fails; unfold DS.tick; simp only; split <;> omega
  keepB := h.keepB
  keepL := h.keepL }
set_option maxRecDepth 100000 in
set_option maxHeartbeats 2000000 in
theorem sync_at (x : ByteArray) (w : World) (h : Lies w p n₀ r s) (hwf : WF s) (hk : s.kept.length ≤ 1073741824) (hn : n₀ ≤ w.heap.size) :
    Calls Tryz.prog 13 #[ofBlock p, .string x] w fun e w' => e = .returned (.int .i64 (s.sync x).2) ∧ Turns w w' p n₀ r s (s.sync x).1 := by
  unfold DS.sync DS.work
  cases hr : (ofRes s x true).1 with
  | none =>
    have ho := of_none x true w h hr
    have hcs := ofRes_codes s x true
    have hcode := ofRes_code s x true
    rw [hr] at hcode
    have hne : (ofRes s x true).2 ≠ 0 := fun e => by obtain ⟨i, hi⟩ := hcode.1 e; cases hi
    generalize (ofRes s x true).2 = c at ho hcs hne ⊢
    clear hcode hr
    unfold ofBlock at *
    rcases hcs with rfl | rfl | rfl
    · exact absurd rfl hne
    all_goals
      go_enter Tryz.func13, Tryz.ntmps13
      go_wp2_with (go_at_call 54; refine ho.mono ?_; rintro e w' ⟨rfl, rfl⟩)
      go_returns
      exact ⟨rfl, Turns.none h (Below.refl _ _)⟩
  | some i =>
    by_cases hf0 : s.fails = 0
    · have ho := of_dies x true i w h hwf hk hn hr hf0
      simp only [if_pos hf0]
      clear hr hf0
      unfold ofBlock at *
      go_enter Tryz.func13, Tryz.ntmps13
      go_wp2_with (go_at_call 54; refine ho.mono ?_; rintro e w' ⟨rfl, ht⟩)
      go_returns
      exact ⟨rfl, ht⟩
    · have ho := of_some x true i w h hwf hr hf0
      simp only [if_neg hf0]
      obtain ⟨h1, h2⟩ := ofRes_in hwf hr
      have h0 := h
      clear hr hf0
      unfold ofBlock at *
      go_enter Tryz.func13, Tryz.ntmps13
      go_wp2_with (go_at_call 54; refine ho.mono ?_; rintro e w1 ⟨rfl, hL1, hG1, hz1⟩; replace hz1 : Hid _ := hz1; have hf := hL1.file i h1 h2; have hd := hL1.data i h1 h2; obtain ⟨q, cap, hbv⟩ := own_shape hd; rw [hbv] at hf; obtain ⟨f0, f1, f2⟩ := cells3 hf; have z2 := free_of hf 2; replace hbv : Hid _ := hbv; have hlen : ((s.file i).b.length : Int) ≤ 16777216 := (by have := hwf.len i; omega))
      go_returns
      refine ⟨rfl, { r with bv := upd r.bv i (r.bv i) }, ?_, ((hG1.top).trans ((Grown.refl (foot p r s) _).setCell (p := ⟨r.ad i, 2, none⟩) (.inl (.inr (.inr (.inr (.inr ⟨i, h1, h2, .inl rfl⟩))))) _) (fun _ hx => .inl hx)), own_of rfl (foot_file h1 h2 (fun k hk => .inl hk))⟩
      refine hL1.setFile i h1 h2 (r.bv i) ⟨(s.file i).b, (s.file i).b.length⟩ ?_ ?_ (fun k hk => .inl hk) ?_
      · rw [setCell_heap hf, hbv.out]; rfl
      · refine row_same hd (fun g hg => Below.heap_setCell _ _ _ _ (fun e => ?_))
        have := hL1.sB h1 h2 hg
        rw [e, hL1.sF h1 h2] at this; cases this
      · intro k hk g1 g2
        exact Below.heap_setCell _ _ _ _ g1

/-- What Read answers. -/
def readRes (s : DS) (x : ByteArray) : List Nat × Int :=
  if s.dead then ([], 51) else match fileOf s x with
    | none => ([], 50)
    | some i => ((s.file i).b, 0)

set_option maxRecDepth 100000 in
set_option maxHeartbeats 2000000 in
theorem read_at (x : ByteArray) (w : World) (h : Lies w p n₀ r s) (hwf : WF s) :
    Calls Tryz.prog 7 #[ofBlock p, .string x] w fun e w' => ∃ v, e = .returned (.tuple #[v, .int .i64 (readRes s x).2]) ∧ w'.ownsRow w.heap.size 5 1 v (readRes s x).1.length (encB (readRes s x).1) ∧ Below w.heap.size w w' := by
  obtain ⟨c0, c1, c2, c3, c4, c5, c6, c7⟩ := h.cells
  have ha := away_at w h
  have hl := lookup_at h x
  unfold ofBlock at *
  unfold readRes
  cases hdd : s.dead
  · rw [hdd] at ha
    cases hf : fileOf s x with
    | none =>
      rw [hf] at hl
      unfold ptrOf at *
      go_enter Tryz.func7, Tryz.ntmps7
      go_wp2_with (go_at_call 39; refine ha.mono ?_; rintro e w' ⟨rfl, rfl⟩)
      go_returns
      exact ⟨_, rfl, World.ownsRow_nil _ _ _ _, Below.refl _ _⟩
    | some i =>
      rw [hf] at hl
      obtain ⟨h1, h2⟩ := fileOf_in hwf hf
      have hfl := h.file i h1 h2
      have hd := h.data i h1 h2
      have hlen := hwf.len i
      obtain ⟨q, cap, hbv⟩ := own_shape hd
      have hB := bytesIn_of_own hd (hwf.bytes i) (by omega)
      rw [hbv] at hfl hB
      obtain ⟨f0, f1, f2⟩ := cells3 hfl
      have hcl := fun W (hW : BytesIn W (.slice q (s.file i).b.length cap) (s.file i).b) => cloneB_any _ (s.file i).b W hW (by omega)
      replace hbv : Hid _ := hbv
      unfold ptrOf at *
      go_enter Tryz.func7, Tryz.ntmps7
      go_wp2_with (first | (go_at_call 39; refine ha.mono ?_; rintro e w' ⟨rfl, rfl⟩) | (go_at_call 40; refine (hcl _ hB).mono ?_; rintro e w' ⟨v, rfl, hv, hb⟩))
      go_returns
      exact ⟨_, rfl, hv, hb⟩
  · rw [hdd] at ha
    go_enter Tryz.func7, Tryz.ntmps7
    go_wp2_with (go_at_call 39; refine ha.mono ?_; rintro e w' ⟨rfl, rfl⟩)
    go_returns
    exact ⟨_, rfl, World.ownsRow_nil _ _ _ _, Below.refl _ _⟩

def DS.remove (s : DS) (x : ByteArray) : DS × Int := s.work (ofRes s x true) fun s _ => s.renamed x ⟨#[]⟩ none
def okName (y : ByteArray) : Bool := decide (1 ≤ y.size) && decide (y.size ≤ 40)
def DS.rename (s : DS) (x y : ByteArray) : DS × Int := s.work (ofRes s x (okName y)) fun s i => if x = y then s else s.renamed x y (some i)

theorem foot_wv {r : Rep} {s : DS} {wv : Value} {a b : ByteArray} {f : Option Nat} {w : World} (hnew : ∀ k, wv.ownBlock = some k → r.wv.ownBlock = some k ∨ w.heap.size ≤ k) :
    ∀ k, foot p { r with wv := wv } (s.renamed a b f) k → foot p r s k ∨ w.heap.size ≤ k := by
  rintro k (h | h | h | h | ⟨j, g1, g2, h⟩)
  · exact .inl (.inl h)
  · exact .inl (.inr (.inl h))
  · exact .inl (.inr (.inr (.inl h)))
  · rcases hnew k h with h | h
    · exact .inl (.inr (.inr (.inr (.inl h))))
    · exact .inr h
  · exact .inl (.inr (.inr (.inr (.inr ⟨j, g1, g2, h⟩))))

theorem Turns.of_top {w w1 : World} {s' : DS} (h : Lies w1 p n₀ r s') (hG : Grown (fun k => k = p) w w1) (hf : ∀ k, own p r s' k → own p r s k) : Turns w w1 p n₀ r s s' := ⟨r, h, hG.top, fun k hk => .inl (hf k hk)⟩
set_option maxRecDepth 100000 in
set_option maxHeartbeats 2000000 in
theorem remove_at (x : ByteArray) (w : World) (h : Lies w p n₀ r s) (hwf : WF s) (hk : s.kept.length ≤ 1073741824) (hc : s.works.length < 1073741824) (hn : n₀ ≤ w.heap.size) :
    Calls Tryz.prog 15 #[ofBlock p, .string x] w fun e w' => e = .returned (.int .i64 (s.remove x).2) ∧ Turns w w' p n₀ r s (s.remove x).1 := by
  unfold DS.remove DS.work
  cases hr : (ofRes s x true).1 with
  | none =>
    have ho := of_none x true w h hr
    have hcs := ofRes_codes s x true
    have hcode := ofRes_code s x true
    rw [hr] at hcode
    have hne : (ofRes s x true).2 ≠ 0 := fun e => by obtain ⟨i, hi⟩ := hcode.1 e; cases hi
    generalize (ofRes s x true).2 = c at ho hcs hne ⊢
    clear hcode hr
    unfold ofBlock at *
    rcases hcs with rfl | rfl | rfl
    · exact absurd rfl hne
    all_goals
      go_enter Tryz.func15, Tryz.ntmps15
      go_wp2_with (go_at_call 54; refine ho.mono ?_; rintro e w' ⟨rfl, rfl⟩)
      go_returns
      exact ⟨rfl, Turns.none h (Below.refl _ _)⟩
  | some i =>
    by_cases hf0 : s.fails = 0
    · have ho := of_dies x true i w h hwf hk hn hr hf0
      simp only [if_pos hf0]
      clear hr hf0
      unfold ofBlock at *
      go_enter Tryz.func15, Tryz.ntmps15
      go_wp2_with (go_at_call 54; refine ho.mono ?_; rintro e w' ⟨rfl, ht⟩)
      go_returns
      exact ⟨rfl, ht⟩
    · have ho := of_some x true i w h hwf hr hf0
      have hre := fun W hL hnW => renamed_any x ⟨#[]⟩ none W p n₀ r s.tick hL hc hnW
      simp only [if_neg hf0]
      clear hr hf0
      unfold ofBlock ptrOf at *
      go_enter Tryz.func15, Tryz.ntmps15
      go_wp2_with (first | (go_at_call 54; refine ho.mono ?_; rintro e w1 ⟨rfl, hL1, hG1, hz1⟩; replace hz1 : Hid _ := hz1; have hn1 : n₀ ≤ w1.heap.size := (by have := hz1.out; omega)) | (go_at_call 53; refine (hre _ hL1 hn1).mono ?_; rintro e w2 ⟨rfl, wv', hL, hG, hw⟩))
      go_returns
      exact ⟨rfl, _, hL, hG1.top.trans hG (fun _ hx => .inl hx), own_of rfl (foot_wv (s := s) (a := x) (b := ⟨#[]⟩) (f := none) (fun k hk => (hw k hk).imp id (fun e => by have := hz1.out; omega)))⟩

set_option maxRecDepth 100000 in
set_option maxHeartbeats 2000000 in
theorem rename_at (x y : ByteArray) (w : World) (h : Lies w p n₀ r s) (hwf : WF s) (hk : s.kept.length ≤ 1073741824) (hc : s.works.length < 1073741824) (hn : n₀ ≤ w.heap.size) :
    Calls Tryz.prog 14 #[ofBlock p, .string x, .string y] w fun e w' => e = .returned (.int .i64 (s.rename x y).2) ∧ Turns w w' p n₀ r s (s.rename x y).1 := by
  have hi := isName_any y w
  unfold DS.rename DS.work
  change Calls Tryz.prog 50 #[.string y] w fun e w' => e = .returned (.bool (okName y)) ∧ w' = w at hi
  generalize okName y = ok at hi ⊢
  cases hr : (ofRes s x ok).1 with
  | none =>
    have ho := of_none x ok w h hr
    have hcs := ofRes_codes s x ok
    have hcode := ofRes_code s x ok
    rw [hr] at hcode
    have hne : (ofRes s x ok).2 ≠ 0 := fun e => by obtain ⟨i, hi⟩ := hcode.1 e; cases hi
    generalize (ofRes s x ok).2 = c at ho hcs hne ⊢
    clear hcode hr
    unfold ofBlock at *
    rcases hcs with rfl | rfl | rfl
    · exact absurd rfl hne
    all_goals
      go_enter Tryz.func14, Tryz.ntmps14
      go_wp2_with (first | (go_at_call 50; refine hi.mono ?_; rintro e w' ⟨rfl, rfl⟩) | (go_at_call 54; refine ho.mono ?_; rintro e w' ⟨rfl, rfl⟩))
      go_returns
      exact ⟨rfl, Turns.none h (Below.refl _ _)⟩
  | some i =>
    by_cases hf0 : s.fails = 0
    · have ho := of_dies x ok i w h hwf hk hn hr hf0
      simp only [if_pos hf0]
      clear hr hf0
      unfold ofBlock at *
      go_enter Tryz.func14, Tryz.ntmps14
      go_wp2_with (first | (go_at_call 50; refine hi.mono ?_; rintro e w' ⟨rfl, rfl⟩) | (go_at_call 54; refine ho.mono ?_; rintro e w' ⟨rfl, ht⟩))
      go_returns
      exact ⟨rfl, ht⟩
    · have ho := of_some x ok i w h hwf hr hf0
      have hre := fun W hL hnW => renamed_any x y (some i) W p n₀ r s.tick hL hc hnW
      simp only [if_neg hf0]
      clear hr hf0
      unfold ofBlock ptrOf at *
      by_cases hxy : x = y
      · subst hxy
        clear hre
        go_enter Tryz.func14, Tryz.ntmps14
        go_wp2_with (first | (go_at_call 50; refine hi.mono ?_; rintro e w' ⟨rfl, rfl⟩) | (go_at_call 54; refine ho.mono ?_; rintro e w1 ⟨rfl, hL1, hG1, hz1⟩; replace hz1 : Hid _ := hz1))
        go_returns
        exact ⟨rfl, by first | exact Turns.of_top hL1 hG1 (fun _ hk => hk) | (rw [if_pos rfl]; exact Turns.of_top hL1 hG1 (fun _ hk => hk))⟩
      · have e2 : (x.toList == y.toList) = false := by
          rw [← beq_toListBytes]
          cases hb : (x == y)
          · rfl
          · exact absurd ((MapKept.bytes_beq _ _).1 hb) hxy
        go_enter Tryz.func14, Tryz.ntmps14
        go_wp2_with (first | (go_at_call 50; refine hi.mono ?_; rintro e w' ⟨rfl, rfl⟩) | (go_at_call 54; refine ho.mono ?_; rintro e w1 ⟨rfl, hL1, hG1, hz1⟩; replace hz1 : Hid _ := hz1; have hn1 : n₀ ≤ w1.heap.size := (by have := hz1.out; omega)) | (go_at_call 53; refine (hre _ hL1 hn1).mono ?_; rintro e w2 ⟨rfl, wv', hL, hG, hw⟩))
        go_returns
        refine ⟨rfl, ?_⟩
        try rw [if_neg hxy]
        exact ⟨_, hL, hG1.top.trans hG (fun _ hx => .inl hx), own_of rfl (foot_wv (s := s) (a := x) (b := y) (f := some i) (fun k hk => (hw k hk).imp id (fun e => by have := hz1.out; omega)))⟩
end Go.Proofs.YtmcmagplaflegaaGreat

namespace Go.Proofs.YtmcmagplaflegaaGreat
open Go Go.RowKit Go.MapL Go.Poised

variable {p n₀ : Nat} {r : Rep} {s : DS}
theorem usedOf_le (hwf : WF s) : usedOf s ≤ s.births * 16777216 := by
  unfold usedOf
  have := sum_le (fun j => if held s (j + 1) then (s.file (j + 1)).b.length else 0) 16777216 (fun j => by split; exact hwf.len _; omega) (List.range s.births)
  simpa using this

set_option maxRecDepth 100000 in
set_option maxHeartbeats 2000000 in
theorem left_at (w : World) (h : Lies w p n₀ r s) (hwf : WF s) :
    Calls Tryz.prog 20 #[ofBlock p] w fun e w' => e = .returned (.int .i64 (if s.dead then 0 else (s.room : Int) - usedOf s)) ∧ Below w.heap.size w w' := by
  have ha := away_at w h
  have hu := usedOf_le hwf
  have hroom := hwf.room
  have hbirths := hwf.births
  obtain ⟨u, hue⟩ : ∃ u, usedOf s = u := ⟨_, rfl⟩
  have hused := fun W (hL : Lies W p n₀ r s) => used_any W p n₀ r s hL hwf
  rw [hue] at hu ⊢
  simp only [hue] at hused
  have g1 : IntKind.i64.wrap ((s.room : Int) - u) = (s.room : Int) - u := IntWalk.i64_in _ (by omega)
  unfold ofBlock at *
  cases hdd : s.dead
  · rw [hdd] at ha
    go_enter Tryz.func20, Tryz.ntmps20
    go_wp2_with (go_at_call 39; refine ha.mono ?_; rintro e w' ⟨rfl, rfl⟩)
    refine poised_whole (fun w2 => Below w'.heap.size w' w2) (fun w1 w2 => Below w'.heap.size w1 w2) (by kernel_rfl) (by kernel_rfl) (by kernel_rfl) (fun _ _ h k => h.trans k) ((Below.refl _ _).drew) ?_
    apply Exists.intro
    apply walk_det
    · rfl
    · intro w2 hC hF
      simp only [upon]
      go_simp
      exact ⟨Below.refl _ _, rfl⟩
    simp only [put_lit, List.set_cons_succ, List.set_cons_zero]
    apply walk_det
    · rfl
    · intro w2 hC hF
      simp only [upon]
      go_simp
      exact ⟨Below.refl _ _, rfl⟩
    simp only [put_lit, List.set_cons_succ, List.set_cons_zero]
    apply walk_det
    · rfl
    · intro w2 hC hF
      simp only [upon]
      go_simp
      exact ⟨Below.refl _ _, rfl⟩
    simp only [put_lit, List.set_cons_succ, List.set_cons_zero]
    apply walk_det
    · rfl
    · intro w2 hC hF
      obtain ⟨c0, c1, c2, c3, c4, c5, c6, c7⟩ := (h.below hC).cells
      simp only [upon]
      go_simp
      exact ⟨Below.refl _ _, rfl⟩
    simp only [put_lit, List.set_cons_succ, List.set_cons_zero]
    apply walk_det
    · rfl
    · intro w2 hC hF
      simp only [upon]
      go_simp
      exact ⟨Below.refl _ _, rfl⟩
    simp only [put_lit, List.set_cons_succ, List.set_cons_zero]
    apply walk_det
    · rfl
    · intro w2 hC hF
      obtain ⟨c0, c1, c2, c3, c4, c5, c6, c7⟩ := (h.below hC).cells
      simp only [upon]
      go_simp
      exact up_call (hused _ (h.below hC)) hC.size
    simp only [put_lit, List.set_cons_succ, List.set_cons_zero]
    apply walk_det
    · rfl
    · intro w2 hC hF
      simp only [upon]
      go_simp
      exact ⟨Below.refl _ _, rfl⟩
    simp only [put_lit, List.set_cons_succ, List.set_cons_zero]
    apply walk_det
    · rfl
    · intro w2 hC hF
      simp only [upon]
      go_simp
      exact ⟨Below.refl _ _, rfl⟩
    simp only [put_lit, List.set_cons_succ, List.set_cons_zero]
    apply walk_nil
    intro w2 hC _
    go_wp2
    go_returns
    exact ⟨rfl, hC⟩
  · rw [hdd] at ha
    go_enter Tryz.func20, Tryz.ntmps20
    go_wp2_with (go_at_call 39; refine ha.mono ?_; rintro e w' ⟨rfl, rfl⟩)
    go_returns
    exact ⟨rfl, Below.refl _ _⟩

def DS.syncNames (s : DS) : DS × Int := if s.dead then (s, 51) else if s.fails = 0 then (s.crash s.keep, 51) else ({ s.tick with kept := s.names, works := [] }, 0)

set_option maxRecDepth 100000 in
set_option maxHeartbeats 2000000 in
theorem syncNames_at (w : World) (h : Lies w p n₀ r s) (hwf : WF s) (hk : s.kept.length ≤ 1073741824) (hn : n₀ ≤ w.heap.size) :
    Calls Tryz.prog 16 #[ofBlock p] w fun e w' => e = .returned (.int .i64 s.syncNames.2) ∧ Turns w w' p n₀ r s s.syncNames.1 := by
  have hL := h
  obtain ⟨c0, c1, c2, c3, c4, c5, c6, c7⟩ := h.cells
  have ha := away_at w h
  unfold DS.syncNames
  cases hdd : s.dead
  · rw [hdd] at ha c5
    simp only [Bool.false_eq_true, if_false] at ha ⊢
    by_cases hf0 : s.fails = 0
    · have hd := dies_yes w h hwf hk hn hf0
      simp only [if_pos hf0]
      clear hf0 hdd
      unfold ofBlock at *
      go_enter Tryz.func16, Tryz.ntmps16
      go_wp2_with (first | (go_at_call 39; refine ha.mono ?_; rintro e w' ⟨rfl, rfl⟩) | (go_at_call 52; refine hd.mono ?_; rintro e w' ⟨rfl, ht⟩))
      go_returns
      exact ⟨rfl, ht⟩
    · have hd := dies_no w h hf0 hwf.fails
      simp only [if_neg hf0]
      have hcl := fun W hW => clone_any r.bn (at_ r.ad s.names) W hW
      clear hf0
      unfold ofBlock at *
      go_enter Tryz.func16, Tryz.ntmps16
      go_wp2_with (first | (go_at_call 39; refine ha.mono ?_; rintro e w' ⟨rfl, rfl⟩) | (go_at_call 52; refine hd.mono ?_; rintro e wd ⟨rfl, hLd, hGd, hzd⟩; replace hzd : Hid _ := hzd; obtain ⟨x0, x1, x2, x3, x4, x5, x6, x7⟩ := hLd.cells) | (go_at_call 41; refine (hcl _ hLd.names).mono ?_; rintro e w1 ⟨rfl, hm1, hs1, hb1⟩; have h1 := hLd.below hb1; obtain ⟨d0, d1, d2, d3, d4, d5, d6, d7⟩ := h1.cells; have z3 := h1.free 3; have z4 := h1.free 4))
      go_returns
      have hzd' := hzd.out
      have hpl := (hLd.foot_lt p (.inl rfl)).1
      refine ⟨rfl, { r with bk := wd.heap.size, wv := .slice none 0 0 }, ?_, (((hGd.top.step hb1)).setCell (p := ⟨p, 3, none⟩) (.inl (.inl rfl)) _).setCell (p := ⟨p, 4, none⟩) (.inl (.inl rfl)) _, ?_⟩
      · have hp1 : wd.heap.size ≠ p := by omega
        have hp2 : r.bn ≠ p := fun e => by have := hLd.sN; rw [e, hLd.sP] at this; cases this
        have hbl := hLd.names.lt
        have key := h1.setAll (w' := (w1.setCell ⟨p, 3, none⟩ (.map (some wd.heap.size))).setCell ⟨p, 4, none⟩ (.slice none 0 0)) r.bn wd.heap.size s.names s.names s.dead s.tick.fails ?_ ?_ (by omega) hLd.baseN ?_ ?_ ?_
        · exact key
        · exact h1.names.same (by rw [Below.heap_setCell _ _ _ _ hp2, Below.heap_setCell _ _ _ _ hp2])
        · exact hm1.same (by rw [Below.heap_setCell _ _ _ _ hp1, Below.heap_setCell _ _ _ _ hp1])
        · omega
        · rw [setCell_heap (setCell_heap h1.top)]; rfl
        · intro k _ hk
          rw [Below.heap_setCell _ _ _ _ hk, Below.heap_setCell _ _ _ _ hk]
      · refine own_of rfl ?_
        rintro k (h | h | h | h | ⟨j, g1, g2, h⟩)
        · exact .inl (.inl h)
        · exact .inl (.inr (.inl h))
        · exact .inr (by rw [h]; exact Nat.le_of_eq hzd'.symm)
        · cases h
        · exact .inl (.inr (.inr (.inr (.inr ⟨j, g1, g2, h⟩))))
  · rw [hdd] at ha
    go_enter Tryz.func16, Tryz.ntmps16
    unfold ofBlock at *
    go_wp2_with (go_at_call 39; refine ha.mono ?_; rintro e w' ⟨rfl, rfl⟩)
    go_returns
    exact ⟨rfl, Turns.none hL (Below.refl _ _)⟩

def DS.new (room : Nat) : DS := { room := room, births := 0, file := fun _ => ⟨[], 0⟩, names := [], kept := [], works := [], dead := false, fails := -1, keep := [] }
theorem wf_new (room : Nat) (h : room ≤ 16777216) : WF (DS.new room) := {
  room := h
  births := by simp [DS.new]
  names := by simp [DS.new]
  kept := by simp [DS.new]
  works := by simp [DS.new]
  count := by simp [DS.new]
  bytes := by simp [DS.new]
  len := by simp [DS.new]
  mark := by simp [DS.new]
  fails := by simp [DS.new]
  keepB := by simp [DS.new]
  keepL := by simp [DS.new] }

set_option maxRecDepth 100000 in
set_option maxHeartbeats 2000000 in
theorem new_at (room : Nat) (hroom : room ≤ 16777216) (w : World) :
    Calls Tryz.prog 35 #[.int .i64 room] w fun e w' => e = .returned (.tuple #[ofBlock (w.heap.size + 2), .int .i64 0]) ∧ Below w.heap.size w w' ∧ w'.heap.size = w.heap.size + 3 ∧ ∃ r, Lies w' (w.heap.size + 2) w.heap.size r (DS.new room) := by
  have e1 : decide ((16777216 : Int) < room) = false := by simp; omega
  have e2 : (0 : Int) ≤ room := by omega
  have e3 : (room : Int) ≤ 16777216 := by omega
  have hmk := @run_makeMap Tryz.prog
  go_enter Tryz.func35, Tryz.ntmps35
  go_wp2
  go_returns
  refine ⟨rfl, ?_, by simp, ⟨w.heap.size, w.heap.size + 1, fun _ => 0, .slice none 0 0, fun _ => .slice none 0 0, .slice none 0 0⟩, ?_⟩
  · exact (((Below.refl _ w).alloc (Nat.le_refl _) _).alloc (by simp) _).alloc (by simp; omega) _
  · have hm1 : MapAt ofText ofBlock (w.alloc (.map #[] 0)) w.heap.size (at_ (fun _ => 0) []) := MapAt.new w
    have hm2 : MapAt ofText ofBlock ((w.alloc (.map #[] 0)).alloc (.map #[] 0)) (w.alloc (.map #[] 0)).heap.size (at_ (fun _ => 0) []) := MapAt.new _
    rw [World.size_alloc] at hm2
    exact {
      top := by
        have := heap_new ((w.alloc (.map #[] 0)).alloc (.map #[] 0)) (top (DS.new room) ⟨w.heap.size, w.heap.size + 1, fun _ => 0, .slice none 0 0, fun _ => .slice none 0 0, .slice none 0 0⟩)
        simp only [World.size_alloc] at this
        exact this
      names := (hm1.alloc _).alloc _
      kept := hm2.alloc _
      works := World.ownsRow_nil _ _ _ _
      file := fun i h1 h2 => by simp [DS.new] at h2; omega
      data := fun i h1 h2 => by simp [DS.new] at h2; omega
      keep := World.ownsRow_nil _ _ _ _
      apart := by show w.heap.size ≠ w.heap.size + 1; omega
      adInj := fun i j h1 h2 => by simp [DS.new] at h2; omega
      rowInj := fun i j h1 h2 => by simp [DS.new] at h2; omega
      baseP := by omega
      baseN := Nat.le_refl _
      baseK := by show w.heap.size ≤ w.heap.size + 1; omega
      baseF := fun i h1 h2 => by simp [DS.new] at h2; omega }
end Go.Proofs.YtmcmagplaflegaaGreat

namespace Go.Proofs.YtmcmagplaflegaaGreat
open Go Go.RowKit Go.MapL Go.Poised

variable {p n₀ : Nat} {r : Rep} {s : DS}

def DS.born (s : DS) : DS := { s with births := s.births + 1, file := upd s.file (s.births + 1) ⟨[], 0⟩ }
def DS.grow (s : DS) (i : Nat) (l : List Nat) : DS := { s with file := upd s.file i ⟨(s.file i).b ++ l, (s.file i).mark⟩ }
/-- A file of that name, a new one if there is none. -/
def DS.find (s : DS) (x : ByteArray) : DS × Nat :=
  match fileOf s x with
  | some i => (s, i)
  | none => (s.born.renamed ⟨#[]⟩ x (some (s.births + 1)), s.births + 1)
/-- Append, plainly. -/
def DS.append (s : DS) (x : ByteArray) (l : List Nat) : DS × Int :=
  if s.dead then (s, 51) else if (decide (1 ≤ x.size) && decide (x.size ≤ 40)) = false then (s, 50) else if s.room < usedOf s + l.length then (s, 52) else if s.fails = 0 then (s.crash s.keep, 51) else ((s.tick.find x).1.grow (s.tick.find x).2 l, 0)

theorem foot_born {B : Nat} :
    ∀ k, foot p { r with ad := upd r.ad (s.births + 1) B, bv := upd r.bv (s.births + 1) (.slice none 0 0) } s.born k → foot p r s k ∨ k = B := by
  rintro k (h | h | h | h | ⟨j, g1, g2, h⟩)
  · exact .inl (.inl h)
  · exact .inl (.inr (.inl h))
  · exact .inl (.inr (.inr (.inl h)))
  · exact .inl (.inr (.inr (.inr (.inl h))))
  · have g2 : j ≤ s.births + 1 := g2
    by_cases hj : j = s.births + 1
    · subst hj
      simp only [upd_same] at h
      rcases h with h | h
      · exact .inr h
      · cases h
    · simp only [upd_other _ _ hj] at h
      exact .inl (.inr (.inr (.inr (.inr ⟨j, g1, by omega, h⟩))))
theorem wf_born (hwf : WF s) (hb : s.births < 1073741824) : WF s.born := {
  room := hwf.room
  births := by show s.births + 1 ≤ _; omega
  names := fun q hq => ⟨(hwf.names q hq).1, Nat.le_succ_of_le (hwf.names q hq).2⟩
  kept := fun q hq => ⟨(hwf.kept q hq).1, Nat.le_succ_of_le (hwf.kept q hq).2⟩
  works := fun q hq i hi => ⟨(hwf.works q hq i hi).1, Nat.le_succ_of_le (hwf.works q hq i hi).2⟩
  count := hwf.count
  bytes := fun i x hx => by
    by_cases hi : i = s.births + 1
    · subst hi; simp [DS.born] at hx
    · simp only [DS.born, upd_other _ _ hi] at hx; exact hwf.bytes i x hx
  len := fun i => by
    by_cases hi : i = s.births + 1
    · subst hi; simp [DS.born]
    · simp only [DS.born, upd_other _ _ hi]; exact hwf.len i
  mark := fun i => by
    by_cases hi : i = s.births + 1
    · subst hi; simp [DS.born]
    · simp only [DS.born, upd_other _ _ hi]; exact hwf.mark i
  fails := hwf.fails
  keepB := hwf.keepB
  keepL := hwf.keepL }

set_option maxRecDepth 100000 in
set_option maxHeartbeats 8000000 in
theorem append_at (x : ByteArray) (v : Value) (l : List Nat) (w : World) (h : Lies w p n₀ r s) (hwf : WF s) (hbirths : s.births < 1073741824) (hworks : s.works.length < 1073741824) (hk : s.kept.length ≤ 1073741824) (hlen : l.length ≤ 4611686018427387904) (hn : n₀ ≤ w.heap.size)
    (hsep : ∀ w', Grown (foot p r s) w w' → BytesIn w' v l) :
    Calls Tryz.prog 12 #[ofBlock p, .string x, v] w fun e w' => e = .returned (.int .i64 (s.append x l).2) ∧ Turns w w' p n₀ r s (s.append x l).1 := by
  have hL := h
  have hv := hsep w (Grown.refl _ _)
  obtain ⟨vp, vcap, hvs⟩ : ∃ vp vcap, v = .slice vp l.length vcap := by
    rcases hv.2.2 with ⟨rfl, h0⟩ | ⟨a, cap, rfl, h0⟩ | ⟨b, off, cap, rfl, _⟩
    · exact ⟨_, _, by rw [h0]; rfl⟩
    · exact ⟨_, _, by rw [h0]; rfl⟩
    · exact ⟨_, _, rfl⟩
  subst hvs
  clear hv
  have ha := away_at w h
  have hi := isName_any x w
  have hule := usedOf_le hwf
  have hroom := hwf.room
  obtain ⟨u, hue⟩ : ∃ u, usedOf s = u := ⟨_, rfl⟩
  have hused := fun W (hLW : Lies W p n₀ r s) => used_any W p n₀ r s hLW hwf
  unfold DS.append
  rw [hue] at hule ⊢
  simp only [hue] at hused
  generalize hok : (decide (1 ≤ x.size) && decide (x.size ≤ 40)) = ok at hi ⊢
  clear hok hue
  unfold ofBlock at *
  cases hdd : s.dead
  · rw [hdd] at ha
    cases ok
    · go_enter Tryz.func12, Tryz.ntmps12
      go_wp2_with (first | (go_at_call 39; refine ha.mono ?_; rintro e w' ⟨rfl, rfl⟩) | (go_at_call 50; refine hi.mono ?_; rintro e w' ⟨rfl, rfl⟩))
      go_returns
      exact ⟨rfl, Turns.none hL (Below.refl _ _)⟩
    · have g1 : IntKind.i64.wrap ((u : Int) + l.length) = (u : Int) + l.length := IntWalk.i64_in _ (by omega)
      by_cases hfit : s.room < u + l.length
      · have g2 : decide ((s.room : Int) < (u : Int) + l.length) = true := by simp; omega
        go_enter Tryz.func12, Tryz.ntmps12
        go_wp2_with (first | (go_at_call 39; refine ha.mono ?_; rintro e w' ⟨rfl, rfl⟩) | (go_at_call 50; refine hi.mono ?_; rintro e w' ⟨rfl, rfl⟩))
        have hL := hL
        refine poised_whole (fun w2 => Below w'.heap.size w' w2) (fun w1 w2 => Below w'.heap.size w1 w2) (by kernel_rfl) (by kernel_rfl) (by kernel_rfl) (fun _ _ h k => h.trans k) ((Below.refl _ _).drew) ?_
        apply Exists.intro
        apply walk_det
        · rfl
        · intro w2 hC hF
          simp only [upon]
          go_simp
          exact ⟨Below.refl _ _, rfl⟩
        simp only [put_lit, List.set_cons_succ, List.set_cons_zero]
        apply walk_det
        · rfl
        · intro w2 hC hF
          obtain ⟨c0, c1, c2, c3, c4, c5, c6, c7⟩ := (hL.below hC).cells
          simp only [upon]
          go_simp
          exact up_call (hused _ (hL.below hC)) hC.size
        simp only [put_lit, List.set_cons_succ, List.set_cons_zero]
        apply walk_det
        · rfl
        · intro w2 hC hF
          simp only [upon]
          go_simp
          exact ⟨Below.refl _ _, rfl⟩
        simp only [put_lit, List.set_cons_succ, List.set_cons_zero]
        apply walk_det
        · rfl
        · intro w2 hC hF
          simp only [upon]
          go_simp
          exact ⟨Below.refl _ _, rfl⟩
        simp only [put_lit, List.set_cons_succ, List.set_cons_zero]
        apply walk_det
        · rfl
        · intro w2 hC hF
          simp only [upon]
          go_simp
          exact ⟨Below.refl _ _, rfl⟩
        simp only [put_lit, List.set_cons_succ, List.set_cons_zero]
        apply walk_det
        · rfl
        · intro w2 hC hF
          simp only [upon]
          go_simp
          exact ⟨Below.refl _ _, rfl⟩
        simp only [put_lit, List.set_cons_succ, List.set_cons_zero]
        apply walk_det
        · rfl
        · intro w2 hC hF
          simp only [upon]
          go_simp
          exact ⟨Below.refl _ _, rfl⟩
        simp only [put_lit, List.set_cons_succ, List.set_cons_zero]
        apply walk_det
        · rfl
        · intro w2 hC hF
          simp only [upon]
          go_simp
          exact ⟨Below.refl _ _, rfl⟩
        simp only [put_lit, List.set_cons_succ, List.set_cons_zero]
        apply walk_det
        · rfl
        · intro w2 hC hF
          obtain ⟨c0, c1, c2, c3, c4, c5, c6, c7⟩ := (hL.below hC).cells
          simp only [upon]
          go_simp
          exact ⟨Below.refl _ _, rfl⟩
        simp only [put_lit, List.set_cons_succ, List.set_cons_zero]
        apply walk_det
        · rfl
        · intro w2 hC hF
          simp only [upon]
          go_simp
          exact ⟨Below.refl _ _, rfl⟩
        simp only [put_lit, List.set_cons_succ, List.set_cons_zero]
        apply walk_det
        · rfl
        · intro w2 hC hF
          simp only [upon]
          go_simp
          exact ⟨Below.refl _ _, rfl⟩
        simp only [put_lit, List.set_cons_succ, List.set_cons_zero]
        apply walk_nil
        intro w2 hC _
        go_wp2
        go_returns
        simp only
        exact ⟨rfl, Turns.none hL hC⟩
      · have g2 : decide ((s.room : Int) < (u : Int) + l.length) = false := by simp; omega
        go_enter Tryz.func12, Tryz.ntmps12
        go_wp2_with (first | (go_at_call 39; refine ha.mono ?_; rintro e w' ⟨rfl, rfl⟩) | (go_at_call 50; refine hi.mono ?_; rintro e w' ⟨rfl, rfl⟩))
        refine poised_whole (fun w2 => Below w'.heap.size w' w2) (fun w1 w2 => Below w'.heap.size w1 w2) (by kernel_rfl) (by kernel_rfl) (by kernel_rfl) (fun _ _ h k => h.trans k) ((Below.refl _ _).drew) ?_
        apply Exists.intro
        apply walk_det
        · rfl
        · intro w2 hC hF
          simp only [upon]
          go_simp
          exact ⟨Below.refl _ _, rfl⟩
        simp only [put_lit, List.set_cons_succ, List.set_cons_zero]
        apply walk_det
        · rfl
        · intro w2 hC hF
          obtain ⟨c0, c1, c2, c3, c4, c5, c6, c7⟩ := (hL.below hC).cells
          simp only [upon]
          go_simp
          exact up_call (hused _ (hL.below hC)) hC.size
        simp only [put_lit, List.set_cons_succ, List.set_cons_zero]
        apply walk_det
        · rfl
        · intro w2 hC hF
          simp only [upon]
          go_simp
          exact ⟨Below.refl _ _, rfl⟩
        simp only [put_lit, List.set_cons_succ, List.set_cons_zero]
        apply walk_det
        · rfl
        · intro w2 hC hF
          simp only [upon]
          go_simp
          exact ⟨Below.refl _ _, rfl⟩
        simp only [put_lit, List.set_cons_succ, List.set_cons_zero]
        apply walk_det
        · rfl
        · intro w2 hC hF
          simp only [upon]
          go_simp
          exact ⟨Below.refl _ _, rfl⟩
        simp only [put_lit, List.set_cons_succ, List.set_cons_zero]
        apply walk_det
        · rfl
        · intro w2 hC hF
          simp only [upon]
          go_simp
          exact ⟨Below.refl _ _, rfl⟩
        simp only [put_lit, List.set_cons_succ, List.set_cons_zero]
        apply walk_det
        · rfl
        · intro w2 hC hF
          simp only [upon]
          go_simp
          exact ⟨Below.refl _ _, rfl⟩
        simp only [put_lit, List.set_cons_succ, List.set_cons_zero]
        apply walk_det
        · rfl
        · intro w2 hC hF
          simp only [upon]
          go_simp
          exact ⟨Below.refl _ _, rfl⟩
        simp only [put_lit, List.set_cons_succ, List.set_cons_zero]
        apply walk_det
        · rfl
        · intro w2 hC hF
          obtain ⟨c0, c1, c2, c3, c4, c5, c6, c7⟩ := (hL.below hC).cells
          simp only [upon]
          go_simp
          exact ⟨Below.refl _ _, rfl⟩
        simp only [put_lit, List.set_cons_succ, List.set_cons_zero]
        apply walk_det
        · rfl
        · intro w2 hC hF
          simp only [upon]
          go_simp
          exact ⟨Below.refl _ _, rfl⟩
        simp only [put_lit, List.set_cons_succ, List.set_cons_zero]
        apply walk_det
        · rfl
        · intro w2 hC hF
          simp only [upon]
          go_simp
          exact ⟨Below.refl _ _, rfl⟩
        simp only [put_lit, List.set_cons_succ, List.set_cons_zero]
        apply walk_nil
        intro w1 hC1 _
        have h2a := hL.below hC1
        have hn1 := Nat.le_trans hn hC1.size
        clear ha hi hused
        by_cases hf0 : s.fails = 0
        · have hd2 := dies_yes w1 h2a hwf hk hn1 hf0
          unfold ofBlock at hd2
          have hf0' : Hid _ := hf0
          clear hf0
          go_wp2_with (first | (go_at_call 52; refine hd2.mono ?_; rintro e w3 ⟨rfl, ht⟩))
          go_returns
          simp only
          exact ⟨rfl, Turns.step (Grown.of_below hC1) (fun _ hx => .inl hx) (fun _ hx => .inl hx) ht⟩
        have hd2 := dies_no w1 h2a hf0 hwf.fails
        unfold ofBlock at hd2
        have hf0' : Hid _ := hf0
        clear hf0
        go_wp2_with fail
        refine hd2.mono ?_
        rintro e w2 ⟨rfl, h2, hG2, hz2'⟩
        have hC : Grown (foot p r s) w' w2 := (Grown.of_below hC1).trans (T := foot p r s) hG2.top (fun _ hx => .inl hx)
        have hz2 := hC.size
        clear hd2 hz2'
        have hwf0 := hwf
        replace hwf := wf_tick hwf
        have hl2 := lookup_at h2 x
        obtain ⟨c0, c1, c2, c3, c4, c5, c6, c7⟩ := h2.cells
        have hu15 : s.tick.births + 1 ≤ 1073741824 := by show s.births + 1 ≤ _; omega
        cases hfo : fileOf s.tick x with
        | some i =>
          obtain ⟨hi1, hi2⟩ := fileOf_in hwf hfo
          rw [hfo] at hl2
          simp only [ptrOf] at hl2
          have hf := h2.file i hi1 hi2
          have hd := h2.data i hi1 hi2
          obtain ⟨q, cap, hbv⟩ := own_shape hd
          rw [hbv] at hf hd
          have hrow : ∀ k, (Value.slice q (s.tick.file i).b.length cap).ownBlock = some k → k ≠ r.ad i ∧ (r.bv i).ownBlock = some k := fun k hk => by
            rw [← hbv] at hk
            exact ⟨(fun e => by have := h2.sB hi1 hi2 hk; rw [e, h2.sF hi1 hi2] at this; cases this), hk⟩
          obtain ⟨f0, f1, f2⟩ := cells3 hf
          have z1 := free_of hf 1
          replace hbv : Hid _ := hbv
          have hBy := hsep w2 hC
          have hli := hwf.len i
          have hfind : Hid (s.tick.find x = (s.tick, i)) := by unfold DS.find; rw [hfo]; rfl
          clear hfo
          go_wp2_with (first | (at_builtin; refine wpList_append_bytes _ rfl _ _ rfl n₀ (.slice q (s.tick.file i).b.length cap) _ (s.tick.file i).b l rfl rfl hd hBy (by omega) (by omega) ?_; intro v' w4 hown hgrow hwhere; obtain ⟨q', cap', rfl⟩ := own_shape hown; have k0 := (hgrow.block (r.ad i) ((Array.getElem?_eq_some_iff.1 hf).1) (fun e => (hrow _ e.symm).1 rfl)).trans hf; obtain ⟨k1, k2, k3⟩ := cells3 k0; have kz := free_of k0 1))
          go_returns
          simp only
          refine ⟨rfl, ?_⟩
          rw [hfind.out]
          have hnew : ∀ k, (Value.slice q' ((s.tick.file i).b ++ l).length cap').ownBlock = some k → (r.bv i).ownBlock = some k ∨ _ ≤ k := fun k hk => (hwhere k hk).imp (fun e => (hrow k e).2) id
          refine ⟨{ r with bv := upd r.bv i (.slice q' ((s.tick.file i).b ++ l).length cap') }, ?_, ?_, own_of rfl (foot_file (s := s.tick) hi1 hi2 (fun k hk => (hnew k hk).imp id (fun e => by omega)))⟩
          · refine h2.setFile i hi1 hi2 _ ⟨(s.tick.file i).b ++ l, (s.tick.file i).mark⟩ ?_ ?_ hnew ?_
            · rw [setCell_heap k0]; simp [fileAt]
            · refine row_same hown (fun g hg => Below.heap_setCell _ _ _ _ (fun e => ?_))
              have := sort_row hown hg
              rw [e, sort_cells k0] at this; cases this
            · intro k hk g3 g4
              exact (Below.heap_setCell _ _ _ _ g3).trans (hgrow.block k hk (fun e => g4 (hrow k e.symm).2))
          · exact (hC.trans (Grown.of_grownBy hgrow (S := foot p r s) (fun k hk => .inl (.inr (.inr (.inr (.inr ⟨i, hi1, hi2, .inr (hrow k hk).2⟩)))))) (fun _ hx => .inl hx)).setCell (p := ⟨r.ad i, 1, none⟩) (.inl (.inr (.inr (.inr (.inr ⟨i, hi1, hi2, .inl rfl⟩))))) _
        | none =>
          rw [hfo] at hl2
          simp only [ptrOf] at hl2
          have hfind : Hid (s.tick.find x = (s.tick.born.renamed ⟨#[]⟩ x (some (s.tick.births + 1)), s.tick.births + 1)) := by unfold DS.find; rw [hfo]; rfl
          clear hfo
          have zp := h2.free 1
          have g3 : IntKind.i64.wrap ((s.tick.births : Int) + 1) = (s.tick.births : Int) + 1 := IntWalk.i64_in _ (by omega)
          have hpl := (h2.foot_lt p (.inl rfl)).1
          have h3 : Lies ((w2.setCell ⟨p, 1, none⟩ (.int .i64 ((s.tick.births : Int) + 1))).alloc (.cells #[.int .i64 ((s.tick.births : Int) + 1), .slice none 0 0, .int .i64 0] 72)) p n₀ { r with ad := upd r.ad (s.tick.births + 1) w2.heap.size, bv := upd r.bv (s.tick.births + 1) (.slice none 0 0) } s.tick.born := by
            refine h2.born hwf w2.heap.size (Nat.le_refl _) (by omega) ?_ ?_ ?_
            · rw [Below.heap_alloc _ _ _ (by simpa using hpl), setCell_heap h2.top]
              simp [top]
            · have hsz : (w2.setCell ⟨p, 1, none⟩ (.int .i64 ((s.tick.births : Int) + 1))).heap.size = w2.heap.size := by simp
              have := heap_new (w2.setCell ⟨p, 1, none⟩ (.int .i64 ((s.tick.births : Int) + 1))) (.cells #[.int .i64 ((s.tick.births : Int) + 1), .slice none 0 0, .int .i64 0] 72)
              rw [hsz] at this
              rw [this]
              simp [fileAt]
            · intro k hk hkp
              rw [Below.heap_alloc _ _ _ (by simpa using hk), Below.heap_setCell _ _ _ _ hkp]
          have hG3 : Grown (foot p r s) w' ((w2.setCell ⟨p, 1, none⟩ (.int .i64 ((s.tick.births : Int) + 1))).alloc (.cells #[.int .i64 ((s.tick.births : Int) + 1), .slice none 0 0, .int .i64 0] 72)) := (hC.setCell (p := ⟨p, 1, none⟩) (.inl (.inl rfl)) _).alloc _
          have hz3 : ((w2.setCell ⟨p, 1, none⟩ (.int .i64 ((s.tick.births : Int) + 1))).alloc (.cells #[.int .i64 ((s.tick.births : Int) + 1), .slice none 0 0, .int .i64 0] 72)).heap.size = w2.heap.size + 1 := by simp
          have hren := renamed_any ⟨#[]⟩ x (some (s.tick.births + 1)) _ p n₀ _ s.tick.born h3 (by show s.works.length < _; omega) (by omega)
          simp only [ptrOf, upd_same] at hren
          unfold ofBlock at hren
          have hfoot4 : ∀ k, foot p { r with ad := upd r.ad (s.tick.births + 1) w2.heap.size, bv := upd r.bv (s.tick.births + 1) (.slice none 0 0) } s.tick.born k → foot p r s.tick k ∨ w'.heap.size ≤ k := fun k hk => (foot_born k hk).imp id (fun e => by omega)
          have hup : ∀ (n : Nat) (f : Nat → Nat), (upd f (s.tick.births + 1) n) (s.tick.births + 1) = n := fun n f => upd_same _ _ _
          go_wp2_with (first | (go_at_call 53; refine hren.mono ?_; rintro e w4 ⟨rfl, wv', hL4, hG4, hw4⟩; have hf4 := hL4.file (s.tick.births + 1) (by omega) (Nat.le_refl _); simp only [DS.renamed, DS.born, upd_same, fileAt] at hf4; obtain ⟨f0, f1, f2⟩ := cells3 hf4; have z1 := free_of hf4 1; have hG5 := hG3.trans hG4 hfoot4; have hBy := hsep w4 hG5; have hz4 := hG4.size) | (at_builtin; refine wpList_append_bytes _ rfl _ _ rfl n₀ (.slice none 0 0) _ [] l rfl rfl (World.ownsRow_nil _ _ _ _) hBy (by simp; omega) (by omega) ?_; intro v' w6 hown hgrow hwhere; obtain ⟨q', cap', rfl⟩ := own_shape hown; have k0 := (hgrow.block w2.heap.size ((Array.getElem?_eq_some_iff.1 hf4).1) (by simp [Value.ownBlock])).trans hf4; obtain ⟨k1, k2, k3⟩ := cells3 k0; have kz := free_of k0 1))
          go_returns
          simp only
          refine ⟨rfl, ?_⟩
          rw [hfind.out]
          have hge : (s.tick.born.renamed ⟨#[]⟩ x (some (s.tick.births + 1))).grow (s.tick.births + 1) l = { s.tick.born.renamed ⟨#[]⟩ x (some (s.tick.births + 1)) with file := upd (s.tick.born.renamed ⟨#[]⟩ x (some (s.tick.births + 1))).file (s.tick.births + 1) ⟨l, 0⟩ } := by
            simp [DS.grow, DS.renamed, DS.born]
          simp only
          rw [hge]
          have hnew : ∀ k, (Value.slice q' l.length cap').ownBlock = some k → w4.heap.size ≤ k := fun k hk => (hwhere k hk).elim (fun e => by cases e) id
          refine ⟨_, hL4.setFile (s.tick.births + 1) (by omega) (Nat.le_refl _) (.slice q' l.length cap') ⟨l, 0⟩ ?_ ?_ (fun k hk => .inr (hnew k hk)) ?_, ?_, ?_⟩
          · simp only [upd_same]
            rw [setCell_heap k0]; simp [fileAt]
          · refine row_same hown (fun g hg => Below.heap_setCell _ _ _ _ (fun e => ?_))
            have := sort_row hown hg
            rw [e, sort_cells k0] at this; cases this
          · intro k hk g4 g5
            simp only [upd_same] at g4
            exact (Below.heap_setCell _ _ _ _ g4).trans (hgrow.block k hk (by simp [Value.ownBlock]))
          · refine (hG5.trans (Grown.of_grownBy hgrow (S := fun _ => False) (fun k hk => by simp [Value.ownBlock] at hk)) (fun _ hx => hx.elim)).setCell (p := ⟨w2.heap.size, 1, none⟩) (.inr (by show w'.heap.size ≤ w2.heap.size; omega)) _
          · refine own_of rfl (fun k hk => ?_)
            rcases foot_file (w := w4) (i := s.tick.births + 1) (s := s.tick.born.renamed ⟨#[]⟩ x (some (s.tick.births + 1))) (r := { r with ad := upd r.ad (s.tick.births + 1) w2.heap.size, wv := wv', bv := upd r.bv (s.tick.births + 1) (.slice none 0 0) }) (by omega) (Nat.le_refl _) (fun k hk => .inr (hnew k hk)) k hk with hk | hk
            · rcases foot_wv (r := { r with ad := upd r.ad (s.tick.births + 1) w2.heap.size, bv := upd r.bv (s.tick.births + 1) (.slice none 0 0) }) (s := s.tick.born) hw4 k hk with hk | hk
              · exact hfoot4 k hk
              · exact .inr (by omega)
            · exact .inr (by omega)
  · rw [hdd] at ha
    go_enter Tryz.func12, Tryz.ntmps12
    go_wp2_with (go_at_call 39; refine ha.mono ?_; rintro e w' ⟨rfl, rfl⟩)
    go_returns
    exact ⟨rfl, Turns.none hL (Below.refl _ _)⟩
end Go.Proofs.YtmcmagplaflegaaGreat

namespace Go.Proofs.YtmcmagplaflegaaGreat
open Go Go.RowKit Go.MapL Go.Poised
theorem ret_bool {a b : Bool} (h : a = b) : Ending.returned (.bool a) = .returned (.bool b) := by rw [h]
theorem take_snoc (l : List Nat) (k : Nat) (h : k < l.length) : l.take (k + 1) = l.take k ++ [l.getD k 0] := by
  rw [List.take_succ_eq_append_getElem h, List.getD_eq_getElem?_getD, List.getElem?_eq_getElem h]; rfl
set_option maxHeartbeats 2000000 in
theorem bring_any (i n : Int) (h1 : 1 ≤ n) (h2 : n ≤ 1000000) (_ : -9223372036854775808 ≤ i) (_ : i ≤ 9223372036854775807) (w : World) :
    Calls Tryz.prog 34 #[.int .i64 i, .int .i64 n] w fun e w' => e = .returned (.int .i64 (i % n)) ∧ w' = w := by
  have hm : -n < i.tmod n := by have := Int.lt_tmod_of_pos i (show 0 < n by omega); omega
  have hm' : i.tmod n < n := Int.tmod_lt_of_pos i (by omega)
  have hn0 : ¬ n ≤ 0 := by omega
  by_cases hneg : i.tmod n < 0
  · have hr : Hid (i.tmod n + n = i % n) := by
      show i.tmod n + n = i % n
      have e1 := Int.emod_add_mul_ediv i n
      have e2 := Int.tmod_add_mul_tdiv i n
      have e3 : (i.tmod n + n - i % n) = n * (i / n - i.tdiv n + 1) := by rw [Int.mul_add, Int.mul_sub]; omega
      have a1 := Int.emod_nonneg i (show n ≠ 0 by omega)
      have a2 := Int.emod_lt_of_pos i (show 0 < n by omega)
      have h5 : (i / n - i.tdiv n + 1) = 0 := by
        have b1 : n * (i / n - i.tdiv n + 1) < n * 1 := by omega
        have b2 : n * (-1) < n * (i / n - i.tdiv n + 1) := by omega
        have c1 := Int.lt_of_mul_lt_mul_left b1 (by omega)
        have c2 := Int.lt_of_mul_lt_mul_left b2 (by omega)
        omega
      rw [h5] at e3
      omega
    go_enter Tryz.func34, Tryz.ntmps34
    go_wp2
    go_returns
    exact ⟨ret_int hr.out, rfl⟩
  · have hr : Hid (i.tmod n = i % n) := by
      show i.tmod n = i % n
      have e1 := Int.emod_add_mul_ediv i n
      have e2 := Int.tmod_add_mul_tdiv i n
      have e3 : (i.tmod n - i % n) = n * (i / n - i.tdiv n) := by rw [Int.mul_sub]; omega
      have a1 := Int.emod_nonneg i (show n ≠ 0 by omega)
      have a2 := Int.emod_lt_of_pos i (show 0 < n by omega)
      have h5 : (i / n - i.tdiv n) = 0 := by
        have b1 : n * (i / n - i.tdiv n) < n * 1 := by omega
        have b2 : n * (-1) < n * (i / n - i.tdiv n) := by omega
        have c1 := Int.lt_of_mul_lt_mul_left b1 (by omega)
        have c2 := Int.lt_of_mul_lt_mul_left b2 (by omega)
        omega
      rw [h5] at e3
      omega
    go_enter Tryz.func34, Tryz.ntmps34
    go_wp2
    go_returns
    exact ⟨ret_int hr.out, rfl⟩

/-! ### Two lists of bytes -/
theorem eq_step {l m : List Nat} (h : l.length = m.length) (k : Nat) (hk : k < l.length) (ht : l.take k = m.take k) (he : l.getD k 0 = m.getD k 0) : l.take (k + 1) = m.take (k + 1) := by
  rw [take_snoc l k hk, take_snoc m k (by omega), ht, he]
theorem ne_at {l m : List Nat} (k : Nat) (he : l.getD k 0 ≠ m.getD k 0) : decide (l = m) = false := by
  rw [decide_eq_false_iff_not]; intro h; rw [h] at he; exact he rfl

theorem bytes_parts {w : World} {v : Value} {l : List Nat} (h : BytesIn w v l) : ∃ p cap, v = .slice p l.length cap ∧ ∀ k, k < l.length → ∃ b off, p = some ⟨b, off, none⟩ ∧ w.cell? ⟨b, off + k, none⟩ = some (.int .u8 (l.getD k 0 : Nat)) := by
  obtain ⟨_, _, ⟨rfl, rfl⟩ | ⟨a, cap, rfl, rfl⟩ | ⟨b, off, cap, rfl, hc⟩⟩ := h
  · exact ⟨none, 0, rfl, fun k hk => by simp at hk⟩
  · exact ⟨some a, cap, rfl, fun k hk => by simp at hk⟩
  · exact ⟨some ⟨b, off, none⟩, cap, rfl, fun k hk => ⟨b, off, rfl, hc k hk⟩⟩

set_option maxHeartbeats 2000000 in
theorem eqBytes_any (v u : Value) (l m : List Nat) (w : World) (hv : BytesIn w v l) (hu : BytesIn w u m) :
    Calls Tryz.prog 30 #[v, u] w fun e w' => e = .returned (.bool (decide (l = m))) ∧ Below w.heap.size w w' := by
  have hbl := hv.1
  have hbm := hu.1
  have hll := hv.2.1
  have hml := hu.2.1
  obtain ⟨p, cap, rfl, hc⟩ := bytes_parts hv
  obtain ⟨q, cap', rfl, hd⟩ := bytes_parts hu
  by_cases hlen : l.length = m.length
  · have hne : ((l.length : Int) != (m.length : Int)) = false := by simp [hlen]
    have Hlen : Hid (l.length = m.length) := hlen
    have hlm : l.length ≤ m.length := by omega
    clear hlen
    go_enter Tryz.func30, Tryz.ntmps30
    go_wp2
    go_loopw [5] (fun i wr => ∃ k : Nat, k ≤ l.length ∧ i = .int .i64 k ∧ l.take k = m.take k ∧ Below w.heap.size w wr) (fun i _ => l.length - (intOf i).toNat)
    case atStart => exact ⟨0, by omega, rfl, by simp, Below.refl _ _⟩
    case round =>
      obtain ⟨k, hk, rfl, ht, hB⟩ := hrel
      have Ht : Hid (l.take k = m.take k) := ht
      clear ht
      by_cases hlt : k < l.length
      · obtain ⟨b, off, rfl, hcb⟩ := hc k hlt
        obtain ⟨b', off', rfl, hdb⟩ := hd k (by omega)
        have hcell : wr.cell? ⟨b, off + k, none⟩ = some (.int .u8 (l.getD k 0 : Nat)) := (hB.cell (p := ⟨b, off + k, none⟩) (lt_of_cell hcb)).trans hcb
        have hdell : wr.cell? ⟨b', off' + k, none⟩ = some (.int .u8 (m.getD k 0 : Nat)) := (hB.cell (p := ⟨b', off' + k, none⟩) (lt_of_cell hdb)).trans hdb
        clear hc hd hcb hdb
        have hs : Hid (l.getD k 0 = m.getD k 0 → l.take (k + 1) = m.take (k + 1)) := fun h => eq_step Hlen.out k hlt Ht.out h
        have hn : Hid (l.getD k 0 ≠ m.getD k 0 → decide (l = m) = false) := fun h => ne_at k h
        generalize l.getD k 0 = x at *
        generalize m.getD k 0 = y at *
        have k1 : (0 : Int) ≤ (k : Int) := by omega
        have k2 : (k : Int) < (l.length : Int) := by omega
        have k3 : (k : Int) < (m.length : Int) := by omega
        by_cases hxy : x = y
        · have hb : ((x : Int) != (y : Int)) = false := by simp [hxy]
          have Hxy : Hid (x = y) := hxy
          clear hxy
          go_wp2
          go_quiet (fail)
          go_wp2
          go_roundw
          case rel => exact ⟨k + 1, by omega, by go_num, hs.out Hxy.out, ⟨hB.1, hB.2, hB.3, hB.4, hB.5⟩⟩
          case measure => simp [intOf]; omega
        · have hb : ((x : Int) != (y : Int)) = true := by simp; omega
          go_wp2
          go_quiet (fail)
          go_wp2
          go_returns
          refine ⟨?_, ⟨hB.1, hB.2, hB.3, hB.4, hB.5⟩⟩
          exact ret_bool (hn.out hxy).symm
      · go_wp2
        go_returns
        refine ⟨ret_bool ?_, hB⟩
        have h1 := Ht.out
        rw [List.take_of_length_le (by omega), List.take_of_length_le (by have := Hlen.out; omega)] at h1
        simp [h1]
  · have hne : ((l.length : Int) != (m.length : Int)) = true := by simp; omega
    go_enter Tryz.func30, Tryz.ntmps30
    go_wp2
    go_returns
    refine ⟨ret_bool ?_, Below.refl _ _⟩
    symm
    rw [decide_eq_false_iff_not]; intro h; rw [h] at hlen; exact hlen rfl


/-- The text of these bytes. -/
def txt (l : List Nat) : ByteArray := strOfNums (l.map Int.ofNat)
theorem run_string_of (w : World) (v : Value) (l : List Nat) (h : BytesIn w v l) : (convert 23 9 v).run Tryz.prog w = .ok (.string (txt l)) w := by
  obtain ⟨_, _, ⟨rfl, rfl⟩ | ⟨a, cap, rfl, rfl⟩ | ⟨b, off, cap, rfl, hc⟩⟩ := h
  · exact run_convert_bytes_nil w 23 5 Tryz.underlying23 Tryz.underlying5 0 0 9 Tryz.underlying9
  · rw [run_convert_bytes_string w 23 9 5 _ 0 cap Tryz.underlying23 Tryz.underlying5 Tryz.underlying9, run_bytesToString w _ 0 cap [] (by
      have := run_loadCells_list (P := Tryz.prog) w a [] (fun j v hj => by simp at hj)
      simpa using this)]
    rfl
  · refine run_convert_bytes_arg w 23 5 Tryz.underlying23 Tryz.underlying5 b off _ cap (l.map Int.ofNat) (by simp) (fun i hi => ?_) 9 Tryz.underlying9
    rw [hc i hi, List.getD_eq_getElem?_getD, List.getD_eq_getElem?_getD, List.getElem?_map]
    simp [hi]

end Go.Proofs.YtmcmagplaflegaaGreat
