/-
  THE DISK's METHODS, MORE: a file by its name, Sync, Read, Left. Conditions: those of each theorem.
-/
import Derived.Test.YtbkkcbdbdogloaaDp
namespace Go.Proofs.Ytbkkcbdbdogloaa
open Go Go.RowKit Go.MapL Go.Poised

variable {p n₀ : Nat} {r : Rep} {s : DS}

/-- A file for a work, or why there is none. -/
def ofRes (s : DS) (x : ByteArray) (ok : Bool) : Option Nat × Int :=
  if s.dead then (none, 51) else match fileOf s x with
    | none => (none, 50)
    | some i => if ok then (some i, 0) else (none, 50)

/-- What a method has made of a disk. -/
def Turns (w w' : World) (p n₀ : Nat) (r : Rep) (s s' : DS) : Prop :=
  ∃ r', Lies w' p n₀ r' s' ∧ Grown (foot p r s) w w' ∧ ∀ k, foot p r' s' k → foot p r s k ∨ w.heap.size ≤ k
theorem Turns.none {w w' : World} (h : Lies w p n₀ r s) (hb : Below w.heap.size w w') : Turns w w' p n₀ r s s :=
  ⟨r, h.below hb, Grown.of_below hb, fun _ hk => .inl hk⟩

set_option maxRecDepth 100000 in
set_option maxHeartbeats 2000000 in
theorem of_at (x : ByteArray) (ok : Bool) (w : World) (h : Lies w p n₀ r s) :
    Calls Try.prog 35 #[ofBlock p, .string x, .bool ok] w fun e w' => e = .returned (.tuple #[ptrOf r.ad (ofRes s x ok).1, .int .i64 (ofRes s x ok).2]) ∧ w' = w := by
  obtain ⟨c0, c1, c2, c3, c4, c5, c6, c7⟩ := h.cells
  have ha := away_at w h
  have hd := dies_at w h
  have hl := lookup_at h x
  unfold ofBlock at *
  unfold ofRes
  cases hdd : s.dead
  · rw [hdd] at ha
    cases hf : fileOf s x with
    | none =>
      rw [hf] at hl
      unfold ptrOf at *
      go_enter Try.func35, Try.ntmps35
      go_wp2_with (first | (go_at_call 30; refine ha.mono ?_; rintro e w' ⟨rfl, rfl⟩) | (go_at_call 33; refine hd.mono ?_; rintro e w' ⟨rfl, rfl⟩))
      go_returns
      exact ⟨rfl, rfl⟩
    | some i =>
      rw [hf] at hl
      cases ok
      all_goals
        unfold ptrOf at *
        go_enter Try.func35, Try.ntmps35
        go_wp2_with (first | (go_at_call 30; refine ha.mono ?_; rintro e w' ⟨rfl, rfl⟩) | (go_at_call 33; refine hd.mono ?_; rintro e w' ⟨rfl, rfl⟩))
        go_returns
        exact ⟨rfl, rfl⟩
  · rw [hdd] at ha
    go_enter Try.func35, Try.ntmps35
    go_wp2_with (go_at_call 30; refine ha.mono ?_; rintro e w' ⟨rfl, rfl⟩)
    go_returns
    exact ⟨rfl, rfl⟩
-- MORE
theorem fileOf_in (hwf : WF s) {x : ByteArray} {i : Nat} (h : fileOf s x = some i) : 1 ≤ i ∧ i ≤ s.births := hwf.names _ (look_mem h)
theorem ofRes_in (hwf : WF s) {x : ByteArray} {ok : Bool} {i : Nat} (h : (ofRes s x ok).1 = some i) : 1 ≤ i ∧ i ≤ s.births := by
  unfold ofRes at h
  split at h
  · cases h
  · split at h
    · cases h
    · rename_i j hj
      split at h
      · cases h; exact fileOf_in hwf hj
      · cases h
theorem ofRes_code (s : DS) (x : ByteArray) (ok : Bool) : ((ofRes s x ok).2 = 0 ↔ ∃ i, (ofRes s x ok).1 = some i) := by
  unfold ofRes
  split
  · simp
  · split
    · simp
    · split <;> simp
theorem ofRes_codes (s : DS) (x : ByteArray) (ok : Bool) : (ofRes s x ok).2 = 0 ∨ (ofRes s x ok).2 = 50 ∨ (ofRes s x ok).2 = 51 := by
  unfold ofRes
  split
  · simp
  · split
    · simp
    · split <;> simp

def DS.sync (s : DS) (x : ByteArray) : DS :=
  match (ofRes s x true).1 with
  | none => s
  | some i => { s with file := upd s.file i ⟨(s.file i).b, (s.file i).b.length⟩ }

theorem upd_self {β : Type} (f : Nat → β) (i : Nat) : upd f i (f i) = f := by
  funext k; unfold upd; split
  · rename_i h; rw [h]
  · rfl
theorem foot_file {r : Rep} {s : DS} {i : Nat} {bv : Value} {f : FileS} {w : World} (h1 : 1 ≤ i) (h2 : i ≤ s.births) (hnew : ∀ k, bv.ownBlock = some k → (r.bv i).ownBlock = some k ∨ w.heap.size ≤ k) :
    ∀ k, foot p { r with bv := upd r.bv i bv } { s with file := upd s.file i f } k → foot p r s k ∨ w.heap.size ≤ k := by
  rintro k (h | h | h | h | ⟨j, g1, g2, h | h⟩)
  · exact .inl (.inl h)
  · exact .inl (.inr (.inl h))
  · exact .inl (.inr (.inr (.inl h)))
  · exact .inl (.inr (.inr (.inr (.inl h))))
  · exact .inl (.inr (.inr (.inr (.inr ⟨j, g1, g2, .inl h⟩))))
  · by_cases hj : j = i
    · subst hj
      simp only [upd_same] at h
      rcases hnew k h with h | h
      · exact .inl (.inr (.inr (.inr (.inr ⟨j, g1, g2, .inr h⟩))))
      · exact .inr h
    · simp only [upd_other _ _ hj] at h
      exact .inl (.inr (.inr (.inr (.inr ⟨j, g1, g2, .inr h⟩))))

set_option maxRecDepth 100000 in
set_option maxHeartbeats 2000000 in
theorem sync_at (x : ByteArray) (w : World) (h : Lies w p n₀ r s) (hwf : WF s) :
    Calls Try.prog 12 #[ofBlock p, .string x] w fun e w' => e = .returned (.int .i64 (ofRes s x true).2) ∧ Turns w w' p n₀ r s (s.sync x) := by
  have ho := of_at x true w h
  unfold ofBlock at *
  unfold DS.sync
  rcases hc : ofRes s x true with ⟨f, c⟩
  have hcode := ofRes_code s x true
  have hcs := ofRes_codes s x true
  rw [hc] at ho hcode hcs
  simp only at ho hcode hcs
  cases f with
  | none =>
    have hne : c ≠ 0 := fun e => by obtain ⟨i, hi⟩ := hcode.1 e; cases hi
    unfold ptrOf at *
    rcases hcs with rfl | rfl | rfl
    · exact absurd rfl hne
    all_goals
      go_enter Try.func12, Try.ntmps12
      go_wp2_with (go_at_call 35; refine ho.mono ?_; rintro e w' ⟨rfl, rfl⟩)
      go_returns
      exact ⟨rfl, Turns.none h (Below.refl _ _)⟩
  | some i =>
    obtain rfl : c = 0 := hcode.2 ⟨i, rfl⟩
    obtain ⟨h1, h2⟩ := ofRes_in hwf (by rw [hc] : (ofRes s x true).1 = some i)
    have hf := h.file i h1 h2
    have hd := h.data i h1 h2
    obtain ⟨q, cap, hbv⟩ := own_shape hd
    rw [hbv] at hf
    obtain ⟨f0, f1, f2⟩ := cells3 hf
    have z2 := free_of hf 2
    have hlen := hwf.len i
    replace hbv : Hid _ := hbv
    simp only [ptrOf] at ho
    clear hcode hcs hc hlen
    have hlen : ((s.file i).b.length : Int) ≤ 16777216 := by have := hwf.len i; omega
    go_enter Try.func12, Try.ntmps12
    go_wp2_with (go_at_call 35; refine ho.mono ?_; rintro e w' ⟨rfl, rfl⟩)
    go_returns
    refine ⟨rfl, { r with bv := upd r.bv i (r.bv i) }, ?_, (Grown.refl _ _).setCell (p := ⟨r.ad i, 2, none⟩) (.inl (.inr (.inr (.inr (.inr ⟨i, h1, h2, .inl rfl⟩))))) _, foot_file h1 h2 (fun k hk => .inl hk)⟩
    refine h.setFile i h1 h2 (r.bv i) ⟨(s.file i).b, (s.file i).b.length⟩ ?_ ?_ (fun k hk => .inl hk) ?_
    · rw [setCell_heap hf, hbv.out]; rfl
    · refine row_same hd (fun g hg => Below.heap_setCell _ _ _ _ (fun e => ?_))
      have := h.sB h1 h2 hg
      rw [e, h.sF h1 h2] at this; cases this
    · intro k hk g1 g2
      exact Below.heap_setCell _ _ _ _ g1

/-- What Read answers. -/
def readRes (s : DS) (x : ByteArray) : List Nat × Int :=
  if s.dead then ([], 51) else match fileOf s x with
    | none => ([], 50)
    | some i => ((s.file i).b, 0)

set_option maxRecDepth 100000 in
set_option maxHeartbeats 2000000 in
theorem read_at (x : ByteArray) (w : World) (h : Lies w p n₀ r s) (hwf : WF s) :
    Calls Try.prog 14 #[ofBlock p, .string x] w fun e w' => ∃ v, e = .returned (.tuple #[v, .int .i64 (readRes s x).2]) ∧ w'.ownsRow w.heap.size 5 1 v (readRes s x).1.length (encB (readRes s x).1) ∧ Below w.heap.size w w' := by
  obtain ⟨c0, c1, c2, c3, c4, c5, c6, c7⟩ := h.cells
  have ha := away_at w h
  have hl := lookup_at h x
  unfold ofBlock at *
  unfold readRes
  cases hdd : s.dead
  · rw [hdd] at ha
    cases hf : fileOf s x with
    | none =>
      rw [hf] at hl
      unfold ptrOf at *
      go_enter Try.func14, Try.ntmps14
      go_wp2_with (go_at_call 30; refine ha.mono ?_; rintro e w' ⟨rfl, rfl⟩)
      go_returns
      exact ⟨_, rfl, World.ownsRow_nil _ _ _ _, Below.refl _ _⟩
    | some i =>
      rw [hf] at hl
      obtain ⟨h1, h2⟩ := fileOf_in hwf hf
      have hfl := h.file i h1 h2
      have hd := h.data i h1 h2
      have hlen := hwf.len i
      obtain ⟨q, cap, hbv⟩ := own_shape hd
      have hB := bytesIn_of_own hd (hwf.bytes i) (by omega)
      rw [hbv] at hfl hB
      obtain ⟨f0, f1, f2⟩ := cells3 hfl
      have hcl := fun W (hW : BytesIn W (.slice q (s.file i).b.length cap) (s.file i).b) => cloneB_any _ (s.file i).b W hW (by omega)
      replace hbv : Hid _ := hbv
      unfold ptrOf at *
      go_enter Try.func14, Try.ntmps14
      go_wp2_with (first | (go_at_call 30; refine ha.mono ?_; rintro e w' ⟨rfl, rfl⟩) | (go_at_call 37; refine (hcl _ hB).mono ?_; rintro e w' ⟨v, rfl, hv, hb⟩))
      go_returns
      exact ⟨_, rfl, hv, hb⟩
  · rw [hdd] at ha
    go_enter Try.func14, Try.ntmps14
    go_wp2_with (go_at_call 30; refine ha.mono ?_; rintro e w' ⟨rfl, rfl⟩)
    go_returns
    exact ⟨_, rfl, World.ownsRow_nil _ _ _ _, Below.refl _ _⟩

def DS.remove (s : DS) (x : ByteArray) : DS :=
  match (ofRes s x true).1 with
  | none => s
  | some _ => s.renamed x ⟨#[]⟩ none
def DS.rename (s : DS) (x y : ByteArray) : DS :=
  match (ofRes s x (decide (1 ≤ y.size) && decide (y.size ≤ 40))).1 with
  | none => s
  | some i => if x = y then s else s.renamed x y (some i)

theorem foot_wv {r : Rep} {s : DS} {wv : Value} {a b : ByteArray} {f : Option Nat} {w : World} (hnew : ∀ k, wv.ownBlock = some k → r.wv.ownBlock = some k ∨ w.heap.size ≤ k) :
    ∀ k, foot p { r with wv := wv } (s.renamed a b f) k → foot p r s k ∨ w.heap.size ≤ k := by
  rintro k (h | h | h | h | ⟨j, g1, g2, h⟩)
  · exact .inl (.inl h)
  · exact .inl (.inr (.inl h))
  · exact .inl (.inr (.inr (.inl h)))
  · rcases hnew k h with h | h
    · exact .inl (.inr (.inr (.inr (.inl h))))
    · exact .inr h
  · exact .inl (.inr (.inr (.inr (.inr ⟨j, g1, g2, h⟩))))

set_option maxRecDepth 100000 in
set_option maxHeartbeats 2000000 in
theorem remove_at (x : ByteArray) (w : World) (h : Lies w p n₀ r s) (hc : s.works.length < 1073741824) (hn : n₀ ≤ w.heap.size) :
    Calls Try.prog 22 #[ofBlock p, .string x] w fun e w' => e = .returned (.int .i64 (ofRes s x true).2) ∧ Turns w w' p n₀ r s (s.remove x) := by
  have ho := of_at x true w h
  have hr := renamed_any x ⟨#[]⟩ none w p n₀ r s h hc hn
  unfold ofBlock at *
  unfold DS.remove
  rcases hc : ofRes s x true with ⟨f, c⟩
  have hcode := ofRes_code s x true
  have hcs := ofRes_codes s x true
  rw [hc] at ho hcode hcs
  simp only at ho hcode hcs
  cases f with
  | none =>
    have hne : c ≠ 0 := fun e => by obtain ⟨i, hi⟩ := hcode.1 e; cases hi
    unfold ptrOf at *
    rcases hcs with rfl | rfl | rfl
    · exact absurd rfl hne
    all_goals
      go_enter Try.func22, Try.ntmps22
      go_wp2_with (go_at_call 35; refine ho.mono ?_; rintro e w' ⟨rfl, rfl⟩)
      go_returns
      exact ⟨rfl, Turns.none h (Below.refl _ _)⟩
  | some i =>
    obtain rfl : c = 0 := hcode.2 ⟨i, rfl⟩
    simp only [ptrOf] at ho hr
    clear hcode hcs hc
    go_enter Try.func22, Try.ntmps22
    go_wp2_with (first | (go_at_call 35; refine ho.mono ?_; rintro e w' ⟨rfl, rfl⟩) | (go_at_call 34; refine hr.mono ?_; rintro e w' ⟨rfl, wv', hL, hG, hw⟩))
    go_returns
    exact ⟨rfl, _, hL, hG, foot_wv hw⟩

set_option maxRecDepth 100000 in
set_option maxHeartbeats 2000000 in
theorem rename_at (x y : ByteArray) (w : World) (h : Lies w p n₀ r s) (hc : s.works.length < 1073741824) (hn : n₀ ≤ w.heap.size) :
    Calls Try.prog 26 #[ofBlock p, .string x, .string y] w fun e w' => e = .returned (.int .i64 (ofRes s x (decide (1 ≤ y.size) && decide (y.size ≤ 40))).2) ∧ Turns w w' p n₀ r s (s.rename x y) := by
  have hi := isName_any y w
  generalize hok : (decide (1 ≤ y.size) && decide (y.size ≤ 40)) = ok at hi ⊢
  have ho := of_at x ok w h
  have hr := fun i => renamed_any x y (some i) w p n₀ r s h hc hn
  unfold ofBlock at *
  unfold DS.rename
  rw [hok]
  clear hok
  rcases hc : ofRes s x ok with ⟨f, c⟩
  have hcode := ofRes_code s x ok
  have hcs := ofRes_codes s x ok
  rw [hc] at ho hcode hcs
  simp only at ho hcode hcs
  cases f with
  | none =>
    have hne : c ≠ 0 := fun e => by obtain ⟨i, hi⟩ := hcode.1 e; cases hi
    clear hr
    unfold ptrOf at *
    rcases hcs with rfl | rfl | rfl
    · exact absurd rfl hne
    all_goals
      go_enter Try.func26, Try.ntmps26
      go_wp2_with (first | (go_at_call 31; refine hi.mono ?_; rintro e w' ⟨rfl, rfl⟩) | (go_at_call 35; refine ho.mono ?_; rintro e w' ⟨rfl, rfl⟩))
      go_returns
      exact ⟨rfl, Turns.none h (Below.refl _ _)⟩
  | some i =>
    obtain rfl : c = 0 := hcode.2 ⟨i, rfl⟩
    by_cases hxy : x = y
    · subst hxy
      have hTn := Turns.none h (Below.refl _ _)
      clear hr hcode hcs hc
      simp only [ptrOf] at ho
      go_enter Try.func26, Try.ntmps26
      go_wp2_with (first | (go_at_call 31; refine hi.mono ?_; rintro e w' ⟨rfl, rfl⟩) | (go_at_call 35; refine ho.mono ?_; rintro e w' ⟨rfl, rfl⟩))
      go_returns
      exact ⟨rfl, hTn⟩
    · have e2 : (x.toList == y.toList) = false := by
        rw [← beq_toListBytes]
        cases hb : (x == y)
        · rfl
        · exact absurd ((MapKept.bytes_beq _ _).1 hb) hxy
      have hr' := hr i
      clear hr hcode hcs hc
      simp only [ptrOf] at ho hr'
      go_enter Try.func26, Try.ntmps26
      go_wp2_with (first | (go_at_call 31; refine hi.mono ?_; rintro e w' ⟨rfl, rfl⟩) | (go_at_call 35; refine ho.mono ?_; rintro e w' ⟨rfl, rfl⟩) | (go_at_call 34; refine hr'.mono ?_; rintro e w' ⟨rfl, wv', hL, hG, hw⟩))
      go_returns
      exact ⟨rfl, _, hL, hG, foot_wv hw⟩
end Go.Proofs.Ytbkkcbdbdogloaa
