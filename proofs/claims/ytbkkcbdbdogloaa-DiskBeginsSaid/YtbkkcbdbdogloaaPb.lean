/-
  WHAT PLAIN FILES DO: in plain Lean. Conditions: those of each theorem.
-/
import Derived.Test.YtbkkcbdbdogloaaNl
namespace Go.Proofs.Ytbkkcbdbdogloaa
open Go Go.RowKit Go.MapL Go.Poised
variable {s : DS} {n : Nat} {F : Nat → List Nat} {I : Nat → Bool}

def tc : ByteArray := ⟨#[99]⟩
theorem nm_of (c : Nat) : (c % 3 = 0 ∧ nm c = ta) ∨ (c % 3 = 1 ∧ nm c = tb) ∨ (c % 3 = 2 ∧ nm c = tc) := by
  have h : c % 3 < 3 := Nat.mod_lt _ (by omega)
  unfold nm
  generalize c % 3 = x at h
  match x, h with
  | 0, _ => exact .inl ⟨rfl, by kernel_rfl⟩
  | 1, _ => exact .inr (.inl ⟨rfl, by kernel_rfl⟩)
  | 2, _ => exact .inr (.inr ⟨rfl, by kernel_rfl⟩)
theorem nm_mod (c : Nat) : nm (c % 3) = nm c := by unfold nm; rw [Nat.mod_mod]
theorem nm_inj {a b : Nat} (ha : a < 3) (hb : b < 3) (h : nm a = nm b) : a = b := by
  have e1 : ta ≠ tb := by decide
  have e2 : ta ≠ tc := by decide
  have e3 : tb ≠ tc := by decide
  rcases nm_of a with ⟨h1, h2⟩ | ⟨h1, h2⟩ | ⟨h1, h2⟩ <;> rcases nm_of b with ⟨h3, h4⟩ | ⟨h3, h4⟩ | ⟨h3, h4⟩ <;> rw [h2, h4] at h <;> first | omega | exact absurd h e1 | exact absurd h e2 | exact absurd h e3 | exact absurd h.symm e1 | exact absurd h.symm e2 | exact absurd h.symm e3
theorem nm_ok (c : Nat) : okName (nm c) = true := by
  rcases nm_of c with ⟨_, h⟩ | ⟨_, h⟩ | ⟨_, h⟩ <;> rw [h] <;> decide
theorem nm_empty (c : Nat) : nm c ≠ ⟨#[]⟩ := by
  rcases nm_of c with ⟨_, h⟩ | ⟨_, h⟩ | ⟨_, h⟩ <;> rw [h] <;> decide

theorem nm_byte {n a : Nat} (ha : n % 3 = a) : (nm n).size = 1 ∧ (∀ h, ((nm n)[0]'h).toNat = 97 + a) ∧ IntKind.i64.wrap (97 + (a : Int)) = 97 + (a : Int) ∧ IntKind.i64.wrap (97 + (a : Int) - 97) = (a : Int) ∧ a < 3 := by
  have h2 : IntKind.i64.wrap (97 + (a : Int)) = 97 + (a : Int) := IntWalk.i64_in _ (by omega)
  have h3 : IntKind.i64.wrap (97 + (a : Int) - 97) = (a : Int) := by
    rw [IntWalk.i64_in _ (by omega)]; omega
  rcases nm_of n with ⟨h, e⟩ | ⟨h, e⟩ | ⟨h, e⟩ <;> (rw [e]; refine ⟨by decide, ?_, h2, h3, by omega⟩; obtain rfl : a = _ := ha.symm.trans h; intro _; rfl)
/-- The plain files F, those that are told by I, are what the disk has. -/
structure Plain (s : DS) (F : Nat → List Nat) (I : Nat → Bool) : Prop where
  has : ∀ c, c < 3 → I c = true → ∃ i, MapL.look (nm c) s.names = some i ∧ (s.file i).b = F c
  not : ∀ c, c < 3 → I c = false → MapL.look (nm c) s.names = none ∧ F c = []
theorem plain_new (r : Nat) : Plain (DS.new r) (fun _ => []) (fun _ => false) := ⟨fun _ _ h => absurd h (by simp), fun _ _ _ => ⟨rfl, rfl⟩⟩
theorem plain_read (h : Plain s F I) (hd : s.dead = false) {c : Nat} (hc : c < 3) : readRes s (nm c) = (F c, if I c then 0 else 50) := by
  unfold readRes
  rw [hd]
  simp only [Bool.false_eq_true, if_false, fileOf]
  cases hi : I c with
  | true =>
    obtain ⟨i, h1, h2⟩ := h.has c hc hi
    rw [h1]
    simp [h2]
  | false =>
    obtain ⟨h1, h2⟩ := h.not c hc hi
    rw [h1, h2]
    rfl
theorem plain_append (hn : Near n s) (hn2 : n ≤ 100) (h : Plain s F I) {a : Nat} (ha : a < 3) (y : ByteArray) (l : List Nat) (hl : l.length ≤ 30) :
    (act s 0 (nm a) y l).2 = 0 ∧ Plain (act s 0 (nm a) y l).1 (upd F a (F a ++ l)) (upd I a true) := by
  have ho := append_ok hn hn2 (nm a) (nm_ok a) l hl
  show (s.append (nm a) l).2 = 0 ∧ Plain (s.append (nm a) l).1 _ _
  rw [ho]
  refine ⟨rfl, ?_⟩
  unfold DS.find
  cases hI : I a with
  | true =>
    obtain ⟨i, h1, h2⟩ := h.has a ha hI
    have h1' : fileOf s (nm a) = some i := h1
    rw [h1']
    constructor
    · intro c hc hIc
      by_cases hca : c = a
      · subst hca
        refine ⟨i, h1, ?_⟩
        simp only [DS.grow, upd_same, h2]
      · rw [upd_other _ _ hca] at hIc
        obtain ⟨j, h3, h4⟩ := h.has c hc hIc
        have hji : j ≠ i := fun e => by subst e; exact hca (nm_inj hc ha (hn.uniq _ _ j h3 h1))
        refine ⟨j, h3, ?_⟩
        simp only [DS.grow, upd_other _ _ hji, upd_other _ _ hca, h4]
    · intro c hc hIc
      by_cases hca : c = a
      · subst hca; rw [upd_same] at hIc; cases hIc
      · rw [upd_other _ _ hca] at hIc ⊢
        exact h.not c hc hIc
  | false =>
    obtain ⟨h1, h2⟩ := h.not a ha hI
    have h1' : fileOf s (nm a) = none := h1
    rw [h1']
    have htn := hn.sound.tn.1
    constructor
    · intro c hc hIc
      by_cases hca : c = a
      · subst hca
        refine ⟨s.births + 1, ?_, ?_⟩
        · show MapL.look (nm c) (step ⟨#[]⟩ (nm c) (some (s.births + 1)) s.names) = _
          rw [look_step _ _ _ _ _ htn]; simp
        · show (upd (upd s.file (s.births + 1) ⟨[], 0⟩) (s.births + 1) _ (s.births + 1)).b = _
          rw [upd_same, upd_same, h2]
          show (upd s.file (s.births + 1) ⟨[], 0⟩ (s.births + 1)).b ++ l = _
          rw [upd_same]
      · rw [upd_other _ _ hca] at hIc
        obtain ⟨j, h3, h4⟩ := h.has c hc hIc
        have hj := look_bound hn.sound h3
        refine ⟨j, ?_, ?_⟩
        · show MapL.look (nm c) (step ⟨#[]⟩ (nm a) (some (s.births + 1)) s.names) = _
          rw [look_step_other htn (nm_empty c) (fun e => hca (nm_inj hc ha e)), h3]
        · show (upd (upd s.file (s.births + 1) ⟨[], 0⟩) (s.births + 1) _ j).b = _
          rw [upd_other _ _ (by omega), upd_other _ _ (by omega), upd_other _ _ hca, h4]
    · intro c hc hIc
      by_cases hca : c = a
      · subst hca; rw [upd_same] at hIc; cases hIc
      · rw [upd_other _ _ hca] at hIc ⊢
        obtain ⟨h3, h4⟩ := h.not c hc hIc
        refine ⟨?_, h4⟩
        show MapL.look (nm c) (step ⟨#[]⟩ (nm a) (some (s.births + 1)) s.names) = _
        rw [look_step_other htn (nm_empty c) (fun e => hca (nm_inj hc ha e)), h3]
theorem of_plain (h : Plain s F I) (hd : s.dead = false) {a : Nat} (ha : a < 3) : (I a = true ∧ ∃ i, ofRes s (nm a) true = (some i, 0) ∧ MapL.look (nm a) s.names = some i ∧ (s.file i).b = F a) ∨ (I a = false ∧ ofRes s (nm a) true = (none, 50)) := by
  unfold ofRes fileOf
  rw [hd]
  cases hI : I a with
  | true =>
    obtain ⟨i, h1, h2⟩ := h.has a ha hI
    exact .inl ⟨rfl, i, by rw [h1]; simp, h1, h2⟩
  | false =>
    obtain ⟨h1, h2⟩ := h.not a ha hI
    exact .inr ⟨rfl, by rw [h1]; simp⟩
theorem plain_sync (h : Plain s F I) (hd : s.dead = false) {a : Nat} (ha : a < 3) (y : ByteArray) (l : List Nat) : (act s 1 (nm a) y l).2 = (if I a then 0 else 50) ∧ Plain (act s 1 (nm a) y l).1 F I := by
  show (ofRes s (nm a) true).2 = _ ∧ Plain (s.sync (nm a)) F I
  unfold DS.sync
  rcases of_plain h hd ha with ⟨hI, i, h1, _, _⟩ | ⟨hI, h1⟩
  · rw [h1, hI]
    refine ⟨rfl, fun c hc hIc => ?_, h.not⟩
    obtain ⟨j, h3, h4⟩ := h.has c hc hIc
    refine ⟨j, h3, ?_⟩
    by_cases hj : j = i
    · subst hj; simp only [upd_same]; exact h4
    · simp only [upd_other _ _ hj]; exact h4
  · rw [h1, hI]; exact ⟨rfl, h⟩
theorem plain_remove (hn : Near n s) (h : Plain s F I) {a : Nat} (ha : a < 3) (y : ByteArray) (l : List Nat) : (act s 3 (nm a) y l).2 = (if I a then 0 else 50) ∧ Plain (act s 3 (nm a) y l).1 (upd F a []) (upd I a false) := by
  show (ofRes s (nm a) true).2 = _ ∧ Plain (s.remove (nm a)) _ _
  unfold DS.remove
  rcases of_plain h hn.live ha with ⟨hI, i, h1, _, _⟩ | ⟨hI, h1⟩
  · rw [h1, hI]
    refine ⟨rfl, fun c hc hIc => ?_, fun c hc hIc => ?_⟩
    · by_cases hca : c = a
      · subst hca; rw [upd_same] at hIc; cases hIc
      · rw [upd_other _ _ hca] at hIc ⊢
        obtain ⟨j, h3, h4⟩ := h.has c hc hIc
        refine ⟨j, ?_, h4⟩
        show MapL.look (nm c) (step (nm a) ⟨#[]⟩ none s.names) = _
        rw [look_step_other hn.sound.tn.1 (fun e => hca (nm_inj hc ha e)) (nm_empty c), h3]
    · show MapL.look (nm c) (step (nm a) ⟨#[]⟩ none s.names) = _ ∧ _
      rw [look_step _ _ _ _ _ hn.sound.tn.1]
      by_cases hca : c = a
      · subst hca; rw [upd_same]; simp
      · rw [upd_other _ _ hca] at hIc ⊢
        obtain ⟨h3, h4⟩ := h.not c hc hIc
        rw [h3, h4]; simp
  · rw [h1, hI]
    refine ⟨rfl, fun c hc hIc => ?_, fun c hc hIc => ?_⟩
    · by_cases hca : c = a
      · subst hca; rw [upd_same] at hIc; cases hIc
      · rw [upd_other _ _ hca] at hIc ⊢; exact h.has c hc hIc
    · by_cases hca : c = a
      · subst hca; rw [upd_same]; exact ⟨(h.not c hc hI).1, rfl⟩
      · rw [upd_other _ _ hca] at hIc ⊢; exact h.not c hc hIc
theorem plain_rename (hn : Near n s) (h : Plain s F I) {a b : Nat} (ha : a < 3) (hb : b < 3) (l : List Nat) :
    (I a = false ∧ (act s 2 (nm a) (nm b) l).2 = 50 ∧ Plain (act s 2 (nm a) (nm b) l).1 F I) ∨
    (I a = true ∧ a = b ∧ (act s 2 (nm a) (nm b) l).2 = 0 ∧ Plain (act s 2 (nm a) (nm b) l).1 F I) ∨
    (I a = true ∧ a ≠ b ∧ (act s 2 (nm a) (nm b) l).2 = 0 ∧ Plain (act s 2 (nm a) (nm b) l).1 (upd (upd F b (F a)) a []) (upd (upd I b true) a false)) := by
  have hu : (decide (1 ≤ (nm b).size) && decide ((nm b).size ≤ 40)) = true := nm_ok b
  have he : act s 2 (nm a) (nm b) l = (s.rename (nm a) (nm b), (ofRes s (nm a) true).2) := by show (s.rename (nm a) (nm b), (ofRes s (nm a) (okName (nm b))).2) = _; rw [nm_ok]
  rw [he]
  unfold DS.rename
  rw [hu]
  rcases of_plain h hn.live ha with ⟨hI, i, h1, h5, h6⟩ | ⟨hI, h1⟩
  · rw [h1]
    by_cases hab : a = b
    · subst hab
      exact .inr (.inl ⟨hI, rfl, rfl, by simp only [if_true]; exact h⟩)
    · have hne : nm a ≠ nm b := fun e => hab (nm_inj ha hb e)
      refine .inr (.inr ⟨hI, hab, rfl, ?_⟩)
      simp only [if_neg hne]
      constructor
      · intro c hc hIc
        show ∃ i', MapL.look (nm c) (step (nm a) (nm b) (some i) s.names) = some i' ∧ (s.file i').b = _
        rw [look_step _ _ _ _ _ hn.sound.tn.1]
        by_cases hca : c = a
        · subst hca; rw [upd_same] at hIc; cases hIc
        · rw [upd_other _ _ hca] at hIc ⊢
          by_cases hcb : c = b
          · subst hcb; rw [upd_same]; exact ⟨i, by simp, h6⟩
          · rw [upd_other _ _ hcb] at hIc ⊢
            obtain ⟨j, h3, h4⟩ := h.has c hc hIc
            refine ⟨j, ?_, h4⟩
            rw [if_neg (fun e => hcb (nm_inj hc hb e.2)), if_neg (fun e => hca (nm_inj hc ha e)), h3]
      · intro c hc hIc
        show MapL.look (nm c) (step (nm a) (nm b) (some i) s.names) = none ∧ _
        rw [look_step _ _ _ _ _ hn.sound.tn.1]
        by_cases hca : c = a
        · subst hca; rw [upd_same, if_neg (fun e => hne e.2), if_pos rfl]; exact ⟨rfl, rfl⟩
        · rw [upd_other _ _ hca] at hIc ⊢
          by_cases hcb : c = b
          · subst hcb; rw [upd_same] at hIc; cases hIc
          · rw [upd_other _ _ hcb] at hIc ⊢
            obtain ⟨h3, h4⟩ := h.not c hc hIc
            rw [if_neg (fun e => hcb (nm_inj hc hb e.2)), if_neg (fun e => hca (nm_inj hc ha e)), h3]; exact ⟨rfl, h4⟩
  · rw [h1]; exact .inl ⟨hI, rfl, h⟩
theorem plain_names (h : Plain s F I) (hd : s.dead = false) (x y : ByteArray) (l : List Nat) : (act s 4 x y l).2 = 0 ∧ Plain (act s 4 x y l).1 F I := by
  show (if s.dead then 51 else 0) = 0 ∧ Plain s.syncNames F I
  unfold DS.syncNames
  rw [hd]
  exact ⟨rfl, h.has, h.not⟩
theorem near_name (d : Dd) : d.near.name = nm (d.name.size % 3) ∧ d.near.to = nm (d.to.size % 3) := ⟨(nm_mod _).symm, (nm_mod _).symm⟩
end Go.Proofs.Ytbkkcbdbdogloaa
