/-
  WHAT FELL ONCE STAYS: in plain Lean. Conditions: those of each theorem.
-/
import Derived.Test.YtbkkcbdbdogloaaKq
namespace Go.Proofs.Ytbkkcbdbdogloaa
open Go Go.RowKit Go.MapL Go.Poised
variable {s : DS}

/-- A disk behind a fall. -/
structure Fallen (s : DS) : Prop where
  same : s.kept = s.names
  works : s.works = []
  full : ∀ q ∈ s.names, (s.file q.2).mark = (s.file q.2).b.length
theorem crash_keeps (keep : List Int) (i : Nat) : ∀ (l : List Nat) (s : DS) (k : Nat), (s.file i).mark = (s.file i).b.length → ((crashFiles keep s k l).file i).mark = ((crashFiles keep s k l).file i).b.length
  | [], _, _, h => h
  | j :: l, s, k, h => by
    refine crash_keeps keep i l (crashFile keep s k j) (k + 1) ?_
    by_cases hj : i = j
    · subst hj
      show (upd s.file i _ i).mark = (upd s.file i _ i).b.length
      rw [upd_same]
      have := brought_le keep (1 + k) ((s.file i).b.length - (s.file i).mark)
      simp only [List.length_take]
      omega
    · show (upd s.file j _ i).mark = (upd s.file j _ i).b.length
      rw [upd_other _ _ hj]; exact h
theorem crash_full (keep : List Int) (i : Nat) : ∀ (l : List Nat) (s : DS) (k : Nat), (∀ j, (s.file j).mark ≤ (s.file j).b.length) → i ∈ l → ((crashFiles keep s k l).file i).mark = ((crashFiles keep s k l).file i).b.length
  | j :: l, s, k, hm, hi => by
    have hnew : (upd s.file j ⟨(s.file j).b.take ((s.file j).mark + brought keep (1 + k) ((s.file j).b.length - (s.file j).mark)), (s.file j).mark + brought keep (1 + k) ((s.file j).b.length - (s.file j).mark)⟩ j).mark = (upd s.file j ⟨(s.file j).b.take ((s.file j).mark + brought keep (1 + k) ((s.file j).b.length - (s.file j).mark)), (s.file j).mark + brought keep (1 + k) ((s.file j).b.length - (s.file j).mark)⟩ j).b.length := by
      rw [upd_same]
      have := brought_le keep (1 + k) ((s.file j).b.length - (s.file j).mark)
      have := hm j
      simp only [List.length_take]
      omega
    rcases List.mem_cons.1 hi with rfl | hi
    · exact crash_keeps keep i l (crashFile keep s k i) (k + 1) hnew
    · refine crash_full keep i l (crashFile keep s k j) (k + 1) (fun x => ?_) hi
      by_cases hx : x = j
      · subst hx; exact Nat.le_of_eq hnew
      · show (upd s.file j _ x).mark ≤ (upd s.file j _ x).b.length
        rw [upd_other _ _ hx]; exact hm x
theorem fallen_crash (hwf : WF s) (hd : s.dead = false) (keep : List Int) : Fallen (s.crash keep).boot := by
  unfold DS.crash
  rw [hd]
  simp only [Bool.false_eq_true, if_false]
  refine ⟨rfl, rfl, fun q hq => ?_⟩
  exact crash_full keep q.2 _ s 0 hwf.mark ((rising_perm _).symm.subset (List.mem_map_of_mem hq))
theorem crash_same (keep : List Int) : ∀ (l : List Nat) (s : DS) (k : Nat), (∀ i ∈ l, (s.file i).mark = (s.file i).b.length) → crashFiles keep s k l = s
  | [], _, _, _ => rfl
  | i :: l, s, k, h => by
    have h1 := h i (.head _)
    have h0 : brought keep (1 + k) ((s.file i).b.length - (s.file i).mark) = 0 := by
      have := brought_le keep (1 + k) ((s.file i).b.length - (s.file i).mark); omega
    have e : crashFile keep s k i = s := by
      unfold crashFile
      rw [h0]
      have : upd s.file i ⟨(s.file i).b.take ((s.file i).mark + 0), (s.file i).mark + 0⟩ = s.file := by
        funext x
        by_cases hx : x = i
        · subst hx; rw [upd_same, Nat.add_zero, h1, List.take_length, ← h1]
        · rw [upd_other _ _ hx]
      rw [this]
    show crashFiles keep (crashFile keep s k i) (k + 1) l = s
    rw [e]
    exact crash_same keep l s (k + 1) (fun j hj => h j (.tail _ hj))
theorem crash_fallen (h : Fallen s) (hd : s.dead = false) (keep : List Int) : s.crash keep = { s with dead := true } := by
  have ha : ∀ n, after s n = s.names := fun n => by unfold after; rw [h.works, h.same]; simp
  unfold DS.crash
  rw [hd]
  simp only [Bool.false_eq_true, if_false, ha]
  rw [crash_same keep _ s 0 (fun i hi => by
    obtain ⟨q, hq, rfl⟩ := List.mem_map.1 ((rising_perm _).subset hi)
    exact h.full q hq)]
  obtain ⟨a, b, c, d, e, f, g⟩ := s
  have h1 := h.same
  have h2 := h.works
  simp only at h1 h2
  subst h1 h2
  rfl
theorem boot_fallen (h : Fallen s) (hd : s.dead = false) (keep : List Int) : (s.crash keep).boot = s := by
  rw [crash_fallen h hd]
  obtain ⟨a, b, c, d, e, f, g⟩ := s
  simp only at hd
  subst hd
  rfl
theorem names_fallen (h : Fallen s) (hd : s.dead = false) (keep : List Int) : namesOf (s.crash keep) = [] := by
  rw [crash_fallen h hd]; rfl
theorem live_boot (keep : List Int) : ((s.crash keep).boot).dead = false := rfl
/-- What is among the names is read. -/
theorem names_read (hd : s.dead = false) {x : ByteArray} (hx : x ∈ namesOf s) : (readRes s x).2 = 0 := by
  unfold namesOf at hx
  rw [hd] at hx
  simp only [Bool.false_eq_true, if_false] at hx
  have hx2 := (sortedN_perm _).subset hx
  unfold readRes
  rw [hd]
  simp only [Bool.false_eq_true, if_false]
  cases hf : fileOf s x with
  | some i => rfl
  | none =>
    exfalso
    unfold fileOf at hf
    obtain ⟨q, hq, rfl⟩ := List.mem_map.1 hx2
    have key : ∀ (l : List (ByteArray × Nat)), q ∈ l → MapL.look q.1 l ≠ none := by
      intro l
      induction l with
      | nil => intro h; cases h
      | cons y l ih =>
        intro h
        show (if y.1 = q.1 then some y.2 else MapL.look q.1 l) ≠ none
        split
        · simp
        · rename_i hne
          rcases List.mem_cons.1 h with rfl | h
          · exact absurd rfl hne
          · exact ih h
    exact key _ hq hf
theorem names_len {m : Nat} (hs : Sound m s) : (namesOf s).length ≤ m := by
  unfold namesOf
  split
  · simp
  · rw [(sortedN_perm _).length_eq, List.length_map]; exact hs.nn
end Go.Proofs.Ytbkkcbdbdogloaa
