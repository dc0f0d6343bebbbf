/-
  THE DOCUMENT'S DISK: a fall, walked: the files that are left. Conditions: those of each theorem.
-/
import Derived.Test.YtmcmagplaflegaaGreatRz
namespace Go.Proofs.YtmcmagplaflegaaGreat
open Go Go.RowKit Go.MapL Go.Poised
variable {w w' : World} {p n₀ : Nat} {r : RRep} {d : RD}

/-- A list of files in memory. -/
structure FilesAt (w : World) (b : Nat) (v : Value) (l : List FileS) (bv : Nat → Value) : Prop where
  row : w.ownsRow b 175 2 v l.length (encF bv l)
  data : ∀ i, i < l.length → w.ownsRow b 5 1 (bv i) (l.getD i ⟨[], 0⟩).b.length (encB (l.getD i ⟨[], 0⟩).b)
  inj : ∀ i j, i < l.length → j < l.length → i ≠ j → (bv i).ownBlock ≠ none → (bv i).ownBlock ≠ (bv j).ownBlock
theorem FilesAt.nil (w : World) (b : Nat) (bv : Nat → Value) : FilesAt w b (.slice none 0 0) [] bv := ⟨World.ownsRow_nil _ _ _ _, fun _ hi => absurd hi (Nat.not_lt_zero _), fun _ _ hi => absurd hi (Nat.not_lt_zero _)⟩
theorem FilesAt.below {b : Nat} {v : Value} {l : List FileS} {bv : Nat → Value} (h : FilesAt w b v l bv) (hb : Below w.heap.size w w') : FilesAt w' b v l bv := ⟨own_kept h.row hb, fun i hi => own_kept (h.data i hi) hb, h.inj⟩
theorem flatMap_same {α β : Type} {f g : α → List β} : ∀ {l : List α}, (∀ x ∈ l, f x = g x) → l.flatMap f = l.flatMap g
  | [], _ => rfl
  | x :: l, h => by rw [List.flatMap_cons, List.flatMap_cons, h x (.head _), flatMap_same (fun y hy => h y (.tail _ hy))]
theorem encF_push (bv : Nat → Value) (l : List FileS) (x : Value) (f : FileS) : encF (upd bv l.length x) (l ++ [f]) = encF bv l ++ [x, .int .i64 (f.mark : Nat)] := by
  unfold encF
  rw [List.length_append, List.length_singleton, List.range_succ, List.flatMap_append]
  congr 1
  · refine flatMap_same fun i hi => ?_
    have hi' := List.mem_range.1 hi
    unfold encF1
    rw [upd_other _ _ (by omega), List.getD_eq_getElem?_getD, List.getD_eq_getElem?_getD, List.getElem?_append_left hi']
  · unfold encF1
    simp [upd_same]
theorem FilesAt.push {b : Nat} {v v' x : Value} {l : List FileS} {bv : Nat → Value} {f : FileS} (h : FilesAt w b v l bv)
    (hrow : w'.ownsRow b 175 2 v' (l.length + 1) (encF bv l ++ [x, .int .i64 (f.mark : Nat)])) (hx : w'.ownsRow b 5 1 x f.b.length (encB f.b))
    (hold : ∀ i, i < l.length → w'.ownsRow b 5 1 (bv i) (l.getD i ⟨[], 0⟩).b.length (encB (l.getD i ⟨[], 0⟩).b)) (hne : ∀ g, x.ownBlock = some g → w.heap.size ≤ g) : FilesAt w' b v' (l ++ [f]) (upd bv l.length x) where
  row := by rw [encF_push, List.length_append]; exact hrow
  data := fun i hi => by
    rw [List.length_append, List.length_singleton] at hi
    by_cases e : i = l.length
    · subst e
      rw [upd_same]
      have : (l ++ [f]).getD l.length ⟨[], 0⟩ = f := by simp [List.getD_eq_getElem?_getD]
      rw [this]; exact hx
    · rw [upd_other _ _ e, List.getD_eq_getElem?_getD, List.getElem?_append_left (by omega), ← List.getD_eq_getElem?_getD]
      exact hold i (by omega)
  inj := fun i j hi hj hij => by
    rw [List.length_append, List.length_singleton] at hi hj
    have old : ∀ i, i < l.length → ∀ g, (bv i).ownBlock = some g → g < w.heap.size := fun i hi g hg => ((h.data i hi).lt g hg).2
    by_cases e : i = l.length
    · subst e
      rw [upd_same, upd_other _ _ (fun e => hij e.symm)]
      intro hn e2
      cases hx : x.ownBlock with
      | none => exact hn hx
      | some g =>
        rw [hx] at e2
        have h1 := hne g hx
        have h2 := old j (by omega) g e2.symm
        omega
    · rw [upd_other _ _ e]
      by_cases e2 : j = l.length
      · subst e2
        rw [upd_same]
        intro hn e3
        cases hx : (bv i).ownBlock with
        | none => exact hn hx
        | some g =>
          rw [hx] at e3
          have h1 := hne g e3.symm
          have h2 := old i (by omega) g hx
          omega
      · rw [upd_other _ _ e2]
        exact h.inj i j (by omega) (by omega) hij
/-! ### lengths -/
theorem innerN_len (i k : Nat) : ∀ (m acc : NL), (innerN m i k acc).length ≤ acc.length + (m.filter fun q => q.2 == i).length
  | [], acc => by simp [innerN]
  | q :: m, acc => by
    have e : innerN (q :: m) i k acc = innerN m i k (if q.2 = i then withN q.1 k acc else acc) := rfl
    rw [e]
    have := innerN_len i k m (if q.2 = i then withN q.1 k acc else acc)
    by_cases hq : q.2 = i
    · rw [if_pos hq] at this ⊢
      rw [List.filter_cons_of_pos (by simpa using hq), List.length_cons]
      have h2 : (withN q.1 k acc).length ≤ acc.length + 1 := by
        unfold withN; rw [(insN_perm _ _ _).length_eq, List.length_cons]; exact Nat.succ_le_succ (without_len _ _)
      omega
    · rw [if_neg hq] at this ⊢
      rw [List.filter_cons_of_neg (by simpa using hq)]
      exact this
theorem filter_lt_succ (m : NL) (n : Nat) : (m.filter fun q => decide (q.2 < n + 1)).length = (m.filter fun q => decide (q.2 < n)).length + (m.filter fun q => q.2 == n).length := by
  induction m with
  | nil => rfl
  | cons q m ih =>
    by_cases h1 : q.2 < n
    · rw [List.filter_cons_of_pos (by simp; omega), List.filter_cons_of_pos (by simpa using h1), List.filter_cons_of_neg (by simp; omega), List.length_cons, List.length_cons, ih]; omega
    · by_cases h2 : q.2 = n
      · rw [List.filter_cons_of_pos (by simp; omega), List.filter_cons_of_neg (by simpa using h1), List.filter_cons_of_pos (by simpa using h2), List.length_cons, List.length_cons, ih]; omega
      · rw [List.filter_cons_of_neg (by simp; omega), List.filter_cons_of_neg (by simpa using h1), List.filter_cons_of_neg (by simpa using h2), ih]
theorem crAll_most (keep : List Int) (m : NL) (old : List FileS) : ∀ n, (crAll keep m old n).2.length ≤ (m.filter fun q => decide (q.2 < n)).length
  | 0 => by simp [crAll]
  | n + 1 => by
    rw [crAll_succ, filter_lt_succ]
    have h1 := crAll_most keep m old n
    have h2 := innerN_len n (crAll keep m old n).1.length m (crAll keep m old n).2
    exact Nat.le_trans h2 (by omega)
theorem crAll_names_len (keep : List Int) (m : NL) (old : List FileS) (n : Nat) : (crAll keep m old n).2.length ≤ m.length := Nat.le_trans (crAll_most keep m old n) (List.length_filter_le _ _)
theorem posIn_le (m : NL) (n : Nat) : posIn m n ≤ n := by
  unfold posIn
  have := List.length_filter_le (heldIn m) (List.range n)
  rw [List.length_range] at this
  exact this
theorem aft_succ (d : RD) (k : Nat) (hk : k < d.works.length) : d.aft (k + 1) = doesR (d.aft k) d.works[k] := by
  unfold RD.aft
  rw [List.take_succ_eq_append_getElem hk, List.foldl_append]; rfl
theorem aft_len (d : RD) : ∀ k, k ≤ d.works.length → (d.aft k).length ≤ d.kept.length + k
  | 0, _ => by simp [RD.aft]
  | k + 1, hk => by
    rw [aft_succ d k (by omega)]
    have := aft_len d k (by omega)
    have := doesR_len (d.aft k) d.works[k]
    omega
theorem RLies.workCells (h : RLies w p n₀ r d) {k : Nat} (hk : k < d.works.length) : ∃ g cap, r.wv = .slice (some ⟨g, 0, none⟩) d.works.length cap ∧ g < w.heap.size ∧ w.cell? ⟨g, k * 3, none⟩ = some (.string d.works[k].1) ∧ w.cell? ⟨g, k * 3 + 1, none⟩ = some (.string d.works[k].2.1) ∧ w.cell? ⟨g, k * 3 + 2, none⟩ = some (.int .i64 (fInt d.works[k].2.2)) := by
  obtain ⟨g, cap, h1, h2, h3⟩ := flat_cells (enc := encWR) (z := 3) (fun _ => rfl) h.works k hk
  exact ⟨g, cap, h1, h2, h3 0 (by omega), h3 1 (by omega), h3 2 (by omega)⟩
end Go.Proofs.YtmcmagplaflegaaGreat
