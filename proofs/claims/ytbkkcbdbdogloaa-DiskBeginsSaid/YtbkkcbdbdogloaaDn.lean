/-
  THE ROOM THAT IS USED. Conditions: those of each theorem.
-/
import Derived.Test.YtbkkcbdbdogloaaDm
import Derived.RegionTactic
import Derived.Carry
import Derived.ChangeAlike
namespace Go.MapL
theorem RangeAt.left_eq {α β : Type} [DecidableEq α] {mk : α → Value} {mv : β → Value} {w : World} {r b : Nat} {l todo : List (α × β)} (h : RangeAt mk mv w r b l todo) : w.rangeLeft b r = todo.length := by
  obtain ⟨_, es, clock, since, seen, c0, hb, _, _, _, _, hr, _, _, hl⟩ := h
  have := congrArg List.length hl
  simp [World.rangeLeft, hb, hr] at this ⊢
  exact this
end Go.MapL
namespace Go.Proofs.Ytbkkcbdbdogloaa
open Go Go.RowKit Go.MapL Go.Poised

def unitV (_ : Unit) : Value := .agg #[]
def setL (D : List Nat) : List (Nat × Unit) := D.map fun b => (b, ())
theorem put_set (b : Nat) (D : List Nat) : put b () (setL D) = setL (if b ∈ D then D else D ++ [b]) := by
  induction D with
  | nil => rfl
  | cons x D ih =>
    unfold setL put
    by_cases h : x = b
    · subst h; simp
    · simp only [List.map_cons, h, if_false]
      have hb : ¬ b = x := fun e => h e.symm
      have : put b () (List.map (fun b => (b, ())) D) = setL (if b ∈ D then D else D ++ [b]) := ih
      rw [this]
      by_cases hm : b ∈ D
      · simp [hm, setL]
      · simp [hm, hb, setL]

/-- Is it a file that has a name, or one that was kept? -/
def held (s : DS) (i : Nat) : Bool := (s.names ++ s.kept).any fun p => p.2 == i
def usedOf (s : DS) : Nat := ((List.range s.births).map fun j => if held s (j + 1) then (s.file (j + 1)).b.length else 0).sum

theorem getD_cell {w : World} {B : Nat} {x y : Value} {t : TypeId} (h : w.heap[B]? = some (.cells #[x, y] t)) : w.cell? ⟨B, 0, none⟩ = some x ∧ w.cell? ⟨B, 1, none⟩ = some y := by
  simp [World.cell?, h]
/-- The pairs of the first k maps. -/
def upTo (s : DS) : Nat → List (ByteArray × Nat)
  | 0 => []
  | 1 => s.names
  | _ => s.names ++ s.kept

/-- Whose block it is. -/
def inv (r : Rep) (s : DS) (b : Nat) : Nat := (((List.range s.births).find? fun j => r.ad (j + 1) == b).map (· + 1)).getD 0
theorem inv_ad {w : World} {p n₀ : Nat} {r : Rep} {s : DS} (h : Lies w p n₀ r s) (i : Nat) (h1 : 1 ≤ i) (h2 : i ≤ s.births) : inv r s (r.ad i) = i := by
  unfold inv
  cases hf : (List.range s.births).find? fun j => r.ad (j + 1) == r.ad i with
  | none =>
    rw [List.find?_eq_none] at hf
    have := hf (i - 1) (by simp; omega)
    rw [show i - 1 + 1 = i by omega] at this
    simp at this
  | some j =>
    have h3 := List.find?_some hf
    have h4 := List.mem_of_find?_eq_some hf
    simp at h3 h4
    simpa using h.adInj (j + 1) i (by omega) (by omega) h1 h2 h3

theorem sum_filter {α : Type} (q : α → Bool) (f : α → Nat) : ∀ l : List α, ((l.filter q).map f).sum = (l.map fun x => if q x then f x else 0).sum
  | [] => rfl
  | x :: l => by
    have := sum_filter q f l
    by_cases h : q x <;> simp [h, this]
theorem sum_le {α : Type} (f : α → Nat) (m : Nat) (h : ∀ x, f x ≤ m) : ∀ l : List α, (l.map f).sum ≤ l.length * m
  | [] => by simp
  | x :: l => by
    have h1 := sum_le f m h l
    have h2 := h x
    simp only [List.map_cons, List.sum_cons, List.length_cons, Nat.add_mul, Nat.one_mul]
    omega
/-- The blocks of the files that are held, each once: their sizes together are the room that is used. -/
theorem used_sum {w : World} {p n₀ : Nat} {r : Rep} {s : DS} (h : Lies w p n₀ r s) (hwf : WF s) (D : List Nat) (hnd : D.Nodup) (hm : ∀ b, b ∈ D ↔ ∃ q ∈ upTo s 2, b = r.ad q.2) :
    (D.map fun b => (s.file (inv r s b)).b.length).sum = usedOf s ∧ D.length ≤ s.births := by
  have hheld : ∀ i, held s i = true ↔ ∃ q ∈ upTo s 2, q.2 = i := by
    intro i
    show ((s.names ++ s.kept).any fun p => p.2 == i) = true ↔ ∃ q ∈ s.names ++ s.kept, q.2 = i
    rw [List.any_eq_true]
    constructor
    · rintro ⟨q, hq, h⟩; exact ⟨q, hq, by simpa using h⟩
    · rintro ⟨q, hq, h⟩; exact ⟨q, hq, by simpa using h⟩
  have hD : D.Perm (((List.range s.births).filter fun j => held s (j + 1)).map fun j => r.ad (j + 1)) := by
    rw [List.perm_ext_iff_of_nodup hnd]
    · intro b
      rw [hm b, List.mem_map]
      constructor
      · rintro ⟨q, hq, rfl⟩
        have hb : 1 ≤ q.2 ∧ q.2 ≤ s.births := by
          rcases List.mem_append.1 hq with hq | hq
          · exact hwf.names q hq
          · exact hwf.kept q hq
        refine ⟨q.2 - 1, ?_, by rw [show q.2 - 1 + 1 = q.2 by omega]⟩
        rw [List.mem_filter]
        refine ⟨by simp; omega, ?_⟩
        rw [show q.2 - 1 + 1 = q.2 by omega, hheld]
        exact ⟨q, hq, rfl⟩
      · rintro ⟨j, hj, rfl⟩
        rw [List.mem_filter] at hj
        obtain ⟨q, hq, hj2⟩ := (hheld _).1 hj.2
        exact ⟨q, hq, by rw [hj2]⟩
    · have key : ∀ l : List Nat, l.Nodup → (∀ j ∈ l, j < s.births) → (l.map fun j => r.ad (j + 1)).Nodup := by
        intro l
        induction l with
        | nil => intro _ _; simp
        | cons x l ih =>
          intro hn hl
          simp only [List.nodup_cons] at hn
          simp only [List.map_cons, List.nodup_cons]
          refine ⟨?_, ih hn.2 (fun j hj => hl j (.tail _ hj))⟩
          intro hx
          obtain ⟨y, hy, e⟩ := List.mem_map.1 hx
          have h1 := hl x (.head _)
          have h2 := hl y (.tail _ hy)
          have := h.adInj (y + 1) (x + 1) (by omega) (by omega) (by omega) (by omega) e
          exact hn.1 (by rw [show x = y by omega]; exact hy)
      exact key _ (List.nodup_range.filter _) (fun j hj => by rw [List.mem_filter] at hj; simpa using hj.1)
  constructor
  · rw [(hD.map _).sum_nat, List.map_map, sum_filter]
    unfold usedOf
    congr 1
    apply List.map_congr_left
    intro j hj
    simp at hj
    simp only [Function.comp]
    rw [inv_ad h (j + 1) (by omega) (by omega)]
  · rw [hD.length_eq, List.length_map]
    exact Nat.le_trans (List.length_filter_le _ _) (by simp)
end Go.Proofs.Ytbkkcbdbdogloaa
