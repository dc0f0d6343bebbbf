/-
 TURNED BITS, in plain Lean. Conditions: those of each theorem.
 TURNED BITS ARE SEEN: the statement, walked. Conditions: those of each theorem.
-/
import Derived.Test.YtmcmagplaflegaaGreatDoorX10

namespace Go.Proofs.YtmcmagplaflegaaGreatDoor
open Go Go.RowKit Go.MapL Go.Poised

variable {s : DS} {i mark : Nat} {B : List Nat}
end Go.Proofs.YtmcmagplaflegaaGreatDoor

namespace Go.Proofs.YtmcmagplaflegaaGreatDoor
open Go Go.RowKit Go.MapL Go.Poised

/-- A list's first ones, that lie below. -/
structure FirstAt (w : World) (n : Nat) (u : Value) (M : List (Value × List Nat)) (T : List (List Nat)) : Prop where
 rows : RowsAt w n u M
 eq : M.map (·.2) = T
 each : ∀ l ∈ T, (∀ x ∈ l, x < 256) ∧ l.length ≤ 200
 few : T.length ≤ 20
theorem some_first (v : Value) (A : List (Value × List Nat)) (w : World) (hA : ArgR w v A) :
  Calls Tryz.prog 8 #[v] w fun e w' => ∃ u M, e = .returned u ∧ FirstAt w' w.heap.size u M (firstOnes (A.map (·.2))) ∧ Below w.heap.size w w' := by
 obtain ⟨hin, hn20⟩ := firstOnes_in (L := A.map (·.2)) (fun l hl x hx => by
  obtain ⟨q, hq, rfl⟩ := List.mem_map.1 hl
  exact (hA.2.2 q hq).1.1 x hx)
 refine (some_any v A w hA).mono ?_
 rintro e w' ⟨u, M, rfl, h1, h2, h3⟩
 exact ⟨u, M, rfl, ⟨h1, h2, hin, hn20⟩, h3⟩
theorem FirstAt.list {w : World} {n : Nat} {u : Value} {M : List (Value × List Nat)} {T : List (List Nat)} (h : FirstAt w n u M T) : ListIn w u M :=
 h.rows.list (fun q hq => (h.each q.2 (by rw [← h.eq]; exact List.mem_map_of_mem hq)).1) (fun q hq => by have := (h.each q.2 (by rw [← h.eq]; exact List.mem_map_of_mem hq)).2; omega)
/-- A journal that is opened on a new disk. -/
def jnew (room : Nat) : Jn := ⟨(openD (DS.new room)).1, 0, 0, false⟩
end Go.Proofs.YtmcmagplaflegaaGreatDoor
