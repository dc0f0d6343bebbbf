/-
 A JOURNAL THAT IS OPENED TELLS ITS RECORDS: the statement, walked. Conditions: those of each theorem.
 What the cards of this seat share: a world in which the listed variable is laid.
-/
import Derived.Test.YtmcmagplaflegaaGreatDoorX12
import Derived.Test.YtmcmagplaflegaaGreatDoorCards
import Derived.Test.YtmcmagplaflegaaGreatDoorTie
import Derived.Test.YtmcmagplaflegaaGreatDoorX9
import Derived.Lay

namespace Go.Proofs.YtmcmagplaflegaaGreatDoor
open Go Go.RowKit Go.MapL Go.Poised

theorem ArgB.below {w w' : World} {v : Value} {l : List Nat} (h : ArgB w v l) (hb : Below w.heap.size w w') : ArgB w' v l := ⟨h.1.below hb, h.2⟩
theorem ArgR.below {w w' : World} {v : Value} {L : List (Value × List Nat)} (h : ArgR w v L) (hb : Below w.heap.size w w') : ArgR w' v L := by
 obtain ⟨h1, ⟨p, cap, e, hc, hcell⟩, h2⟩ := h
 refine ⟨h1, ⟨p, cap, e, hc, fun k hk => ?_⟩, fun q hq => (h2 q hq).below hb⟩
 obtain ⟨b, off, e2, hx⟩ := hcell k hk
 exact ⟨b, off, e2, (hb.cell (p := ⟨b, off + k, none⟩) (lt_of_cell hx)).trans hx⟩
theorem sizesB_app : ∀ (L R : List (List Nat)), sizesB (L ++ R) = sizesB L + sizesB R
 | [], R => by simp [sizesB]
 | b :: L, R => by show b.length + 20 + sizesB (L ++ R) = b.length + 20 + sizesB L + _; rw [sizesB_app L R]; omega

end Go.Proofs.YtmcmagplaflegaaGreatDoor

namespace Go.Proofs.YtmcmagplaflegaaGreatDoor
open Go Go.ChangeShapes Go.WideShapes Go.ChangeAt Go.RowKit Go.WideMaps Go.LawKit

noncomputable def laidDoor (os : Os) : World := World.laidAll Tryz.prog os [("bytes.ErrTooLarge", Rows.laid_bytes_ErrTooLarge)]
theorem laidDoor_met (os : Os) (args : Array Value) : laidMet Tryz.prog [("bytes.ErrTooLarge", Rows.laid_bytes_ErrTooLarge)] ((laidDoor os).forCall (fun _ _ => 0) ⟨#[], args, []⟩).memory :=
 laidMet_laidAll args (by kernel_rfl) (by kernel_rfl)
end Go.Proofs.YtmcmagplaflegaaGreatDoor
