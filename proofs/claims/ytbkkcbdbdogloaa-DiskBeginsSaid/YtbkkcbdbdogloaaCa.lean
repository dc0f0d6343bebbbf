/-
  What the rows of this seat share.
-/
import Derived.Test.YtbkkcbdbdogloaaRows
import Derived.Test.YtbkkcbdbdogloaaKit
import Derived.Test.YtbkkcbdbdogloaaFe
namespace Go.Proofs.Ytbkkcbdbdogloaa
open Go Go.ChangeShapes Go.WideShapes Go.ChangeAt Go.RowKit Go.WideMaps Go.LawKit

theorem own : ownKnob Try.prog.godebug = none := by kernel_rfl
theorem laidOut : laidOutB Try.prog = true := by kernel_rfl
noncomputable def laidWorld (os : Os) : World := World.holding Try.prog os ⟨#[], #[], []⟩
theorem wf_i64 {a : Int} (h : (Lit.int .i64 a).wf = true) : -9223372036854775808 ≤ a ∧ a ≤ 9223372036854775807 := by
  simp [Lit.wf, IntKind.min, IntKind.max, IntKind.signed, IntKind.bits] at h
  omega
end Go.Proofs.Ytbkkcbdbdogloaa
