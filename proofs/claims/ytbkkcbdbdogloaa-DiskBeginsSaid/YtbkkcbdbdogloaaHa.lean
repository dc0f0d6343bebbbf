/-
  has, where it is so. Conditions: those of each theorem.
-/
import Derived.Test.YtbkkcbdbdogloaaFe
namespace Go.Proofs.Ytbkkcbdbdogloaa
open Go Go.RowKit Go.MapL Go.Poised
variable {p n₀ : Nat} {r : Rep} {s : DS} {m : Nat}

set_option maxRecDepth 100000 in
set_option maxHeartbeats 8000000 in
theorem has_any (x y : ByteArray) (b : List Nat) (w : World) (h : Lies w p n₀ r s) (hs : Sound m s) (hm : m ≤ 536870912) (hn : namesOf s = [x]) (hr : readRes s x = (b, 0)) (hb : txt b = y) :
    Calls Try.prog 46 #[ofBlock p, .string x, .string y] w fun e w' => e = .returned (.bool true) ∧ Below w.heap.size w w' := by
  have hre := read_at x w h hs.wf
  rw [hr] at hre
  have hby : ∀ z ∈ b, z < 256 := by
    intro z hz
    unfold readRes at hr
    split at hr
    · cases hr
    · split at hr
      · cases hr
      · cases hr; exact hs.wf.bytes _ z hz
  have hbl : b.length ≤ 16777216 := by
    unfold readRes at hr
    split at hr
    · cases hr
    · split at hr
      · cases hr
      · cases hr; exact hs.wf.len _
  have hna := fun w1 (hb1 : Below w.heap.size w w1) => names_at w1 (h.below hb1) hs.tn (by have := hs.nn; omega)
  rw [hn] at hna
  simp only [List.length_cons, List.length_nil, List.map_cons, List.map_nil] at hna
  subst hb
  clear hr hn
  unfold ofBlock at *
  have hxx : (x.toList == x.toList) = true := by simp
  have hyy : ((txt b).toList == (txt b).toList) = true := by simp
  go_enter Try.func46, Try.ntmps46
  go_wp2_with (first | (go_at_call 14; refine hre.mono ?_; rintro e w1 ⟨v, rfl, hv, hb1⟩; have hna1 := hna w1 hb1) | (go_at_call 19; refine hna1.mono ?_; rintro e w2 ⟨v2, rfl, hv2, hb2⟩; obtain ⟨g, cap, rfl, hc0⟩ := own_cell hv2 0 (.string x) rfl; have hst := run_string_of w2 v b ((bytesIn_of_own hv hby (by omega)).below hb2)))
  go_returns
  exact ⟨rfl, hb1.trans (hb2.mono hb1.size)⟩

theorem names_one {x : ByteArray} (h1 : s.dead = false) (h2 : s.names.map (·.1) = [x]) : namesOf s = [x] := by
  unfold namesOf
  rw [h1, h2]
  exact List.perm_singleton.1 (sortedN_perm [x])
theorem names_none (h2 : s.names.map (·.1) = []) : namesOf s = [] := by
  unfold namesOf
  rw [h2]
  have := (sortedN_perm []).length_eq
  split
  · rfl
  · exact List.length_eq_zero_iff.1 this

def ta : ByteArray := ⟨#[97]⟩
def tb : ByteArray := ⟨#[98]⟩
def dA : Dd := ⟨0, ta, ⟨#[]⟩, [120, 121], 0, 0, []⟩
def dSync : Dd := ⟨1, ta, ⟨#[]⟩, [], 0, 0, []⟩
def dNames : Dd := ⟨4, ⟨#[]⟩, ⟨#[]⟩, [], 0, 0, []⟩
def dZ : Dd := ⟨0, ta, ⟨#[]⟩, [122], 0, 0, []⟩
def dB : Dd := ⟨0, tb, ⟨#[]⟩, [49], 0, 0, []⟩
def dBs : Dd := ⟨1, tb, ⟨#[]⟩, [], 0, 0, []⟩
def dTo : Dd := ⟨2, tb, ta, [], 0, 0, []⟩
theorem awake1 : (fellS [] [dA, dSync]).names.map (·.1) = [] := by kernel_rfl
theorem awake2 : (fellS [] [dA, dNames]).names.map (·.1) = [ta] := by kernel_rfl
theorem awake2d : (fellS [] [dA, dNames]).dead = false := by kernel_rfl
theorem awake2r : readRes (fellS [] [dA, dNames]) ta = ([], 0) := by kernel_rfl
theorem awake3r : readRes (fellS [] [dA, dSync, dNames, dZ]) ta = ([120, 121], 0) := by kernel_rfl
theorem awake5r : readRes (fellS [2] [dA, dSync, dNames, dZ, dB, dBs, dTo]) ta = ([49], 0) := by kernel_rfl
end Go.Proofs.Ytbkkcbdbdogloaa
