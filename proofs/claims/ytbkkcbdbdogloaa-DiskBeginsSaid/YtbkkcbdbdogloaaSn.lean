/-
  SameNames, of the same. Conditions: those of each theorem.
-/
import Derived.Test.YtbkkcbdbdogloaaRw
namespace Go.Proofs.Ytbkkcbdbdogloaa
open Go Go.RowKit Go.MapL Go.Poised

theorem texts_cell {w : World} {n : Nat} {v : Value} {l : List ByteArray} (h : w.ownsRow n 9 1 v l.length (l.map Value.string)) (k : Nat) (hk : k < l.length) : ∃ g cap, v = .slice (some ⟨g, 0, none⟩) l.length cap ∧ w.cell? ⟨g, k, none⟩ = some (.string l[k]) := by
  have h' : w.ownsRow n 9 1 v (l.map Value.string).length (l.map Value.string) := by rw [List.length_map]; exact h
  obtain ⟨g, cap, h1, h2⟩ := own_cell h' k (.string l[k]) (by simp [hk])
  rw [List.length_map] at h1
  exact ⟨g, cap, h1, h2⟩
set_option maxHeartbeats 2000000 in
theorem sameNames_any (v u : Value) (l : List ByteArray) (w : World) (n : Nat) (hl : l.length ≤ 1000000000) (hv : w.ownsRow n 9 1 v l.length (l.map Value.string)) (hu : w.ownsRow n 9 1 u l.length (l.map Value.string)) :
    Calls Try.prog 24 #[v, u] w fun e w' => e = .returned (.bool true) ∧ Below w.heap.size w w' := by
  have hc := texts_cell hv
  have hd := texts_cell hu
  obtain ⟨vq, vcap, rfl⟩ := own_shape hv
  obtain ⟨uq, ucap, rfl⟩ := own_shape hu
  have hne : ((l.length : Int) != (l.length : Int)) = false := by simp
  go_enter Try.func24, Try.ntmps24
  go_wp2
  go_loopw [5] (fun i wr => ∃ k : Nat, k ≤ l.length ∧ i = .int .i64 k ∧ Below w.heap.size w wr) (fun i _ => l.length - (intOf i).toNat)
  case atStart => exact ⟨0, by omega, rfl, Below.refl _ _⟩
  case round =>
    obtain ⟨k, hk, rfl, hB⟩ := hrel
    by_cases hlt : k < l.length
    · obtain ⟨g, cap, e1, hcb⟩ := hc k hlt
      obtain ⟨g', cap', e2, hdb⟩ := hd k hlt
      cases e1
      cases e2
      have hcell : wr.cell? ⟨g, k, none⟩ = some (.string l[k]) := (hB.cell (p := ⟨g, k, none⟩) (lt_of_cell hcb)).trans hcb
      have hdell : wr.cell? ⟨g', k, none⟩ = some (.string l[k]) := (hB.cell (p := ⟨g', k, none⟩) (lt_of_cell hdb)).trans hdb
      clear hc hd hcb hdb
      generalize l[k] = x at *
      have hxx : (x.toList != x.toList) = false := by simp
      have hxy : (x.toList == x.toList) = true := by simp
      have k1 : (0 : Int) ≤ (k : Int) := by omega
      have k2 : (k : Int) < (l.length : Int) := by omega
      go_wp2
      go_quiet (fail)
      go_wp2
      go_roundw
      case rel => exact ⟨k + 1, by omega, by go_num, ⟨hB.1, hB.2, hB.3, hB.4, hB.5⟩⟩
      case measure => simp [intOf]; omega
    · go_wp2
      go_returns
      exact ⟨rfl, hB⟩
end Go.Proofs.Ytbkkcbdbdogloaa
