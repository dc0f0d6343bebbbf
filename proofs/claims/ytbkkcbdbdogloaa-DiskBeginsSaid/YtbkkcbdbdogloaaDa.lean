/-
  THE DISK's SMALL FUNCTIONS: what each does. Conditions: those of each theorem.
-/
import Derived.Test.YtbkkcbdbdogloaaDk
import Derived.WalkSpells
namespace Go.Proofs.Ytbkkcbdbdogloaa
open Go Go.RowKit Go.MapL

variable {p n₀ : Nat} {r : Rep} {s : DS}

set_option maxRecDepth 100000 in
theorem none_at (w : World) (h : Lies w p n₀ r s) :
    Calls Try.prog 44 #[ofBlock p] w fun e w' => e = .returned (.bool false) ∧ w' = w := by
  obtain ⟨c0, c1, c2, c3, c4, c5, c6, c7⟩ := h.cells
  have hq := fun w => run_eql_map_nil (P := Try.prog) w 55 9 65 (some r.bn) Try.underlying55
  unfold ofBlock
  go_enter Try.func44, Try.ntmps44
  go_wp2
  go_returns
  exact ⟨rfl, rfl⟩

set_option maxRecDepth 100000 in
theorem away_at (w : World) (h : Lies w p n₀ r s) :
    Calls Try.prog 30 #[ofBlock p] w fun e w' => e = .returned (.int .i64 (if s.dead then 51 else 0)) ∧ w' = w := by
  obtain ⟨c0, c1, c2, c3, c4, c5, c6, c7⟩ := h.cells
  have hn := none_at w h
  unfold ofBlock at *
  cases hd : s.dead
  all_goals
    rw [hd] at c5
    go_enter Try.func30, Try.ntmps30
    go_wp2_with (go_at_call 44; refine hn.mono ?_; rintro e w' ⟨rfl, rfl⟩)
    go_returns
    exact ⟨rfl, rfl⟩

theorem isName_any (x : ByteArray) (w : World) :
    Calls Try.prog 31 #[.string x] w fun e w' => e = .returned (.bool (decide (1 ≤ x.size) && decide (x.size ≤ 40))) ∧ w' = w := by
  by_cases h1 : 1 ≤ x.size
  · by_cases h2 : x.size ≤ 40
    · have e1 : decide (1 ≤ x.size) = true := by simpa using h1
      have e2 : decide (x.size ≤ 40) = true := by simpa using h2
      go_enter Try.func31, Try.ntmps31
      go_wp2
      go_returns
      exact ⟨by simp [e1, e2]; omega, rfl⟩
    · have e1 : decide (1 ≤ x.size) = true := by simpa using h1
      have e2 : decide (x.size ≤ 40) = false := by simpa using h2
      go_enter Try.func31, Try.ntmps31
      go_wp2
      go_returns
      exact ⟨by simp [e1, e2]; omega, rfl⟩
  · have e1 : decide (1 ≤ x.size) = false := by simpa using h1
    go_enter Try.func31, Try.ntmps31
    go_wp2
    go_returns
    exact ⟨by simp, rfl⟩
end Go.Proofs.Ytbkkcbdbdogloaa
