/-
  DISKS THAT ARE NONE. Conditions: those of each theorem.
-/
import Derived.Test.YtmcmagplaflegaaGreatQd
namespace Go.Proofs.YtmcmagplaflegaaGreat
open Go Go.RowKit Go.MapL Go.Poised

variable {w w' : World}
/-- No disk: none at all, or one that was never made. -/
def NoD (v : Value) (w : World) : Prop := v = .pointer none ∨ ∃ p, v = .pointer (some ⟨p, 0, none⟩) ∧ p < w.heap.size ∧ w.cell? ⟨p, 2, none⟩ = some (.map none)
theorem NoD.below {v : Value} (h : NoD v w) (hb : Below w.heap.size w w') : NoD v w' := by
  rcases h with h | ⟨J, h1, h2, h3⟩
  · exact .inl h
  · exact .inr ⟨J, h1, Nat.lt_of_lt_of_le h2 hb.size, (hb.cell (p := ⟨J, 2, none⟩) h2).trans h3⟩
set_option maxRecDepth 100000 in
set_option maxHeartbeats 2000000 in
theorem none_none (v : Value) (w : World) (h : NoD v w) : Calls Tryz.prog 49 #[v] w fun e w' => e = .returned (.bool true) ∧ w' = w := by
  rcases h with rfl | ⟨J, rfl, h1, h⟩
  · go_enter Tryz.func49, Tryz.ntmps49
    go_wp2_with fail
    go_returns
    exact ⟨rfl, rfl⟩
  · have hq := fun w => run_eql_map_nil (P := Tryz.prog) w 41 9 70 none Tryz.underlying41
    go_enter Tryz.func49, Tryz.ntmps49
    go_wp2_with fail
    go_returns
    exact ⟨rfl, rfl⟩
set_option maxRecDepth 100000 in
set_option maxHeartbeats 2000000 in
theorem away_none (v : Value) (w : World) (h : NoD v w) : Calls Tryz.prog 39 #[v] w fun e w' => e = .returned (.int .i64 1) ∧ w' = w := by
  have hs := none_none v w h
  clear h
  go_enter Tryz.func39, Tryz.ntmps39
  go_wp2_with (go_at_call 49; refine hs.mono ?_; clear hs; rintro e w1 ⟨rfl, hw1⟩; obtain rfl := hw1.symm)
  go_returns
  exact ⟨rfl, rfl⟩
set_option maxRecDepth 100000 in
set_option maxHeartbeats 2000000 in
theorem read_none (v : Value) (x : ByteArray) (w : World) (h : NoD v w) : Calls Tryz.prog 7 #[v, .string x] w fun e w' => e = .returned (.tuple #[.slice none 0 0, .int .i64 1]) ∧ w' = w := by
  have hs := away_none v w h
  clear h
  go_enter Tryz.func7, Tryz.ntmps7
  go_wp2_with (go_at_call 39; refine hs.mono ?_; clear hs; rintro e w1 ⟨rfl, hw1⟩; obtain rfl := hw1.symm)
  go_returns
  exact ⟨rfl, rfl⟩
set_option maxRecDepth 100000 in
set_option maxHeartbeats 2000000 in
theorem size_none (v : Value) (x : ByteArray) (w : World) (h : NoD v w) : Calls Tryz.prog 8 #[v, .string x] w fun e w' => e = .returned (.tuple #[.int .i64 0, .int .i64 1]) ∧ w' = w := by
  have hs := read_none v x w h
  clear h
  go_enter Tryz.func8, Tryz.ntmps8
  go_wp2_with (go_at_call 7; refine hs.mono ?_; clear hs; rintro e w1 ⟨rfl, hw1⟩; obtain rfl := hw1.symm)
  go_returns
  exact ⟨rfl, rfl⟩
set_option maxRecDepth 100000 in
set_option maxHeartbeats 2000000 in
theorem crash_none (v : Value) (w : World) (h : NoD v w) : Calls Tryz.prog 9 #[v, .slice none 0 0] w fun e w' => e = .returned (.tuple #[]) ∧ w' = w := by
  have hs := away_none v w h
  clear h
  go_enter Tryz.func9, Tryz.ntmps9
  go_wp2_with (go_at_call 39; refine hs.mono ?_; clear hs; rintro e w1 ⟨rfl, hw1⟩; obtain rfl := hw1.symm)
  go_returns
  exact ⟨rfl, rfl⟩
set_option maxRecDepth 100000 in
set_option maxHeartbeats 2000000 in
theorem fail_none (v : Value) (w : World) (h : NoD v w) : Calls Tryz.prog 10 #[v, .int .i64 0, .slice none 0 0] w fun e w' => e = .returned (.tuple #[]) ∧ w' = w := by
  have hs := away_none v w h
  clear h
  go_enter Tryz.func10, Tryz.ntmps10
  go_wp2_with (go_at_call 39; refine hs.mono ?_; clear hs; rintro e w1 ⟨rfl, hw1⟩; obtain rfl := hw1.symm)
  go_returns
  exact ⟨rfl, rfl⟩
set_option maxRecDepth 100000 in
set_option maxHeartbeats 2000000 in
theorem boot_none (v : Value) (w : World) (h : NoD v w) : Calls Tryz.prog 11 #[v] w fun e w' => e = .returned (.tuple #[]) ∧ w' = w := by
  have hs := none_none v w h
  clear h
  go_enter Tryz.func11, Tryz.ntmps11
  go_wp2_with (go_at_call 49; refine hs.mono ?_; clear hs; rintro e w1 ⟨rfl, hw1⟩; obtain rfl := hw1.symm)
  go_returns
  exact ⟨rfl, rfl⟩
set_option maxRecDepth 100000 in
set_option maxHeartbeats 2000000 in
theorem append_none (v : Value) (w : World) (h : NoD v w) : Calls Tryz.prog 12 #[v, .string ⟨#[]⟩, .slice none 0 0] w fun e w' => e = .returned (.int .i64 1) ∧ w' = w := by
  have hs := away_none v w h
  clear h
  go_enter Tryz.func12, Tryz.ntmps12
  go_wp2_with (go_at_call 39; refine hs.mono ?_; clear hs; rintro e w1 ⟨rfl, hw1⟩; obtain rfl := hw1.symm)
  go_returns
  exact ⟨rfl, rfl⟩
set_option maxRecDepth 100000 in
set_option maxHeartbeats 2000000 in
theorem ofN_none (v : Value) (b : Bool) (w : World) (h : NoD v w) : Calls Tryz.prog 54 #[v, .string ⟨#[]⟩, .bool b] w fun e w' => e = .returned (.tuple #[.pointer none, .int .i64 1]) ∧ w' = w := by
  have hs := away_none v w h
  clear h
  go_enter Tryz.func54, Tryz.ntmps54
  go_wp2_with (go_at_call 39; refine hs.mono ?_; clear hs; rintro e w1 ⟨rfl, hw1⟩; obtain rfl := hw1.symm)
  go_returns
  exact ⟨rfl, rfl⟩
set_option maxRecDepth 100000 in
set_option maxHeartbeats 2000000 in
theorem sync_none (v : Value) (w : World) (h : NoD v w) : Calls Tryz.prog 13 #[v, .string ⟨#[]⟩] w fun e w' => e = .returned (.int .i64 1) ∧ w' = w := by
  have hs := ofN_none v true w h
  clear h
  go_enter Tryz.func13, Tryz.ntmps13
  go_wp2_with (go_at_call 54; refine hs.mono ?_; clear hs; rintro e w1 ⟨rfl, hw1⟩; obtain rfl := hw1.symm)
  go_returns
  exact ⟨rfl, rfl⟩
set_option maxRecDepth 100000 in
set_option maxHeartbeats 2000000 in
theorem remove_none (v : Value) (w : World) (h : NoD v w) : Calls Tryz.prog 15 #[v, .string ⟨#[]⟩] w fun e w' => e = .returned (.int .i64 1) ∧ w' = w := by
  have hs := ofN_none v true w h
  clear h
  go_enter Tryz.func15, Tryz.ntmps15
  go_wp2_with (go_at_call 54; refine hs.mono ?_; clear hs; rintro e w1 ⟨rfl, hw1⟩; obtain rfl := hw1.symm)
  go_returns
  exact ⟨rfl, rfl⟩
set_option maxRecDepth 100000 in
set_option maxHeartbeats 2000000 in
theorem syncNames_none (v : Value) (w : World) (h : NoD v w) : Calls Tryz.prog 16 #[v] w fun e w' => e = .returned (.int .i64 1) ∧ w' = w := by
  have hs := away_none v w h
  clear h
  go_enter Tryz.func16, Tryz.ntmps16
  go_wp2_with (go_at_call 39; refine hs.mono ?_; clear hs; rintro e w1 ⟨rfl, hw1⟩; obtain rfl := hw1.symm)
  go_returns
  exact ⟨rfl, rfl⟩
set_option maxRecDepth 100000 in
set_option maxHeartbeats 2000000 in
theorem cut_none (v : Value) (w : World) (h : NoD v w) : Calls Tryz.prog 17 #[v, .string ⟨#[]⟩, .int .i64 (-1)] w fun e w' => e = .returned (.int .i64 1) ∧ w' = w := by
  have hs := away_none v w h
  clear h
  go_enter Tryz.func17, Tryz.ntmps17
  go_wp2_with (go_at_call 39; refine hs.mono ?_; clear hs; rintro e w1 ⟨rfl, hw1⟩; obtain rfl := hw1.symm)
  go_returns
  exact ⟨rfl, rfl⟩
set_option maxRecDepth 100000 in
set_option maxHeartbeats 2000000 in
theorem turn_none (v : Value) (w : World) (h : NoD v w) : Calls Tryz.prog 18 #[v, .string ⟨#[]⟩, .int .i64 (-1), .int .i64 9] w fun e w' => e = .returned (.int .i64 1) ∧ w' = w := by
  have hs := away_none v w h
  clear h
  go_enter Tryz.func18, Tryz.ntmps18
  go_wp2_with (go_at_call 39; refine hs.mono ?_; clear hs; rintro e w1 ⟨rfl, hw1⟩; obtain rfl := hw1.symm)
  go_returns
  exact ⟨rfl, rfl⟩
set_option maxRecDepth 100000 in
set_option maxHeartbeats 2000000 in
theorem names_none (v : Value) (w : World) (h : NoD v w) : Calls Tryz.prog 19 #[v] w fun e w' => e = .returned (.slice none 0 0) ∧ w' = w := by
  have hs := away_none v w h
  clear h
  go_enter Tryz.func19, Tryz.ntmps19
  go_wp2_with (go_at_call 39; refine hs.mono ?_; clear hs; rintro e w1 ⟨rfl, hw1⟩; obtain rfl := hw1.symm)
  go_returns
  exact ⟨rfl, rfl⟩
set_option maxRecDepth 100000 in
set_option maxHeartbeats 2000000 in
theorem left_none (v : Value) (w : World) (h : NoD v w) : Calls Tryz.prog 20 #[v] w fun e w' => e = .returned (.int .i64 0) ∧ w' = w := by
  have hs := away_none v w h
  clear h
  go_enter Tryz.func20, Tryz.ntmps20
  go_wp2_with (go_at_call 39; refine hs.mono ?_; clear hs; rintro e w1 ⟨rfl, hw1⟩; obtain rfl := hw1.symm)
  go_returns
  exact ⟨rfl, rfl⟩
set_option maxRecDepth 100000 in
set_option maxHeartbeats 2000000 in
theorem dead_none (v : Value) (w : World) (h : NoD v w) : Calls Tryz.prog 21 #[v] w fun e w' => e = .returned (.bool false) ∧ w' = w := by
  have hs := none_none v w h
  clear h
  go_enter Tryz.func21, Tryz.ntmps21
  go_wp2_with (go_at_call 49; refine hs.mono ?_; clear hs; rintro e w1 ⟨rfl, hw1⟩; obtain rfl := hw1.symm)
  go_returns
  exact ⟨rfl, rfl⟩
theorem isName_none (w : World) : Calls Tryz.prog 50 #[.string ⟨#[]⟩] w fun e w' => e = .returned (.bool false) ∧ w' = w := by
  have h := isName_any ⟨#[]⟩ w
  exact h
set_option maxRecDepth 100000 in
set_option maxHeartbeats 2000000 in
theorem rename_none (v : Value) (w : World) (h : NoD v w) : Calls Tryz.prog 14 #[v, .string ⟨#[]⟩, .string ⟨#[]⟩] w fun e w' => e = .returned (.int .i64 1) ∧ w' = w := by
  have hs := ofN_none v false w h
  clear h
  go_enter Tryz.func14, Tryz.ntmps14
  go_wp2_with (first | (go_at_call 50; refine (isName_none _).mono ?_; rintro e w1 ⟨rfl, hw1⟩; obtain rfl := hw1.symm) | (go_at_call 54; refine hs.mono ?_; clear hs; rintro e w1 ⟨rfl, hw1⟩; obtain rfl := hw1.symm))
  go_returns
  exact ⟨rfl, rfl⟩
end Go.Proofs.YtmcmagplaflegaaGreat
