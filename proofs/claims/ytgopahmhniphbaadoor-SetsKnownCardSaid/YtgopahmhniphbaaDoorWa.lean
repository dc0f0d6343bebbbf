import Derived.Test.YtgopahmhniphbaaDoorChecked
import Derived.Test.YtgopahmhniphbaaDoorPlain
import Derived.Test.YtgopahmhniphbaaDoorPop
import Derived.Handy
namespace Go.Proofs.YtgopahmhniphbaaDoor
open Go.RowKit Sp
@[go_sem] def sv (s : S) : Value := .agg #[.int .u64 (wn s 0), .int .u64 (wn s 1), .int .u64 (wn s 2), .int .u64 (wn s 3)]

theorem ret_bool {a b : Bool} (h : a = b) : Ending.returned (.bool a) = .returned (.bool b) := by rw [h]
theorem ret_int {k : IntKind} {a b : Int} (h : a = b) : Ending.returned (.int k a) = .returned (.int k b) := by rw [h]
theorem ret_sv {a b c d : Int} {s : S} (h0 : a = wn s 0) (h1 : b = wn s 1) (h2 : c = wn s 2) (h3 : d = wn s 3) :
    Ending.returned (.agg #[.int .u64 a, .int .u64 b, .int .u64 c, .int .u64 d]) = .returned (sv s) := by rw [h0, h1, h2, h3]; rfl

set_option maxHeartbeats 400000 in
theorem has_any (s : S) (c : Nat) (hc : c < 256) (w : World) :
    Calls Tryd.prog 27 #[sv s, .int .u8 c] w fun e w' => e = .returned (.bool (mem s c)) ∧ Below w.heap.size w w' := by
  unfold sv
  rcases (by omega : ((c:Int) / 64 = 0 ∧ (c:Int) % 64 = c) ∨ ((c:Int) / 64 = 1 ∧ (c:Int) % 64 = c - 64) ∨ ((c:Int) / 64 = 2 ∧ (c:Int) % 64 = c - 128) ∨ ((c:Int)/64 = 3 ∧ (c:Int) % 64 = c - 192) ) with ⟨hq, hr⟩ | ⟨hq, hr⟩ | ⟨hq, hr⟩ | ⟨hq, hr⟩
  all_goals
    go_enter Tryd.func27, Tryd.ntmps27
    go_wp2
    go_returns
    refine ⟨ret_bool ?_, ?_⟩
    · exact n_has s c _ _ (by omega) (by omega)
    · go_grown

set_option maxHeartbeats 400000 in
theorem refHas_any (s : S) (c : Nat) (hc : c < 256) (w : World) :
    Calls Tryd.prog 28 #[sv s, .int .u8 c] w fun e w' => e = .returned (.bool (mem s c)) ∧ Below w.heap.size w w' := by
  unfold sv
  rcases (by omega : ((c:Int) / 64 = 0 ∧ (c:Int) % 64 = c) ∨ ((c:Int) / 64 = 1 ∧ (c:Int) % 64 = c - 64) ∨ ((c:Int) / 64 = 2 ∧ (c:Int) % 64 = c - 128) ∨ ((c:Int)/64 = 3 ∧ (c:Int) % 64 = c - 192) ) with ⟨hq, hr⟩ | ⟨hq, hr⟩ | ⟨hq, hr⟩ | ⟨hq, hr⟩
  all_goals
    go_enter Tryd.func28, Tryd.ntmps28
    go_wp2
    go_returns
    refine ⟨ret_bool ?_, ?_⟩
    · exact n_has s c _ _ (by omega) (by omega)
    · go_grown

set_option maxHeartbeats 400000 in
theorem with_any (s : S) (c : Nat) (hc : c < 256) (w : World) :
    Calls Tryd.prog 31 #[sv s, .int .u8 c] w fun e w' => e = .returned (sv (s ||| bit c)) ∧ Below w.heap.size w w' := by
  unfold sv
  rcases (by omega : ((c:Int) / 64 = 0 ∧ (c:Int) % 64 = c) ∨ ((c:Int) / 64 = 1 ∧ (c:Int) % 64 = c - 64) ∨ ((c:Int) / 64 = 2 ∧ (c:Int) % 64 = c - 128) ∨ ((c:Int)/64 = 3 ∧ (c:Int) % 64 = c - 192) ) with ⟨hq, hr⟩ | ⟨hq, hr⟩ | ⟨hq, hr⟩ | ⟨hq, hr⟩
  all_goals
    go_enter Tryd.func31, Tryd.ntmps31
    go_wp2
    go_returns
    refine ⟨ret_sv ?_ ?_ ?_ ?_, ?_⟩
    any_goals first | exact n_setw s c _ _ hc (by omega) (by omega) | exact n_same s c _ _ hc rfl (by omega)
    go_grown

set_option maxHeartbeats 400000 in
theorem union_any (a b : S) (w : World) :
    Calls Tryd.prog 11 #[sv a, sv b] w fun e w' => e = .returned (sv (a ||| b)) ∧ Below w.heap.size w w' := by
    unfold sv
    go_enter Tryd.func11, Tryd.ntmps11
    go_wp2
    refine wp_loop_rounds 5 ?_
    rw [rounds_succ]
    go_wp2
    go_region
    go_wp2
    rw [rounds_succ]
    go_wp2
    go_region
    go_wp2
    rw [rounds_succ]
    go_wp2
    go_region
    go_wp2
    rw [rounds_succ]
    go_wp2
    go_region
    go_wp2
    rw [rounds_succ]
    go_wp2
    go_returns
    refine ⟨ret_sv ?_ ?_ ?_ ?_, ?_⟩
    · exact n_or a b 0
    · exact n_or a b 1
    · exact n_or a b 2
    · exact n_or a b 3
    · go_grown

set_option maxHeartbeats 400000 in
theorem both_any (a b : S) (w : World) :
    Calls Tryd.prog 13 #[sv a, sv b] w fun e w' => e = .returned (sv (a &&& b)) ∧ Below w.heap.size w w' := by
    unfold sv
    go_enter Tryd.func13, Tryd.ntmps13
    go_wp2
    refine wp_loop_rounds 5 ?_
    rw [rounds_succ]
    go_wp2
    go_region
    go_wp2
    rw [rounds_succ]
    go_wp2
    go_region
    go_wp2
    rw [rounds_succ]
    go_wp2
    go_region
    go_wp2
    rw [rounds_succ]
    go_wp2
    go_region
    go_wp2
    rw [rounds_succ]
    go_wp2
    go_returns
    refine ⟨ret_sv ?_ ?_ ?_ ?_, ?_⟩
    · exact n_and a b 0
    · exact n_and a b 1
    · exact n_and a b 2
    · exact n_and a b 3
    · go_grown

set_option maxHeartbeats 400000 in
theorem less_any (a b : S) (w : World) :
    Calls Tryd.prog 14 #[sv a, sv b] w fun e w' => e = .returned (sv (a &&& ~~~b)) ∧ Below w.heap.size w w' := by
    unfold sv
    go_enter Tryd.func14, Tryd.ntmps14
    go_wp2
    refine wp_loop_rounds 5 ?_
    rw [rounds_succ]
    go_wp2
    go_region
    go_wp2
    rw [rounds_succ]
    go_wp2
    go_region
    go_wp2
    rw [rounds_succ]
    go_wp2
    go_region
    go_wp2
    rw [rounds_succ]
    go_wp2
    go_region
    go_wp2
    rw [rounds_succ]
    go_wp2
    go_returns
    refine ⟨ret_sv ?_ ?_ ?_ ?_, ?_⟩
    · exact n_less a b 0 (by omega)
    · exact n_less a b 1 (by omega)
    · exact n_less a b 2 (by omega)
    · exact n_less a b 3 (by omega)
    · go_grown

set_option maxHeartbeats 400000 in
theorem not_any (a : S) (w : World) :
    Calls Tryd.prog 15 #[sv a] w fun e w' => e = .returned (sv (~~~a)) ∧ Below w.heap.size w w' := by
    unfold sv
    go_enter Tryd.func15, Tryd.ntmps15
    go_wp2
    go_rounds 5
    go_returns
    refine ⟨ret_sv ?_ ?_ ?_ ?_, ?_⟩
    · exact n_not a 0 (by omega)
    · exact n_not a 1 (by omega)
    · exact n_not a 2 (by omega)
    · exact n_not a 3 (by omega)
    · go_grown

set_option maxHeartbeats 400000 in
theorem ones_any (x : Nat) (hx : x < 18446744073709551616) (w : World) :
    Calls Tryd.prog 32 #[.int .u64 x] w fun e w' => e = .returned (.int .i64 ((nb 64 x).length : Nat)) ∧ Below w.heap.size w w' := by
    go_enter Tryd.func32, Tryd.ntmps32
    go_wp2
    go_returns
    refine ⟨ret_int ?_, ?_⟩
    · show bits .and .i64 (wrap64 (o6 (o5 (o4 (o3 (o2 (o1 x))))))) 127 = _
      exact ones_eq x hx
    · go_grown
end Go.Proofs.YtgopahmhniphbaaDoor
