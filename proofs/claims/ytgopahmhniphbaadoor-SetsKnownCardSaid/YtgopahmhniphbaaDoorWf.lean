import Derived.RangeFuncNested
import Derived.RangeFuncBound
import Derived.RangeFuncCalls
import Derived.RangeFuncLeaves
import Derived.Shelf.Abstract
import Derived.Shelf.RegionOpen
import Derived.OwnWalkIn
import Derived.TacticsInMore
import Derived.LoopNIn
import Derived.LoopIn
import Derived.Test.YtgopahmhniphbaaDoorWe
namespace Go.Proofs.YtgopahmhniphbaaDoor
open Go.RowKit Go.Shelf Sp
attribute [local go_sem] Oper.semAt_some

/-- The bytes of the words below i. -/
def blTo (s : S) (i : Nat) : List Nat := (List.range i).flatMap fun i => (nb 64 (wn s i)).map (i * 64 + ·)
def bl (s : S) : List Nat := blTo s 4
theorem blTo_succ (s : S) (i : Nat) : blTo s (i + 1) = blTo s i ++ (nb 64 (wn s i)).map (i * 64 + ·) := by
  simp [blTo, List.range_succ]
theorem blTo_mono (s : S) (i : Nat) : ∀ d, blTo s i <+: blTo s (i + d)
  | 0 => List.prefix_refl _
  | d + 1 => (blTo_mono s i d).trans ⟨_, (blTo_succ s (i + d)).symm⟩
theorem blTo_len (s : S) : ∀ i, (blTo s i).length ≤ i * 64
  | 0 => by simp [blTo]
  | i + 1 => by have := blTo_len s i; have := nb_len 64 (wn s i); rw [blTo_succ, List.length_append, List.length_map]; omega

set_option maxRecDepth 100000 in
set_option maxHeartbeats 2000000 in
theorem all1_in (l Bn : Nat) (s : S) (J Jx : List Nat → World → Prop)
    (hY : ∀ pre (x : Nat) W, J pre W → pre.length < 257 → YieldAt Fence.wide 1 Tryd.prog l #[.int .u8 x] W fun e W' => (e = .returned (.bool true) ∧ J (pre ++ [x]) W' ∧ Below 1 W W') ∨ (e = .returned (.bool false) ∧ Jx (pre ++ [x]) W'))
    (W : World) (hBn : SetAt W Bn s) (hT : Tab W) (h0 : J [] W) :
    CallsIn Fence.wide 2 Tryd.prog 33 #[.func (.yield l) #[] #[], .pointer (some ⟨Bn, 0, none⟩)] W fun e W' => (∃ v, e = .returned v) ∧ ((∃ ys, ys = bl s ∧ J ys W') ∨ (∃ pre, pre <+: bl s ∧ Jx pre W')) := by
  obtain ⟨c0, c1, c2, c3⟩ := hBn.cell
  refine callsIn_of_wp Tryd.func33 rfl trivial ?_ rfl
  simp only [Tryd.ntmps33, List.size_toArray, List.length_cons, List.length_nil, Nat.reduceAdd, Nat.reduceSub, Array.replicate_succ, Array.replicate_zero, List.push_toArray, List.append_toArray, List.nil_append, List.cons_append]
  gi_wp2
  gi_loopw [6] (fun i wr => ∃ k : Nat, k ≤ 4 ∧ i = .int .i64 k ∧ Tab wr ∧ J (blTo s k) wr) (fun i _ => 4 - (intOf i).toNat)
  case atStart =>
    exact ⟨0, by omega, rfl, hT, h0⟩
  case round =>
    obtain ⟨k, hk, rfl, hTr, hJ⟩ := hrel
    by_cases hlt : k < 4
    · have i0 : ∀ w, (Instr.index 24 (.agg #[.int .u64 (wn s 0), .int .u64 (wn s 1), .int .u64 (wn s 2), .int .u64 (wn s 3)]) (.int .i64 k)).run Tryd.prog w = .ok (.int .u64 (wn s k)) w := by
        intro w
        rcases (by omega : k = 0 ∨ k = 1 ∨ k = 2 ∨ k = 3) with rfl | rfl | rfl | rfl <;> kernel_rfl
      have hw := wn_lt s k
      have Hs : Hid (blTo s (k + 1) = blTo s k ++ (nb 64 (wn s k)).map (k * 64 + ·)) := blTo_succ s k
      generalize wn s k = x0 at *
      have hd4 : decide ((k : Int) < 4) = true := by simp; omega
      gi_wp2
      have k0 : (0 : Int) ≤ (k : Int) := by omega
      have k4 : (k : Int) < 4 := by omega
      have hlenk : (blTo s k).length ≤ k * 64 := blTo_len s k
      have hlenk1 : (blTo s (k + 1)).length ≤ (k + 1) * 64 := blTo_len s (k + 1)
      obtain ⟨wo, hwo⟩ : ∃ wo : World, wo = wr := ⟨_, rfl⟩
      rw [← hwo]
      clear i0 c0 c1 c2 c3
      gi_loopw [4] (fun v wr => ∃ (x : Nat) (pre : List Nat), v = .int .u64 x ∧ x < 18446744073709551616 ∧ Hid (pre ++ (nb 64 x).map (k * 64 + ·) = blTo s (k + 1)) ∧ Tab wr ∧ J pre wr) (fun v _ => (nb 64 (intOf v).toNat).length)
      case atStart => exact ⟨x0, blTo s k, rfl, hw, Hs.out.symm, hwo ▸ hTr, hwo ▸ hJ⟩
      case round =>
        obtain ⟨x, pre, rfl, hx, hp, hTx, hJx⟩ := hrel
        have hlen : pre.length < 257 := by have := congrArg List.length hp.out; rw [List.length_append] at this; omega
        by_cases hx0 : x = 0
        · subst hx0
          gi_wp2
          go_roundw
          case rel =>
            have h1 := hp.out
            rw [nb_zero, List.map_nil, List.append_nil] at h1
            exact ⟨k + 1, by omega, by go_num, hTx, h1 ▸ hJx⟩
          case measure => simp [intOf]; omega
        · obtain ⟨hc64, _, _, _⟩ := low x hx0 hx
          have hst := nb_step x hx0 hx
          have hs2 : Hid ((pre ++ [k * 64 + Lib.ctz 64 x]) ++ (nb 64 (x &&& (x - 1))).map (k * 64 + ·) = blTo s (k + 1)) := by
            have h1 := hp.out
            rw [hst, List.map_cons] at h1
            show _ = _
            rw [← h1, List.append_assoc]; rfl
          have hsl : Hid ((nb 64 (x &&& (x - 1))).length < (nb 64 x).length) := by show _ < _; rw [hst]; simp
          have hxa : bits .and .u64 (x : Int) ((x : Int) - 1) = ((x &&& (x - 1) : Nat) : Int) := by
            have e1 : (x : Int) - 1 = ((x - 1 : Nat) : Int) := by omega
            rw [e1, u64_and_nat _ _ hx (by omega)]
          have hxb : x &&& (x - 1) < 18446744073709551616 := Nat.lt_of_le_of_lt Nat.and_le_left hx
          clear hst
          obtain ⟨fn, tmps, assign, body, hy, hR⟩ := hY pre (k * 64 + Lib.ctz 64 x) wr hJx hlen
          have htz := tz_any x hx hx0 wr hTx
          generalize Lib.ctz 64 x = c at *
          generalize x &&& (x - 1) = y at *
          have x1 : (1 : Int) ≤ (x : Int) := by omega
          have c0 : (0 : Int) ≤ (c : Int) := by omega
          have c1 : (c : Int) < 64 := by omega
          have hxn : ((x : Int) != 0) = true := by simp; omega
          have hw8 : IntKind.u8.wrap ((k : Int) * 64 + c) = (k : Int) * 64 + c := by rw [IntKind.wrap_u8]; omega
          simp only [Int.natCast_add, Int.natCast_mul, Int.cast_ofNat_Int] at hy
          gi_wp2_with (refine ⟨trivial, ?_⟩; gi_at_call 34; refine (callsIn_wide.2 htz).mono ?_; rintro e w' ⟨rfl, rfl⟩)
          refine hR.mono ?_
          rintro e W3 (⟨rfl, hJ3, hk3⟩ | ⟨rfl, hJx3⟩)
          · gi_wp2
            go_roundw
            case rel => exact ⟨y, _, rfl, hxb, hs2, hTx.below hk3 (by omega), hJ3⟩
            case measure => simpa [intOf] using hsl.out
          · gi_wp2
            refine bodyPost_ret (results_none rfl _ _ _) rfl ?_
            refine ⟨⟨_, rfl⟩, .inr ⟨_, ?_, hJx3⟩⟩
            refine List.IsPrefix.trans ⟨_, hs2.out⟩ ?_
            rcases (by omega : k = 0 ∨ k = 1 ∨ k = 2 ∨ k = 3) with rfl | rfl | rfl | rfl
            · exact (blTo_mono s 1 3)
            · exact (blTo_mono s 2 2)
            · exact (blTo_mono s 3 1)
            · exact (blTo_mono s 4 0)
    · gi_wp2
      go_end0
      obtain rfl : k = 4 := by omega
      exact ⟨⟨_, rfl⟩, .inl ⟨_, rfl, hJ⟩⟩
end Go.Proofs.YtgopahmhniphbaaDoor
