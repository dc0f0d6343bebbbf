import Derived.Test.YtgopahmhniphbaaDoorWd
import Derived.Deep.QuietTactic
import Derived.BigQuiet
namespace Go.Proofs.YtgopahmhniphbaaDoor
open Go.RowKit Sp Go.Poised
def bitsIn (s : S) (i : Nat) : Nat := (nb 64 (wn s i)).length
theorem nb_len (n x : Nat) : (nb n x).length ≤ n := by
  unfold nb; exact Nat.le_trans (List.length_filter_le _ _) (by simp)
theorem bitsIn_le (s : S) (i : Nat) : bitsIn s i ≤ 64 := nb_len 64 _
def cnt (s : S) : Nat := bitsIn s 0 + bitsIn s 1 + bitsIn s 2 + bitsIn s 3

set_option maxHeartbeats 2000000 in
theorem len_any (s : S) (w : World) :
    Calls Tryd.prog 21 #[sv s] w fun e w' => e = .returned (.int .i64 (cnt s : Nat)) ∧ Below w.heap.size w w' := by
  unfold sv
  have o0 := bitsIn_le s 0
  have o1 := bitsIn_le s 1
  have o2 := bitsIn_le s 2
  have o3 := bitsIn_le s 3
  have i0 : ∀ w, (Instr.index 24 (.agg #[.int .u64 (wn s 0), .int .u64 (wn s 1), .int .u64 (wn s 2), .int .u64 (wn s 3)]) (.int .i64 0)).run Tryd.prog w = .ok (.int .u64 (wn s 0)) w := fun _ => by kernel_rfl
  have i1 : ∀ w, (Instr.index 24 (.agg #[.int .u64 (wn s 0), .int .u64 (wn s 1), .int .u64 (wn s 2), .int .u64 (wn s 3)]) (.int .i64 1)).run Tryd.prog w = .ok (.int .u64 (wn s 1)) w := fun _ => by kernel_rfl
  have i2 : ∀ w, (Instr.index 24 (.agg #[.int .u64 (wn s 0), .int .u64 (wn s 1), .int .u64 (wn s 2), .int .u64 (wn s 3)]) (.int .i64 2)).run Tryd.prog w = .ok (.int .u64 (wn s 2)) w := fun _ => by kernel_rfl
  have i3 : ∀ w, (Instr.index 24 (.agg #[.int .u64 (wn s 0), .int .u64 (wn s 1), .int .u64 (wn s 2), .int .u64 (wn s 3)]) (.int .i64 3)).run Tryd.prog w = .ok (.int .u64 (wn s 3)) w := fun _ => by kernel_rfl
  go_enter Tryd.func21, Tryd.ntmps21
  go_wp2
  refine wp_loop_rounds 5 ?_
  rw [rounds_succ]
  go_wp2_with (go_at_call 32; refine (ones_any (wn s 0) (wn_lt s 0) _).mono ?_; rintro e w1 ⟨rfl, hb1⟩)
  rw [show (nb 64 (wn s 0)).length = bitsIn s 0 from rfl]
  rw [rounds_succ]
  go_wp2_with (go_at_call 32; refine (ones_any (wn s 1) (wn_lt s 1) _).mono ?_; rintro e w2 ⟨rfl, hb2⟩)
  rw [show (nb 64 (wn s 1)).length = bitsIn s 1 from rfl]
  rw [rounds_succ]
  go_wp2_with (go_at_call 32; refine (ones_any (wn s 2) (wn_lt s 2) _).mono ?_; rintro e w3 ⟨rfl, hb3⟩)
  rw [show (nb 64 (wn s 2)).length = bitsIn s 2 from rfl]
  rw [rounds_succ]
  go_wp2_with (go_at_call 32; refine (ones_any (wn s 3) (wn_lt s 3) _).mono ?_; rintro e w4 ⟨rfl, hb4⟩)
  rw [show (nb 64 (wn s 3)).length = bitsIn s 3 from rfl]
  rw [rounds_succ]
  go_wp2
  go_returns
  refine ⟨ret_int ?_, ?_⟩
  · unfold cnt wrap64; omega
  · have hz1 := hb1.size
    have hz2 := hb2.size
    have hz3 := hb3.size
    have hz4 := hb4.size
    have hz0 : w.heap.size ≤ (w.alloc (.cells #[.int .u64 (wn s 0), .int .u64 (wn s 1), .int .u64 (wn s 2), .int .u64 (wn s 3)] 24)).heap.size := by simp
    exact (((((Below.refl _ _).alloc (Nat.le_refl _) _).trans (hb1.mono hz0)).trans (hb2.mono (by omega))).trans (hb3.mono (by omega))).trans (hb4.mono (by omega))

set_option maxHeartbeats 2000000 in
theorem bring_any (i n : Int) (h1 : 1 ≤ n) (h2 : n ≤ 1000000) (_ : -9223372036854775808 ≤ i) (_ : i ≤ 9223372036854775807) (w : World) :
    Calls Tryd.prog 29 #[.int .i64 i, .int .i64 n] w fun e w' => e = .returned (.int .i64 (i % n)) ∧ w' = w := by
  have hm : -n < i.tmod n := by have := Int.lt_tmod_of_pos i (show 0 < n by omega); omega
  have hm' : i.tmod n < n := Int.tmod_lt_of_pos i (by omega)
  have hn0 : ¬ n ≤ 0 := by omega
  by_cases hneg : i.tmod n < 0
  · have hr : Hid (i.tmod n + n = i % n) := by
      show i.tmod n + n = i % n
      have e1 := Int.emod_add_mul_ediv i n
      have e2 := Int.tmod_add_mul_tdiv i n
      have e3 : (i.tmod n + n - i % n) = n * (i / n - i.tdiv n + 1) := by rw [Int.mul_add, Int.mul_sub]; omega
      have a1 := Int.emod_nonneg i (show n ≠ 0 by omega)
      have a2 := Int.emod_lt_of_pos i (show 0 < n by omega)
      have h5 : (i / n - i.tdiv n + 1) = 0 := by
        have b1 : n * (i / n - i.tdiv n + 1) < n * 1 := by omega
        have b2 : n * (-1) < n * (i / n - i.tdiv n + 1) := by omega
        have c1 := Int.lt_of_mul_lt_mul_left b1 (by omega)
        have c2 := Int.lt_of_mul_lt_mul_left b2 (by omega)
        omega
      rw [h5] at e3
      omega
    go_enter Tryd.func29, Tryd.ntmps29
    go_wp2
    go_returns
    exact ⟨ret_int hr.out, rfl⟩
  · have hr : Hid (i.tmod n = i % n) := by
      show i.tmod n = i % n
      have e1 := Int.emod_add_mul_ediv i n
      have e2 := Int.tmod_add_mul_tdiv i n
      have e3 : (i.tmod n - i % n) = n * (i / n - i.tdiv n) := by rw [Int.mul_sub]; omega
      have a1 := Int.emod_nonneg i (show n ≠ 0 by omega)
      have a2 := Int.emod_lt_of_pos i (show 0 < n by omega)
      have h5 : (i / n - i.tdiv n) = 0 := by
        have b1 : n * (i / n - i.tdiv n) < n * 1 := by omega
        have b2 : n * (-1) < n * (i / n - i.tdiv n) := by omega
        have c1 := Int.lt_of_mul_lt_mul_left b1 (by omega)
        have c2 := Int.lt_of_mul_lt_mul_left b2 (by omega)
        omega
      rw [h5] at e3
      omega
    go_enter Tryd.func29, Tryd.ntmps29
    go_wp2
    go_returns
    exact ⟨ret_int hr.out, rfl⟩

/-! ### Two lists of bytes -/
theorem eq_step {l m : List Nat} (h : l.length = m.length) (k : Nat) (hk : k < l.length) (ht : l.take k = m.take k) (he : l.getD k 0 = m.getD k 0) : l.take (k + 1) = m.take (k + 1) := by
  rw [take_snoc l k hk, take_snoc m k (by omega), ht, he]
theorem ne_at {l m : List Nat} (k : Nat) (he : l.getD k 0 ≠ m.getD k 0) : decide (l = m) = false := by
  rw [decide_eq_false_iff_not]; intro h; rw [h] at he; exact he rfl

theorem bytes_parts {w : World} {v : Value} {l : List Nat} (h : BytesIn w v l) : ∃ p cap, v = .slice p l.length cap ∧ ∀ k, k < l.length → ∃ b off, p = some ⟨b, off, none⟩ ∧ w.cell? ⟨b, off + k, none⟩ = some (.int .u8 (l.getD k 0 : Nat)) := by
  obtain ⟨_, _, ⟨rfl, rfl⟩ | ⟨a, cap, rfl, rfl⟩ | ⟨b, off, cap, rfl, hc⟩⟩ := h
  · exact ⟨none, 0, rfl, fun k hk => by simp at hk⟩
  · exact ⟨some a, cap, rfl, fun k hk => by simp at hk⟩
  · exact ⟨some ⟨b, off, none⟩, cap, rfl, fun k hk => ⟨b, off, rfl, hc k hk⟩⟩

set_option maxHeartbeats 2000000 in
theorem eqBytes_any (v u : Value) (l m : List Nat) (w : World) (hv : BytesIn w v l) (hu : BytesIn w u m) :
    Calls Tryd.prog 24 #[v, u] w fun e w' => e = .returned (.bool (decide (l = m))) ∧ Below w.heap.size w w' := by
  have hbl := hv.1
  have hbm := hu.1
  have hll := hv.2.1
  have hml := hu.2.1
  obtain ⟨p, cap, rfl, hc⟩ := bytes_parts hv
  obtain ⟨q, cap', rfl, hd⟩ := bytes_parts hu
  by_cases hlen : l.length = m.length
  · have hne : ((l.length : Int) != (m.length : Int)) = false := by simp [hlen]
    have Hlen : Hid (l.length = m.length) := hlen
    have hlm : l.length ≤ m.length := by omega
    clear hlen
    go_enter Tryd.func24, Tryd.ntmps24
    go_wp2
    go_loopw [5] (fun i wr => ∃ k : Nat, k ≤ l.length ∧ i = .int .i64 k ∧ l.take k = m.take k ∧ Below w.heap.size w wr) (fun i _ => l.length - (intOf i).toNat)
    case atStart => exact ⟨0, by omega, rfl, by simp, Below.refl _ _⟩
    case round =>
      obtain ⟨k, hk, rfl, ht, hB⟩ := hrel
      have Ht : Hid (l.take k = m.take k) := ht
      clear ht
      by_cases hlt : k < l.length
      · obtain ⟨b, off, rfl, hcb⟩ := hc k hlt
        obtain ⟨b', off', rfl, hdb⟩ := hd k (by omega)
        have hcell : wr.cell? ⟨b, off + k, none⟩ = some (.int .u8 (l.getD k 0 : Nat)) := (hB.cell (p := ⟨b, off + k, none⟩) (lt_of_cell hcb)).trans hcb
        have hdell : wr.cell? ⟨b', off' + k, none⟩ = some (.int .u8 (m.getD k 0 : Nat)) := (hB.cell (p := ⟨b', off' + k, none⟩) (lt_of_cell hdb)).trans hdb
        clear hc hd hcb hdb
        have hs : Hid (l.getD k 0 = m.getD k 0 → l.take (k + 1) = m.take (k + 1)) := fun h => eq_step Hlen.out k hlt Ht.out h
        have hn : Hid (l.getD k 0 ≠ m.getD k 0 → decide (l = m) = false) := fun h => ne_at k h
        generalize l.getD k 0 = x at *
        generalize m.getD k 0 = y at *
        have k1 : (0 : Int) ≤ (k : Int) := by omega
        have k2 : (k : Int) < (l.length : Int) := by omega
        have k3 : (k : Int) < (m.length : Int) := by omega
        by_cases hxy : x = y
        · have hb : ((x : Int) != (y : Int)) = false := by simp [hxy]
          have Hxy : Hid (x = y) := hxy
          clear hxy
          go_wp2
          go_quiet (fail)
          go_wp2
          go_roundw
          case rel => exact ⟨k + 1, by omega, by go_num, hs.out Hxy.out, ⟨hB.1, hB.2, hB.3, hB.4, hB.5⟩⟩
          case measure => simp [intOf]; omega
        · have hb : ((x : Int) != (y : Int)) = true := by simp; omega
          go_wp2
          go_quiet (fail)
          go_wp2
          go_returns
          refine ⟨?_, ⟨hB.1, hB.2, hB.3, hB.4, hB.5⟩⟩
          exact ret_bool (hn.out hxy).symm
      · go_wp2
        go_returns
        refine ⟨ret_bool ?_, hB⟩
        have h1 := Ht.out
        rw [List.take_of_length_le (by omega), List.take_of_length_le (by have := Hlen.out; omega)] at h1
        simp [h1]
  · have hne : ((l.length : Int) != (m.length : Int)) = true := by simp; omega
    go_enter Tryd.func24, Tryd.ntmps24
    go_wp2
    go_returns
    refine ⟨ret_bool ?_, Below.refl _ _⟩
    symm
    rw [decide_eq_false_iff_not]; intro h; rw [h] at hlen; exact hlen rfl

/-! ### The first bit -/
/-- The table of math/bits lies in its variable. -/
def Tab (w : World) : Prop := ∀ j, j < 64 → w.cell? ⟨0, j, none⟩ = some (.int .u8 (Lib.deBruijn64tab.getD j 0 : Nat))
theorem Tab.lt {w : World} (h : Tab w) : 0 < w.heap.size := lt_of_cell (h 0 (by omega))
theorem Tab.below {w w' : World} (h : Tab w) {n : Nat} (hb : Below n w w') (hn : 0 < n) : Tab w' := fun j hj => (hb.cell (p := ⟨0, j, none⟩) hn).trans (h j hj)

theorem tz_key (x a : Nat) (hx : x < 18446744073709551616) (hx0 : x ≠ 0) (hlow : x &&& (18446744073709551616 - x) = a) :
    IntKind.u64.wrap (bits BinOp.and IntKind.u64 (x : Int) (IntKind.u64.wrap (-(x : Int))) * 285870213051353865) / 288230376151711744 = ((a * 285870213051353865 % 18446744073709551616 / 288230376151711744 : Nat) : Int) := by
  have e1 : IntKind.u64.wrap (-(x : Int)) = ((18446744073709551616 - x : Nat) : Int) := by rw [IntKind.wrap_u64]; omega
  rw [e1, u64_and_nat x _ hx (by omega), hlow, IntKind.wrap_u64]
  omega

set_option maxHeartbeats 1000000 in
theorem tz_core (x k idx : Nat) (w : World) (hx0 : ((x : Int) == 0) = false)
    (key : IntKind.u64.wrap (bits BinOp.and IntKind.u64 (x : Int) (IntKind.u64.wrap (-(x : Int))) * 285870213051353865) / 288230376151711744 = (idx : Int))
    (hi : idx < 64) (hk : k < 64) (hcell : w.cell? ⟨0, idx, none⟩ = some (.int .u8 k)) :
    Calls Tryd.prog 34 #[.int .u64 x] w fun e w' => e = .returned (.int .i64 k) ∧ w' = w := by
  go_enter Tryd.func34, Tryd.ntmps34
  go_wp2_with (simp only [key])
  go_ret
  exact ⟨rfl, rfl⟩

theorem tz_any (x : Nat) (hx : x < 18446744073709551616) (hx0 : x ≠ 0) (w : World) (hT : Tab w) :
    Calls Tryd.prog 34 #[.int .u64 x] w fun e w' => e = .returned (.int .i64 (Lib.ctz 64 x : Nat)) ∧ w' = w := by
  obtain ⟨hlow, hk⟩ := Lib.lowest_bit 64 x hx0 hx
  obtain ⟨hi, htab⟩ := Lib.deBruijn64_at _ hk
  have hc := hT _ hi
  rw [htab] at hc
  exact tz_core x _ _ w (by simp; omega) (tz_key x _ hx hx0 hlow) hi hk hc
end Go.Proofs.YtgopahmhniphbaaDoor
