/-
  EqBytes, Bring. Conditions: those of each theorem.
-/
import Derived.Test.YtbkkcbdbdogloaaCr
import Derived.BigQuiet
import Derived.Laws.BytesArg
import Derived.Lib.SlBytesConst
namespace Go.Proofs.Ytbkkcbdbdogloaa
open Go Go.RowKit Go.MapL Go.Poised
theorem ret_bool {a b : Bool} (h : a = b) : Ending.returned (.bool a) = .returned (.bool b) := by rw [h]
theorem take_snoc (l : List Nat) (k : Nat) (h : k < l.length) : l.take (k + 1) = l.take k ++ [l.getD k 0] := by
  rw [List.take_succ_eq_append_getElem h, List.getD_eq_getElem?_getD, List.getElem?_eq_getElem h]; rfl
set_option maxHeartbeats 2000000 in
theorem bring_any (i n : Int) (h1 : 1 ≤ n) (h2 : n ≤ 1000000) (_ : -9223372036854775808 ≤ i) (_ : i ≤ 9223372036854775807) (w : World) :
    Calls Try.prog 20 #[.int .i64 i, .int .i64 n] w fun e w' => e = .returned (.int .i64 (i % n)) ∧ w' = w := by
  have hm : -n < i.tmod n := by have := Int.lt_tmod_of_pos i (show 0 < n by omega); omega
  have hm' : i.tmod n < n := Int.tmod_lt_of_pos i (by omega)
  have hn0 : ¬ n ≤ 0 := by omega
  by_cases hneg : i.tmod n < 0
  · have hr : Hid (i.tmod n + n = i % n) := by
      show i.tmod n + n = i % n
      have e1 := Int.emod_add_mul_ediv i n
      have e2 := Int.tmod_add_mul_tdiv i n
      have e3 : (i.tmod n + n - i % n) = n * (i / n - i.tdiv n + 1) := by rw [Int.mul_add, Int.mul_sub]; omega
      have a1 := Int.emod_nonneg i (show n ≠ 0 by omega)
      have a2 := Int.emod_lt_of_pos i (show 0 < n by omega)
      have h5 : (i / n - i.tdiv n + 1) = 0 := by
        have b1 : n * (i / n - i.tdiv n + 1) < n * 1 := by omega
        have b2 : n * (-1) < n * (i / n - i.tdiv n + 1) := by omega
        have c1 := Int.lt_of_mul_lt_mul_left b1 (by omega)
        have c2 := Int.lt_of_mul_lt_mul_left b2 (by omega)
        omega
      rw [h5] at e3
      omega
    go_enter Try.func20, Try.ntmps20
    go_wp2
    go_returns
    exact ⟨ret_int hr.out, rfl⟩
  · have hr : Hid (i.tmod n = i % n) := by
      show i.tmod n = i % n
      have e1 := Int.emod_add_mul_ediv i n
      have e2 := Int.tmod_add_mul_tdiv i n
      have e3 : (i.tmod n - i % n) = n * (i / n - i.tdiv n) := by rw [Int.mul_sub]; omega
      have a1 := Int.emod_nonneg i (show n ≠ 0 by omega)
      have a2 := Int.emod_lt_of_pos i (show 0 < n by omega)
      have h5 : (i / n - i.tdiv n) = 0 := by
        have b1 : n * (i / n - i.tdiv n) < n * 1 := by omega
        have b2 : n * (-1) < n * (i / n - i.tdiv n) := by omega
        have c1 := Int.lt_of_mul_lt_mul_left b1 (by omega)
        have c2 := Int.lt_of_mul_lt_mul_left b2 (by omega)
        omega
      rw [h5] at e3
      omega
    go_enter Try.func20, Try.ntmps20
    go_wp2
    go_returns
    exact ⟨ret_int hr.out, rfl⟩

/-! ### Two lists of bytes -/
theorem eq_step {l m : List Nat} (h : l.length = m.length) (k : Nat) (hk : k < l.length) (ht : l.take k = m.take k) (he : l.getD k 0 = m.getD k 0) : l.take (k + 1) = m.take (k + 1) := by
  rw [take_snoc l k hk, take_snoc m k (by omega), ht, he]
theorem ne_at {l m : List Nat} (k : Nat) (he : l.getD k 0 ≠ m.getD k 0) : decide (l = m) = false := by
  rw [decide_eq_false_iff_not]; intro h; rw [h] at he; exact he rfl

theorem bytes_parts {w : World} {v : Value} {l : List Nat} (h : BytesIn w v l) : ∃ p cap, v = .slice p l.length cap ∧ ∀ k, k < l.length → ∃ b off, p = some ⟨b, off, none⟩ ∧ w.cell? ⟨b, off + k, none⟩ = some (.int .u8 (l.getD k 0 : Nat)) := by
  obtain ⟨_, _, ⟨rfl, rfl⟩ | ⟨a, cap, rfl, rfl⟩ | ⟨b, off, cap, rfl, hc⟩⟩ := h
  · exact ⟨none, 0, rfl, fun k hk => by simp at hk⟩
  · exact ⟨some a, cap, rfl, fun k hk => by simp at hk⟩
  · exact ⟨some ⟨b, off, none⟩, cap, rfl, fun k hk => ⟨b, off, rfl, hc k hk⟩⟩

set_option maxHeartbeats 2000000 in
theorem eqBytes_any (v u : Value) (l m : List Nat) (w : World) (hv : BytesIn w v l) (hu : BytesIn w u m) :
    Calls Try.prog 17 #[v, u] w fun e w' => e = .returned (.bool (decide (l = m))) ∧ Below w.heap.size w w' := by
  have hbl := hv.1
  have hbm := hu.1
  have hll := hv.2.1
  have hml := hu.2.1
  obtain ⟨p, cap, rfl, hc⟩ := bytes_parts hv
  obtain ⟨q, cap', rfl, hd⟩ := bytes_parts hu
  by_cases hlen : l.length = m.length
  · have hne : ((l.length : Int) != (m.length : Int)) = false := by simp [hlen]
    have Hlen : Hid (l.length = m.length) := hlen
    have hlm : l.length ≤ m.length := by omega
    clear hlen
    go_enter Try.func17, Try.ntmps17
    go_wp2
    go_loopw [5] (fun i wr => ∃ k : Nat, k ≤ l.length ∧ i = .int .i64 k ∧ l.take k = m.take k ∧ Below w.heap.size w wr) (fun i _ => l.length - (intOf i).toNat)
    case atStart => exact ⟨0, by omega, rfl, by simp, Below.refl _ _⟩
    case round =>
      obtain ⟨k, hk, rfl, ht, hB⟩ := hrel
      have Ht : Hid (l.take k = m.take k) := ht
      clear ht
      by_cases hlt : k < l.length
      · obtain ⟨b, off, rfl, hcb⟩ := hc k hlt
        obtain ⟨b', off', rfl, hdb⟩ := hd k (by omega)
        have hcell : wr.cell? ⟨b, off + k, none⟩ = some (.int .u8 (l.getD k 0 : Nat)) := (hB.cell (p := ⟨b, off + k, none⟩) (lt_of_cell hcb)).trans hcb
        have hdell : wr.cell? ⟨b', off' + k, none⟩ = some (.int .u8 (m.getD k 0 : Nat)) := (hB.cell (p := ⟨b', off' + k, none⟩) (lt_of_cell hdb)).trans hdb
        clear hc hd hcb hdb
        have hs : Hid (l.getD k 0 = m.getD k 0 → l.take (k + 1) = m.take (k + 1)) := fun h => eq_step Hlen.out k hlt Ht.out h
        have hn : Hid (l.getD k 0 ≠ m.getD k 0 → decide (l = m) = false) := fun h => ne_at k h
        generalize l.getD k 0 = x at *
        generalize m.getD k 0 = y at *
        have k1 : (0 : Int) ≤ (k : Int) := by omega
        have k2 : (k : Int) < (l.length : Int) := by omega
        have k3 : (k : Int) < (m.length : Int) := by omega
        by_cases hxy : x = y
        · have hb : ((x : Int) != (y : Int)) = false := by simp [hxy]
          have Hxy : Hid (x = y) := hxy
          clear hxy
          go_wp2
          go_quiet (fail)
          go_wp2
          go_roundw
          case rel => exact ⟨k + 1, by omega, by go_num, hs.out Hxy.out, ⟨hB.1, hB.2, hB.3, hB.4, hB.5⟩⟩
          case measure => simp [intOf]; omega
        · have hb : ((x : Int) != (y : Int)) = true := by simp; omega
          go_wp2
          go_quiet (fail)
          go_wp2
          go_returns
          refine ⟨?_, ⟨hB.1, hB.2, hB.3, hB.4, hB.5⟩⟩
          exact ret_bool (hn.out hxy).symm
      · go_wp2
        go_returns
        refine ⟨ret_bool ?_, hB⟩
        have h1 := Ht.out
        rw [List.take_of_length_le (by omega), List.take_of_length_le (by have := Hlen.out; omega)] at h1
        simp [h1]
  · have hne : ((l.length : Int) != (m.length : Int)) = true := by simp; omega
    go_enter Try.func17, Try.ntmps17
    go_wp2
    go_returns
    refine ⟨ret_bool ?_, Below.refl _ _⟩
    symm
    rw [decide_eq_false_iff_not]; intro h; rw [h] at hlen; exact hlen rfl


/-- The text of these bytes. -/
def txt (l : List Nat) : ByteArray := strOfNums (l.map Int.ofNat)
theorem run_string_of (w : World) (v : Value) (l : List Nat) (h : BytesIn w v l) : (convert 28 9 v).run Try.prog w = .ok (.string (txt l)) w := by
  obtain ⟨_, _, ⟨rfl, rfl⟩ | ⟨a, cap, rfl, rfl⟩ | ⟨b, off, cap, rfl, hc⟩⟩ := h
  · exact run_convert_bytes_nil w 28 5 Try.underlying28 Try.underlying5 0 0 9 Try.underlying9
  · rw [run_convert_bytes_string w 28 9 5 _ 0 cap Try.underlying28 Try.underlying5 Try.underlying9, run_bytesToString w _ 0 cap [] (by
      have := run_loadCells_list (P := Try.prog) w a [] (fun j v hj => by simp at hj)
      simpa using this)]
    rfl
  · refine run_convert_bytes_arg w 28 5 Try.underlying28 Try.underlying5 b off _ cap (l.map Int.ofNat) (by simp) (fun i hi => ?_) 9 Try.underlying9
    rw [hc i hi, List.getD_eq_getElem?_getD, List.getD_eq_getElem?_getD, List.getElem?_map]
    simp [hi]

/-- One of three names. -/
def nm (n : Nat) : ByteArray := txt [97 + n % 3]
set_option maxRecDepth 100000 in
set_option maxHeartbeats 2000000 in
theorem name_any (s : ByteArray) (w : World) :
    Calls Try.prog 25 #[.string s] w fun e w' => e = .returned (.string (nm s.size)) ∧ Below w.heap.size w w' := by
  have g1 : IntKind.i64.wrap (97 + ((s.size : Int).tmod 3)) = ((97 + s.size % 3 : Nat) : Int) := by
    rw [Int.tmod_eq_emod_of_nonneg (by omega), show ((s.size : Int) % 3) = ((s.size % 3 : Nat) : Int) by omega, IntWalk.i64_in _ (by omega)]; omega
  have g2 : IntKind.u8.wrap ((97 + s.size % 3 : Nat) : Int) = ((97 + s.size % 3 : Nat) : Int) := by
    have : IntKind.u8.wrap ((97 + s.size % 3 : Nat) : Int) = ((97 + s.size % 3 : Nat) : Int) % 256 := rfl
    rw [this]; omega
  have hc : (convert 28 9 (.slice (some ⟨w.heap.size, 0, none⟩) 1 1)).run Try.prog (w.alloc (.cells #[.int .u8 (97 + (s.size : Int) % 3)] 5)) = .ok (.string (nm s.size)) (w.alloc (.cells #[.int .u8 (97 + (s.size : Int) % 3)] 5)) := by
    refine run_string_of _ _ [97 + s.size % 3] ⟨by intro x hx; simp at hx; omega, by simp, .inr (.inr ⟨w.heap.size, 0, 1, rfl, fun k hk => ?_⟩)⟩
    obtain rfl : k = 0 := by simp at hk; omega
    simp only [World.cell?, heap_new, List.getD_cons_zero]
    simp
  have g3 : (s.size : Int).tmod 3 = (s.size : Int) % 3 := by rw [Int.tmod_eq_emod_of_nonneg (by omega)]
  go_enter Try.func25, Try.ntmps25
  go_wp2
  go_returns
  exact ⟨rfl, (Below.refl _ _).alloc (Nat.le_refl _) _⟩
end Go.Proofs.Ytbkkcbdbdogloaa
