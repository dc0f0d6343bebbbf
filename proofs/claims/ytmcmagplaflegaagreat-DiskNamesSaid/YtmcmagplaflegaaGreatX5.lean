/-
  SUMS OF BYTES. Conditions: those of each theorem.
  NUMBERS AS BYTES. Conditions: those of each theorem.
  SUMS AND NUMBERS AS BYTES, MORE. Conditions: those of each theorem.
  BYTES ONE BEHIND THE OTHER. Conditions: those of each theorem.
  A RECORD's BYTES. Conditions: those of each theorem.
  ONE RECORD TAKEN OFF. Conditions: those of each theorem.
-/
import Derived.Test.YtmcmagplaflegaaGreatX4
import Derived.Laws.MakeOwn
import Derived.RegionTactic
import Derived.Lib.AppendZerosOnto

namespace Go.Proofs.YtmcmagplaflegaaGreat
open Go Go.RowKit Go.MapL Go.Poised

theorem cell_new1 (w : World) (u : Value) (t : TypeId) : (w.alloc (.cells #[u] t)).cell? ⟨w.heap.size, 0, none⟩ = some u := by
  simp only [World.cell?, heap_new]; rfl
/-- One bit falls out. -/
def crcStep (x : Nat) : Nat := if x % 2 = 1 then (x / 2) ^^^ 3988292384 else x / 2
def rollN : Nat → Nat → Nat
  | 0, x => x
  | k + 1, x => crcStep (rollN k x)
def roll (x : Nat) : Nat := rollN 8 x
def crcFold : Nat → List Nat → Nat
  | s, [] => s
  | s, c :: l => crcFold ((s / 256) ^^^ roll ((s % 256) ^^^ c)) l
def crcOn (s : Nat) (l : List Nat) : Nat := 4294967295 - crcFold (4294967295 - s) l
theorem crcStep_lt {x : Nat} (h : x < 4294967296) : crcStep x < 4294967296 := by
  unfold crcStep
  split
  · exact Nat.xor_lt_two_pow (n := 32) (by omega) (by decide)
  · omega
theorem rollN_lt {x : Nat} (h : x < 4294967296) : ∀ k, rollN k x < 4294967296
  | 0 => h
  | k + 1 => crcStep_lt (rollN_lt h k)
theorem crcFold_lt : ∀ (l : List Nat) (s : Nat), s < 4294967296 → (∀ x ∈ l, x < 256) → crcFold s l < 4294967296
  | [], s, h, _ => h
  | c :: l, s, h, hl => crcFold_lt l _ (Nat.xor_lt_two_pow (n := 32) (by omega) (rollN_lt (by have := Nat.xor_lt_two_pow (n := 8) (show s % 256 < 2 ^ 8 by omega) (show c < 2 ^ 8 from hl c (.head _)); omega) 8)) (fun x hx => hl x (.tail _ hx))
theorem crcOn_lt (s : Nat) (l : List Nat) : crcOn s l < 4294967296 := by unfold crcOn; omega
theorem crcFold_snoc (c : Nat) : ∀ (l : List Nat) (s : Nat), crcFold s (l ++ [c]) = (crcFold s l / 256) ^^^ roll ((crcFold s l % 256) ^^^ c)
  | [], _ => rfl
  | _ :: l, _ => crcFold_snoc c l _

theorem and_one (x : Nat) (h : x < 4294967296) : (bits .and .u32 (x : Int) 1 == 1) = decide (x % 2 = 1) := by
  have e : bits .and .u32 (x : Int) (1 : Nat) = ((x &&& 1 : Nat) : Int) := by
    have hx : x &&& 1 < 4294967296 := Nat.lt_of_le_of_lt Nat.and_le_left h
    show IntKind.u32.wrap ((BitVec.ofInt 32 (x : Int) &&& BitVec.ofInt 32 ((1 : Nat) : Int)).toNat : Int) = _
    rw [BitVec.toNat_and, BitVec.ofInt_natCast, BitVec.ofInt_natCast, BitVec.toNat_ofNat, BitVec.toNat_ofNat, Nat.mod_eq_of_lt (by omega), Nat.mod_eq_of_lt (by omega)]
    show (((x &&& 1 : Nat) : Int) % 4294967296) = _
    omega
  rw [show (1 : Int) = ((1 : Nat) : Int) from rfl, e, Nat.and_one_is_mod]
  have h2 : x % 2 < 2 := Nat.mod_lt _ (by omega)
  rcases (show x % 2 = 0 ∨ x % 2 = 1 by omega) with h3 | h3 <;> rw [h3] <;> rfl
theorem xor32 (a b : Nat) (ha : a < 4294967296) (hb : b < 4294967296) : bits .xor .u32 (a : Int) (b : Int) = ((a ^^^ b : Nat) : Int) := by
  have hx : a ^^^ b < 2 ^ 32 := Nat.xor_lt_two_pow (by omega) (by omega)
  show IntKind.u32.wrap ((BitVec.ofInt 32 (a : Int) ^^^ BitVec.ofInt 32 (b : Int)).toNat : Int) = _
  rw [BitVec.toNat_xor, BitVec.ofInt_natCast, BitVec.ofInt_natCast, BitVec.toNat_ofNat, BitVec.toNat_ofNat, Nat.mod_eq_of_lt (by omega), Nat.mod_eq_of_lt (by omega)]
  show (((a ^^^ b : Nat) : Int) % 4294967296) = _
  omega
theorem xor8 (a b : Nat) (ha : a < 256) (hb : b < 256) : bits .xor .u8 (a : Int) (b : Int) = ((a ^^^ b : Nat) : Int) := by
  have hx : a ^^^ b < 2 ^ 8 := Nat.xor_lt_two_pow (by omega) (by omega)
  show IntKind.u8.wrap ((BitVec.ofInt 8 (a : Int) ^^^ BitVec.ofInt 8 (b : Int)).toNat : Int) = _
  rw [BitVec.toNat_xor, BitVec.ofInt_natCast, BitVec.ofInt_natCast, BitVec.toNat_ofNat, BitVec.toNat_ofNat, Nat.mod_eq_of_lt (by omega), Nat.mod_eq_of_lt (by omega)]
  show (((a ^^^ b : Nat) : Int) % 256) = _
  omega

set_option maxRecDepth 100000 in
set_option maxHeartbeats 2000000 in
theorem roll_any (c : Nat) (B : Nat) (w : World) (hc : c < 256) (hb : w.cell? ⟨B, 0, none⟩ = some (.int .u32 3988292384)) :
    Calls Tryz.prog 144 #[.int .u8 c, .pointer (some ⟨B, 0, none⟩)] w fun e w' => e = .returned (.int .u32 (roll c)) ∧ w' = w := by
  have g0 : IntKind.u32.wrap (c : Int) = (c : Int) := IntWalk.u32_in _ (by omega)
  go_enter Tryz.func144, Tryz.ntmps144
  go_wp2_with fail
  go_loopw [7, 4] (fun i v wr => ∃ k : Nat, k ≤ 8 ∧ i = .int .i64 k ∧ v = .int .u32 (rollN k c) ∧ wr = w) (fun i _ _ => 8 - (intOf i).toNat)
  case atStart => exact ⟨0, by omega, rfl, rfl, rfl⟩
  case round =>
    obtain ⟨k, hk, rfl, rfl, rfl⟩ := hrel
    by_cases hlt : k < 8
    · have hlt' : (k : Int) < 8 := by omega
      have hst : Hid (rollN (k + 1) c = crcStep (rollN k c)) := rfl
      have hx := rollN_lt (show c < 4294967296 by omega) k
      generalize rollN k c = x at hst hx ⊢
      have g1 := and_one x hx
      have g2 : bits .xor .u32 ((x : Int) / 2) 3988292384 = (((x / 2) ^^^ 3988292384 : Nat) : Int) := by
        have := xor32 (x / 2) 3988292384 (by omega) (by omega)
        rw [← this]; rfl
      by_cases ho : x % 2 = 1
      · rw [decide_eq_true ho] at g1
        have ho' : Hid _ := ho
        clear ho
        go_wp2_with fail
        go_roundw
        case rel => exact ⟨k + 1, by omega, by go_num, by rw [hst.out, crcStep, if_pos ho'.out], trivial⟩
        case measure => simp [intOf]; omega
      · rw [decide_eq_false ho] at g1
        have ho' : Hid _ := ho
        clear ho g2
        go_wp2_with fail
        go_roundw
        case rel => exact ⟨k + 1, by omega, by go_num, by rw [hst.out, crcStep, if_neg ho'.out]; simp, trivial⟩
        case measure => simp [intOf]; omega
    · obtain rfl : k = 8 := by omega
      go_wp2_with fail
      go_returns
      exact ⟨rfl, rfl⟩
set_option maxRecDepth 100000 in
theorem rolls_any (y : Nat) (w : World) :
    Calls Tryz.prog 121 #[.int .u32 y] w fun e w' => e = .returned (.func (.func 144) #[] #[.pointer (some ⟨w.heap.size, 0, none⟩)]) ∧ w' = w.alloc (.cells #[.int .u32 y] 62) := by
  go_enter Tryz.func121, Tryz.ntmps121
  go_wp2
  go_returns
  exact ⟨rfl, rfl⟩
theorem not32 (s : Nat) (hs : s < 4294967296) : bits .xor .u32 IntKind.u32.max (s : Int) = ((4294967295 - s : Nat) : Int) := by
  have e := xor32 4294967295 s (by omega) hs
  have h2 : 4294967295 ^^^ s = 4294967295 - s := by
    have h3 : (BitVec.allOnes 32 ^^^ BitVec.ofNat 32 s).toNat = 2 ^ 32 - 1 - (BitVec.ofNat 32 s).toNat := by
      rw [BitVec.allOnes_xor, BitVec.toNat_not]
    rw [BitVec.toNat_xor, BitVec.toNat_ofNat, Nat.mod_eq_of_lt (show s < 2 ^ 32 by omega)] at h3
    exact h3
  rw [h2] at e
  exact e
theorem take_snoc' (l : List Nat) (k : Nat) (hk : k < l.length) : l.take (k + 1) = l.take k ++ [l.getD k 0] := by
  rw [List.take_succ_eq_append_getElem hk, List.getD_eq_getElem?_getD, List.getElem?_eq_getElem hk]; rfl
set_option maxRecDepth 100000 in
set_option maxHeartbeats 2000000 in
theorem on_any (s : Nat) (v : Value) (l : List Nat) (w : World) (hs : s < 4294967296) (hv : BytesIn w v l) :
    Calls Tryz.prog 75 #[.int .u32 s, v] w fun e w' => e = .returned (.int .u32 (crcOn s l)) ∧ Below w.heap.size w w' := by
  have hbl := hv.1
  have hll := hv.2.1
  obtain ⟨p, cap, rfl, hc⟩ := bytes_parts hv
  have hro := rolls_any 3988292384 w
  have g0 := not32 s hs
  have hw1 : Below w.heap.size w (w.alloc (.cells #[.int .u32 (3988292384 : Nat)] 62)) := (Below.refl _ _).alloc (Nat.le_refl _) _
  have hbx := cell_new1 w (.int .u32 (3988292384 : Nat)) 62
  obtain ⟨t, ht⟩ : ∃ t, 4294967295 - s = t := ⟨_, rfl⟩
  have htl : t < 4294967296 := by omega
  rw [ht] at g0
  go_enter Tryz.func75, Tryz.ntmps75
  go_wp2_with (first | (go_at_call 121; refine hro.mono ?_; rintro e w' ⟨rfl, rfl⟩))
  replace hw1 : Below w.heap.size w (w.alloc (.cells #[.int .u32 3988292384] 62)) := hw1
  replace hbx : (w.alloc (.cells #[.int .u32 3988292384] 62)).cell? ⟨w.heap.size, 0, none⟩ = some (.int .u32 3988292384) := hbx
  have htd : Hid (4294967295 - s = t) := ht
  clear ht hro g0
  go_loopw [13, 0] (fun i v wr => ∃ k : Nat, k ≤ l.length ∧ i = .int .i64 k ∧ v = .int .u32 (crcFold t (l.take k)) ∧ wr = w.alloc (.cells #[.int .u32 3988292384] 62)) (fun i _ _ => l.length - (intOf i).toNat)
  case atStart => exact ⟨0, by omega, rfl, rfl, rfl⟩
  case round =>
    obtain ⟨k, hk, rfl, rfl, rfl⟩ := hrel
    by_cases hlt : k < l.length
    · obtain ⟨b, off, rfl, hcb⟩ := hc k hlt
      have hcell := (hw1.cell (p := ⟨b, off + k, none⟩) (lt_of_cell hcb)).trans hcb
      have hlt' : (k : Int) < l.length := by omega
      have hst : Hid (crcFold t (l.take (k + 1)) = (crcFold t (l.take k) / 256) ^^^ roll ((crcFold t (l.take k) % 256) ^^^ l.getD k 0)) := by show _ = _; rw [take_snoc' l k hlt, crcFold_snoc]
      have hS := crcFold_lt (l.take k) t htl (fun x hx => hbl x (List.mem_of_mem_take hx))
      have hcl : l.getD k 0 < 256 := by rw [List.getD_eq_getElem?_getD, List.getElem?_eq_getElem hlt]; exact hbl _ (List.getElem_mem hlt)
      generalize crcFold t (l.take k) = S at hst hS ⊢
      generalize l.getD k 0 = c at hst hcl hcell
      clear hc hcb
      have g1 : IntKind.u8.wrap (S : Int) = ((S % 256 : Nat) : Int) := by show (S : Int) % 256 = _; omega
      have hx8 : (S % 256) ^^^ c < 256 := Nat.xor_lt_two_pow (n := 8) (by omega) (by omega)
      have g2 := xor8 (S % 256) c (by omega) hcl
      obtain ⟨z, hz⟩ : ∃ z, (S % 256) ^^^ c = z := ⟨_, rfl⟩
      obtain ⟨m, hm⟩ : ∃ m, S % 256 = m := ⟨_, rfl⟩
      rw [hz] at g2 hst hx8
      rw [hm] at g1 g2
      have hzl := rollN_lt (show z < 4294967296 by omega) 8
      have g3 := xor32 (S / 256) (roll z) (by omega) hzl
      have hro := roll_any z w.heap.size (w.alloc (.cells #[.int .u32 3988292384] 62)) hx8 hbx
      obtain ⟨y, hy⟩ : ∃ y, roll z = y := ⟨_, rfl⟩
      rw [hy] at g3 hro hst
      have g4 : ((S / 256 : Nat) : Int) = (S : Int) / 256 := by omega
      rw [g4] at g3
      obtain ⟨X, hX⟩ : ∃ X, (S / 256) ^^^ y = X := ⟨_, rfl⟩
      rw [hX] at g3 hst
      clear hz hm hy hX g4 hbl hzl
      go_wp2_with (first | (go_at_call 144; refine hro.mono ?_; rintro e w' ⟨rfl, hw'⟩; obtain rfl := hw'.symm))
      go_roundw
      case rel => exact ⟨k + 1, by omega, by go_num, by rw [hst.out], trivial⟩
      case measure => simp [intOf]; omega
    · obtain rfl : k = l.length := by omega
      rw [List.take_length]
      have hS := crcFold_lt l t htl hbl
      have g5 : Hid (crcOn s l = 4294967295 - crcFold t l) := by show _ = _; unfold crcOn; rw [htd.out]
      generalize crcFold t l = S at hS g5 ⊢
      have g6 := not32 S hS
      go_wp2_with fail
      go_returns
      exact ⟨by rw [g5.out]; rfl, hw1⟩
set_option maxRecDepth 100000 in
theorem of_any (v : Value) (l : List Nat) (w : World) (hv : BytesIn w v l) :
    Calls Tryz.prog 73 #[v] w fun e w' => e = .returned (.int .u32 (crcOn 0 l)) ∧ Below w.heap.size w w' := by
  have ho := on_any 0 v l w (by omega) hv
  obtain ⟨p, cap, rfl, hc⟩ := bytes_parts hv
  clear hc hv
  go_enter Tryz.func73, Tryz.ntmps73
  go_wp2_with (first | (go_at_call 75; refine ho.mono ?_; rintro e w' ⟨rfl, hb⟩))
  go_returns
  exact ⟨rfl, hb⟩
end Go.Proofs.YtmcmagplaflegaaGreat

namespace Go.Proofs.YtmcmagplaflegaaGreat
open Go Go.RowKit Go.MapL Go.Poised

def zer (k : Nat) : List Nat := List.replicate k 0
theorem run_make_bytes (k : Nat) (hk : k ≤ 1000) (w : World) : (Instr.makeSlice 23 (.int .i64 k) (.int .i64 k)).run Tryz.prog w = .ok (.slice (some ⟨w.heap.size, 0, none⟩) k k) (w.alloc (.cells (encB (zer k)).toArray 5)) := by
  obtain ⟨i, hi, hi2⟩ := Option.map_eq_some_iff.1 info5
  simp only [Prod.mk.injEq] at hi2
  obtain ⟨hz, hs, hb⟩ := hi2
  have := run_make (P := Tryz.prog) w 23 5 i (.int .u8 0) Tryz.underlying23 hi hz .i64 .i64 k k (by omega) (by omega) (by rw [hb]; omega) (by omega)
  rw [this, hs]
  have e : madeCells (Value.cells (.int .u8 0)) ((k : Int).toNat * 1) = (encB (zer k)).toArray := by
    simp only [Int.toNat_natCast, Nat.mul_one]
    unfold encB zer
    rw [List.map_replicate]
    apply Array.ext'
    simp [madeCells, Value.cells]
    have : (fun x : Nat => [Value.int .u8 0][x % 1]?.getD default) = fun _ => Value.int .u8 0 := by funext x; simp [Nat.mod_one]
    rw [this, List.map_const']; simp
  rw [e]
  simp
/-- A number's bytes, the highest first: the byte at p. -/
def beAt (n size p : Nat) : Nat := n / 256 ^ (size - 1 - p) % 256
def be (n size : Nat) : List Nat := (List.range size).map (beAt n size)
def beTo (n size k : Nat) : List Nat := (List.range size).map fun p => if size ≤ p + k then beAt n size p else 0
theorem beTo_zero (n size : Nat) : beTo n size 0 = zer size := by
  unfold beTo zer
  rw [List.eq_replicate_iff]
  refine ⟨by simp, fun b hb => ?_⟩
  obtain ⟨p, hp, rfl⟩ := List.mem_map.1 hb
  have := List.mem_range.1 hp
  rw [if_neg (by omega)]
theorem beTo_all (n size : Nat) : beTo n size size = be n size := by
  unfold beTo be
  exact List.map_congr_left fun p _ => if_pos (by omega)
theorem beTo_set (n size k : Nat) (hk : k < size) : (encB (beTo n size k)).toArray.setIfInBounds (size - 1 - k) (.int .u8 (beAt n size (size - 1 - k) : Nat)) = (encB (beTo n size (k + 1))).toArray := by
  apply Array.ext'
  simp only [Array.toList_setIfInBounds]
  apply List.ext_getElem
  · simp [encB, beTo]
  · intro p h1 h2
    simp only [encB, beTo, List.length_map, List.length_range] at h2
    rw [List.getElem_set]
    simp only [encB, beTo, List.getElem_map, List.getElem_range]
    by_cases hp : size - 1 - k = p
    · rw [if_pos hp, if_pos (by omega)]; subst hp; rfl
    · rw [if_neg hp]
      by_cases hq : size ≤ p + k
      · rw [if_pos hq, if_pos (by omega)]
      · rw [if_neg hq, if_neg (by omega)]
set_option maxRecDepth 100000 in
set_option maxHeartbeats 2000000 in
theorem number_any (n size : Nat) (w : World) (_ : n < 18446744073709551616) (hs : size ≤ 8) :
    Calls Tryz.prog 72 #[.int .u64 n, .int .i64 size] w fun e w' => e = .returned (.slice (some ⟨w.heap.size, 0, none⟩) size size) ∧ w'.heap[w.heap.size]? = some (.cells (encB (be n size)).toArray 5) ∧ Below w.heap.size w w' := by
  have hmk := run_make_bytes size (by omega) w
  go_enter Tryz.func72, Tryz.ntmps72
  go_wp2_with fail
  go_loopw [11] (fun i wr => ∃ k : Nat, k ≤ size ∧ i = .int .i64 k ∧ wr.heap[w.heap.size]? = some (.cells (encB (beTo n size k)).toArray 5) ∧ Below w.heap.size w wr) (fun i _ => size - (intOf i).toNat)
  case atStart => exact ⟨0, by omega, rfl, by rw [beTo_zero]; exact heap_new _ _, (Below.refl _ _).alloc (Nat.le_refl _) _⟩
  case round =>
    obtain ⟨k, hk, rfl, hB, hBw⟩ := hrel
    by_cases hlt : k < size
    · have hlt' : (k : Int) < size := by omega
      have hcell : wr.cell? ⟨w.heap.size, size - 1 - k, none⟩ = some (.int .u8 ((beTo n size k).getD (size - 1 - k) 0 : Nat)) := by
        simp only [World.cell?, hB]
        have := encB_get (beTo n size k) (size - 1 - k) (by simp [beTo]; omega)
        simpa using this
      have hfz := free_of hB (size - 1 - k)
      have g1 : IntKind.i64.wrap ((size : Int) - 1) = (size : Int) - 1 := IntWalk.i64_in _ (by omega)
      have g2 : IntKind.i64.wrap ((size : Int) - 1 - k) = ((size - 1 - k : Nat) : Int) := by rw [IntWalk.i64_in _ (by omega)]; omega
      have g3 : IntKind.i64.wrap (8 * (k : Int)) = 8 * (k : Int) := IntWalk.i64_in _ (by omega)
      have g4 : ((size - 1 - k : Nat) : Int) < size := by omega
      go_wp2_with fail
      have hv : ((n : Int) / 2 ^ (8 * k) % 256) = ((beAt n size (size - 1 - k) : Nat) : Int) := by
        unfold beAt
        rw [show size - 1 - (size - 1 - k) = k by omega]
        have e : ((2 : Int) ^ (8 * k)) = ((256 ^ k : Nat) : Int) := by rw [Int.natCast_pow, Int.pow_mul]; rfl
        rw [e]
        omega
      go_roundw
      case rel =>
        refine ⟨k + 1, by omega, by go_num, ?_, hBw.setCell (p := ⟨w.heap.size, size - 1 - k, none⟩) (Nat.le_refl _) _⟩
        rw [hv, setCell_heap hB, beTo_set n size k hlt]
      case measure => simp [intOf]; omega
    · obtain rfl : k = size := by omega
      rw [beTo_all] at hB
      go_wp2_with fail
      go_returns
      exact ⟨rfl, hB, hBw⟩
theorem cells4 {w : World} {B : Nat} {c0 c1 c2 c3 : Value} {t : TypeId} (h : w.heap[B]? = some (.cells #[c0, c1, c2, c3] t)) : w.cell? ⟨B, 0, none⟩ = some c0 ∧ w.cell? ⟨B, 1, none⟩ = some c1 ∧ w.cell? ⟨B, 2, none⟩ = some c2 ∧ w.cell? ⟨B, 3, none⟩ = some c3 := by
  simp [World.cell?, h]
set_option maxRecDepth 100000 in
set_option maxHeartbeats 4000000 in
theorem reverse4 (a b c d : Int) (B : Nat) (w : World) (h : w.heap[B]? = some (.cells #[.int .u8 a, .int .u8 b, .int .u8 c, .int .u8 d] 5)) :
    Calls Tryz.prog 120 #[.slice (some ⟨B, 0, none⟩) 4 4] w fun e w' => e = .returned (.tuple #[]) ∧ w'.heap[B]? = some (.cells #[.int .u8 d, .int .u8 c, .int .u8 b, .int .u8 a] 5) ∧ Grown (fun k => k = B) w w' := by
  go_enter Tryz.func120, Tryz.ntmps120
  go_wp2_with fail
  go_loopw [2, 3] (fun i j wr => Grown (fun k => k = B) w wr ∧ ((i = .int .i64 0 ∧ j = .int .i64 3 ∧ wr.heap[B]? = some (.cells #[.int .u8 a, .int .u8 b, .int .u8 c, .int .u8 d] 5)) ∨ (i = .int .i64 1 ∧ j = .int .i64 2 ∧ wr.heap[B]? = some (.cells #[.int .u8 d, .int .u8 b, .int .u8 c, .int .u8 a] 5)) ∨ (i = .int .i64 2 ∧ j = .int .i64 1 ∧ wr.heap[B]? = some (.cells #[.int .u8 d, .int .u8 c, .int .u8 b, .int .u8 a] 5)))) (fun i _ _ => 3 - (intOf i).toNat)
  case atStart => exact ⟨Grown.refl _ _, .inl ⟨rfl, rfl, h⟩⟩
  case round =>
    obtain ⟨hG, ⟨rfl, rfl, hB⟩ | ⟨rfl, rfl, hB⟩ | ⟨rfl, rfl, hB⟩⟩ := hrel
    · obtain ⟨x0, x1, x2, x3⟩ := cells4 hB
      have z0 := free_of hB 0
      have z3 := free_of hB 3
      go_wp2_with fail
      go_region
      go_wp2_with fail
      go_roundw
      case rel =>
        refine ⟨((hG.drew).setCell (p := ⟨B, 0, none⟩) (.inl rfl) _).setCell (p := ⟨B, 3, none⟩) (.inl rfl) _, .inr (.inl ⟨rfl, rfl, ?_⟩)⟩
        exact (setCell_heap (setCell_heap hB)).trans rfl
      case measure => simp [intOf]
    · obtain ⟨x0, x1, x2, x3⟩ := cells4 hB
      have z1 := free_of hB 1
      have z2 := free_of hB 2
      go_wp2_with fail
      go_region
      go_wp2_with fail
      go_roundw
      case rel =>
        refine ⟨((hG.drew).setCell (p := ⟨B, 1, none⟩) (.inl rfl) _).setCell (p := ⟨B, 2, none⟩) (.inl rfl) _, .inr (.inr ⟨rfl, rfl, ?_⟩)⟩
        exact (setCell_heap (setCell_heap hB)).trans rfl
      case measure => simp [intOf]
    · go_wp2_with fail
      go_returns
      exact ⟨rfl, hB, hG⟩
end Go.Proofs.YtmcmagplaflegaaGreat

namespace Go.Proofs.YtmcmagplaflegaaGreat
open Go Go.RowKit Go.MapL Go.Poised

/-- A sum's bytes, the lowest first. -/
def sum4 (n : Nat) : List Nat := (be n 4).reverse
theorem be_len (n size : Nat) : (be n size).length = size := by simp [be]
theorem be_byte (n size : Nat) : ∀ x ∈ be n size, x < 256 := by
  intro x hx
  obtain ⟨p, _, rfl⟩ := List.mem_map.1 hx
  exact Nat.mod_lt _ (by omega)
theorem sum4_byte (n : Nat) : ∀ x ∈ sum4 n, x < 256 := fun x hx => be_byte n 4 x (List.mem_reverse.1 hx)
theorem sum4_len (n : Nat) : (sum4 n).length = 4 := by simp [sum4, be_len]
set_option maxRecDepth 100000 in
set_option maxHeartbeats 2000000 in
theorem sumOf_any (n : Nat) (w : World) (hn : n < 4294967296) :
    Calls Tryz.prog 74 #[.int .u32 n] w fun e w' => e = .returned (.slice (some ⟨w.heap.size, 0, none⟩) 4 4) ∧ w'.heap[w.heap.size]? = some (.cells (encB (sum4 n)).toArray 5) ∧ Below w.heap.size w w' := by
  have hnu := number_any n 4 w (by omega) (by omega)
  have g : IntKind.u64.wrap (n : Int) = (n : Int) := IntWalk.u64_in _ (by omega)
  have hre := fun W (h : W.heap[w.heap.size]? = some (.cells (encB (be n 4)).toArray 5)) => reverse4 (beAt n 4 0 : Nat) (beAt n 4 1 : Nat) (beAt n 4 2 : Nat) (beAt n 4 3 : Nat) w.heap.size W h
  go_enter Tryz.func74, Tryz.ntmps74
  go_wp2_with (first | (go_at_call 72; refine hnu.mono ?_; rintro e w1 ⟨rfl, h1, hb1⟩) | (go_at_call 120; refine (hre _ h1).mono ?_; rintro e w2 ⟨rfl, h2, hg2⟩))
  go_returns
  exact ⟨rfl, h2, hb1.trans (hg2.below hb1.size (fun k hk => by omega))⟩

def told (l : List Nat) : Nat := l.foldl (fun n c => n * 256 + c) 0
theorem told_snoc (l : List Nat) (c : Nat) : told (l ++ [c]) = told l * 256 + c := by simp [told]
theorem told_lt (l : List Nat) (h : ∀ x ∈ l, x < 256) : told l < 256 ^ l.length := by
  have key : ∀ (l : List Nat) (n m : Nat), (∀ x ∈ l, x < 256) → n < 256 ^ m → l.foldl (fun n c => n * 256 + c) n < 256 ^ (m + l.length) := by
    intro l
    induction l with
    | nil => intro n m _ h; exact h
    | cons c l ih =>
      intro n m h hn
      have hc := h c (.head _)
      have := ih (n * 256 + c) (m + 1) (fun x hx => h x (.tail _ hx)) (by rw [Nat.pow_succ]; omega)
      rw [List.length_cons, show m + (l.length + 1) = m + 1 + l.length by omega]
      exact this
  have := key l 0 0 h (by simp)
  rw [Nat.zero_add] at this
  exact this
theorem or_shift (n c : Nat) (hn : n < 72057594037927936) (hc : c < 256) : bits .or .u64 ((n * 256 : Nat) : Int) (c : Int) = ((n * 256 + c : Nat) : Int) := by
  have e : (n * 256) ||| c = n * 256 + c := by
    have h := Nat.two_pow_add_eq_or_of_lt (i := 8) (b := c) (by omega) n
    rw [show n * 256 = 2 ^ 8 * n by omega]; exact h.symm
  have hx : (n * 256) ||| c < 18446744073709551616 := by omega
  show IntKind.u64.wrap ((BitVec.ofInt 64 ((n * 256 : Nat) : Int) ||| BitVec.ofInt 64 (c : Int)).toNat : Int) = _
  rw [BitVec.toNat_or, BitVec.ofInt_natCast, BitVec.ofInt_natCast, BitVec.toNat_ofNat, BitVec.toNat_ofNat, Nat.mod_eq_of_lt (by omega), Nat.mod_eq_of_lt (by omega), e, IntWalk.u64_in _ (by omega)]
set_option maxRecDepth 100000 in
set_option maxHeartbeats 2000000 in
theorem told_any (v : Value) (l : List Nat) (w : World) (hv : BytesIn w v l) (hl : l.length ≤ 8) :
    Calls Tryz.prog 123 #[v] w fun e w' => e = .returned (.int .u64 (told l)) ∧ w' = w := by
  have hbl := hv.1
  obtain ⟨p, cap, rfl, hc⟩ := bytes_parts hv
  go_enter Tryz.func123, Tryz.ntmps123
  go_wp2_with fail
  go_loopw [7, 2] (fun i x wr => ∃ k : Nat, k ≤ l.length ∧ i = .int .i64 k ∧ x = .int .u64 (told (l.take k)) ∧ wr = w) (fun i _ _ => l.length - (intOf i).toNat)
  case atStart => exact ⟨0, by omega, rfl, rfl, rfl⟩
  case round =>
    obtain ⟨k, hk, rfl, rfl, rfl⟩ := hrel
    by_cases hlt : k < l.length
    · obtain ⟨b, off, rfl, hcb⟩ := hc k hlt
      have hlt' : (k : Int) < l.length := by omega
      have hst : Hid (told (l.take (k + 1)) = told (l.take k) * 256 + l.getD k 0) := by show _ = _; rw [take_snoc' l k hlt, told_snoc]
      have hS := told_lt (l.take k) (fun x hx => hbl x (List.mem_of_mem_take hx))
      have hcl : l.getD k 0 < 256 := by rw [List.getD_eq_getElem?_getD, List.getElem?_eq_getElem hlt]; exact hbl _ (List.getElem_mem hlt)
      have hS2 : told (l.take k) < 72057594037927936 := by
        refine Nat.lt_of_lt_of_le hS ?_
        rw [List.length_take]
        exact Nat.pow_le_pow_right (by omega) (show min k l.length ≤ 7 by omega)
      generalize told (l.take k) = S at hst hS2 hS ⊢
      generalize l.getD k 0 = c at hst hcl hcb
      clear hS
      have g1 := or_shift S c hS2 hcl
      rw [show ((S * 256 : Nat) : Int) = (S : Int) * 256 by omega] at g1
      have g2 : IntKind.u64.wrap (c : Int) = (c : Int) := IntWalk.u64_in _ (by omega)
      have g3 : IntKind.u64.wrap ((S : Int) * 256) = ((S * 256 : Nat) : Int) := by rw [IntWalk.u64_in _ (by omega)]; omega
      clear hc hbl
      go_wp2_with fail
      go_roundw
      case rel => exact ⟨k + 1, by omega, by go_num, by rw [hst.out]; first | rfl | simp, trivial⟩
      case measure => simp [intOf]; omega
    · obtain rfl : k = l.length := by omega
      rw [List.take_length]
      go_wp2_with fail
      go_returns
      exact ⟨rfl, rfl⟩
theorem strOfNums_inj : ∀ (l m : List Nat), (∀ x ∈ l, x < 256) → (∀ x ∈ m, x < 256) → txt l = txt m → l = m := by
  intro l m hl hm h
  have e : ∀ (l : List Nat), (∀ x ∈ l, x < 256) → (txt l).data.toList.map (·.toNat) = l := by
    intro l hl
    unfold txt
    rw [strOfNums_data, List.map_map, List.map_map]
    conv => rhs; rw [← List.map_id l]
    apply List.map_congr_left
    intro x hx
    have := hl x hx
    show (UInt8.ofNat x).toNat = x
    simp
    omega
  rw [← e l hl, ← e m hm, h]
set_option maxRecDepth 100000 in
set_option maxHeartbeats 2000000 in
theorem equal_any (v u : Value) (l m : List Nat) (w : World) (hv : BytesIn w v l) (hu : BytesIn w u m) :
    Calls Tryz.prog 124 #[v, u] w fun e w' => e = .returned (.bool (decide (l = m))) ∧ w' = w := by
  have h1 := run_string_of w v l hv
  have h2 := run_string_of w u m hu
  have hd : ((txt l).toList == (txt m).toList) = decide (l = m) := by
    rw [← beq_toListBytes]
    by_cases h : l = m
    · subst h; rw [decide_eq_true rfl]; exact (MapKept.bytes_beq _ _).2 rfl
    · rw [decide_eq_false h]
      cases hb : (txt l == txt m)
      · rfl
      · exact absurd (strOfNums_inj l m hv.1 hu.1 ((MapKept.bytes_beq _ _).1 hb)) h
  obtain ⟨p, cap, rfl, _⟩ := bytes_parts hv
  obtain ⟨q, cap', rfl, _⟩ := bytes_parts hu
  clear hv hu
  generalize txt l = x at *
  generalize txt m = y at *
  generalize decide (l = m) = b at *
  go_enter Tryz.func124, Tryz.ntmps124
  go_wp2_with fail
  go_returns
  exact ⟨by rw [← hd]; first | rfl | simp, rfl⟩
end Go.Proofs.YtmcmagplaflegaaGreat

namespace Go.Proofs.YtmcmagplaflegaaGreat
open Go Go.RowKit Go.MapL Go.Poised

theorem wpList_append_run {P : Program} (w : World) {ops : Array Oper} {rest : List Oper} {o : Oper} {a : Act} {Q : Exit → Act → World → Prop} (hgd : o.guard = none) (s x : Operand) (t t2 : TypeId)
    (ho : o.op = .call { callee := .builtin .append, args := #[s, x], argTypes := #[t, t2] }) (v u : Value) (hs : a.eval s = v) (hx : a.eval x = u) {v' : Value} {w' : World} (hr : ∀ ty, (Builtin.append_ #[t, t2] ty #[v, u]).run P w = .ok v' w')
    (h : wpList P ops Q rest (a.put o.dst v') w') : wpList P ops Q (o :: rest) a w := by
  refine wpList_plain hgd fun K hK => ?_
  unfold Oper.wp execOp
  simp only [ho, resolve, invoke, builtin, Sem.run_bind, Sem.run_pure, Result.andThen_ok, List.map_toArray, List.map_cons, List.map_nil, hs, hx, hr]
  exact hK _ _ h
theorem below_grown {n₀ : Nat} {w w' : World} {u : Value} {k : Nat} {xs : List Value} {e : Nat} (h : w.ownsRow n₀ e 1 u k xs) (hn : n₀ ≤ w.heap.size) (hg : w.grownBy w' u.ownBlock) : Below n₀ w w' :=
  ⟨hg.os, hg.tape, hg.output, hg.size, fun i hi => hg.block i (by omega) (fun e => by have := (h.lt i e.symm).1; omega)⟩
theorem size_zeroCells (z : Array Value) (n : Nat) : (Builtin.zeroCells z n).size = n * z.size := by simp [Builtin.zeroCells]
theorem below_drew' (w : World) : Below w.heap.size w w.drew := ⟨rfl, rfl, rfl, Nat.le_refl _, fun _ _ => rfl⟩
set_option maxRecDepth 100000 in
set_option maxHeartbeats 2000000 in
theorem grow_any (n : Nat) (w : World) (hn : n ≤ 1099511627776) :
    Calls Tryz.prog 119 #[.slice none 0 0, .int .i64 n] w fun e w' => ∃ v, e = .returned v ∧ w'.ownsRow w.heap.size 5 1 v 0 [] ∧ Below w.heap.size w w' := by
  have h1 : ¬ ((n : Int) < 0) := by omega
  obtain ⟨i0, hi, hz0, hz1, hz2⟩ := info_parts info5
  by_cases h0 : n = 0
  · subst h0
    go_enter Tryz.func119, Tryz.ntmps119
    go_wp2_with fail
    go_returns
    exact ⟨_, rfl, World.ownsRow_nil _ _ _ _, Below.refl _ _⟩
  · have g1 : IntKind.i64.wrap (n : Int) = (n : Int) := IntWalk.i64_in _ (by omega)
    have h4 : (0 : Int) < (n : Int) := by omega
    have hold : (Builtin.firstCells i0.size 0 (.slice none 0 0)).run Tryz.prog w.drew = .ok #[] w.drew := run_firstCells_none w.drew i0.size 0 0 0
    have hap : ∀ ty, (Builtin.append_ #[23, 3] ty #[.slice none 0 0, .int .i64 n]).run Tryz.prog w = _ := fun ty =>
      Lib.run_append_grow_zeros w 23 3 ty 5 i0 (.int .u8 0) .i64 .i64 Tryz.underlying23 Tryz.underlying3 hi hz0 none 0 0 [] hold n (by omega) (by omega) (by omega) (by omega) (by rw [hz2]; omega) (growslice_fits (by omega) (by rw [hz2]; omega))
    have hge := grownCap_ge w n 0 5
    have hle := grownCap_le_maxLen w n 0 5 (by unfold maxLen; omega)
    simp only [Nat.zero_add] at hap
    generalize grownCap w n 0 5 = G at *
    replace h0 : Hid _ := h0
    clear hold
    replace hz0 : Hid _ := hz0
    replace hz1 : Hid _ := hz1
    replace hz2 : Hid _ := hz2
    unfold maxLen at hle
    have hG : n ≤ G := hge
    have hG' : (0 : Int) ≤ (G : Int) := by omega
    have hap' : Hid _ := hap
    clear hap
    go_enter Tryz.func119, Tryz.ntmps119
    go_wp2_with (at_builtin; refine wpList_append_run _ rfl _ _ 23 3 rfl (.slice none 0 0) (.int .i64 n) rfl rfl hap'.out ?_)
    go_returns
    refine ⟨_, rfl, ?_, (below_drew' w).alloc (Nat.le_refl _) _⟩
    refine World.ownsRow_made w.drew _ G (Nat.le_refl _) hle ?_
    simp [size_zeroCells]
    omega
/-- The bytes of rows, one behind the other. -/
def allB (L : List (Value × List Nat)) : List Nat := L.flatMap (·.2)
theorem allB_snoc (L : List (Value × List Nat)) (q : Value × List Nat) : allB (L ++ [q]) = allB L ++ q.2 := by simp [allB]
theorem take_snocL {β : Type} (L : List β) (k : Nat) (hk : k < L.length) : L.take (k + 1) = L.take k ++ [L[k]] := by rw [List.take_succ_eq_append_getElem hk]
theorem allB_take (L : List (Value × List Nat)) (k : Nat) : (allB (L.take k)).length ≤ (allB L).length := by
  conv => rhs; rw [← List.take_append_drop k L]
  unfold allB
  rw [List.flatMap_append, List.length_append]
  omega
set_option maxRecDepth 100000 in
set_option maxHeartbeats 4000000 in
theorem concat_any (L : List (Value × List Nat)) (B cap : Nat) (w : World) (hB : w.heap[B]? = some (.cells (L.map (·.1)).toArray 23)) (hL : ∀ q ∈ L, BytesIn w q.1 q.2) (hlen : (allB L).length ≤ 1099511627776) (hm : L.length ≤ 1000) :
    Calls Tryz.prog 71 #[.slice (some ⟨B, 0, none⟩) L.length cap] w fun e w' => ∃ v, e = .returned v ∧ w'.ownsRow w.heap.size 5 1 v (allB L).length (encB (allB L)) ∧ Below w.heap.size w w' := by
  have hcell : ∀ k (hk : k < L.length), w.cell? ⟨B, k, none⟩ = some L[k].1 := fun k hk => by simp [World.cell?, hB, hk]
  have hBl := (Array.getElem?_eq_some_iff.1 hB).1
  have hmI : (L.length : Int) ≤ 1000 := by omega
  go_enter Tryz.func71, Tryz.ntmps71
  go_wp2_with fail
  replace hlen : Hid _ := hlen
  replace hm : Hid _ := hm
  replace hL : Hid _ := hL
  replace hcell : Hid _ := hcell
  clear hB
  go_loopw [11, 3] (fun i z wr => ∃ k : Nat, k ≤ L.length ∧ i = .int .i64 k ∧ z = .int .i64 (allB (L.take k)).length ∧ wr = w) (fun i _ _ => L.length - (intOf i).toNat)
  case atStart => exact ⟨0, by omega, rfl, rfl, rfl⟩
  case round =>
    obtain ⟨k, hk, rfl, rfl, rfl⟩ := hrel
    by_cases hlt : k < L.length
    · have hc := hcell.out k hlt
      have hq := hL.out L[k] (List.getElem_mem hlt)
      have hst : Hid ((allB (L.take (k + 1))).length = (allB (L.take k)).length + L[k].2.length) := by show _ = _; rw [take_snocL L k hlt, allB_snoc, List.length_append]
      have hb1 := allB_take L (k + 1)
      rw [hst.out] at hb1
      have hlo := hlen.out
      generalize L[k] = q at hc hq hst hb1
      obtain ⟨qv, qb⟩ := q
      simp only at hc hq hst hb1
      obtain ⟨p, qcap, rfl, _⟩ := bytes_parts hq
      generalize (allB (L.take k)).length = S at hst hb1 ⊢
      have g1 : IntKind.i64.wrap ((S : Int) + qb.length) = (S : Int) + qb.length := IntWalk.i64_in _ (by omega)
      have g2 : ¬ ((S : Int) + qb.length < 0) := by omega
      have hlt' : (k : Int) < L.length := by omega
      clear hq hlo hb1
      go_wp2_with fail
      go_roundw
      case rel => exact ⟨k + 1, by omega, by go_num, by rw [hst.out]; first | rfl | simp, trivial⟩
      case measure => simp [intOf]; omega
    · obtain rfl : k = L.length := by omega
      rw [List.take_length]
      rename World => w0
      have hgr := grow_any (allB L).length w0 hlen.out
      go_wp2_with (first | (go_at_call 119; refine hgr.mono ?_; clear hgr; rintro e w1 ⟨v, rfl, hv, hb1⟩; obtain ⟨vq, vcap, rfl⟩ := own_shape hv))
      go_loopw [27, 6] (fun i z w2 => ∃ k : Nat, k ≤ L.length ∧ i = .int .i64 k ∧ w2.ownsRow w0.heap.size 5 1 z (allB (L.take k)).length (encB (allB (L.take k))) ∧ Below w0.heap.size w0 w2) (fun i _ _ => L.length - (intOf i).toNat)
      case atStart => exact ⟨0, by omega, rfl, hv, hb1⟩
      case round =>
        clear hv hb1
        obtain ⟨k, hk, rfl, hv, hb⟩ := hrel
        by_cases hlt : k < L.length
        · have hc := hcell.out k hlt
          have hq := (hL.out L[k] (List.getElem_mem hlt)).below hb
          have hst : Hid (allB (L.take (k + 1)) = allB (L.take k) ++ L[k].2) := by show _ = _; rw [take_snocL L k hlt, allB_snoc]
          have hb1 := allB_take L (k + 1)
          rw [hst.out, List.length_append] at hb1
          have hlo := hlen.out
          generalize L[k] = q at hc hq hst hb1
          obtain ⟨qv, qb⟩ := q
          simp only at hc hq hst hb1
          obtain ⟨p, qcap, rfl, _⟩ := bytes_parts hq
          have hc2 := (hb.cell (p := ⟨B, k, none⟩) hBl).trans hc
          generalize allB (L.take k) = S at hst hb1 hv ⊢
          obtain ⟨zq, zcap, rfl⟩ := own_shape hv
          have hlt' : (k : Int) < L.length := by omega
          go_wp2_with (at_builtin; refine wpList_append_bytes _ rfl _ _ rfl w0.heap.size (.slice zq S.length zcap) (.slice p qb.length qcap) S qb rfl rfl hv hq (by omega) hb.size ?_; intro v' w4 hown hgrow hwhere)
          go_roundw
          case rel => exact ⟨k + 1, by omega, by go_num, by rw [hst.out]; exact hown, hb.trans (below_grown hv hb.size hgrow)⟩
          case measure => simp [intOf]; omega
        · obtain rfl : k = L.length := by omega
          rw [List.take_length] at hv
          go_wp2_with fail
          go_returns
          exact ⟨_, rfl, hv, hb⟩
end Go.Proofs.YtmcmagplaflegaaGreat

namespace Go.Proofs.YtmcmagplaflegaaGreat
open Go Go.RowKit Go.MapL Go.Poised

def headB (n : Nat) (b : List Nat) : List Nat := be b.length 4 ++ be n 8
def recB (n : Nat) (b : List Nat) : List Nat := headB n b ++ (sum4 (crcOn 0 (headB n b)) ++ (b ++ sum4 (crcOn (crcOn 0 (headB n b)) b)))
/-- What Record answers. -/
def recRes (n : Int) (b : List Nat) : List Nat × Int := if n < 1 ∨ 9007199254740991 < n then ([], 2) else if 262144 < b.length then ([], 5) else (recB n.toNat b, 0)
theorem bytes_block {W : World} {B n : Nat} {fz : Nat × Nat} (l : List Nat) (hB : W.heap[B]? = some (.cells (encB l).toArray 5 fz)) (h1 : ∀ x ∈ l, x < 256) (h2 : l.length ≤ 1000000) : BytesIn W (.slice (some ⟨B, 0, none⟩) l.length n) l := by
  refine ⟨h1, by omega, .inr (.inr ⟨B, 0, n, rfl, fun k hk => ?_⟩)⟩
  have := encB_get l k hk
  simp only [World.cell?, hB, Option.isSome_none, Bool.false_eq_true, if_false, Nat.zero_add]
  rw [← this]; simp
theorem row_bytes {w : World} {n : Nat} {v : Value} {b : List Nat} (h : w.ownsRow n 5 1 v b.length (encB b)) (hb : ∀ x ∈ b, x < 256) (hl : b.length ≤ 1099511627776) : BytesIn w v b := bytesIn_of_own h hb (by omega)
theorem headB_len (n : Nat) (b : List Nat) : (headB n b).length = 12 := by simp [headB, be_len]
theorem headB_byte (n : Nat) (b : List Nat) : ∀ x ∈ headB n b, x < 256 := fun x hx => (List.mem_append.1 hx).elim (be_byte _ _ x) (be_byte _ _ x)
theorem recB_len (n : Nat) (b : List Nat) : (recB n b).length = b.length + 20 := by simp [recB, headB_len, sum4_len]; omega
theorem recB_byte (n : Nat) (b : List Nat) (hb : ∀ x ∈ b, x < 256) : ∀ x ∈ recB n b, x < 256 := by
  intro x hx
  unfold recB at hx
  rcases List.mem_append.1 hx with h | h
  · exact headB_byte n b x h
  · rcases List.mem_append.1 h with h | h
    · exact sum4_byte _ x h
    · rcases List.mem_append.1 h with h | h
      · exact hb x h
      · exact sum4_byte _ x h
theorem head_cat (b : List Nat) (m : Nat) (w w1 w2 : World) (hw1 : w1.heap[w.heap.size]? = some (.cells (encB (be b.length 4)).toArray 5)) (hw2 : w2.heap[w1.heap.size]? = some (.cells (encB (be m 8)).toArray 5)) (hb1 : Below w.heap.size w w1) (hb2 : Below w1.heap.size w1 w2) :
    Calls Tryz.prog 71 #[.slice (some ⟨w2.heap.size, 0, none⟩) 2 2] (w2.alloc (.cells #[.slice (some ⟨w.heap.size, 0, none⟩) 4 4, .slice (some ⟨w1.heap.size, 0, none⟩) 8 8] 23)) fun e w' => ∃ v, e = .returned v ∧ w'.ownsRow w.heap.size 5 1 v (headB m b).length (encB (headB m b)) ∧ Below w.heap.size w w' := by
  have hn := heap_new w2 (.cells #[.slice (some ⟨w.heap.size, 0, none⟩) 4 4, .slice (some ⟨w1.heap.size, 0, none⟩) 8 8] 23)
  have hal := (Below.refl w2.heap.size w2).alloc (Nat.le_refl _) (.cells #[.slice (some ⟨w.heap.size, 0, none⟩) 4 4, .slice (some ⟨w1.heap.size, 0, none⟩) 8 8] 23)
  have hB : Below w.heap.size w (w2.alloc (.cells #[.slice (some ⟨w.heap.size, 0, none⟩) 4 4, .slice (some ⟨w1.heap.size, 0, none⟩) 8 8] 23)) := (hb1.trans (hb2.mono hb1.size)).trans (hal.mono (Nat.le_trans hb1.size hb2.size))
  have hc1 := (hal.block _ (Nat.lt_of_lt_of_le (Array.getElem?_eq_some_iff.1 hw1).1 hb2.size)).trans ((hb2.block _ (Array.getElem?_eq_some_iff.1 hw1).1).trans hw1)
  have hc2 := (hal.block _ (Array.getElem?_eq_some_iff.1 hw2).1).trans hw2
  have e : allB [(Value.slice (some ⟨w.heap.size, 0, none⟩) 4 4, be b.length 4), (Value.slice (some ⟨w1.heap.size, 0, none⟩) 8 8, be m 8)] = headB m b := by simp [allB, headB]
  have key := concat_any [(.slice (some ⟨w.heap.size, 0, none⟩) 4 4, be b.length 4), (.slice (some ⟨w1.heap.size, 0, none⟩) 8 8, be m 8)] w2.heap.size 2 _ hn ?_ ?_ (by simp)
  · rw [e] at key
    refine key.mono ?_
    rintro e w' ⟨v, rfl, hr, hb⟩
    exact ⟨v, rfl, own_base' hr hB.size, hB.trans (hb.mono hB.size)⟩
  · intro q hq
    rcases List.mem_cons.1 hq with rfl | hq
    · have := bytes_block (n := 4) _ hc1 (be_byte _ _) (by rw [be_len]; omega)
      rw [be_len] at this; exact this
    · rw [List.mem_singleton] at hq; subst hq
      have := bytes_block (n := 8) _ hc2 (be_byte _ _) (by rw [be_len]; omega)
      rw [be_len] at this; exact this
  · rw [e, headB_len]; omega
theorem rec_cat (m : Nat) (b : List Nat) (hd : Value) (B1 : Nat) (bv : Value) (n : Nat) (w : World) (hr : w.ownsRow n 5 1 hd (headB m b).length (encB (headB m b))) (h1 : w.heap[B1]? = some (.cells (encB (sum4 (crcOn 0 (headB m b)))).toArray 5)) (hb : BytesIn w bv b) {B2 : Nat}
    (h2 : w.heap[B2]? = some (.cells (encB (sum4 (crcOn (crcOn 0 (headB m b)) b))).toArray 5)) (hbl : b.length ≤ 262144) :
    Calls Tryz.prog 71 #[.slice (some ⟨w.heap.size, 0, none⟩) 4 4] (w.alloc (.cells #[hd, .slice (some ⟨B1, 0, none⟩) 4 4, bv, .slice (some ⟨B2, 0, none⟩) 4 4] 23)) fun e w' => ∃ v, e = .returned v ∧ w'.ownsRow w.heap.size 5 1 v (recB m b).length (encB (recB m b)) ∧ Below w.heap.size w w' := by
  have hn := heap_new w (.cells #[hd, .slice (some ⟨B1, 0, none⟩) 4 4, bv, .slice (some ⟨B2, 0, none⟩) 4 4] 23)
  have hal := (Below.refl w.heap.size w).alloc (Nat.le_refl _) (.cells #[hd, .slice (some ⟨B1, 0, none⟩) 4 4, bv, .slice (some ⟨B2, 0, none⟩) 4 4] 23)
  have e : allB [(hd, headB m b), (Value.slice (some ⟨B1, 0, none⟩) 4 4, sum4 (crcOn 0 (headB m b))), (bv, b), (Value.slice (some ⟨B2, 0, none⟩) 4 4, sum4 (crcOn (crcOn 0 (headB m b)) b))] = recB m b := by simp [allB, recB]
  have key := concat_any [(hd, headB m b), (.slice (some ⟨B1, 0, none⟩) 4 4, sum4 (crcOn 0 (headB m b))), (bv, b), (.slice (some ⟨B2, 0, none⟩) 4 4, sum4 (crcOn (crcOn 0 (headB m b)) b))] w.heap.size 4 _ hn ?_ ?_ (by simp)
  · rw [e] at key
    refine key.mono ?_
    rintro e w' ⟨v, rfl, hr, hb⟩
    exact ⟨v, rfl, own_base' hr hal.size, hal.trans (hb.mono hal.size)⟩
  · intro q hq
    rcases List.mem_cons.1 hq with rfl | hq
    · exact (row_bytes hr (headB_byte m b) (by rw [headB_len]; omega)).below hal
    · rcases List.mem_cons.1 hq with rfl | hq
      · have := (bytes_block (n := 4) _ h1 (sum4_byte _) (by rw [sum4_len]; omega)).below hal
        rw [sum4_len] at this; exact this
      · rcases List.mem_cons.1 hq with rfl | hq
        · exact hb.below hal
        · rw [List.mem_singleton] at hq; subst hq
          have := (bytes_block (n := 4) _ h2 (sum4_byte _) (by rw [sum4_len]; omega)).below hal
          rw [sum4_len] at this; exact this
  · rw [e, recB_len]; omega
set_option maxRecDepth 100000 in
set_option maxHeartbeats 4000000 in
theorem record_any (n : Int) (v : Value) (b : List Nat) (w : World) (h1 : -9223372036854775808 ≤ n) (h2 : n ≤ 9223372036854775807) (hv : BytesIn w v b) (hbl : b.length ≤ 140737488355328) :
    Calls Tryz.prog 26 #[.int .i64 n, v] w fun e w' => ∃ u, e = .returned (.tuple #[u, .int .i64 (recRes n b).2]) ∧ w'.ownsRow w.heap.size 5 1 u (recRes n b).1.length (encB (recRes n b).1) ∧ Below w.heap.size w w' := by
  have hv0 := hv
  obtain ⟨p, cap, rfl, _⟩ := bytes_parts hv
  clear hv
  unfold recRes
  by_cases ha : n < 1 ∨ 9007199254740991 < n
  · simp only [if_pos ha]
    rcases (show n < 1 ∨ (¬ n < 1 ∧ 9007199254740991 < n) by omega) with ha | ⟨ha, ha2⟩
    all_goals
      go_enter Tryz.func26, Tryz.ntmps26
      go_wp2_with fail
      go_returns
      exact ⟨_, rfl, World.ownsRow_nil _ _ _ _, Below.refl _ _⟩
  · simp only [if_neg ha]
    have ha1 : ¬ n < 1 := by omega
    have ha2 : ¬ 9007199254740991 < n := by omega
    by_cases hc : 262144 < b.length
    · simp only [if_pos hc]
      have hc' : (262144 : Int) < b.length := by omega
      clear ha
      go_enter Tryz.func26, Tryz.ntmps26
      go_wp2_with fail
      go_returns
      exact ⟨_, rfl, World.ownsRow_nil _ _ _ _, Below.refl _ _⟩
    · simp only [if_neg hc]
      obtain ⟨m, rfl⟩ : ∃ m : Nat, n = m := ⟨n.toNat, by omega⟩
      have hc' : ¬ (262144 : Int) < b.length := by omega
      have hm : m < 18446744073709551616 := by omega
      have g1 : IntKind.u64.wrap (m : Int) = (m : Int) := IntWalk.u64_in _ (by omega)
      have g2 : IntKind.u64.wrap (b.length : Int) = (b.length : Int) := IntWalk.u64_in _ (by omega)
      have hn1 := number_any b.length 4 w (by omega) (by omega)
      have hn2 := fun W => number_any m 8 W hm (by omega)
      rw [Int.toNat_natCast]
      have hbl : b.length ≤ 262144 := by omega
      clear ha hc h1 h2 hm
      replace hbl : Hid _ := hbl
      go_enter Tryz.func26, Tryz.ntmps26
      go_wp2_with (first
        | (go_at_call 72; refine hn1.mono ?_; clear hn1; rintro e w1 ⟨rfl, hw1, hb1⟩)
        | (go_at_call 72; refine (hn2 _).mono ?_; clear hn2; rintro e w2 ⟨rfl, hw2, hb2⟩; have hcon := head_cat b m w w1 w2 hw1 hw2 hb1 hb2)
        | (go_at_call 71; refine hcon.mono ?_; clear hcon; rintro e w3 ⟨v3, rfl, hr3, hB3⟩; obtain ⟨q3, cap3, rfl⟩ := own_shape hr3; have hof := of_any _ (headB m b) w3 (row_bytes hr3 (headB_byte m b) (by rw [headB_len]; omega)))
        | (go_at_call 73; refine hof.mono ?_; clear hof; rintro e w4 ⟨rfl, hb4⟩; have hB4 := hB3.trans (hb4.mono hB3.size); have hr4 := own_kept hr3 hb4; have hs1 := sumOf_any (crcOn 0 (headB m b)) w4 (crcOn_lt _ _))
        | (go_at_call 74; refine hs1.mono ?_; clear hs1; rintro e w5 ⟨rfl, hw5, hb5⟩; have hB5 := hB4.trans (hb5.mono hB4.size); have hr5 := own_kept hr4 hb5; have hon := on_any (crcOn 0 (headB m b)) _ b w5 (crcOn_lt _ _) (hv0.below hB5))
        | (go_at_call 75; refine hon.mono ?_; clear hon; rintro e w6 ⟨rfl, hb6⟩; have hB6 := hB5.trans (hb6.mono hB5.size); have hr6 := own_kept hr5 hb6; have hw6 := (hb6.block _ (Array.getElem?_eq_some_iff.1 hw5).1).trans hw5; have hs2 := sumOf_any (crcOn (crcOn 0 (headB m b)) b) w6 (crcOn_lt _ _))
        | (go_at_call 74; refine hs2.mono ?_; clear hs2; rintro e w7 ⟨rfl, hw7, hb7⟩; have hB7 := hB6.trans (hb7.mono hB6.size); have hr7 := own_kept hr6 hb7; have hw7' := (hb7.block _ (Array.getElem?_eq_some_iff.1 hw6).1).trans hw6; have hcon2 := rec_cat m b _ _ _ _ w7 hr7 hw7' (hv0.below hB7) hw7 hbl.out)
        | (go_at_call 71; refine hcon2.mono ?_; clear hcon2; rintro e w8 ⟨v8, rfl, hr8, hb8⟩))
      go_returns
      exact ⟨_, rfl, own_base' hr8 hB7.size, hB7.trans (hb8.mono hB7.size)⟩
end Go.Proofs.YtmcmagplaflegaaGreat

namespace Go.Proofs.YtmcmagplaflegaaGreat
open Go Go.RowKit Go.MapL Go.Poised

theorem BytesIn.mid {w : World} {B off cap : Nat} {l : List Nat} (h : BytesIn w (.slice (some ⟨B, off, none⟩) l.length cap) l) (i m c : Nat) (him : i + m ≤ l.length) : BytesIn w (.slice (some ⟨B, off + i, none⟩) m c) ((l.drop i).take m) := by
  obtain ⟨h1, h2, h3⟩ := h
  have hl : ((l.drop i).take m).length = m := by simp; omega
  refine ⟨fun x hx => h1 x (List.mem_of_mem_drop (List.mem_of_mem_take hx)), by omega, ?_⟩
  rcases h3 with ⟨e, _⟩ | ⟨a, c2, e, rfl⟩ | ⟨b2, off2, c2, e, hc⟩
  · cases e
  · obtain rfl : m = 0 := by simp at him; omega
    exact .inr (.inl ⟨_, _, rfl, by simp⟩)
  · cases e
    refine .inr (.inr ⟨B, off + i, c, by rw [hl], fun k hk => ?_⟩)
    rw [hl] at hk
    rw [Nat.add_assoc, hc (i + k) (by omega)]
    congr 3
    simp only [List.getD_eq_getElem?_getD, List.getElem?_take, List.getElem?_drop, if_pos hk]
theorem own_le {w : World} {m m' : Nat} {e : TypeId} {z : Nat} {v : Value} {n : Nat} {xs : List Value} (h : w.ownsRow m e z v n xs) (hm : m' ≤ m) : w.ownsRow m' e z v n xs := by
  obtain ⟨h1, h2⟩ := h
  rcases h2 with h2 | ⟨g, c, cu, e1, h2, h3⟩
  · exact ⟨h1, .inl h2⟩
  · exact ⟨h1, .inr ⟨g, c, cu, e1, by omega, h3⟩⟩
theorem blk4 {W : World} {B : Nat} {n : Nat} {fz : Nat × Nat} (h : W.heap[B]? = some (.cells (encB (sum4 n)).toArray 5 fz)) : BytesIn W (.slice (some ⟨B, 0, none⟩) 4 4) (sum4 n) := by
  have := bytes_block (n := 4) _ h (sum4_byte n) (by rw [sum4_len]; omega)
  rw [sum4_len] at this; exact this
/-- What is there: none: wrong; some none: torn; or a record of so many bytes. -/
def oneRes (b : List Nat) (n : Nat) : Option (Option Nat) :=
  if b.length < 16 then some none
  else if (b.drop 12).take 4 = sum4 (crcOn 0 (b.take 12)) ∧ told ((b.drop 4).take 8) = n ∧ told (b.take 4) ≤ 262144 then
    if b.length < told (b.take 4) + 20 then some none
    else if (b.drop (16 + told (b.take 4))).take 4 = sum4 (crcOn (crcOn 0 (b.take 12)) ((b.drop 16).take (told (b.take 4)))) then some (some (told (b.take 4))) else none
  else none
def recOf (b : List Nat) (size : Nat) : List Nat := (b.drop 16).take size
/-- What one answers. -/
def OneIs (w w' : World) (B off cap : Nat) (b : List Nat) (e : Ending) : Option (Option Nat) → Prop
  | none => e = .returned (.tuple #[.slice none 0 0, .slice none 0 0, .bool false, .int .i64 70])
  | some none => e = .returned (.tuple #[.slice none 0 0, .slice none 0 0, .bool false, .int .i64 0])
  | some (some size) => ∃ v off' cap', e = .returned (.tuple #[v, .slice (some ⟨B, off', none⟩) (b.length - (20 + size)) cap', .bool true, .int .i64 0]) ∧ b.length - (20 + size) ≤ cap' ∧ (∀ W, BytesIn W (.slice (some ⟨B, off, none⟩) b.length cap) b → BytesIn W (.slice (some ⟨B, off', none⟩) (b.length - (20 + size)) cap') (b.drop (20 + size))) ∧ w'.ownsRow w.heap.size 5 1 v size (encB (recOf b size))
set_option maxRecDepth 100000 in
set_option maxHeartbeats 4000000 in
theorem one_short (p : Option Addr) (len cap n : Nat) (w : World) (h : len < 16) :
    Calls Tryz.prog 79 #[.slice p len cap, .int .i64 n] w fun e w' => e = .returned (.tuple #[.slice none 0 0, .slice none 0 0, .bool false, .int .i64 0]) ∧ w' = w := by
  have h' : (len : Int) < 16 := by omega
  go_enter Tryz.func79, Tryz.ntmps79
  go_wp2_with fail
  go_returns
  exact ⟨rfl, rfl⟩
set_option maxRecDepth 100000 in
set_option maxHeartbeats 16000000 in
theorem one_any (b : List Nat) (B off cap n : Nat) (w0 : World) (hv : BytesIn w0 (.slice (some ⟨B, off, none⟩) b.length cap) b) (hcap : b.length ≤ cap) (hn : n < 9223372036854775808) (hlen : b.length ≤ 140737488355328) :
    Calls Tryz.prog 79 #[.slice (some ⟨B, off, none⟩) b.length cap, .int .i64 n] w0 fun e w' => OneIs w0 w' B off cap b e (oneRes b n) ∧ Below w0.heap.size w0 w' := by
  by_cases hsh : b.length < 16
  · refine (one_short _ _ cap n w0 hsh).mono ?_
    rintro e w' ⟨rfl, rfl⟩
    refine ⟨?_, Below.refl _ _⟩
    unfold oneRes; rw [if_pos hsh]; rfl
  · have hb12 := fun W (hW : Below w0.heap.size w0 W) => (hv.below hW).mid 0 12 cap (by omega)
    have hb4 := fun W (hW : Below w0.heap.size w0 W) => (hv.below hW).mid 0 4 cap (by omega)
    have hm4 := fun W (hW : Below w0.heap.size w0 W) => (hv.below hW).mid 12 4 (cap - 12) (by omega)
    have hm8 := fun W (hW : Below w0.heap.size w0 W) => (hv.below hW).mid 4 8 (cap - 4) (by omega)
    simp only [List.drop_zero, Nat.add_zero] at hb12 hb4
    have hof := fun W (hW : Below w0.heap.size w0 W) => of_any _ _ W (hb12 W hW)
    have hto := fun W (hW : Below w0.heap.size w0 W) => told_any _ _ W (hb4 W hW) (by simp; omega)
    have hto8 := fun W (hW : Below w0.heap.size w0 W) => told_any _ _ W (hm8 W hW) (by simp; omega)
    have hbyte : ∀ x ∈ b, x < 256 := hv.1
    obtain ⟨S, hS⟩ : ∃ S, crcOn 0 (b.take 12) = S := ⟨_, rfl⟩
    obtain ⟨Z, hZ⟩ : ∃ Z, told (b.take 4) = Z := ⟨_, rfl⟩
    obtain ⟨N, hN⟩ : ∃ N, told ((b.drop 4).take 8) = N := ⟨_, rfl⟩
    obtain ⟨mid, hmid⟩ : ∃ mid, (b.drop 12).take 4 = mid := ⟨_, rfl⟩
    have hSl : S < 4294967296 := by rw [← hS]; exact crcOn_lt _ _
    have hZl : Z < 4294967296 := by
      rw [← hZ]; have := told_lt (b.take 4) (fun x hx => hbyte x (List.mem_of_mem_take hx))
      refine Nat.lt_of_lt_of_le this ?_
      rw [List.length_take]; exact Nat.pow_le_pow_right (n := 256) (by omega) (show min 4 b.length ≤ 4 by omega)
    have hNl : N < 18446744073709551616 := by
      rw [← hN]; have := told_lt ((b.drop 4).take 8) (fun x hx => hbyte x (List.mem_of_mem_drop (List.mem_of_mem_take hx)))
      refine Nat.lt_of_lt_of_le this ?_
      rw [List.length_take]; exact Nat.pow_le_pow_right (n := 256) (by omega) (show min 8 (b.drop 4).length ≤ 8 by omega)
    rw [hmid] at hm4
    rw [hN] at hto8
    simp only [hS] at hof
    simp only [hZ] at hto
    have hsu := fun W (hW : Below w0.heap.size w0 W) => sumOf_any S W hSl
    have hres : oneRes b n = if mid = sum4 S ∧ N = n ∧ Z ≤ 262144 then (if b.length < Z + 20 then some none else if (b.drop (16 + Z)).take 4 = sum4 (crcOn S ((b.drop 16).take Z)) then some (some Z) else none) else none := by
      unfold oneRes; rw [if_neg hsh, hS, hZ, hN, hmid]
    obtain ⟨res, hr⟩ : ∃ res, oneRes b n = res := ⟨_, rfl⟩
    rw [hr]; rw [hr] at hres
    replace hres : Hid _ := hres
    replace hS : Hid _ := hS
    replace hZ : Hid _ := hZ
    replace hN : Hid _ := hN
    replace hmid : Hid _ := hmid
    have g0 : ¬ (b.length : Int) < 16 := by omega
    have g1 : (16 : Nat) ≤ cap := by omega
    have g2 : (16 : Int) ≤ (cap : Int) := by omega
    have g3 : (12 : Int) ≤ (cap : Int) := by omega
    have g4 : (4 : Int) ≤ (cap : Int) := by omega
    have g5 : ¬ cap = 12 := by omega
    have g6 : ¬ cap = 4 := by omega
    have gn : IntKind.u64.wrap (n : Int) = (n : Int) := IntWalk.u64_in _ (by omega)
    have heq : ∀ W v, Below w0.heap.size w0 W → BytesIn W v (sum4 S) → Calls Tryz.prog 124 #[.slice (some ⟨B, off + 12, none⟩) 4 (cap - 12), v] W fun e w' => e = .returned (.bool (decide (mid = sum4 S))) ∧ w' = W := fun W v hW h => equal_any _ _ _ _ W (hm4 W hW) h
    replace heq : Hid _ := heq
    replace hof : Hid _ := hof
    replace hto : Hid _ := hto
    replace hto8 : Hid _ := hto8
    replace hsu : Hid _ := hsu
    replace hm4 : Hid _ := hm4
    replace hm8 : Hid _ := hm8
    replace hb12 : Hid _ := hb12
    replace hb4 : Hid _ := hb4
    replace hlen : Hid _ := hlen
    replace hbyte : Hid _ := hbyte
    go_enter Tryz.func79, Tryz.ntmps79
    go_wp2_with fail
    refine poised_whole (fun w' => Below w0.heap.size w0 w') (fun w w' => Below w0.heap.size w w') (by kernel_rfl) (by kernel_rfl) (by kernel_rfl) (fun _ _ h k => h.trans k) ((Below.refl _ _).drew) ?_
    apply Exists.intro
    apply walk_det
    · rfl
    · intro w2 hC hF
      simp only [upon]
      go_simp
      exact ⟨Below.refl _ _, rfl⟩
    simp only [put_lit, List.set_cons_succ, List.set_cons_zero]
    apply walk_det
    · rfl
    · intro w2 hC hF
      simp only [upon]
      go_simp
      exact ⟨Below.refl _ _, rfl⟩
    simp only [put_lit, List.set_cons_succ, List.set_cons_zero]
    apply walk_det
    · rfl
    · intro w2 hC hF
      simp only [upon]
      go_simp
      exact up_call (hof.out _ hC) hC.size
    simp only [put_lit, List.set_cons_succ, List.set_cons_zero]
    apply walk_det
    · rfl
    · intro w2 hC hF
      simp only [upon]
      go_simp
      exact ⟨Below.refl _ _, rfl⟩
    simp only [put_lit, List.set_cons_succ, List.set_cons_zero]
    apply walk_det
    · rfl
    · intro w2 hC hF
      simp only [upon]
      go_simp
      exact ⟨Below.refl _ _, rfl⟩
    simp only [put_lit, List.set_cons_succ, List.set_cons_zero]
    apply walk_det
    · rfl
    · intro w2 hC hF
      simp only [upon]
      go_simp
      exact still_call (hto.out _ hC)
    simp only [put_lit, List.set_cons_succ, List.set_cons_zero]
    apply walk_det
    · rfl
    · intro w2 hC hF
      simp only [upon]
      go_simp
      exact ⟨Below.refl _ _, rfl⟩
    simp only [put_lit, List.set_cons_succ, List.set_cons_zero]
    apply walk_det
    · rfl
    · intro w2 hC hF
      simp only [upon]
      go_simp
      exact ⟨Below.refl _ _, rfl⟩
    simp only [put_lit, List.set_cons_succ, List.set_cons_zero]
    apply walk_nil
    intro w2 hC _
    have hBa := hC
    clear hC
    go_wp2_with fail
    by_cases hA : mid = sum4 S
    · have heq := heq.out; rw [decide_eq_true hA] at heq; replace heq : Hid _ := heq
      by_cases hNn : N = n
      · by_cases hZ2 : Z ≤ 262144
        · have hgood : Hid (mid = sum4 S ∧ N = n ∧ Z ≤ 262144) := ⟨hA, hNn, hZ2⟩
          have g7 : (N : Int) = (n : Int) := by omega
          have g8 : ¬ (262144 : Int) < (Z : Int) := by omega
          have g9 : ¬ Z > 262144 := by omega
          clear hA hNn
          refine poised_whole (fun w' => Below w2.heap.size w2 w') (fun w w' => Below w.heap.size w w') (by kernel_rfl) (by kernel_rfl) (by kernel_rfl) (fun _ _ h k => h.trans (k.mono h.size)) ((Below.refl _ _).drew) ?_
          apply Exists.intro
          apply walk_det
          · rfl
          · intro w2 hC hF
            simp only [upon]
            go_simp
            exact ⟨Below.refl _ _, rfl⟩
          simp only [put_lit, List.set_cons_succ, List.set_cons_zero]
          apply walk_det
          · rfl
          · intro w2 hC hF
            simp only [upon]
            go_simp
            exact ⟨Below.refl _ _, rfl⟩
          simp only [put_lit, List.set_cons_succ, List.set_cons_zero]
          apply walk_det
          · rfl
          · intro w2 hC hF
            simp only [upon]
            go_simp
            exact ⟨Below.refl _ _, rfl⟩
          simp only [put_lit, List.set_cons_succ, List.set_cons_zero]
          apply walk_free (fun v w' => BytesIn w' v (sum4 S)) (fun _ _ _ _ hR h => BytesIn.below h hR)
          · rfl
          · intro w2 hC hF
            simp only [upon]
            go_simp
            exact (hsu.out _ (hBa.trans (hC.mono hBa.size))).mono (fun e w' hh => ⟨_, hh.1, hh.2.2, blk4 hh.2.1⟩)
          intro v
          simp only [put_lit, List.set_cons_succ, List.set_cons_zero]
          apply walk_det
          · rfl
          · intro w2 hC hF
            simp only [upon]
            go_simp
            have hv4 : BytesIn w2 v (sum4 S) := hF 3 (by kernel_rfl)
            exact still_call (heq.out w2 v (hBa.trans (hC.mono hBa.size)) hv4)
          simp only [put_lit, List.set_cons_succ, List.set_cons_zero]
          apply walk_det
          · rfl
          · intro w2 hC hF
            simp only [upon]
            go_simp
            exact ⟨Below.refl _ _, rfl⟩
          simp only [put_lit, List.set_cons_succ, List.set_cons_zero]
          apply walk_det
          · rfl
          · intro w2 hC hF
            simp only [upon]
            go_simp
            exact ⟨Below.refl _ _, rfl⟩
          simp only [put_lit, List.set_cons_succ, List.set_cons_zero]
          apply walk_det
          · rfl
          · intro w2 hC hF
            simp only [upon]
            go_simp
            exact ⟨Below.refl _ _, rfl⟩
          simp only [put_lit, List.set_cons_succ, List.set_cons_zero]
          apply walk_det
          · rfl
          · intro w2 hC hF
            simp only [upon]
            go_simp
            exact ⟨Below.refl _ _, rfl⟩
          simp only [put_lit, List.set_cons_succ, List.set_cons_zero]
          apply walk_det
          · rfl
          · intro w2 hC hF
            simp only [upon]
            go_simp
            exact still_call (hto8.out _ (hBa.trans (hC.mono hBa.size)))
          simp only [put_lit, List.set_cons_succ, List.set_cons_zero]
          apply walk_det
          · rfl
          · intro w2 hC hF
            simp only [upon]
            go_simp
            exact ⟨Below.refl _ _, rfl⟩
          simp only [put_lit, List.set_cons_succ, List.set_cons_zero]
          apply walk_det
          · rfl
          · intro w2 hC hF
            simp only [upon]
            go_simp
            exact ⟨Below.refl _ _, rfl⟩
          simp only [put_lit, List.set_cons_succ, List.set_cons_zero]
          apply walk_det
          · rfl
          · intro w2 hC hF
            simp only [upon]
            go_simp
            exact ⟨Below.refl _ _, rfl⟩
          simp only [put_lit, List.set_cons_succ, List.set_cons_zero]
          apply walk_det
          · rfl
          · intro w2 hC hF
            simp only [upon]
            go_simp
            exact ⟨Below.refl _ _, rfl⟩
          simp only [put_lit, List.set_cons_succ, List.set_cons_zero]
          apply walk_det
          · rfl
          · intro w2 hC hF
            simp only [upon]
            go_simp
            exact ⟨Below.refl _ _, rfl⟩
          simp only [put_lit, List.set_cons_succ, List.set_cons_zero]
          apply walk_det
          · rfl
          · intro w2 hC hF
            simp only [upon]
            go_simp
            exact ⟨Below.refl _ _, rfl⟩
          simp only [put_lit, List.set_cons_succ, List.set_cons_zero]
          apply walk_det
          · rfl
          · intro w2 hC hF
            simp only [upon]
            go_simp
            exact ⟨Below.refl _ _, rfl⟩
          simp only [put_lit, List.set_cons_succ, List.set_cons_zero]
          apply walk_det
          · rfl
          · intro w2 hC hF
            simp only [upon]
            go_simp
            exact ⟨Below.refl _ _, rfl⟩
          simp only [put_lit, List.set_cons_succ, List.set_cons_zero]
          apply walk_nil
          intro w2 hC _
          have hBb := hBa.trans (hC.mono hBa.size)
          clear hC
          obtain ⟨K, hK⟩ : ∃ K, 16 + Z = K := ⟨_, rfl⟩
          obtain ⟨M, hM⟩ : ∃ M, 20 + Z = M := ⟨_, rfl⟩
          have gK : (16 : Int) + (Z : Int) = (K : Int) := by omega
          have gM : (K : Int) + 4 = (M : Int) := by omega
          by_cases hT : b.length < Z + 20
          · have hT' : Hid _ := hT
            have g10 : (b.length : Int) < (M : Int) := by omega
            replace hK : Hid _ := hK
            replace hM : Hid _ := hM
            clear hT
            go_wp2_with fail
            go_returns
            refine ⟨?_, hBb⟩
            rw [hres.out, if_pos hgood.out, if_pos hT'.out]; rfl
          · have hT' : Hid _ := hT
            have g10 : ¬ (b.length : Int) < (M : Int) := by omega
            have g11 : (16 : Int) ≤ (K : Int) := by omega
            have g12 : (K : Int) ≤ (cap : Int) := by omega
            have g13 : (M : Int) ≤ (cap : Int) := by omega
            have g14 : (M : Int) ≤ (b.length : Int) := by omega
            have gw1 : IntKind.i64.wrap (K : Int) = (K : Int) := IntWalk.i64_in _ (by omega)
            have gw2 : IntKind.i64.wrap (M : Int) = (M : Int) := IntWalk.i64_in _ (by omega)
            have g15 : ¬ cap = 16 := by omega
            have g16 : K - 16 = Z := by omega
            have g17 : M - K = 4 := by omega
            have g18 : ¬ cap = K := by omega
            have g19 : (K : Int) ≤ (M : Int) := by omega
            have hmc := fun W (hW : Below w0.heap.size w0 W) => (hv.below hW).mid K 4 (cap - K) (by omega)
            have hmb := fun W (hW : Below w0.heap.size w0 W) => (hv.below hW).mid 16 Z (cap - 16) (by omega)
            have honT := fun W (hW : Below w0.heap.size w0 W) => on_any S _ _ W hSl (hmb W hW)
            obtain ⟨T, hT2⟩ : ∃ T, crcOn S ((b.drop 16).take Z) = T := ⟨_, rfl⟩
            have hTl : T < 4294967296 := by rw [← hT2]; exact crcOn_lt _ _
            obtain ⟨fin, hfin⟩ : ∃ fin, (b.drop K).take 4 = fin := ⟨_, rfl⟩
            rw [hfin] at hmc
            simp only [hT2] at honT
            have hsuT := fun W (hW : Below w0.heap.size w0 W) => sumOf_any T W hTl
            have heqT : ∀ W v, Below w0.heap.size w0 W → BytesIn W v (sum4 T) → Calls Tryz.prog 124 #[.slice (some ⟨B, off + K, none⟩) 4 (cap - K), v] W fun e w' => e = .returned (.bool (decide (fin = sum4 T))) ∧ w' = W := fun W v hW h => equal_any _ _ _ _ W (hmc W hW) h
            have hcl := fun W (hW : Below w0.heap.size w0 W) => cloneB_any _ _ W (hmb W hW) (by simp only [List.length_take, List.length_drop]; have := hlen.out; omega)
            have hZlen : Hid (((b.drop 16).take Z).length = Z) := by show _ = _; simp only [List.length_take, List.length_drop]; omega
            obtain ⟨O, hO, hrest⟩ : ∃ O, (if cap = M then (some ⟨B, off, none⟩ : Option Addr) else some ⟨B, off + M, none⟩) = some ⟨B, O, none⟩ ∧ ∀ W, BytesIn W (.slice (some ⟨B, off, none⟩) b.length cap) b → BytesIn W (.slice (some ⟨B, O, none⟩) (b.length - M) (cap - M)) (b.drop M) := by
              by_cases hE : cap = M
              · refine ⟨off, if_pos hE, fun W _ => ?_⟩
                have h1 : b.drop M = [] := List.drop_eq_nil_of_le (by omega)
                have h2 : b.length - M = 0 := by omega
                rw [h1, h2]
                exact ⟨by simp, by simp, .inr (.inl ⟨_, _, rfl, rfl⟩)⟩
              · refine ⟨off + M, if_neg hE, fun W hW => ?_⟩
                have hmm := hW.mid M (b.length - M) (cap - M) (by omega)
                rw [List.take_of_length_le (by simp)] at hmm
                exact hmm
            replace hrest : Hid _ := hrest
            replace hmc : Hid _ := hmc
            replace hmb : Hid _ := hmb
            replace honT : Hid _ := honT
            replace hT2 : Hid _ := hT2
            replace hfin : Hid _ := hfin
            replace hsuT : Hid _ := hsuT
            replace heqT : Hid _ := heqT
            replace hcl : Hid _ := hcl
            replace hK : Hid _ := hK
            replace hM : Hid _ := hM
            clear hT
            go_wp2_with fail
            refine poised_whole (fun w' => Below w2.heap.size w2 w') (fun w w' => Below w.heap.size w w') (by kernel_rfl) (by kernel_rfl) (by kernel_rfl) (fun _ _ h k => h.trans (k.mono h.size)) ((Below.refl _ _).drew) ?_
            apply Exists.intro
            apply walk_det
            · rfl
            · intro w2 hC hF
              simp only [upon]
              go_simp
              exact ⟨Below.refl _ _, rfl⟩
            simp only [put_lit, List.set_cons_succ, List.set_cons_zero]
            apply walk_det
            · rfl
            · intro w2 hC hF
              simp only [upon]
              go_simp
              exact ⟨Below.refl _ _, rfl⟩
            simp only [put_lit, List.set_cons_succ, List.set_cons_zero]
            apply walk_det
            · rfl
            · intro w2 hC hF
              simp only [upon]
              go_simp
              exact ⟨Below.refl _ _, rfl⟩
            simp only [put_lit, List.set_cons_succ, List.set_cons_zero]
            apply walk_det
            · rfl
            · intro w2 hC hF
              simp only [upon]
              go_simp
              exact ⟨Below.refl _ _, rfl⟩
            simp only [put_lit, List.set_cons_succ, List.set_cons_zero]
            apply walk_det
            · rfl
            · intro w2 hC hF
              simp only [upon]
              go_simp
              exact ⟨Below.refl _ _, rfl⟩
            simp only [put_lit, List.set_cons_succ, List.set_cons_zero]
            apply walk_det
            · rfl
            · intro w2 hC hF
              simp only [upon]
              go_simp
              exact ⟨Below.refl _ _, rfl⟩
            simp only [put_lit, List.set_cons_succ, List.set_cons_zero]
            apply walk_det
            · rfl
            · intro w2 hC hF
              simp only [upon]
              go_simp
              exact ⟨Below.refl _ _, rfl⟩
            simp only [put_lit, List.set_cons_succ, List.set_cons_zero]
            apply walk_det
            · rfl
            · intro w2 hC hF
              simp only [upon]
              go_simp
              exact ⟨Below.refl _ _, rfl⟩
            simp only [put_lit, List.set_cons_succ, List.set_cons_zero]
            apply walk_det
            · rfl
            · intro w2 hC hF
              simp only [upon]
              go_simp
              exact ⟨Below.refl _ _, rfl⟩
            simp only [put_lit, List.set_cons_succ, List.set_cons_zero]
            apply walk_nil
            intro w2 hC _
            have hBc := hBb.trans (hC.mono hBb.size)
            clear hC
            go_wp2_with fail
            by_cases hF2 : fin = sum4 T
            · have heqT := heqT.out; rw [decide_eq_true hF2] at heqT; replace heqT : Hid _ := heqT
              have hF' : Hid _ := hF2
              clear hF2
              refine poised_whole (fun w' => Below w2.heap.size w2 w') (fun w w' => Below w.heap.size w w') (by kernel_rfl) (by kernel_rfl) (by kernel_rfl) (fun _ _ h k => h.trans (k.mono h.size)) ((Below.refl _ _).drew) ?_
              apply Exists.intro
              apply walk_det
              · rfl
              · intro w2 hC hF
                simp only [upon]
                go_simp
                exact ⟨Below.refl _ _, rfl⟩
              simp only [put_lit, List.set_cons_succ, List.set_cons_zero]
              apply walk_det
              · rfl
              · intro w2 hC hF
                simp only [upon]
                go_simp
                exact ⟨Below.refl _ _, rfl⟩
              simp only [put_lit, List.set_cons_succ, List.set_cons_zero]
              apply walk_det
              · rfl
              · intro w2 hC hF
                simp only [upon]
                go_simp
                exact ⟨Below.refl _ _, rfl⟩
              simp only [put_lit, List.set_cons_succ, List.set_cons_zero]
              apply walk_det
              · rfl
              · intro w2 hC hF
                simp only [upon]
                go_simp
                exact ⟨Below.refl _ _, rfl⟩
              simp only [put_lit, List.set_cons_succ, List.set_cons_zero]
              apply walk_det
              · rfl
              · intro w2 hC hF
                simp only [upon]
                go_simp
                exact ⟨Below.refl _ _, rfl⟩
              simp only [put_lit, List.set_cons_succ, List.set_cons_zero]
              apply walk_det
              · rfl
              · intro w2 hC hF
                simp only [upon]
                go_simp
                exact ⟨Below.refl _ _, rfl⟩
              simp only [put_lit, List.set_cons_succ, List.set_cons_zero]
              apply walk_det
              · rfl
              · intro w2 hC hF
                simp only [upon]
                go_simp
                exact ⟨Below.refl _ _, rfl⟩
              simp only [put_lit, List.set_cons_succ, List.set_cons_zero]
              apply walk_det
              · rfl
              · intro w2 hC hF
                simp only [upon]
                go_simp
                exact honT.out _ (hBc.trans (hC.mono hBc.size))
              simp only [put_lit, List.set_cons_succ, List.set_cons_zero]
              apply walk_free (fun v w' => BytesIn w' v (sum4 T)) (fun _ _ _ _ hR h => BytesIn.below h hR)
              · rfl
              · intro w2 hC hF
                simp only [upon]
                go_simp
                exact (hsuT.out _ (hBc.trans (hC.mono hBc.size))).mono (fun e w' hh => ⟨_, hh.1, hh.2.2, blk4 hh.2.1⟩)
              intro v
              simp only [put_lit, List.set_cons_succ, List.set_cons_zero]
              apply walk_det
              · rfl
              · intro w2 hC hF
                simp only [upon]
                go_simp
                have hv4 : BytesIn w2 v (sum4 T) := hF 8 (by kernel_rfl)
                exact still_call (heqT.out w2 v (hBc.trans (hC.mono hBc.size)) hv4)
              simp only [put_lit, List.set_cons_succ, List.set_cons_zero]
              apply walk_det
              · rfl
              · intro w2 hC hF
                simp only [upon]
                go_simp
                exact ⟨Below.refl _ _, rfl⟩
              simp only [put_lit, List.set_cons_succ, List.set_cons_zero]
              apply walk_nil
              intro w2 hC _
              have hBd := hBc.trans (hC.mono hBc.size)
              clear hC
              go_wp2_with (go_at_call 40; refine (hcl.out _ hBd).mono ?_; rintro e w3 ⟨v3, rfl, ho3, hb3⟩)
              go_returns
              refine ⟨?_, hBd.trans (hb3.mono hBd.size)⟩
              rw [hres.out, if_pos hgood.out, if_neg hT'.out, hK.out, hfin.out, hT2.out, if_pos hF'.out]
              have ho4 := ho3
              rw [hZlen.out] at ho4
              refine ⟨v3, O, cap - M, ?_, ?_, ?_, ?_⟩
              · rw [hM.out]
              · rw [hM.out]; omega
              · rw [hM.out]; exact hrest.out
              · exact own_le ho4 hBd.size
            · have heqT := heqT.out; rw [decide_eq_false hF2] at heqT; replace heqT : Hid _ := heqT
              have hF' : Hid _ := hF2
              clear hF2
              refine poised_whole (fun w' => Below w2.heap.size w2 w') (fun w w' => Below w.heap.size w w') (by kernel_rfl) (by kernel_rfl) (by kernel_rfl) (fun _ _ h k => h.trans (k.mono h.size)) ((Below.refl _ _).drew) ?_
              apply Exists.intro
              apply walk_det
              · rfl
              · intro w2 hC hF
                simp only [upon]
                go_simp
                exact ⟨Below.refl _ _, rfl⟩
              simp only [put_lit, List.set_cons_succ, List.set_cons_zero]
              apply walk_det
              · rfl
              · intro w2 hC hF
                simp only [upon]
                go_simp
                exact ⟨Below.refl _ _, rfl⟩
              simp only [put_lit, List.set_cons_succ, List.set_cons_zero]
              apply walk_det
              · rfl
              · intro w2 hC hF
                simp only [upon]
                go_simp
                exact ⟨Below.refl _ _, rfl⟩
              simp only [put_lit, List.set_cons_succ, List.set_cons_zero]
              apply walk_det
              · rfl
              · intro w2 hC hF
                simp only [upon]
                go_simp
                exact ⟨Below.refl _ _, rfl⟩
              simp only [put_lit, List.set_cons_succ, List.set_cons_zero]
              apply walk_det
              · rfl
              · intro w2 hC hF
                simp only [upon]
                go_simp
                exact ⟨Below.refl _ _, rfl⟩
              simp only [put_lit, List.set_cons_succ, List.set_cons_zero]
              apply walk_det
              · rfl
              · intro w2 hC hF
                simp only [upon]
                go_simp
                exact ⟨Below.refl _ _, rfl⟩
              simp only [put_lit, List.set_cons_succ, List.set_cons_zero]
              apply walk_det
              · rfl
              · intro w2 hC hF
                simp only [upon]
                go_simp
                exact ⟨Below.refl _ _, rfl⟩
              simp only [put_lit, List.set_cons_succ, List.set_cons_zero]
              apply walk_det
              · rfl
              · intro w2 hC hF
                simp only [upon]
                go_simp
                exact honT.out _ (hBc.trans (hC.mono hBc.size))
              simp only [put_lit, List.set_cons_succ, List.set_cons_zero]
              apply walk_free (fun v w' => BytesIn w' v (sum4 T)) (fun _ _ _ _ hR h => BytesIn.below h hR)
              · rfl
              · intro w2 hC hF
                simp only [upon]
                go_simp
                exact (hsuT.out _ (hBc.trans (hC.mono hBc.size))).mono (fun e w' hh => ⟨_, hh.1, hh.2.2, blk4 hh.2.1⟩)
              intro v
              simp only [put_lit, List.set_cons_succ, List.set_cons_zero]
              apply walk_det
              · rfl
              · intro w2 hC hF
                simp only [upon]
                go_simp
                have hv4 : BytesIn w2 v (sum4 T) := hF 8 (by kernel_rfl)
                exact still_call (heqT.out w2 v (hBc.trans (hC.mono hBc.size)) hv4)
              simp only [put_lit, List.set_cons_succ, List.set_cons_zero]
              apply walk_det
              · rfl
              · intro w2 hC hF
                simp only [upon]
                go_simp
                exact ⟨Below.refl _ _, rfl⟩
              simp only [put_lit, List.set_cons_succ, List.set_cons_zero]
              apply walk_nil
              intro w2 hC _
              have hBd := hBc.trans (hC.mono hBc.size)
              clear hC
              go_wp2_with fail
              go_returns
              refine ⟨?_, hBd⟩
              rw [hres.out, if_pos hgood.out, if_neg hT'.out, hK.out, hfin.out, hT2.out, if_neg hF'.out]; rfl
        · have hA' : Hid _ := hZ2
          have g7 : (N : Int) = (n : Int) := by omega
          have g8 : (262144 : Int) < (Z : Int) := by omega
          have g9 : Z > 262144 := by omega
          clear hZ2 hNn hA
          refine poised_whole (fun w' => Below w2.heap.size w2 w') (fun w w' => Below w.heap.size w w') (by kernel_rfl) (by kernel_rfl) (by kernel_rfl) (fun _ _ h k => h.trans (k.mono h.size)) ((Below.refl _ _).drew) ?_
          apply Exists.intro
          apply walk_det
          · rfl
          · intro w2 hC hF
            simp only [upon]
            go_simp
            exact ⟨Below.refl _ _, rfl⟩
          simp only [put_lit, List.set_cons_succ, List.set_cons_zero]
          apply walk_det
          · rfl
          · intro w2 hC hF
            simp only [upon]
            go_simp
            exact ⟨Below.refl _ _, rfl⟩
          simp only [put_lit, List.set_cons_succ, List.set_cons_zero]
          apply walk_det
          · rfl
          · intro w2 hC hF
            simp only [upon]
            go_simp
            exact ⟨Below.refl _ _, rfl⟩
          simp only [put_lit, List.set_cons_succ, List.set_cons_zero]
          apply walk_free (fun v w' => BytesIn w' v (sum4 S)) (fun _ _ _ _ hR h => BytesIn.below h hR)
          · rfl
          · intro w2 hC hF
            simp only [upon]
            go_simp
            exact (hsu.out _ (hBa.trans (hC.mono hBa.size))).mono (fun e w' hh => ⟨_, hh.1, hh.2.2, blk4 hh.2.1⟩)
          intro v
          simp only [put_lit, List.set_cons_succ, List.set_cons_zero]
          apply walk_det
          · rfl
          · intro w2 hC hF
            simp only [upon]
            go_simp
            have hv4 : BytesIn w2 v (sum4 S) := hF 3 (by kernel_rfl)
            exact still_call (heq.out w2 v (hBa.trans (hC.mono hBa.size)) hv4)
          simp only [put_lit, List.set_cons_succ, List.set_cons_zero]
          apply walk_det
          · rfl
          · intro w2 hC hF
            simp only [upon]
            go_simp
            exact ⟨Below.refl _ _, rfl⟩
          simp only [put_lit, List.set_cons_succ, List.set_cons_zero]
          apply walk_det
          · rfl
          · intro w2 hC hF
            simp only [upon]
            go_simp
            exact ⟨Below.refl _ _, rfl⟩
          simp only [put_lit, List.set_cons_succ, List.set_cons_zero]
          apply walk_det
          · rfl
          · intro w2 hC hF
            simp only [upon]
            go_simp
            exact ⟨Below.refl _ _, rfl⟩
          simp only [put_lit, List.set_cons_succ, List.set_cons_zero]
          apply walk_det
          · rfl
          · intro w2 hC hF
            simp only [upon]
            go_simp
            exact ⟨Below.refl _ _, rfl⟩
          simp only [put_lit, List.set_cons_succ, List.set_cons_zero]
          apply walk_det
          · rfl
          · intro w2 hC hF
            simp only [upon]
            go_simp
            exact still_call (hto8.out _ (hBa.trans (hC.mono hBa.size)))
          simp only [put_lit, List.set_cons_succ, List.set_cons_zero]
          apply walk_det
          · rfl
          · intro w2 hC hF
            simp only [upon]
            go_simp
            exact ⟨Below.refl _ _, rfl⟩
          simp only [put_lit, List.set_cons_succ, List.set_cons_zero]
          apply walk_det
          · rfl
          · intro w2 hC hF
            simp only [upon]
            go_simp
            exact ⟨Below.refl _ _, rfl⟩
          simp only [put_lit, List.set_cons_succ, List.set_cons_zero]
          apply walk_det
          · rfl
          · intro w2 hC hF
            simp only [upon]
            go_simp
            exact ⟨Below.refl _ _, rfl⟩
          simp only [put_lit, List.set_cons_succ, List.set_cons_zero]
          apply walk_det
          · rfl
          · intro w2 hC hF
            simp only [upon]
            go_simp
            exact ⟨Below.refl _ _, rfl⟩
          simp only [put_lit, List.set_cons_succ, List.set_cons_zero]
          apply walk_det
          · rfl
          · intro w2 hC hF
            simp only [upon]
            go_simp
            exact ⟨Below.refl _ _, rfl⟩
          simp only [put_lit, List.set_cons_succ, List.set_cons_zero]
          apply walk_det
          · rfl
          · intro w2 hC hF
            simp only [upon]
            go_simp
            exact ⟨Below.refl _ _, rfl⟩
          simp only [put_lit, List.set_cons_succ, List.set_cons_zero]
          apply walk_det
          · rfl
          · intro w2 hC hF
            simp only [upon]
            go_simp
            exact ⟨Below.refl _ _, rfl⟩
          simp only [put_lit, List.set_cons_succ, List.set_cons_zero]
          apply walk_det
          · rfl
          · intro w2 hC hF
            simp only [upon]
            go_simp
            exact ⟨Below.refl _ _, rfl⟩
          simp only [put_lit, List.set_cons_succ, List.set_cons_zero]
          apply walk_nil
          intro w2 hC _
          have hBb := hBa.trans (hC.mono hBa.size)
          clear hC
          go_wp2_with fail
          go_returns
          refine ⟨?_, hBb⟩
          rw [hres.out, if_neg (fun h => hA'.out h.2.2)]; rfl
      · have hA' : Hid _ := hNn
        have g7 : ¬ (N : Int) = (n : Int) := by omega
        have g7' : ¬ N = n := hNn
        have g7'' : ((N : Int) != (n : Int)) = true := by simp; omega
        clear hNn hA
        refine poised_whole (fun w' => Below w2.heap.size w2 w') (fun w w' => Below w.heap.size w w') (by kernel_rfl) (by kernel_rfl) (by kernel_rfl) (fun _ _ h k => h.trans (k.mono h.size)) ((Below.refl _ _).drew) ?_
        apply Exists.intro
        apply walk_det
        · rfl
        · intro w2 hC hF
          simp only [upon]
          go_simp
          exact ⟨Below.refl _ _, rfl⟩
        simp only [put_lit, List.set_cons_succ, List.set_cons_zero]
        apply walk_det
        · rfl
        · intro w2 hC hF
          simp only [upon]
          go_simp
          exact ⟨Below.refl _ _, rfl⟩
        simp only [put_lit, List.set_cons_succ, List.set_cons_zero]
        apply walk_det
        · rfl
        · intro w2 hC hF
          simp only [upon]
          go_simp
          exact ⟨Below.refl _ _, rfl⟩
        simp only [put_lit, List.set_cons_succ, List.set_cons_zero]
        apply walk_free (fun v w' => BytesIn w' v (sum4 S)) (fun _ _ _ _ hR h => BytesIn.below h hR)
        · rfl
        · intro w2 hC hF
          simp only [upon]
          go_simp
          exact (hsu.out _ (hBa.trans (hC.mono hBa.size))).mono (fun e w' hh => ⟨_, hh.1, hh.2.2, blk4 hh.2.1⟩)
        intro v
        simp only [put_lit, List.set_cons_succ, List.set_cons_zero]
        apply walk_det
        · rfl
        · intro w2 hC hF
          simp only [upon]
          go_simp
          have hv4 : BytesIn w2 v (sum4 S) := hF 3 (by kernel_rfl)
          exact still_call (heq.out w2 v (hBa.trans (hC.mono hBa.size)) hv4)
        simp only [put_lit, List.set_cons_succ, List.set_cons_zero]
        apply walk_det
        · rfl
        · intro w2 hC hF
          simp only [upon]
          go_simp
          exact ⟨Below.refl _ _, rfl⟩
        simp only [put_lit, List.set_cons_succ, List.set_cons_zero]
        apply walk_det
        · rfl
        · intro w2 hC hF
          simp only [upon]
          go_simp
          exact ⟨Below.refl _ _, rfl⟩
        simp only [put_lit, List.set_cons_succ, List.set_cons_zero]
        apply walk_det
        · rfl
        · intro w2 hC hF
          simp only [upon]
          go_simp
          exact ⟨Below.refl _ _, rfl⟩
        simp only [put_lit, List.set_cons_succ, List.set_cons_zero]
        apply walk_det
        · rfl
        · intro w2 hC hF
          simp only [upon]
          go_simp
          exact ⟨Below.refl _ _, rfl⟩
        simp only [put_lit, List.set_cons_succ, List.set_cons_zero]
        apply walk_det
        · rfl
        · intro w2 hC hF
          simp only [upon]
          go_simp
          exact still_call (hto8.out _ (hBa.trans (hC.mono hBa.size)))
        simp only [put_lit, List.set_cons_succ, List.set_cons_zero]
        apply walk_det
        · rfl
        · intro w2 hC hF
          simp only [upon]
          go_simp
          exact ⟨Below.refl _ _, rfl⟩
        simp only [put_lit, List.set_cons_succ, List.set_cons_zero]
        apply walk_det
        · rfl
        · intro w2 hC hF
          simp only [upon]
          go_simp
          exact ⟨Below.refl _ _, rfl⟩
        simp only [put_lit, List.set_cons_succ, List.set_cons_zero]
        apply walk_det
        · rfl
        · intro w2 hC hF
          simp only [upon]
          go_simp
          exact ⟨Below.refl _ _, rfl⟩
        simp only [put_lit, List.set_cons_succ, List.set_cons_zero]
        apply walk_det
        · rfl
        · intro w2 hC hF
          simp only [upon]
          go_simp
          exact ⟨Below.refl _ _, rfl⟩
        simp only [put_lit, List.set_cons_succ, List.set_cons_zero]
        apply walk_det
        · rfl
        · intro w2 hC hF
          simp only [upon]
          go_simp
          exact ⟨Below.refl _ _, rfl⟩
        simp only [put_lit, List.set_cons_succ, List.set_cons_zero]
        apply walk_skip
        · rfl
        simp only [put_lit, List.set_cons_succ, List.set_cons_zero]
        apply walk_skip
        · rfl
        simp only [put_lit, List.set_cons_succ, List.set_cons_zero]
        apply walk_det
        · rfl
        · intro w2 hC hF
          simp only [upon]
          go_simp
          exact ⟨Below.refl _ _, rfl⟩
        simp only [put_lit, List.set_cons_succ, List.set_cons_zero]
        apply walk_nil
        intro w2 hC _
        have hBb := hBa.trans (hC.mono hBa.size)
        clear hC
        go_wp2_with fail
        go_returns
        refine ⟨?_, hBb⟩
        rw [hres.out, if_neg (fun h => hA'.out h.2.1)]; rfl
    · have heq := heq.out; rw [decide_eq_false hA] at heq; replace heq : Hid _ := heq
      have hA' : Hid _ := hA
      clear hA
      refine poised_whole (fun w' => Below w2.heap.size w2 w') (fun w w' => Below w.heap.size w w') (by kernel_rfl) (by kernel_rfl) (by kernel_rfl) (fun _ _ h k => h.trans (k.mono h.size)) ((Below.refl _ _).drew) ?_
      apply Exists.intro
      apply walk_det
      · rfl
      · intro w2 hC hF
        simp only [upon]
        go_simp
        exact ⟨Below.refl _ _, rfl⟩
      simp only [put_lit, List.set_cons_succ, List.set_cons_zero]
      apply walk_det
      · rfl
      · intro w2 hC hF
        simp only [upon]
        go_simp
        exact ⟨Below.refl _ _, rfl⟩
      simp only [put_lit, List.set_cons_succ, List.set_cons_zero]
      apply walk_det
      · rfl
      · intro w2 hC hF
        simp only [upon]
        go_simp
        exact ⟨Below.refl _ _, rfl⟩
      simp only [put_lit, List.set_cons_succ, List.set_cons_zero]
      apply walk_free (fun v w' => BytesIn w' v (sum4 S)) (fun _ _ _ _ hR h => BytesIn.below h hR)
      · rfl
      · intro w2 hC hF
        simp only [upon]
        go_simp
        exact (hsu.out _ (hBa.trans (hC.mono hBa.size))).mono (fun e w' hh => ⟨_, hh.1, hh.2.2, blk4 hh.2.1⟩)
      intro v
      simp only [put_lit, List.set_cons_succ, List.set_cons_zero]
      apply walk_det
      · rfl
      · intro w2 hC hF
        simp only [upon]
        go_simp
        have hv4 : BytesIn w2 v (sum4 S) := hF 3 (by kernel_rfl)
        exact still_call (heq.out w2 v (hBa.trans (hC.mono hBa.size)) hv4)
      simp only [put_lit, List.set_cons_succ, List.set_cons_zero]
      apply walk_det
      · rfl
      · intro w2 hC hF
        simp only [upon]
        go_simp
        exact ⟨Below.refl _ _, rfl⟩
      simp only [put_lit, List.set_cons_succ, List.set_cons_zero]
      apply walk_det
      · rfl
      · intro w2 hC hF
        simp only [upon]
        go_simp
        exact ⟨Below.refl _ _, rfl⟩
      simp only [put_lit, List.set_cons_succ, List.set_cons_zero]
      apply walk_skip
      · rfl
      simp only [put_lit, List.set_cons_succ, List.set_cons_zero]
      apply walk_skip
      · rfl
      simp only [put_lit, List.set_cons_succ, List.set_cons_zero]
      apply walk_skip
      · rfl
      simp only [put_lit, List.set_cons_succ, List.set_cons_zero]
      apply walk_skip
      · rfl
      simp only [put_lit, List.set_cons_succ, List.set_cons_zero]
      apply walk_skip
      · rfl
      simp only [put_lit, List.set_cons_succ, List.set_cons_zero]
      apply walk_skip
      · rfl
      simp only [put_lit, List.set_cons_succ, List.set_cons_zero]
      apply walk_det
      · rfl
      · intro w2 hC hF
        simp only [upon]
        go_simp
        exact ⟨Below.refl _ _, rfl⟩
      simp only [put_lit, List.set_cons_succ, List.set_cons_zero]
      apply walk_det
      · rfl
      · intro w2 hC hF
        simp only [upon]
        go_simp
        exact ⟨Below.refl _ _, rfl⟩
      simp only [put_lit, List.set_cons_succ, List.set_cons_zero]
      apply walk_skip
      · rfl
      simp only [put_lit, List.set_cons_succ, List.set_cons_zero]
      apply walk_skip
      · rfl
      simp only [put_lit, List.set_cons_succ, List.set_cons_zero]
      apply walk_det
      · rfl
      · intro w2 hC hF
        simp only [upon]
        go_simp
        exact ⟨Below.refl _ _, rfl⟩
      simp only [put_lit, List.set_cons_succ, List.set_cons_zero]
      apply walk_nil
      intro w2 hC _
      have hBb := hBa.trans (hC.mono hBa.size)
      clear hC
      go_wp2_with fail
      go_returns
      refine ⟨?_, hBb⟩
      rw [hres.out, if_neg (fun h => hA'.out h.1)]; rfl
end Go.Proofs.YtmcmagplaflegaaGreat
