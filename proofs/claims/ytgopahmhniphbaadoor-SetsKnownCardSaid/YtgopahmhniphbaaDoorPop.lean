/-
  The bits of a word, one after the other, and how many there are. No program in sight.
-/
import Derived.Lib.TrailingZeros
import Derived.Laws.BitsAllLaws
import Derived.Laws.Bits128
import Derived.Laws.Shifts
import Derived.IntWalk
import Derived.WalkKit
namespace Go.Proofs.YtgopahmhniphbaaDoor.Sp
open Go Go.RowKit

/-- The bits of a number, below n. -/
def nb (n x : Nat) : List Nat := (List.range n).filter fun k => x.testBit k

theorem filter_range_cons {p q : Nat → Bool} {n k : Nat} (hk : k < n) (hp : p k = true) (hl : ∀ j, j < k → p j = false) (hq : ∀ j, j < n → q j = (p j && decide (j ≠ k))) :
    (List.range n).filter p = k :: (List.range n).filter q := by
  obtain ⟨d, rfl⟩ : ∃ d, n = k + (1 + d) := ⟨n - k - 1, by omega⟩
  have e1 : ∀ r : Nat → Bool, (List.range (k + (1 + d))).filter r = (List.range k).filter r ++ ((if r k then [k] else []) ++ ((List.range d).map (k + 1 + ·)).filter r) := by
    intro r
    rw [List.range_add, List.filter_append, List.range_add]
    congr 1
    simp only [List.map_append, List.filter_append, List.range_one, List.map_cons, List.map_nil, List.map_map, Nat.add_zero, List.filter_cons, List.filter_nil]
    congr 1
    congr 1
    apply List.map_congr_left
    intro x _
    simp [Function.comp]; omega
  have e2 : (List.range k).filter p = [] := by rw [List.filter_eq_nil_iff]; intro j hj; simp at hj; simp [hl j hj]
  have e3 : (List.range k).filter q = [] := by rw [List.filter_eq_nil_iff]; intro j hj; simp at hj; rw [hq j (by omega), hl j hj]; simp
  have e4 : ((List.range d).map (k + 1 + ·)).filter p = ((List.range d).map (k + 1 + ·)).filter q := by
    apply List.filter_congr
    intro j hj
    simp at hj
    obtain ⟨i, hi, rfl⟩ := hj
    rw [hq _ (by omega)]
    have : k + 1 + i ≠ k := by omega
    simp [this]
  have e5 : q k = false := by rw [hq k hk]; simp
  rw [e1 p, e1 q, e2, e3, e4, hp, e5]
  simp

/-- A number that is not 0: its least bit, and the others: x & (x - 1). -/
theorem low (x : Nat) (h0 : x ≠ 0) (h : x < 18446744073709551616) : Lib.ctz 64 x < 64 ∧ x.testBit (Lib.ctz 64 x) = true ∧ (∀ j, j < Lib.ctz 64 x → x.testBit j = false) ∧ ∀ j, (x &&& (x - 1)).testBit j = (x.testBit j && decide (j ≠ Lib.ctz 64 x)) := by
  obtain ⟨m, hm, hk⟩ := Lib.ctzFrom_spec 64 x (by omega) h
  have e : Lib.ctz 64 x = Lib.ctzFrom 64 x := by simp [Lib.ctz, h0]
  rw [e]
  generalize Lib.ctzFrom 64 x = k at *
  have hx : x = 2 ^ (k + 1) * m + 2 ^ k := by rw [hm, Nat.pow_succ, Nat.mul_add, Nat.mul_assoc]; simp
  have hx1 : x - 1 = 2 ^ (k + 1) * m + (2 ^ k - 1) := by have : 0 < 2 ^ k := Nat.two_pow_pos k; omega
  have hlt : 2 ^ k < 2 ^ (k + 1) := Nat.pow_lt_pow_right (by decide) (by omega)
  have tb : ∀ j, x.testBit j = if j < k + 1 then decide (j = k) else m.testBit (j - (k + 1)) := by
    intro j
    rw [hx, Nat.testBit_two_pow_mul_add _ hlt, Nat.testBit_two_pow]
    by_cases hj : j < k + 1
    · simp only [hj, if_true]; simp [eq_comm]
    · simp [hj]
  have tb1 : ∀ j, (x - 1).testBit j = if j < k + 1 then decide (j < k) else m.testBit (j - (k + 1)) := by
    intro j
    have hlt' : 2 ^ k - 1 < 2 ^ (k + 1) := by omega
    rw [hx1, Nat.testBit_two_pow_mul_add _ hlt', Nat.testBit_two_pow_sub_one]
  refine ⟨hk, by rw [tb]; simp, fun j hj => by rw [tb, if_pos (by omega)]; simp; omega, fun j => ?_⟩
  rw [Nat.testBit_and, tb, tb1]
  by_cases hj : j < k + 1
  · simp only [hj, if_true]
    by_cases hjk : j = k
    · subst hjk; simp
    · simp [hjk]
  · have : j ≠ k := by omega
    simp [hj, this]

theorem nb_step (x : Nat) (h0 : x ≠ 0) (h : x < 18446744073709551616) : nb 64 x = Lib.ctz 64 x :: nb 64 (x &&& (x - 1)) := by
  obtain ⟨h1, h2, h3, h4⟩ := low x h0 h
  exact filter_range_cons h1 h2 h3 (fun j _ => h4 j)

theorem nb_zero (n : Nat) : nb n 0 = [] := by simp [nb]

/-! ### How many -/
theorem nb_split (k hi lo : Nat) (hl : lo < 256) : (nb (8 * (k + 1)) (hi * 256 + lo)).length = (nb 8 lo).length + (nb (8 * k) hi).length := by
  have e : 8 * (k + 1) = 8 + 8 * k := by omega
  have tb : ∀ j, (hi * 256 + lo).testBit j = if j < 8 then lo.testBit j else hi.testBit (j - 8) := by
    intro j
    have : hi * 256 + lo = 2 ^ 8 * hi + lo := by omega
    rw [this, Nat.testBit_two_pow_mul_add _ (by simpa using hl)]
  unfold nb
  rw [e, List.range_add, List.filter_append, List.length_append, List.filter_map, List.length_map]
  congr 1
  · congr 1
    apply List.filter_congr
    intro j hj
    rw [tb, if_pos (by simpa using hj)]
  · congr 1
    apply List.filter_congr
    intro j hj
    simp only [Function.comp]
    rw [tb, if_neg (by omega)]
    congr 1; omega

/-- A byte's pattern, k times. -/
def msk (c : Nat) : Nat → Nat
  | 0 => 0
  | k + 1 => msk c k * 256 + c

theorem msk_succ (c k : Nat) : msk c (k + 1) = msk c k * 256 + c := rfl
theorem msk_one (c : Nat) : msk c 1 = c := by simp [msk]

theorem and_split (a b c d : Nat) (hb : b < 256) (hd : d < 256) : (a * 256 + b) &&& (c * 256 + d) = (a &&& c) * 256 + (b &&& d) := by
  apply Nat.eq_of_testBit_eq
  intro j
  have hbd : b &&& d < 256 := Nat.lt_of_le_of_lt Nat.and_le_left hb
  have e : ∀ x y, y < 256 → (x * 256 + y).testBit j = if j < 8 then y.testBit j else x.testBit (j - 8) := by
    intro x y hy
    have : x * 256 + y = 2 ^ 8 * x + y := by omega
    rw [this, Nat.testBit_two_pow_mul_add _ (by simpa using hy)]
  rw [Nat.testBit_and, e _ _ hb, e _ _ hd, e _ _ hbd]
  split <;> simp [Nat.testBit_and]

def s1 (k x : Nat) : Nat := (x / 2 &&& msk 85 k) + (x &&& msk 85 k)
def s2 (k x : Nat) : Nat := (x / 4 &&& msk 51 k) + (x &&& msk 51 k)
def s3 (k x : Nat) : Nat := (x / 16 + x) &&& msk 15 k

theorem t1 : ∀ lo, lo < 256 → ∀ t, t < 2 → ((lo / 2 + 128 * t) &&& 85) = (lo / 2 &&& 85) ∧ (lo / 2 &&& 85) + (lo &&& 85) < 256 := by decide +kernel
theorem t2 : ∀ lo, lo < 256 → ∀ t, t < 4 → ((lo / 4 + 64 * t) &&& 51) = (lo / 4 &&& 51) := by decide +kernel
theorem t2' : ∀ lo, lo < 256 → (lo / 4 &&& 51) + (lo &&& 51) < 104 := by decide +kernel
theorem t3 : ∀ lo, lo < 104 → ∀ t, t < 7 → ((lo / 16 + 16 * t + lo) &&& 15) = ((lo / 16 + lo) &&& 15) := by decide +kernel
theorem t4 : ∀ lo, lo < 256 → s3 1 (s2 1 (s1 1 lo)) = (nb 8 lo).length := by decide +kernel

theorem s1_split (k hi lo : Nat) (hl : lo < 256) : s1 (k + 1) (hi * 256 + lo) = s1 k hi * 256 + s1 1 lo := by
  have h := t1 lo hl (hi % 2) (by omega)
  have e : (hi * 256 + lo) / 2 = (hi / 2) * 256 + (lo / 2 + 128 * (hi % 2)) := by omega
  unfold s1
  rw [msk_succ, msk_one, e, and_split _ _ _ _ (by omega) (by decide), and_split _ _ _ _ hl (by decide), h.1]
  omega
theorem s1_lt (lo : Nat) (hl : lo < 256) : s1 1 lo < 256 := by
  have h := (t1 lo hl 0 (by omega)).2
  simpa [s1, msk] using h
theorem s2_split (k hi lo : Nat) (hl : lo < 256) : s2 (k + 1) (hi * 256 + lo) = s2 k hi * 256 + s2 1 lo := by
  have h := t2 lo hl (hi % 4) (by omega)
  have e : (hi * 256 + lo) / 4 = (hi / 4) * 256 + (lo / 4 + 64 * (hi % 4)) := by omega
  unfold s2
  rw [msk_succ, msk_one, e, and_split _ _ _ _ (by omega) (by decide), and_split _ _ _ _ hl (by decide), h]
  omega
theorem s2_lt (lo : Nat) (hl : lo < 256) : s2 1 lo < 104 := by
  have h := t2' lo hl
  simpa [s2, msk] using h
theorem msk_mod (k x : Nat) : (x &&& msk 51 k) % 16 ≤ 3 := by
  cases k with
  | zero => simp [msk]
  | succ k =>
    have : x = (x / 256) * 256 + x % 256 := by omega
    unfold msk
    rw [this, and_split _ _ _ _ (by omega) (by decide)]
    have h : ∀ y, y < 256 → (y &&& 51) % 16 ≤ 3 := by decide +kernel
    have := h (x % 256) (by omega)
    omega
theorem s2_mod (k x : Nat) : s2 k x % 16 < 7 := by
  unfold s2
  have h1 := msk_mod k (x / 4)
  have h2 := msk_mod k x
  omega
theorem s3_split (k hi lo : Nat) (hl : lo < 104) (hm : hi % 16 < 7) : s3 (k + 1) (hi * 256 + lo) = s3 k hi * 256 + s3 1 lo := by
  have h := t3 lo hl (hi % 16) hm
  have e : (hi * 256 + lo) / 16 + (hi * 256 + lo) = (hi / 16 + hi) * 256 + (lo / 16 + 16 * (hi % 16) + lo) := by omega
  unfold s3
  rw [msk_succ, msk_one, e, and_split _ _ _ _ (by omega) (by decide), h]

def s (k x : Nat) : Nat := s3 k (s2 k (s1 k x))
theorem s_split (k hi lo : Nat) (hl : lo < 256) : s (k + 1) (hi * 256 + lo) = s k hi * 256 + (nb 8 lo).length := by
  unfold s
  rw [s1_split k hi lo hl, s2_split k _ _ (s1_lt lo hl), s3_split k _ _ (s2_lt _ (s1_lt lo hl)) (s2_mod _ _), t4 lo hl]

theorem nb8_le (x : Nat) : (nb 8 x).length ≤ 8 := by
  unfold nb; exact Nat.le_trans (List.length_filter_le _ _) (by simp)

/-- The sum of the bytes of s 8 x is how many bits x has. -/
theorem s_sum (x : Nat) (h : x < 18446744073709551616) : ∃ p0 p1 p2 p3 p4 p5 p6 p7 : Nat, p0 ≤ 8 ∧ p1 ≤ 8 ∧ p2 ≤ 8 ∧ p3 ≤ 8 ∧ p4 ≤ 8 ∧ p5 ≤ 8 ∧ p6 ≤ 8 ∧ p7 ≤ 8 ∧
    s 8 x = ((((((p7 * 256 + p6) * 256 + p5) * 256 + p4) * 256 + p3) * 256 + p2) * 256 + p1) * 256 + p0 ∧ (nb 64 x).length = p0 + (p1 + (p2 + (p3 + (p4 + (p5 + (p6 + p7)))))) := by
  have step : ∀ k y, s (k + 1) y = s k (y / 256) * 256 + (nb 8 (y % 256)).length ∧ (nb (8 * (k + 1)) y).length = (nb 8 (y % 256)).length + (nb (8 * k) (y / 256)).length := by
    intro k y
    have e : y = (y / 256) * 256 + y % 256 := by omega
    constructor
    · conv => lhs; rw [e]
      exact s_split k _ _ (by omega)
    · conv => lhs; rw [e]
      exact nb_split k _ _ (by omega)
  refine ⟨_, _, _, _, _, _, _, _, nb8_le (x % 256), nb8_le (x / 256 % 256), nb8_le (x / 256 / 256 % 256), nb8_le (x / 256 / 256 / 256 % 256), nb8_le (x / 256 / 256 / 256 / 256 % 256), nb8_le (x / 256 / 256 / 256 / 256 / 256 % 256), nb8_le (x / 256 / 256 / 256 / 256 / 256 / 256 % 256), nb8_le (x / 256 / 256 / 256 / 256 / 256 / 256 / 256 % 256), ?_, ?_⟩
  · rw [(step 7 _).1, (step 6 _).1, (step 5 _).1, (step 4 _).1, (step 3 _).1, (step 2 _).1, (step 1 _).1, (step 0 _).1]
    have : s 0 (x / 256 / 256 / 256 / 256 / 256 / 256 / 256 / 256) = 0 := by simp [s, s3, msk]
    rw [this, Nat.zero_mul, Nat.zero_add]
  · have e : (64 : Nat) = 8 * (7 + 1) := rfl
    rw [e, (step 7 _).2, (step 6 _).2, (step 5 _).2, (step 4 _).2, (step 3 _).2, (step 2 _).2, (step 1 _).2, (step 0 _).2]
    have hx : x / 256 / 256 / 256 / 256 / 256 / 256 / 256 % 256 = x / 256 / 256 / 256 / 256 / 256 / 256 / 256 := by omega
    rw [hx]

/-! ### Go's text of OnesCount64 -/
def o1 (x : Int) : Int := IntKind.u64.wrap (bits .and .u64 (x / 2) 6148914691236517205 + bits .and .u64 x 6148914691236517205)
def o2 (y : Int) : Int := IntKind.u64.wrap (bits .and .u64 (y / 4) 3689348814741910323 + bits .and .u64 y 3689348814741910323)
def o3 (y : Int) : Int := bits .and .u64 (IntKind.u64.wrap (y / 16 + y)) 1085102592571150095
def o4 (y : Int) : Int := IntKind.u64.wrap (y + y / 256)
def o5 (y : Int) : Int := IntKind.u64.wrap (y + y / 65536)
def o6 (y : Int) : Int := IntKind.u64.wrap (y + y / 4294967296)

theorem and_le (a b : Nat) : a &&& b ≤ b := Nat.and_le_right
theorem o1_eq (x : Nat) (h : x < 18446744073709551616) : o1 x = (s1 8 x : Nat) ∧ s1 8 x < 18446744073709551616 := by
  have m : msk 85 8 = 6148914691236517205 := by decide
  have e1 : (x : Int) / 2 = ((x / 2 : Nat) : Int) := by norm_cast
  have e2 : (6148914691236517205 : Int) = ((6148914691236517205 : Nat) : Int) := rfl
  have a1 := and_le (x / 2) 6148914691236517205
  have a2 := and_le x 6148914691236517205
  unfold o1 s1
  rw [e1, e2, u64_and_nat _ _ (by omega) (by decide), u64_and_nat _ _ h (by decide), m, IntKind.wrap_u64]
  omega
theorem o2_eq (x : Nat) (h : x < 18446744073709551616) : o2 x = (s2 8 x : Nat) ∧ s2 8 x ≤ 7378697629483820646 := by
  have m : msk 51 8 = 3689348814741910323 := by decide
  have e1 : (x : Int) / 4 = ((x / 4 : Nat) : Int) := by norm_cast
  have e2 : (3689348814741910323 : Int) = ((3689348814741910323 : Nat) : Int) := rfl
  have a1 := and_le (x / 4) 3689348814741910323
  have a2 := and_le x 3689348814741910323
  unfold o2 s2
  rw [e1, e2, u64_and_nat _ _ (by omega) (by decide), u64_and_nat _ _ h (by decide), m, IntKind.wrap_u64]
  omega
theorem o3_eq (x : Nat) (h : x ≤ 7378697629483820646) : o3 x = (s3 8 x : Nat) := by
  have m : msk 15 8 = 1085102592571150095 := by decide
  have e1 : IntKind.u64.wrap ((x : Int) / 16 + x) = ((x / 16 + x : Nat) : Int) := by rw [IntKind.wrap_u64]; omega
  have e2 : (1085102592571150095 : Int) = ((1085102592571150095 : Nat) : Int) := rfl
  unfold o3 s3
  rw [e1, e2, u64_and_nat _ _ (by omega) (by decide), m]

theorem ones_eq (x : Nat) (h : x < 18446744073709551616) : bits .and .i64 (wrap64 (o6 (o5 (o4 (o3 (o2 (o1 x))))))) 127 = ((nb 64 x).length : Nat) := by
  obtain ⟨p0, p1, p2, p3, p4, p5, p6, p7, h0, h1, h2, h3, h4, h5, h6, h7, hs, hn⟩ := s_sum x h
  have e1 := o1_eq x h
  have e2 := o2_eq _ e1.2
  have e3 := o3_eq _ e2.2
  have hs' : s3 8 (s2 8 (s1 8 x)) = ((((((p7 * 256 + p6) * 256 + p5) * 256 + p4) * 256 + p3) * 256 + p2) * 256 + p1) * 256 + p0 := hs
  rw [hn, i64_and127, e1.1, e2.1, e3, hs']
  clear e1 e2 e3 hs hs' hn h
  generalize hy : ((((((p7 * 256 + p6) * 256 + p5) * 256 + p4) * 256 + p3) * 256 + p2) * 256 + p1) * 256 + p0 = y
  have f4 : o4 (y : Int) = ((y + y / 256 : Nat) : Int) := by unfold o4; rw [IntKind.wrap_u64]; omega
  have g4 : y / 256 = (((((p7 * 256 + p6) * 256 + p5) * 256 + p4) * 256 + p3) * 256 + p2) * 256 + p1 := by omega
  obtain ⟨y4, hy4⟩ : ∃ y4, y + y / 256 = y4 := ⟨_, rfl⟩
  have k4 : y4 = ((((((p7 * 256 + (p6 + p7)) * 256 + (p5 + p6)) * 256 + (p4 + p5)) * 256 + (p3 + p4)) * 256 + (p2 + p3)) * 256 + (p1 + p2)) * 256 + (p0 + p1) := by omega
  rw [f4, hy4]
  clear f4 g4 hy4 hy
  have f5 : o5 (y4 : Int) = ((y4 + y4 / 65536 : Nat) : Int) := by unfold o5; rw [IntKind.wrap_u64]; omega
  have g5 : y4 / 65536 = ((((p7 * 256 + (p6 + p7)) * 256 + (p5 + p6)) * 256 + (p4 + p5)) * 256 + (p3 + p4)) * 256 + (p2 + p3) := by omega
  obtain ⟨y5, hy5⟩ : ∃ y5, y4 + y4 / 65536 = y5 := ⟨_, rfl⟩
  have k5 : y5 = ((((((p7 * 256 + (p6 + p7)) * 256 + (p5 + p6 + p7)) * 256 + (p4 + p5 + (p6 + p7))) * 256 + (p3 + p4 + (p5 + p6))) * 256 + (p2 + p3 + (p4 + p5))) * 256 + (p1 + p2 + (p3 + p4))) * 256 + (p0 + p1 + (p2 + p3)) := by omega
  rw [f5, hy5]
  clear f5 g5 hy5 k4
  have f6 : o6 (y5 : Int) = ((y5 + y5 / 4294967296 : Nat) : Int) := by unfold o6; rw [IntKind.wrap_u64]; omega
  have g6 : y5 / 4294967296 = ((p7 * 256 + (p6 + p7)) * 256 + (p5 + p6 + p7)) * 256 + (p4 + p5 + (p6 + p7)) := by omega
  rw [f6, g6, k5]
  clear f6 g6 k5
  unfold wrap64
  omega

end Go.Proofs.YtgopahmhniphbaaDoor.Sp
