/-
  Sets of bytes as 256 bits: the plain facts on words, bits, counts. No program in sight.
-/
import Derived.Laws.BitsAllLaws
import Derived.Laws.Shifts
namespace Go.Proofs.YtgopahmhniphbaaDoor.Sp
open Go

abbrev S := BitVec 256
def wd (s : S) (i : Nat) : BitVec 64 := s.extractLsb' (64 * i) 64
/-- The word as Go's number. -/
def wn (s : S) (i : Nat) : Nat := (wd s i).toNat

theorem wn_lt (s : S) (i : Nat) : wn s i < 18446744073709551616 := (wd s i).isLt

theorem wd_get (s : S) (i k : Nat) : (wd s i).getLsbD k = (decide (k < 64) && s.getLsbD (64 * i + k)) := by
  simp [wd, BitVec.getLsbD_extractLsb']

theorem get_wd (s : S) (c : Nat) : s.getLsbD c = (wd s (c / 64)).getLsbD (c % 64) := by
  rw [wd_get]
  have h1 : c % 64 < 64 := Nat.mod_lt _ (by decide)
  have h2 : 64 * (c / 64) + c % 64 = c := Nat.div_add_mod c 64
  simp [h1, h2]

theorem ext_wd {a b : S} (h : ∀ i, i < 4 → wd a i = wd b i) : a = b := by
  apply BitVec.eq_of_getLsbD_eq
  intro c hc
  rw [get_wd, get_wd, h (c / 64) (by omega)]

theorem ext_wn {a b : S} (h0 : wn a 0 = wn b 0) (h1 : wn a 1 = wn b 1) (h2 : wn a 2 = wn b 2) (h3 : wn a 3 = wn b 3) : a = b := by
  apply ext_wd
  intro i hi
  apply BitVec.eq_of_toNat_eq
  match i, hi with
  | 0, _ => exact h0
  | 1, _ => exact h1
  | 2, _ => exact h2
  | 3, _ => exact h3

theorem wd_or (a b : S) (i : Nat) : wd (a ||| b) i = wd a i ||| wd b i := by
  apply BitVec.eq_of_getLsbD_eq; intro k hk; rw [BitVec.getLsbD_or, wd_get, wd_get, wd_get, BitVec.getLsbD_or]; simp [hk]
theorem wd_and (a b : S) (i : Nat) : wd (a &&& b) i = wd a i &&& wd b i := by
  apply BitVec.eq_of_getLsbD_eq; intro k hk; rw [BitVec.getLsbD_and, wd_get, wd_get, wd_get, BitVec.getLsbD_and]; simp [hk]
theorem wd_not (a : S) (i : Nat) (hi : i < 4) : wd (~~~a) i = ~~~ wd a i := by
  apply BitVec.eq_of_getLsbD_eq; intro k hk; rw [BitVec.getLsbD_not, wd_get, wd_get, BitVec.getLsbD_not]
  have : 64 * i + k < 256 := by omega
  simp [hk, this]

/-- Is a byte in a set? -/
def mem (s : S) (c : Nat) : Bool := s.getLsbD c
theorem ext_mem {a b : S} (h : ∀ c, c < 256 → mem a c = mem b c) : a = b := BitVec.eq_of_getLsbD_eq h
theorem mem_or (a b : S) (c : Nat) : mem (a ||| b) c = (mem a c || mem b c) := BitVec.getLsbD_or
theorem mem_and (a b : S) (c : Nat) : mem (a &&& b) c = (mem a c && mem b c) := BitVec.getLsbD_and
theorem mem_not (a : S) (c : Nat) (hc : c < 256) : mem (~~~a) c = !mem a c := by simp [mem, hc]
theorem mem_zero (c : Nat) : mem 0#256 c = false := by simp [mem]

/-- The set of one byte. -/
def bit (c : Nat) : S := BitVec.twoPow 256 c
theorem bit_get (c k : Nat) : (bit c).getLsbD k = (decide (c < 256) && decide (k = c)) := by
  simp only [bit, BitVec.getLsbD_twoPow]
  by_cases h : k = c
  · simp [h]
  · have : ¬ c = k := fun e => h e.symm
    simp [h, this]
theorem mem_bit (c k : Nat) (hc : c < 256) : mem (bit c) k = decide (k = c) := by rw [mem, bit_get]; simp [hc]
theorem wd_bit (c i : Nat) (hc : c < 256) : wd (bit c) i = if i = c / 64 then BitVec.twoPow 64 (c % 64) else 0#64 := by
  apply BitVec.eq_of_getLsbD_eq; intro k hk
  rw [wd_get, bit_get]
  split
  · rename_i h; subst h
    rw [BitVec.getLsbD_twoPow]
    by_cases e : 64 * (c / 64) + k = c
    · have : c % 64 = k := by omega
      simp [hk, hc, e, this]
    · have : c % 64 ≠ k := by omega
      simp [e, this]
  · rename_i h
    have : ¬ (64 * i + k = c) := by omega
    simp [this]

/-! ### Go's operations on words -/
theorem g_or (x y : BitVec 64) : bits .or .u64 (x.toNat : Int) (y.toNat : Int) = ((x ||| y).toNat : Int) := by
  rw [u64_or_nat _ _ x.isLt y.isLt, BitVec.toNat_or]
theorem g_and (x y : BitVec 64) : bits .and .u64 (x.toNat : Int) (y.toNat : Int) = ((x &&& y).toNat : Int) := by
  rw [u64_and_nat _ _ x.isLt y.isLt, BitVec.toNat_and]
theorem g_andNot (x y : BitVec 64) : bits .andNot .u64 (x.toNat : Int) (y.toNat : Int) = ((x &&& ~~~y).toNat : Int) := by
  rw [u64_andNot_nat _ _ x.isLt y.isLt, BitVec.toNat_and, BitVec.toNat_not]
theorem g_not (x : BitVec 64) : bits .xor .u64 IntKind.u64.max (x.toNat : Int) = ((~~~x).toNat : Int) := by
  have h : IntKind.u64.max = ((18446744073709551615 : Nat) : Int) := by decide
  rw [h, u64_xor_nat _ _ (by decide) x.isLt]
  have : (18446744073709551615 : Nat) ^^^ x.toNat = (BitVec.allOnes 64 ^^^ x).toNat := by rw [BitVec.toNat_xor]; rfl
  rw [this, BitVec.allOnes_xor]

theorem n_or (a b : S) (i : Nat) : bits .or .u64 (wn a i : Int) (wn b i : Int) = (wn (a ||| b) i : Int) := by
  unfold wn; rw [g_or, wd_or]
theorem n_and (a b : S) (i : Nat) : bits .and .u64 (wn a i : Int) (wn b i : Int) = (wn (a &&& b) i : Int) := by
  unfold wn; rw [g_and, wd_and]
theorem n_less (a b : S) (i : Nat) (hi : i < 4) : bits .andNot .u64 (wn a i : Int) (wn b i : Int) = (wn (a &&& ~~~b) i : Int) := by
  unfold wn; rw [g_andNot, wd_and, wd_not b i hi]
theorem n_not (a : S) (i : Nat) (hi : i < 4) : bits .xor .u64 IntKind.u64.max (wn a i : Int) = (wn (~~~a) i : Int) := by
  unfold wn; rw [g_not, wd_not a i hi]

/-- 'a[c/64]>>(c%64)&1 == 1', the word and the shift as the walk has them. -/
theorem n_has (a : S) (c i k : Nat) (hi : c / 64 = i) (hk : c % 64 = k) : (bits .and .u64 ((wn a i : Int) / 2 ^ k) 1 == 1) = a.getLsbD c := by
  rw [get_wd a c, hi, hk]
  have h1 : ((wn a i : Int) / 2 ^ k) = ((wn a i / 2 ^ k : Nat) : Int) := by norm_cast
  have h2 : wn a i / 2 ^ k < 18446744073709551616 := Nat.lt_of_le_of_lt (Nat.div_le_self _ _) (wn_lt a i)
  have h3 : (1 : Int) = ((1 : Nat) : Int) := rfl
  rw [h1, h3, u64_and_nat _ _ h2 (by decide), Nat.and_one_is_mod]
  rw [BitVec.getLsbD, Nat.testBit_eq_decide_div_mod_eq]
  show _ = decide (wn a i / 2 ^ k % 2 = 1)
  rw [Bool.eq_iff_iff, beq_iff_eq, decide_eq_true_eq]
  omega

/-- Setting a bit. -/
theorem n_set (a : S) (c i k : Nat) (hc : c < 256) (hi : c / 64 = i) (hk : c % 64 = k) : bits .or .u64 (wn a i : Int) (2 ^ k) = (wn (a ||| bit c) i : Int) := by
  have hk' : k < 64 := by omega
  have h1 : ((2 : Int) ^ k) = ((BitVec.twoPow 64 k).toNat : Int) := by
    rw [BitVec.toNat_twoPow, Nat.mod_eq_of_lt (Nat.pow_lt_pow_right (by decide) hk')]
    norm_cast
  unfold wn
  rw [h1, g_or, wd_or, wd_bit c i hc, if_pos hi.symm, hk]
theorem n_setw (a : S) (c i k : Nat) (hc : c < 256) (hi : c / 64 = i) (hk : c % 64 = k) : bits .or .u64 (wn a i : Int) (IntKind.u64.wrap (2 ^ k)) = (wn (a ||| bit c) i : Int) := by
  have hk' : k < 64 := by omega
  have h1 : IntKind.u64.wrap ((2 : Int) ^ k) = (2 : Int) ^ k := by
    have h2 : (2 : Nat) ^ k < 2 ^ 64 := Nat.pow_lt_pow_right (by decide) hk'
    have h3 : ((2 : Int) ^ k) = ((2 ^ k : Nat) : Int) := (Int.natCast_pow 2 k).symm
    have h2' : (2 : Nat) ^ k < 18446744073709551616 := h2
    have h4 : ((2 ^ k : Nat) : Int) < 18446744073709551616 := Int.ofNat_lt.2 h2'
    have h5 : (0 : Int) ≤ ((2 ^ k : Nat) : Int) := Int.natCast_nonneg _
    rw [IntKind.wrap_u64, h3]
    generalize ((2 ^ k : Nat) : Int) = y at *
    omega
  rw [h1]
  exact n_set a c i k hc hi hk
theorem n_same (a : S) (c i j : Nat) (hc : c < 256) (hi : c / 64 = i) (hj : j ≠ i) : (wn a j : Int) = (wn (a ||| bit c) j : Int) := by
  apply congrArg; symm
  unfold wn
  rw [wd_or, wd_bit c j hc, if_neg (by omega)]; simp

end Go.Proofs.YtgopahmhniphbaaDoor.Sp
