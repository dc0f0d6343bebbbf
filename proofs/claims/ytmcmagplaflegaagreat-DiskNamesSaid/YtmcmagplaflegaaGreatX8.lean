/-
  WHAT A SUM SEES: bits turned within 32 of a row of records are always seen; a row of records that is cut reads as its whole records. In plain Lean. Conditions: those of each theorem.
  THE DISK's METHODS, MORE: Size, Fail, Cut, Turn. Conditions: those of each theorem.
  THE DISK's METHODS, MORE: Turn. Conditions: those of each theorem.
  A DISK, AND WHAT LIES BESIDE IT. Conditions: those of each theorem.
  WORKS ONE BEHIND THE OTHER: first. Conditions: those of each theorem.
  WHAT OPEN IS MADE OF: a torn new file is dropped; the records are read. Conditions: those of each theorem.
  OPEN, OF ANY DISK. Conditions: those of each theorem.
  OPEN's WORKS, ONE BEHIND THE OTHER. Conditions: those of each theorem.
  OPEN, OF ANY DISK. Conditions: those of each theorem.
-/
import Derived.Test.YtmcmagplaflegaaGreatX7
import Derived.Test.YtmcmagplaflegaaGreatX4
import Derived.Test.YtmcmagplaflegaaGreatX0
import Derived.Test.YtmcmagplaflegaaGreatX1
import Derived.Shelf.Abstract

namespace Go.Proofs.YtmcmagplaflegaaGreat
open Go Go.RowKit Go.MapL Go.Poised

/-- Bytes as a number, the lowest first. -/
def le : List Nat → Nat
  | [] => 0
  | c :: l => c + 256 * le l
theorem le_lt : ∀ (l : List Nat), (∀ x ∈ l, x < 256) → le l < 2 ^ (8 * l.length)
  | [], _ => by simp [le]
  | c :: l, h => by
    have h1 := le_lt l (fun x hx => h x (.tail _ hx))
    have h2 := h c (.head _)
    have e : 2 ^ (8 * (c :: l).length) = 256 * 2 ^ (8 * l.length) := by rw [List.length_cons, Nat.mul_add, Nat.pow_add, Nat.mul_comm]
    rw [e]; unfold le; omega
theorem low_xor (c x : Nat) (k : Nat) (hc : c < 2 ^ k) : c + 2 ^ k * x = c ^^^ 2 ^ k * x := by
  have h := Nat.two_pow_add_eq_or_of_lt (i := k) (b := c) hc x
  rw [Nat.add_comm, h, Nat.xor_comm]
  apply Nat.eq_of_testBit_eq
  intro i
  rw [Nat.testBit_xor, Nat.testBit_or]
  by_cases hi : i < k
  · have : (2 ^ k * x).testBit i = false := by rw [Nat.testBit_two_pow_mul]; simp; omega
    rw [this]; simp
  · have : c.testBit i = false := by
      apply Nat.testBit_lt_two_pow
      exact Nat.lt_of_lt_of_le hc (Nat.pow_le_pow_right (by omega) (by omega))
    rw [this]; simp
theorem le_append : ∀ (a b : List Nat), le (a ++ b) = le a + 2 ^ (8 * a.length) * le b
  | [], b => by simp [le]
  | c :: a, b => by
    have e : 2 ^ (8 * (c :: a).length) = 256 * 2 ^ (8 * a.length) := by rw [List.length_cons, Nat.mul_add, Nat.pow_add, Nat.mul_comm]
    rw [e, Nat.mul_assoc]
    show c + 256 * le (a ++ b) = c + 256 * le a + _
    rw [le_append a b]; omega
theorem le_inj : ∀ (a b : List Nat), a.length = b.length → (∀ x ∈ a, x < 256) → (∀ x ∈ b, x < 256) → le a = le b → a = b
  | [], [], _, _, _, _ => rfl
  | [], _ :: _, h, _, _, _ => by simp at h
  | _ :: _, [], h, _, _, _ => by simp at h
  | c :: a, d :: b, h, ha, hb, he => by
    have h1 := ha c (.head _)
    have h2 := hb d (.head _)
    unfold le at he
    have h3 : c = d := by omega
    have h4 : le a = le b := by omega
    rw [h3, le_inj a b (by simpa using h) (fun x hx => ha x (.tail _ hx)) (fun x hx => hb x (.tail _ hx)) h4]
theorem byte_take {l : List Nat} (h : ∀ x ∈ l, x < 256) (k : Nat) : ∀ x ∈ l.take k, x < 256 := fun x hx => h x (List.mem_of_mem_take hx)
theorem byte_drop {l : List Nat} (h : ∀ x ∈ l, x < 256) (k : Nat) : ∀ x ∈ l.drop k, x < 256 := fun x hx => h x (List.mem_of_mem_drop hx)
theorem le_take {l : List Nat} (h : ∀ x ∈ l, x < 256) (k : Nat) : le (l.take k) = le l % 2 ^ (8 * k) := by
  by_cases hk : k ≤ l.length
  · have e : le l = le (l.take k) + 2 ^ (8 * k) * le (l.drop k) := by
      conv => lhs; rw [← List.take_append_drop k l]
      rw [le_append, List.length_take, Nat.min_eq_left hk]
    have hl := le_lt _ (byte_take h k)
    rw [List.length_take, Nat.min_eq_left hk] at hl
    rw [e, Nat.add_mul_mod_self_left, Nat.mod_eq_of_lt hl]
  · rw [List.take_of_length_le (by omega), Nat.mod_eq_of_lt]
    exact Nat.lt_of_lt_of_le (le_lt l h) (Nat.pow_le_pow_right (by omega) (by omega))
theorem le_drop {l : List Nat} (h : ∀ x ∈ l, x < 256) (k : Nat) : le (l.drop k) = le l / 2 ^ (8 * k) := by
  by_cases hk : k ≤ l.length
  · have e : le l = le (l.take k) + 2 ^ (8 * k) * le (l.drop k) := by
      conv => lhs; rw [← List.take_append_drop k l]
      rw [le_append, List.length_take, Nat.min_eq_left hk]
    have hl := le_lt _ (byte_take h k)
    rw [List.length_take, Nat.min_eq_left hk] at hl
    rw [e, Nat.add_mul_div_left _ _ (Nat.two_pow_pos _), Nat.div_eq_of_lt hl, Nat.zero_add]
  · rw [List.drop_eq_nil_of_le (by omega), Nat.div_eq_of_lt]
    · rfl
    · exact Nat.lt_of_lt_of_le (le_lt l h) (Nat.pow_le_pow_right (by omega) (by omega))
theorem rollN_add (x : Nat) (k : Nat) : ∀ j, rollN (j + k) x = rollN j (rollN k x)
  | 0 => by rw [Nat.zero_add]; rfl
  | j + 1 => by rw [Nat.add_right_comm]; show crcStep _ = crcStep _; rw [rollN_add x k j]
theorem crcFold_le : ∀ (l : List Nat) (s : Nat), (∀ x ∈ l, x < 256) → crcFold s l = rollN (8 * l.length) (s ^^^ le l)
  | [], s, _ => by simp [crcFold, le, rollN]
  | c :: l, s, h => by
    show crcFold ((s / 256) ^^^ roll ((s % 256) ^^^ c)) l = _
    rw [← take_roll, crcFold_le l _ (fun x hx => h x (.tail _ hx)), List.length_cons, Nat.mul_add, rollN_add]
    have e : le (c :: l) = c ^^^ 2 ^ 8 * le l := low_xor c (le l) 8 (h c (.head _))
    rw [e, ← Nat.xor_assoc, show 8 * 1 = 8 from rfl, rollN_xor (s ^^^ c) (2 ^ 8 * le l) 8, rollN_shift]
/-- Turned bits within 32. -/
def Burst (E : Nat) : Prop := ∃ f W, W < 4294967296 ∧ E = 2 ^ f * W
theorem Burst.zero : Burst 0 := ⟨0, 0, by omega, rfl⟩
theorem Burst.mod {E : Nat} (h : Burst E) (k : Nat) : Burst (E % 2 ^ k) := by
  obtain ⟨f, W, h1, rfl⟩ := h
  by_cases hk : k ≤ f
  · have e : 2 ^ f * W % 2 ^ k = 0 := by
      rw [show f = k + (f - k) by omega, Nat.pow_add, Nat.mul_assoc, Nat.mul_mod_right]
    rw [e]; exact Burst.zero
  · refine ⟨f, W % 2 ^ (k - f), Nat.lt_of_le_of_lt (Nat.mod_le _ _) h1, ?_⟩
    have e : 2 ^ k = 2 ^ f * 2 ^ (k - f) := by rw [← Nat.pow_add]; congr 1; omega
    rw [e, Nat.mul_mod_mul_left]
theorem Burst.div {E : Nat} (h : Burst E) (k : Nat) : Burst (E / 2 ^ k) := by
  obtain ⟨f, W, h1, rfl⟩ := h
  by_cases hk : k ≤ f
  · refine ⟨f - k, W, h1, ?_⟩
    have e : 2 ^ f = 2 ^ k * 2 ^ (f - k) := by rw [← Nat.pow_add]; congr 1; omega
    rw [e, Nat.mul_assoc, Nat.mul_div_cancel_left _ (Nat.two_pow_pos _)]
  · refine ⟨0, W / 2 ^ (k - f), Nat.lt_of_le_of_lt (Nat.div_le_self _ _) h1, ?_⟩
    have e : 2 ^ k = 2 ^ f * 2 ^ (k - f) := by rw [← Nat.pow_add]; congr 1; omega
    rw [e, Nat.mul_div_mul_left _ _ (Nat.two_pow_pos _)]; simp
theorem xor_zero_eq {a b : Nat} (h : a ^^^ b = 0) : a = b := by
  have := congrArg (· ^^^ b) h
  simp only [Nat.xor_assoc, Nat.xor_self, Nat.xor_zero, Nat.zero_xor] at this
  exact this
theorem xor_left {a x y : Nat} (h : a ^^^ x = a ^^^ y) : x = y := by
  have e : a ^^^ (a ^^^ x) = a ^^^ (a ^^^ y) := by rw [h]
  rwa [← Nat.xor_assoc, ← Nat.xor_assoc, Nat.xor_self, Nat.zero_xor, Nat.zero_xor] at e
theorem crcStep_ne {x : Nat} (h : x < 4294967296) (h0 : x ≠ 0) : crcStep x ≠ 0 := by
  unfold crcStep
  split
  · intro h2
    have := xor_zero_eq h2
    omega
  · omega
theorem rollN_ne {x : Nat} (h : x < 4294967296) (h0 : x ≠ 0) : ∀ k, rollN k x ≠ 0
  | 0 => h0
  | k + 1 => crcStep_ne (rollN_lt h k) (rollN_ne h h0 k)
theorem burst_ne {E : Nat} (h : Burst E) (h0 : E ≠ 0) (n : Nat) : rollN n E ≠ 0 := by
  obtain ⟨f, W, h1, rfl⟩ := h
  have hW : W ≠ 0 := fun e => h0 (by rw [e, Nat.mul_zero])
  by_cases hn : n ≤ f
  · have e : 2 ^ f * W = 2 ^ n * (2 ^ (f - n) * W) := by rw [← Nat.mul_assoc, ← Nat.pow_add]; congr 2; omega
    rw [e, rollN_shift]
    exact Nat.mul_ne_zero (Nat.pos_iff_ne_zero.1 (Nat.two_pow_pos _)) hW
  · rw [show n = (n - f) + f by omega, rollN_add, rollN_shift]
    exact rollN_ne h1 hW _
theorem not_xor {x : Nat} (h : x < 4294967296) : 4294967295 - x = 4294967295 ^^^ x := by
  have e : (BitVec.ofNat 32 x ^^^ BitVec.allOnes 32) = ~~~ BitVec.ofNat 32 x := BitVec.xor_allOnes
  have e2 := congrArg BitVec.toNat e
  rw [BitVec.toNat_xor, BitVec.toNat_not, BitVec.toNat_ofNat, Nat.mod_eq_of_lt (show x < 2 ^ 32 by omega)] at e2
  rw [Nat.xor_comm]
  have e3 : (BitVec.allOnes 32).toNat = 4294967295 := rfl
  rw [e3] at e2
  omega
theorem le_sum4 {n : Nat} (h : n < 4294967296) : le (sum4 n) = n := by
  rw [sum4_eq n h]; simp only [le]; omega
/-- A row of bytes and its sum: what is turned in both, within 32, is seen. -/
theorem code_seen (s : Nat) (X X' S' : List Nat) (E : Nat) (hs : s < 4294967296) (hX : ∀ x ∈ X, x < 256) (hX' : ∀ x ∈ X', x < 256) (hl : X'.length = X.length)
    (h1 : le X' = le X ^^^ (E % 2 ^ (8 * X.length))) (h2 : le S' = le (sum4 (crcOn s X)) ^^^ (E / 2 ^ (8 * X.length))) (hE : Burst E) (h0 : E ≠ 0) : S' ≠ sum4 (crcOn s X') := by
  rintro rfl
  rw [le_sum4 (crcOn_lt _ _), le_sum4 (crcOn_lt _ _)] at h2
  have hF := crcFold_lt X (4294967295 - s) (by omega) hX
  have hF' := crcFold_lt X' (4294967295 - s) (by omega) hX'
  have e1 : crcFold (4294967295 - s) X' = crcFold (4294967295 - s) X ^^^ rollN (8 * X.length) (E % 2 ^ (8 * X.length)) := by
    rw [crcFold_le X' _ hX', crcFold_le X _ hX, hl, h1, ← Nat.xor_assoc, rollN_xor]
  unfold crcOn at h2
  rw [not_xor hF', not_xor hF, e1] at h2
  have e2 : rollN (8 * X.length) E = rollN (8 * X.length) (E % 2 ^ (8 * X.length)) ^^^ (E / 2 ^ (8 * X.length)) := by
    conv => lhs; rw [← Nat.mod_add_div E (2 ^ (8 * X.length)), low_xor _ _ _ (Nat.mod_lt _ (Nat.two_pow_pos _)), rollN_xor, rollN_shift]
  refine burst_ne hE h0 (8 * X.length) ?_
  rw [e2]
  rw [← Nat.xor_assoc] at h2
  rw [xor_left h2, Nat.xor_self]

/-- Records' bytes, one behind the other, from the n-th on. -/
def listB : Nat → List (List Nat) → List Nat
  | _, [] => []
  | n, b :: L => recB n b ++ listB (n + 1) L
theorem le_part {B B' : List Nat} {E : Nat} (hB : ∀ x ∈ B, x < 256) (hB' : ∀ x ∈ B', x < 256) (h : le B' = le B ^^^ E) (i j : Nat) :
    le ((B'.drop i).take j) = le ((B.drop i).take j) ^^^ (E / 2 ^ (8 * i) % 2 ^ (8 * j)) := by
  rw [le_take (byte_drop hB' i), le_take (byte_drop hB i), le_drop hB', le_drop hB, h, Nat.xor_div_two_pow, Nat.xor_mod_two_pow]
theorem part_same {B B' : List Nat} {E : Nat} (hB : ∀ x ∈ B, x < 256) (hB' : ∀ x ∈ B', x < 256) (hl : B'.length = B.length) (h : le B' = le B ^^^ E) (i j : Nat) (h0 : E / 2 ^ (8 * i) % 2 ^ (8 * j) = 0) : (B'.drop i).take j = (B.drop i).take j := by
  refine le_inj _ _ (by simp [hl]) (byte_take (byte_drop hB' i) j) (byte_take (byte_drop hB i) j) ?_
  rw [le_part hB hB' h, h0, Nat.xor_zero]
theorem told_acc : ∀ (l : List Nat) (n : Nat), l.foldl (fun n c => n * 256 + c) n = n * 256 ^ l.length + told l
  | [], n => by simp [told]
  | c :: l, n => by
    show l.foldl _ (n * 256 + c) = _
    rw [told_acc l]
    have e : told (c :: l) = c * 256 ^ l.length + told l := by
      show l.foldl _ (0 * 256 + c) = _
      rw [told_acc l]; simp
    rw [e, List.length_cons, Nat.pow_succ, Nat.add_mul, Nat.mul_assoc, Nat.mul_comm 256, Nat.add_assoc]
theorem told_cons (c : Nat) (l : List Nat) : told (c :: l) = c * 256 ^ l.length + told l := by
  show l.foldl _ (0 * 256 + c) = _
  rw [told_acc l]; simp
theorem be_zero (n : Nat) : be n 0 = [] := rfl
theorem be_succ (n k : Nat) : be n (k + 1) = (n / 256 ^ k % 256) :: be n k := by
  unfold be
  rw [List.range_succ_eq_map, List.map_cons, List.map_map]
  have h : beAt n (k + 1) ∘ Nat.succ = beAt n k := by
    funext a
    show n / 256 ^ (k + 1 - 1 - (a + 1)) % 256 = n / 256 ^ (k - 1 - a) % 256
    rw [show k + 1 - 1 - (a + 1) = k - 1 - a by omega]
  rw [h]; rfl
theorem take_app {a b : List Nat} {k : Nat} (h : a.length = k) : (a ++ b).take k = a := by subst h; exact List.take_left
theorem drop_app {a b : List Nat} {k : Nat} (h : a.length = k) : (a ++ b).drop k = b := by subst h; exact List.drop_left
theorem told_be (n : Nat) : ∀ k, told (be n k) = n % 256 ^ k
  | 0 => by rw [be_zero, Nat.pow_zero, Nat.mod_one]; rfl
  | k + 1 => by
    rw [be_succ, told_cons, be_len, told_be n k, Nat.pow_succ, Nat.mod_mul, Nat.mul_comm, Nat.add_comm]
/-- A record, and what is behind it. -/
theorem rec_parts (n : Nat) (b rest : List Nat) (hn : n < 9223372036854775808) (hb : b.length ≤ 262144) :
    (recB n b ++ rest).take 12 = headB n b ∧ ((recB n b ++ rest).drop 12).take 4 = sum4 (crcOn 0 (headB n b)) ∧ told (((recB n b ++ rest).drop 4).take 8) = n ∧ told ((recB n b ++ rest).take 4) = b.length ∧
    (recB n b ++ rest).drop 16 = b ++ (sum4 (crcOn (crcOn 0 (headB n b)) b) ++ rest) ∧ (recB n b ++ rest).drop (20 + b.length) = rest ∧ (recB n b ++ rest).length = b.length + 20 + rest.length := by
  have e0 : recB n b ++ rest = headB n b ++ (sum4 (crcOn 0 (headB n b)) ++ (b ++ (sum4 (crcOn (crcOn 0 (headB n b)) b) ++ rest))) := by unfold recB; simp only [List.append_assoc]
  have l1 := headB_len n b
  have l2 := sum4_len (crcOn 0 (headB n b))
  have l3 := sum4_len (crcOn (crcOn 0 (headB n b)) b)
  have d12 : (recB n b ++ rest).drop 12 = sum4 (crcOn 0 (headB n b)) ++ (b ++ (sum4 (crcOn (crcOn 0 (headB n b)) b) ++ rest)) := by rw [e0, drop_app l1]
  have d16 : (recB n b ++ rest).drop 16 = b ++ (sum4 (crcOn (crcOn 0 (headB n b)) b) ++ rest) := by
    rw [show 16 = 12 + 4 from rfl, ← List.drop_drop, d12, drop_app l2]
  have hd : headB n b = be b.length 4 ++ be n 8 := rfl
  have e1 : recB n b ++ rest = be b.length 4 ++ (be n 8 ++ (sum4 (crcOn 0 (headB n b)) ++ (b ++ (sum4 (crcOn (crcOn 0 (headB n b)) b) ++ rest)))) := by
    rw [e0]; conv => lhs; rw [show headB n b ++ (sum4 (crcOn 0 (headB n b)) ++ (b ++ (sum4 (crcOn (crcOn 0 (headB n b)) b) ++ rest))) = (be b.length 4 ++ be n 8) ++ (sum4 (crcOn 0 (headB n b)) ++ (b ++ (sum4 (crcOn (crcOn 0 (headB n b)) b) ++ rest))) from rfl]
    rw [List.append_assoc]
  refine ⟨?_, ?_, ?_, ?_, d16, ?_, ?_⟩
  · rw [e0, take_app l1]
  · rw [d12, take_app l2]
  · rw [e1]
    have h4 := be_len b.length 4
    have h8 := be_len n 8
    rw [drop_app h4, take_app h8, told_be]
    exact Nat.mod_eq_of_lt (by omega)
  · rw [e1]
    have h4 := be_len b.length 4
    rw [take_app h4, told_be]
    exact Nat.mod_eq_of_lt (by omega)
  · rw [show 20 + b.length = 16 + (b.length + 4) by omega, ← List.drop_drop, d16, ← List.drop_drop, List.drop_left, drop_app l3]
  · rw [List.length_append, recB_len]
theorem one_rec (n : Nat) (b rest : List Nat) (hn : n < 9223372036854775808) (hb : b.length ≤ 262144) : oneRes (recB n b ++ rest) n = some (some b.length) ∧ recOf (recB n b ++ rest) b.length = b := by
  obtain ⟨h1, h2, h3, h4, h5, h6, h7⟩ := rec_parts n b rest hn hb
  have h8 : ((recB n b ++ rest).drop 16).take b.length = b := by rw [h5, List.take_left]
  have h9 : ((recB n b ++ rest).drop (16 + b.length)).take 4 = sum4 (crcOn (crcOn 0 (headB n b)) b) := by
    rw [← List.drop_drop, h5, List.drop_left, take_app (sum4_len _)]
  refine ⟨?_, h8⟩
  unfold oneRes
  rw [if_neg (by rw [h7]; omega), if_pos ⟨by rw [h1, h2], h3, by rw [h4]; exact hb⟩, h4, if_neg (by rw [h7]; omega), if_pos (by rw [h9, h1, h8])]
theorem one_torn (n : Nat) (b rest : List Nat) (at' : Nat) (hn : n < 9223372036854775808) (hb : b.length ≤ 262144) (ha : at' < b.length + 20) : oneRes ((recB n b ++ rest).take at') n = some none := by
  obtain ⟨h1, h2, h3, h4, h5, h6, h7⟩ := rec_parts n b rest hn hb
  unfold oneRes
  by_cases h16 : at' < 16
  · rw [if_pos (by rw [List.length_take]; omega)]
  · have t1 : ((recB n b ++ rest).take at').take 12 = headB n b := by rw [List.take_take, Nat.min_eq_left (by omega), h1]
    have t4 : ((recB n b ++ rest).take at').take 4 = (recB n b ++ rest).take 4 := by rw [List.take_take, Nat.min_eq_left (by omega)]
    have t2 : (((recB n b ++ rest).take at').drop 12).take 4 = ((recB n b ++ rest).drop 12).take 4 := by rw [List.drop_take, List.take_take, Nat.min_eq_left (by omega)]
    have t3 : (((recB n b ++ rest).take at').drop 4).take 8 = ((recB n b ++ rest).drop 4).take 8 := by rw [List.drop_take, List.take_take, Nat.min_eq_left (by omega)]
    rw [if_neg (by rw [List.length_take]; omega), if_pos ⟨by rw [t1, t2, h2], by rw [t3]; exact h3, by rw [t4, h4]; exact hb⟩, t4, h4, if_pos (by rw [List.length_take]; omega)]
theorem listB_byte : ∀ (L : List (List Nat)) (n : Nat), (∀ b ∈ L, ∀ x ∈ b, x < 256) → ∀ x ∈ listB n L, x < 256
  | [], _, _, x, h => by cases h
  | b :: L, n, hL, x, h => (List.mem_append.1 h).elim (recB_byte n b (hL b (.head _)) x) (listB_byte L (n + 1) (fun c hc => hL c (.tail _ hc)) x)
theorem listB_snoc (c : List Nat) : ∀ (L : List (List Nat)) (n : Nat), listB n (L ++ [c]) = listB n L ++ recB (n + L.length) c
  | [], n => by simp [listB]
  | b :: L, n => by
    show recB n b ++ listB (n + 1) (L ++ [c]) = (recB n b ++ listB (n + 1) L) ++ _
    rw [listB_snoc c L (n + 1), List.append_assoc, List.length_cons, show n + 1 + L.length = n + (L.length + 1) by omega]
def sizesB : List (List Nat) → Nat
  | [] => 0
  | b :: L => b.length + 20 + sizesB L
theorem listB_len : ∀ (L : List (List Nat)) (n : Nat), (listB n L).length = sizesB L
  | [], _ => rfl
  | b :: L, n => by show (recB n b ++ listB (n + 1) L).length = _; rw [List.length_append, recB_len, listB_len L]; rfl
theorem sizesB_most {c : Nat} : ∀ (L : List (List Nat)), (∀ b ∈ L, b.length ≤ c) → sizesB L ≤ L.length * (c + 20)
  | [], _ => by simp [sizesB]
  | b :: L, h => by
    have h1 := sizesB_most L (fun x hx => h x (.tail _ hx))
    have h2 := h b (.head _)
    rw [List.length_cons, Nat.add_mul]; unfold sizesB; omega
theorem sizesB_len : ∀ (L : List (List Nat)), L.length ≤ sizesB L
  | [] => Nat.le_refl _
  | b :: L => by have := sizesB_len L; rw [List.length_cons]; unfold sizesB; omega
/-- How many records are whole among the first bytes. -/
def wholeN : List (List Nat) → Nat → Nat
  | [], _ => 0
  | b :: L, c => if b.length + 20 ≤ c then 1 + wholeN L (c - (b.length + 20)) else 0
theorem recs_cut : ∀ (L : List (List Nat)) (n k c : Nat), n + L.length < 9223372036854775808 → (∀ b ∈ L, b.length ≤ 262144) → wholeN L c ≤ k → recsOf k ((listB n L).take c) n = some (L.take (wholeN L c), sizesB (L.take (wholeN L c)))
  | [], n, k, c, _, _, _ => by
    show recsOf k (([] : List Nat).take c) n = _
    rw [List.take_nil, recsOf_nil]; rfl
  | b :: L, n, 0, c, _, _, h => by
    have h0 : wholeN (b :: L) c = 0 := by omega
    rw [h0]; rfl
  | b :: L, n, k + 1, c, hn, hb, hk => by
    rw [List.length_cons] at hn
    rw [show wholeN (b :: L) c = if b.length + 20 ≤ c then 1 + wholeN L (c - (b.length + 20)) else 0 from rfl] at hk
    have hbl := hb b (.head _)
    unfold recsOf
    by_cases hc : c = 0
    · subst hc
      rw [List.take_zero, if_pos List.length_nil]
      unfold wholeN
      rw [if_neg (by omega)]; rfl
    · have hlen : ¬ ((listB n (b :: L)).take c).length = 0 := by
        rw [List.length_take, listB_len]; unfold sizesB; omega
      rw [if_neg hlen]
      by_cases hw : b.length + 20 ≤ c
      · have e : (listB n (b :: L)).take c = recB n b ++ (listB (n + 1) L).take (c - (b.length + 20)) := by
          show (recB n b ++ listB (n + 1) L).take c = _
          rw [List.take_append, recB_len, List.take_of_length_le (by rw [recB_len]; omega)]
        obtain ⟨o1, o2⟩ := one_rec n b ((listB (n + 1) L).take (c - (b.length + 20))) (by omega) hbl
        have hp := rec_parts n b ((listB (n + 1) L).take (c - (b.length + 20))) (by omega) hbl
        rw [e, o1]
        simp only
        rw [hp.2.2.2.2.2.1, recs_cut L (n + 1) k _ (by omega) (fun x hx => hb x (.tail _ hx)) (by rw [if_pos hw] at hk; omega), o2]
        rw [show wholeN (b :: L) c = if b.length + 20 ≤ c then 1 + wholeN L (c - (b.length + 20)) else 0 from rfl, if_pos hw, Nat.add_comm 1, List.take_succ_cons]
        simp only [Option.map_some, sizesB]
        rw [Nat.add_comm 20]
      · rw [show (listB n (b :: L)).take c = (recB n b ++ listB (n + 1) L).take c from rfl, one_torn n b _ c (by omega) hbl (by omega)]
        unfold wholeN
        rw [if_neg hw]; rfl
theorem wholeN_all : ∀ (L : List (List Nat)), wholeN L (sizesB L) = L.length
  | [] => rfl
  | b :: L => by
    unfold wholeN sizesB
    rw [if_pos (by omega), Nat.add_sub_cancel_left, wholeN_all L, List.length_cons, Nat.add_comm]
theorem recs_all (L : List (List Nat)) (hl : L.length < 1000000000) (hb : ∀ b ∈ L, b.length ≤ 262144) : recs (listB 1 L) = some (L, sizesB L) := by
  have h := recs_cut L 1 (listB 1 L).length (sizesB L) (by omega) hb (by rw [listB_len, wholeN_all]; exact sizesB_len L)
  rw [List.take_of_length_le (by rw [listB_len]; omega), wholeN_all, List.take_length] at h
  exact h
theorem wholeN_least : ∀ (L : List (List Nat)) (c : Nat), wholeN L c ≤ c ∧ wholeN L c ≤ sizesB L
  | [], c => ⟨Nat.zero_le _, Nat.zero_le _⟩
  | b :: L, c => by
    rw [show wholeN (b :: L) c = if b.length + 20 ≤ c then 1 + wholeN L (c - (b.length + 20)) else 0 from rfl]
    have := wholeN_least L (c - (b.length + 20))
    show _ ∧ _ ≤ b.length + 20 + sizesB L
    split <;> omega
theorem recs_take (L : List (List Nat)) (c : Nat) (hl : L.length < 1000000000) (hb : ∀ b ∈ L, b.length ≤ 262144) : recs ((listB 1 L).take c) = some (L.take (wholeN L c), sizesB (L.take (wholeN L c))) := by
  have := wholeN_least L c
  exact recs_cut L 1 _ c (by omega) hb (by rw [List.length_take, listB_len]; omega)
/-- Turned bits within 32 are seen. -/
theorem recs_turned : ∀ (L : List (List Nat)) (n k E : Nat) (B' : List Nat), n + L.length < 9223372036854775808 → (∀ b ∈ L, b.length ≤ 262144) → (∀ b ∈ L, ∀ x ∈ b, x < 256) → L.length ≤ k → (∀ x ∈ B', x < 256) → B'.length = (listB n L).length → le B' = le (listB n L) ^^^ E → Burst E → E ≠ 0 → recsOf k B' n = none
  | [], n, k, E, B', _, _, _, _, _, hl, he, _, h0 => by
    have : B' = [] := List.eq_nil_of_length_eq_zero hl
    subst this
    simp [listB, le] at he
    exact absurd he.symm h0
  | b :: L, n, 0, E, B', _, _, _, h, _, _, _, _, _ => by simp at h
  | b :: L, n, k + 1, E, B', hn, hb, hby, hk, hB', hl, he, hE, h0 => by
    rw [List.length_cons] at hn hk
    have hbl := hb b (.head _)
    have hB := listB_byte (b :: L) n hby
    have hR : listB n (b :: L) = recB n b ++ listB (n + 1) L := rfl
    obtain ⟨h1, h2, h3, h4, h5, h6, h7⟩ := rec_parts n b (listB (n + 1) L) (by omega) hbl
    rw [← hR] at h1 h2 h3 h4 h5 h6 h7
    have hsz : B'.length = b.length + 20 + (listB (n + 1) L).length := by rw [hl, h7]
    unfold recsOf
    rw [if_neg (by omega)]
    have p0 : ∀ j, le (B'.take j) = le ((listB n (b :: L)).take j) ^^^ (E % 2 ^ (8 * j)) := fun j => by
      have := le_part hB hB' he 0 j
      simpa using this
    by_cases hE1 : E % 2 ^ 128 = 0
    · have same16 : B'.take 16 = (listB n (b :: L)).take 16 := by
        refine le_inj _ _ (by simp [hl]) (byte_take hB' _) (byte_take hB _) ?_
        rw [p0 16, show 8 * 16 = 128 from rfl, hE1, Nat.xor_zero]
      have cut : ∀ (l : List Nat) i j, i + j ≤ 16 → (l.drop i).take j = ((l.take 16).drop i).take j := fun l i j hij => by
        rw [List.drop_take, List.take_take, Nat.min_eq_left (by omega)]
      have cut0 : ∀ (l : List Nat) j, j ≤ 16 → l.take j = (l.take 16).take j := fun l j hj => by rw [List.take_take, Nat.min_eq_left hj]
      have t12 : B'.take 12 = headB n b := by rw [← h1, cut0 B' 12 (by omega), same16, ← cut0 _ 12 (by omega)]
      have t4 : B'.take 4 = (listB n (b :: L)).take 4 := by rw [cut0 B' 4 (by omega), same16, ← cut0 _ 4 (by omega)]
      have ts : (B'.drop 12).take 4 = ((listB n (b :: L)).drop 12).take 4 := by rw [cut B' 12 4 (by omega), same16, ← cut _ 12 4 (by omega)]
      have tn : (B'.drop 4).take 8 = ((listB n (b :: L)).drop 4).take 8 := by rw [cut B' 4 8 (by omega), same16, ← cut _ 4 8 (by omega)]
      have hone : oneRes B' n = if (B'.drop (16 + b.length)).take 4 = sum4 (crcOn (crcOn 0 (headB n b)) ((B'.drop 16).take b.length)) then some (some b.length) else none := by
        unfold oneRes
        rw [if_neg (by omega), if_pos ⟨by rw [t12, ts, h2], by rw [tn]; exact h3, by rw [t4, h4]; exact hbl⟩, t4, h4, if_neg (by omega), t12]
      have q1 := le_part hB hB' he 16 b.length
      have q2 := le_part hB hB' he (16 + b.length) 4
      have b8 : ((listB n (b :: L)).drop 16).take b.length = b := by rw [h5, List.take_left]
      have b9 : ((listB n (b :: L)).drop (16 + b.length)).take 4 = sum4 (crcOn (crcOn 0 (headB n b)) b) := by
        rw [← List.drop_drop, h5, List.drop_left, take_app (sum4_len _)]
      rw [b8] at q1
      rw [b9] at q2
      by_cases hE2 : E / 2 ^ 128 % 2 ^ (8 * b.length + 32) = 0
      · have z1 : E / 2 ^ (8 * 16) % 2 ^ (8 * b.length) = 0 := by
          have : E / 2 ^ (8 * 16) % 2 ^ (8 * b.length) = (E / 2 ^ 128 % 2 ^ (8 * b.length + 32)) % 2 ^ (8 * b.length) := by
            rw [Nat.mod_mod_of_dvd]; exact Nat.pow_dvd_pow 2 (by omega)
          rw [this, hE2, Nat.zero_mod]
        have z2 : E / 2 ^ (8 * (16 + b.length)) % 2 ^ (8 * 4) = 0 := by
          have : E / 2 ^ (8 * (16 + b.length)) % 2 ^ (8 * 4) = (E / 2 ^ 128 % 2 ^ (8 * b.length + 32)) / 2 ^ (8 * b.length) := by
            rw [show 8 * (16 + b.length) = 128 + 8 * b.length by omega, Nat.pow_add, ← Nat.div_div_eq_div_mul, show 8 * b.length + 32 = 8 * b.length + 8 * 4 from rfl, Nat.pow_add, Nat.mod_mul_right_div_self]
          rw [this, hE2, Nat.zero_div]
        have s1 := part_same hB hB' hl he 16 b.length z1
        have s2 := part_same hB hB' hl he (16 + b.length) 4 z2
        rw [b8] at s1
        rw [b9] at s2
        rw [hone, if_pos (by rw [s1, s2])]
        simp only
        have ih := recs_turned L (n + 1) k (E / 2 ^ (8 * (20 + b.length))) (B'.drop (20 + b.length)) (by omega) (fun x hx => hb x (.tail _ hx)) (fun x hx => hby x (.tail _ hx)) (by omega) (byte_drop hB' _) (by rw [List.length_drop, hsz]; omega) ?_ (hE.div _) ?_
        · rw [ih]; rfl
        · rw [le_drop hB', he, Nat.xor_div_two_pow, ← le_drop hB, h6]
        · intro h9
          apply h0
          have d1 : E / 2 ^ 128 = 0 := by
            have : E / 2 ^ (8 * (20 + b.length)) = E / 2 ^ 128 / 2 ^ (8 * b.length + 32) := by
              rw [Nat.div_div_eq_div_mul, ← Nat.pow_add]; congr 2; omega
            rw [this] at h9
            have := Nat.mod_add_div (E / 2 ^ 128) (2 ^ (8 * b.length + 32))
            rw [h9, hE2] at this
            omega
          have := Nat.mod_add_div E (2 ^ 128)
          rw [d1, hE1] at this
          omega
      · rw [hone, if_neg]
        have hx : ∀ x ∈ (B'.drop 16).take b.length, x < 256 := byte_take (byte_drop hB' _) _
        refine code_seen (crcOn 0 (headB n b)) b ((B'.drop 16).take b.length) _ (E / 2 ^ 128 % 2 ^ (8 * b.length + 32)) (crcOn_lt _ _) (hby b (.head _)) hx (by rw [List.length_take, List.length_drop]; omega) ?_ ?_ ((hE.div _).mod _) hE2
        · rw [q1]; congr 1
          rw [Nat.mod_mod_of_dvd]; exact Nat.pow_dvd_pow 2 (by omega)
        · rw [q2]; congr 1
          rw [show 8 * (16 + b.length) = 128 + 8 * b.length by omega, Nat.pow_add, ← Nat.div_div_eq_div_mul, show 8 * b.length + 32 = 8 * b.length + 8 * 4 from rfl, Nat.pow_add, Nat.mod_mul_right_div_self]
    · have hone : oneRes B' n = none := by
        unfold oneRes
        rw [if_neg (by omega), if_neg]
        rintro ⟨g1, _, _⟩
        refine code_seen 0 (headB n b) (B'.take 12) ((B'.drop 12).take 4) (E % 2 ^ 128) (by omega) (headB_byte n b) (byte_take hB' _) (by rw [List.length_take, headB_len]; omega) ?_ ?_ (hE.mod _) hE1 g1
        · rw [p0 12, h1, headB_len, Nat.mod_mod_of_dvd]; exact Nat.pow_dvd_pow 2 (by omega)
        · rw [le_part hB hB' he 12 4, h2, headB_len]; congr 1
          rw [show (2 : Nat) ^ 128 = 2 ^ (8 * 12) * 2 ^ (8 * 4) from by decide, Nat.mod_mul_right_div_self]
      rw [hone]
theorem recs_seen (L : List (List Nat)) (E : Nat) (B' : List Nat) (hn : L.length < 1000000000) (hb : ∀ b ∈ L, b.length ≤ 262144) (hby : ∀ b ∈ L, ∀ x ∈ b, x < 256) (hB' : ∀ x ∈ B', x < 256) (hl : B'.length = (listB 1 L).length) (he : le B' = le (listB 1 L) ^^^ E) (hE : Burst E) (h0 : E ≠ 0) : recs B' = none :=
  recs_turned L 1 _ E B' (by omega) hb hby (by rw [hl, listB_len]; exact sizesB_len L) hB' hl he hE h0
end Go.Proofs.YtmcmagplaflegaaGreat

namespace Go.Proofs.YtmcmagplaflegaaGreat
open Go Go.RowKit Go.MapL Go.Poised

variable {p n₀ : Nat} {r : Rep} {s : DS}

/-- A file is another one. -/
theorem Turns.setf {w w' : World} (h : Lies w p n₀ r s) {i : Nat} (h1 : 1 ≤ i) (h2 : i ≤ s.births) (bv : Value) (f : FileS) (hf : w'.heap[r.ad i]? = some (fileAt i bv f.mark)) (hd : w'.ownsRow n₀ 5 1 bv f.b.length (encB f.b))
    (hnew : ∀ k, bv.ownBlock = some k → (r.bv i).ownBlock = some k ∨ w.heap.size ≤ k) (hs : ∀ k, k < w.heap.size → k ≠ r.ad i → (r.bv i).ownBlock ≠ some k → w'.heap[k]? = w.heap[k]?) (hG : Grown (foot p r s) w w') : Turns w w' p n₀ r s (s.setf i f) :=
  ⟨{ r with bv := upd r.bv i bv }, h.setFile i h1 h2 bv f hf hd hnew hs, hG, own_of rfl (foot_file h1 h2 hnew)⟩
theorem Turns.after {w w1 w' : World} {s' : DS} (hG : Grown (fun k => k = p) w w1) (h : Turns w1 w' p n₀ r s.tick s') : Turns w w' p n₀ r s s' := by
  obtain ⟨r', h1, h2, h3⟩ := h
  exact ⟨r', h1, hG.top.trans h2 (fun _ hx => .inl hx), fun k hk => (h3 k hk).imp id (fun h => Nat.le_trans hG.size h)⟩
/-- What is kept by is laid anew. -/
theorem Lies.setKeep {w w' : World} (h : Lies w p n₀ r s) (kv : Value) (keep : List Int) (fails : Int) (ht : w'.heap[p]? = some (YtmcmagplaflegaaGreat.top { s with fails := fails, keep := keep } { r with kv := kv })) (hk : w'.ownsRow n₀ 3 1 kv keep.length (encI keep))
    (hs : ∀ k, k < w.heap.size → k ≠ p → w'.heap[k]? = w.heap[k]?) : Lies w' p n₀ { r with kv := kv } { s with fails := fails, keep := keep } := by
  have hb : ∀ k, foot p r s k → sort w k ≠ 46 → w'.heap[k]? = w.heap[k]? := fun k hk g1 => hs k (h.foot_lt k hk).1 (fun e => g1 (by rw [e]; exact h.sP))
  exact {
    top := ht
    names := h.names.same (hb _ (.inr (.inl rfl)) (by rw [h.sN]; decide))
    kept := h.kept.same (hb _ (.inr (.inr (.inl rfl))) (by rw [h.sK]; decide))
    works := row_same h.works (fun g hg => hb _ (.inr (.inr (.inr (.inl hg)))) (by rw [h.sW hg]; decide))
    file := fun i h1 h2 => (hb _ (.inr (.inr (.inr (.inr ⟨i, h1, h2, .inl rfl⟩)))) (by rw [h.sF h1 h2]; decide)).trans (h.file i h1 h2)
    data := fun i h1 h2 => row_same (h.data i h1 h2) (fun g hg => hb _ (.inr (.inr (.inr (.inr ⟨i, h1, h2, .inr hg⟩)))) (by rw [h.sB h1 h2 hg]; decide))
    keep := hk
    apart := h.apart
    adInj := h.adInj
    rowInj := h.rowInj
    baseP := h.baseP
    baseN := h.baseN
    baseK := h.baseK
    baseF := h.baseF }

set_option maxRecDepth 100000 in
set_option maxHeartbeats 2000000 in
theorem size_at (x : ByteArray) (w : World) (h : Lies w p n₀ r s) (hwf : WF s) :
    Calls Tryz.prog 8 #[ofBlock p, .string x] w fun e w' => e = .returned (.tuple #[.int .i64 (readRes s x).1.length, .int .i64 (readRes s x).2]) ∧ Below w.heap.size w w' := by
  have hr := read_at x w h hwf
  unfold ofBlock at *
  go_enter Tryz.func8, Tryz.ntmps8
  go_wp2_with (go_at_call 7; refine hr.mono ?_; clear hr; rintro e w' ⟨v, rfl, hv, hb⟩; obtain ⟨q, cap, rfl⟩ := own_shape hv)
  go_returns
  exact ⟨rfl, hb⟩

theorem fail_done {w w1 : World} {keep : List Int} {kv : Value} (hL : Lies w p n₀ r s) (hn : n₀ ≤ w.heap.size) (hb : Below w.heap.size w w1) (hk : w1.ownsRow w.heap.size 3 1 kv keep.length (encI keep)) (n : Int) :
    Turns w ((w1.setCell ⟨p, 6, none⟩ (.int .i64 n)).setCell ⟨p, 7, none⟩ kv) p n₀ r s { s with fails := n, keep := keep } := by
  have hpl := (hL.foot_lt p (.inl rfl)).1
  have hne : ∀ g, kv.ownBlock = some g → g ≠ p := fun g hg e => by have := (hk.lt g hg).1; omega
  refine ⟨{ r with kv := kv }, (hL.below hb).setKeep kv keep n ?_ ?_ ?_, ((Grown.of_below hb).setCell (p := ⟨p, 6, none⟩) (.inl (.inl rfl)) _).setCell (p := ⟨p, 7, none⟩) (.inl (.inl rfl)) _, ?_⟩
  · rw [setCell_heap (setCell_heap (hL.below hb).top)]; rfl
  · refine row_same (own_base' hk hn) (fun g hg => ?_)
    rw [Below.heap_setCell _ _ _ _ (hne g hg), Below.heap_setCell _ _ _ _ (hne g hg)]
  · intro k _ hk2
    rw [Below.heap_setCell _ _ _ _ hk2, Below.heap_setCell _ _ _ _ hk2]
  · rintro k (h | h)
    · exact .inl (.inl h)
    · exact .inr (hk.lt k h).1
set_option maxRecDepth 100000 in
set_option maxHeartbeats 4000000 in
theorem fail_at (n : Int) (v : Value) (keep : List Int) (w : World) (h : Lies w p n₀ r s) (_ : WF s) (hn : n₀ ≤ w.heap.size) (h1 : -9223372036854775808 ≤ n) (h2 : n ≤ 9223372036854775807) (hv : IntsIn w v keep) (hl : keep.length ≤ 17592186044416) :
    Calls Tryz.prog 10 #[ofBlock p, .int .i64 n, v] w fun e w' => e = .returned (.tuple #[]) ∧ Turns w w' p n₀ r s (s.fail n keep) := by
  have hL := h
  obtain ⟨c0, c1, c2, c3, c4, c5, c6, c7⟩ := h.cells
  have ha := away_at w h
  unfold DS.fail
  unfold ofBlock at *
  cases hdd : s.dead
  · rw [hdd] at ha
    simp only [Bool.false_eq_true, if_false] at ha ⊢
    have hcl := cloneI_any v keep w hv hl
    by_cases hlt : -1 ≤ n
    · have hle : (-1 : Int) < n ∨ n = -1 := by omega
      have hmx : max n (-1) = n := by omega
      rw [hmx]
      go_enter Tryz.func10, Tryz.ntmps10
      go_wp2_with (first | (go_at_call 39; refine ha.mono ?_; rintro e w' ⟨rfl, rfl⟩) | (go_at_call 48; refine hcl.mono ?_; clear hcl; rintro e w1 ⟨kv, rfl, hk, hb⟩; obtain ⟨kq, kcap, rfl⟩ := own_shape hk; have h1' := hL.below hb; obtain ⟨d0, d1, d2, d3, d4, d5, d6, d7⟩ := h1'.cells; have z6 := h1'.free 6; have z7 := h1'.free 7))
      go_returns
      have hT := fail_done hL hn hb hk n
      rw [hdd] at hT
      exact ⟨rfl, hT⟩
    · have hle : n < -1 := by omega
      have hmx : max n (-1) = -1 := by omega
      rw [hmx]
      go_enter Tryz.func10, Tryz.ntmps10
      go_wp2_with (first | (go_at_call 39; refine ha.mono ?_; rintro e w' ⟨rfl, rfl⟩) | (go_at_call 48; refine hcl.mono ?_; clear hcl; rintro e w1 ⟨kv, rfl, hk, hb⟩; obtain ⟨kq, kcap, rfl⟩ := own_shape hk; have h1' := hL.below hb; obtain ⟨d0, d1, d2, d3, d4, d5, d6, d7⟩ := h1'.cells; have z6 := h1'.free 6; have z7 := h1'.free 7))
      go_returns
      have hT := fail_done hL hn hb hk (-1)
      rw [hdd] at hT
      exact ⟨rfl, hT⟩
  · rw [hdd] at ha
    simp only [if_true] at ha ⊢
    go_enter Tryz.func10, Tryz.ntmps10
    go_wp2_with (go_at_call 39; refine ha.mono ?_; rintro e w' ⟨rfl, rfl⟩)
    go_returns
    exact ⟨rfl, Turns.none hL (Below.refl _ _)⟩

theorem byte_taken {l : List Nat} (h : ∀ x ∈ l, x < 256) (k : Nat) : ∀ x ∈ l.take k, x < 256 := fun x hx => h x (List.mem_of_mem_take hx)
/-- What a slice that is cut reads as. -/
def CutB (ad : Nat) (l : List Nat) (v : Value) (w : World) : Prop := BytesIn w v l ∧ ∀ q len cap, v = .slice (some q) len cap → q.block ≠ ad ∧ q.block < w.heap.size
def CutV (ad k : Nat) (l : List Nat) (v : Value) (w : World) : Prop := ∃ q len cap, v = .slice q len cap ∧ k ≤ cap ∧ k ≤ len ∧ CutB ad l (.slice q k cap) w
def CutGood (n ad i k mark : Nat) (l : List Nat) (w : World) : Prop := ∃ q cap, w.heap[ad]? = some (fileAt i (.slice q k cap) mark) ∧ w.ownsRow n 5 1 (.slice q k cap) k (encB l)
def CutR (n ad i k mark : Nat) (l : List Nat) (w w' : World) : Prop := Grown (fun b => b = ad) w w' ∧ (w'.heap[ad]? = w.heap[ad]? ∨ CutGood n ad i k mark l w')
section
variable {n ad i k mark : Nat} {l : List Nat} {w w' wd : World}
theorem CutR.refl (w : World) : CutR n ad i k mark l w w := ⟨Grown.refl _ _, .inl rfl⟩
theorem CutR.below (h : Below w.heap.size w w') (hlt : ad < w.heap.size) : CutR n ad i k mark l w w' := ⟨Grown.of_below h, .inl (h.block _ hlt)⟩
theorem CutB.last {v : Value} (h : CutB ad l v w) (hR : CutR n ad i k mark l w w') : CutB ad l v w' := by
  obtain ⟨⟨h1, h2, h3⟩, h4⟩ := h
  refine ⟨⟨h1, h2, ?_⟩, fun q len cap e => ⟨(h4 q len cap e).1, Nat.lt_of_lt_of_le (h4 q len cap e).2 hR.1.size⟩⟩
  rcases h3 with h3 | h3 | ⟨b, off, cap, rfl, hc⟩
  · exact .inl h3
  · exact .inr (.inl h3)
  · refine .inr (.inr ⟨b, off, cap, rfl, fun j hj => ?_⟩)
    obtain ⟨g1, g2⟩ := h4 _ _ _ rfl
    have hb := hR.1.block b g2 g1
    have := hc j hj
    simp only [World.cell?, Option.isSome_none, Bool.false_eq_true, if_false] at this ⊢
    rw [hb]; exact this
theorem CutV.last {v : Value} (h : CutV ad k l v w) (hR : CutR n ad i k mark l w w') : CutV ad k l v w' := by
  obtain ⟨q, len, cap, e, h1, h2, h3⟩ := h
  exact ⟨q, len, cap, e, h1, h2, h3.last hR⟩
theorem cut_row {v : Value} (hlt : ad < n) (h : w.ownsRow n 5 1 v k (encB l)) (hR : CutR n ad i k mark l w w') : w'.ownsRow n 5 1 v k (encB l) :=
  row_same h (fun g hg => hR.1.block g (h.lt g hg).2 (fun e => by have := (h.lt g hg).1; omega))
theorem CutGood.last (h : CutGood n ad i k mark l w) (hlt : ad < n) (hR : CutR n ad i k mark l w w') : CutGood n ad i k mark l w' := by
  rcases hR.2 with h2 | h2
  · obtain ⟨q, cap, h3, h4⟩ := h
    exact ⟨q, cap, h2.trans h3, cut_row hlt h4 hR⟩
  · exact h2
theorem cutV_good {q : Option Addr} {cap : Nat} (hlt : ad < n) (hlk : l.length = k) (hb : ∀ x ∈ l, x < 256) (h : w.ownsRow n 5 1 (.slice q k cap) k (encB l)) : CutV ad k l (.slice q k cap) w := by
  subst hlk
  have hk : l.length ≤ cap ∧ l.length ≤ 9223372036854775807 := by
    rcases h.2 with ⟨e, h0⟩ | ⟨g, c, cu, e, h3, h4, h5, h6⟩
    · injection e with _ _ e3; omega
    · cases e; exact ⟨h5, by unfold maxLen at *; omega⟩
  refine ⟨q, _, cap, rfl, hk.1, Nat.le_refl _, bytesIn_of_own h hb hk.2, fun a len c e => ?_⟩
  cases e
  rcases h.2 with ⟨e, h0⟩ | ⟨g, c, cu, e, h3, h4, h5, h6⟩
  · cases e
  · cases e
    have := h.lt g rfl
    exact ⟨by show g ≠ ad; omega, this.2⟩
theorem cut_store {q : Option Addr} {cap : Nat} {bv : Value} (hlt : ad < n) (hf : w.heap[ad]? = some (fileAt i bv mark)) (h : w.ownsRow n 5 1 (.slice q k cap) k (encB l)) :
    CutR n ad i k mark l w (w.setCell ⟨ad, 1, none⟩ (.slice q k cap)) ∧ CutGood n ad i k mark l (w.setCell ⟨ad, 1, none⟩ (.slice q k cap)) := by
  have hg : CutGood n ad i k mark l (w.setCell ⟨ad, 1, none⟩ (.slice q k cap)) := by
    refine ⟨q, cap, ?_, row_same h (fun g hg => Below.heap_setCell _ _ _ _ (fun e => ?_))⟩
    · rw [setCell_heap hf]; rfl
    · have := (h.lt g hg).1
      have e2 : g = ad := e
      omega
  exact ⟨⟨(Grown.refl (fun b => b = ad) w).setCell (p := ⟨ad, 1, none⟩) (.inl rfl) _, .inr hg⟩, hg⟩
end
theorem cut_done {w wd w9 : World} {i k : Nat} {cq : Option Addr} {ccap : Nat} (hL : Lies wd p n₀ r s.tick) (hG : Grown (fun k => k = p) w wd) (hn : n₀ ≤ w.heap.size) (h1 : 1 ≤ i) (h2 : i ≤ s.births) (hC : Grown (fun b => b = r.ad i) wd w9) (hf9 : w9.heap[r.ad i]? = some (fileAt i (.slice cq k ccap) (s.file i).mark))
    (hv9 : w9.ownsRow wd.heap.size 5 1 (.slice cq k ccap) k (encB ((s.file i).b.take k))) (htk : ((s.file i).b.take k).length = k) :
    Turns w (w9.setCell ⟨r.ad i, 2, none⟩ (.int .i64 (min ((s.file i).mark : Int) (k : Int)))) p n₀ r s (s.tick.setf i ⟨(s.file i).b.take k, min (s.file i).mark k⟩) := by
  have had : r.ad i < wd.heap.size := (hL.own_lt _ (.inl (.inr (.inr (.inr (.inr ⟨i, h1, h2, .inl rfl⟩)))))).1
  rw [show min ((s.file i).mark : Int) (k : Int) = ((min (s.file i).mark k : Nat) : Int) by omega]
  refine Turns.after hG (Turns.setf hL h1 h2 (.slice cq k ccap) ⟨(s.file i).b.take k, min (s.file i).mark k⟩ ?_ ?_ (fun g hg => .inr (hv9.lt g hg).1) ?_ ?_)
  · rw [setCell_heap hf9]; rfl
  · simp only
    rw [htk]
    have hne : ∀ g, (Value.slice cq k ccap).ownBlock = some g → g ≠ r.ad i := fun g hg e => by have := (hv9.lt g hg).1; omega
    exact row_same (own_base' hv9 (Nat.le_trans hn hG.size)) (fun g hg => Below.heap_setCell _ _ _ _ (hne g hg))
  · intro k hk g1 _
    rw [Below.heap_setCell _ _ _ _ g1]
    exact hC.block k hk g1
  · have hS : foot p r s.tick (r.ad i) := .inr (.inr (.inr (.inr ⟨i, h1, h2, .inl rfl⟩)))
    exact (hC.mono (fun x hx => by subst hx; exact hS)).setCell (p := ⟨r.ad i, 2, none⟩) (.inl hS) _
set_option maxRecDepth 100000 in
set_option maxHeartbeats 8000000 in
theorem cut_at (x : ByteArray) (n : Int) (w : World) (h : Lies w p n₀ r s) (hwf : WF s) (hk : s.kept.length ≤ 1073741824) (hn : n₀ ≤ w.heap.size) (hlo : -9223372036854775808 ≤ n) (hhi : n ≤ 9223372036854775807) :
    Calls Tryz.prog 17 #[ofBlock p, .string x, .int .i64 n] w fun e w' => e = .returned (.int .i64 (s.cut x n).2) ∧ Turns w w' p n₀ r s (s.cut x n).1 := by
  have hL := h
  obtain ⟨c0, c1, c2, c3, c4, c5, c6, c7⟩ := h.cells
  have ha := away_at w h
  have hl := lookup_at h x
  unfold DS.cut
  unfold ofBlock at *
  cases hdd : s.dead
  · rw [hdd] at ha
    simp only [Bool.false_eq_true, if_false] at ha ⊢
    cases hf : fileOf s x with
    | none =>
      rw [hf] at hl
      unfold ptrOf at *
      go_enter Tryz.func17, Tryz.ntmps17
      go_wp2_with (go_at_call 39; refine ha.mono ?_; rintro e w' ⟨rfl, rfl⟩)
      go_returns
      exact ⟨rfl, Turns.none hL (Below.refl _ _)⟩
    | some i =>
      rw [hf] at hl
      obtain ⟨h1, h2⟩ := fileOf_in hwf hf
      have hfl := h.file i h1 h2
      have hd := h.data i h1 h2
      have hlen := hwf.len i
      have hmark := hwf.mark i
      obtain ⟨q, cap, hbv⟩ := own_shape hd
      rw [hbv] at hfl
      obtain ⟨f0, f1, f2⟩ := cells3 hfl
      have hbvk := hbv
      replace hbv : Hid _ := hbv
      clear hf
      unfold ptrOf at *
      simp only
      by_cases hneg : n < 0
      · simp only [hneg, true_or, if_true]
        go_enter Tryz.func17, Tryz.ntmps17
        go_wp2_with (go_at_call 39; refine ha.mono ?_; rintro e w' ⟨rfl, rfl⟩)
        go_returns
        exact ⟨rfl, Turns.none hL (Below.refl _ _)⟩
      · obtain ⟨k, rfl⟩ : ∃ k : Nat, n = k := ⟨n.toNat, by omega⟩
        by_cases hbig : ((s.file i).b.length : Int) < (k : Int)
        · simp only [hneg, hbig, false_or, if_true]
          go_enter Tryz.func17, Tryz.ntmps17
          go_wp2_with (go_at_call 39; refine ha.mono ?_; rintro e w' ⟨rfl, rfl⟩)
          go_returns
          exact ⟨rfl, Turns.none hL (Below.refl _ _)⟩
        · simp only [hneg, hbig, false_or, if_false]
          by_cases hf0 : s.fails = 0
          · have hdy := dies_yes w h hwf hk hn hf0
            simp only [if_pos hf0]
            clear hf0
            unfold ofBlock at *
            go_enter Tryz.func17, Tryz.ntmps17
            go_wp2_with (first | (go_at_call 39; refine ha.mono ?_; rintro e w' ⟨rfl, rfl⟩) | (go_at_call 52; refine hdy.mono ?_; rintro e w' ⟨rfl, ht⟩))
            go_returns
            exact ⟨rfl, ht⟩
          · have hdn := dies_no w h hf0 hwf.fails
            simp only [if_neg hf0]
            clear hf0
            unfold ofBlock at *
            have hkl : k ≤ (s.file i).b.length := by omega
            have hby := hwf.bytes i
            have htk : Hid (((s.file i).b.take k).length = k) := by show _ = _; rw [List.length_take]; omega
            have hcap : (s.file i).b.length ≤ cap := by
              obtain ⟨g, c, e, e2⟩ := own_cap hd
              rw [hbvk] at e
              cases e
              exact e2
            simp only [Int.toNat_natCast]
            go_enter Tryz.func17, Tryz.ntmps17
            go_wp2_with (first | (go_at_call 39; refine ha.mono ?_; rintro e w' ⟨rfl, rfl⟩) | (go_at_call 52; refine hdn.mono ?_; rintro e wd ⟨rfl, hLd, hGd, hzd⟩; replace hzd : Hid _ := hzd))
            have hf : wd.heap[r.ad i]? = some (fileAt i (r.bv i) (s.file i).mark) := hLd.file i h1 h2
            have hdd2 : wd.ownsRow n₀ 5 1 (r.bv i) (s.file i).b.length (encB (s.file i).b) := hLd.data i h1 h2
            have hadlt : r.ad i < wd.heap.size := (Array.getElem?_eq_some_iff.1 hf).1
            have hadne : ∀ g, (r.bv i).ownBlock = some g → g ≠ r.ad i := fun g hg e => by have := hLd.sB h1 h2 hg; rw [e, hLd.sF h1 h2] at this; cases this
            rw [hbvk] at hf hdd2 hadne
            have hby := byte_taken hby k
            have hV5 : ∀ w2, (Grown (fun b => b = r.ad i) wd w2 ∧ (w2.heap[r.ad i]? = some (fileAt i (.slice q (s.file i).b.length cap) (s.file i).mark) ∨ CutGood wd.heap.size (r.ad i) i k (s.file i).mark ((s.file i).b.take k) w2)) → w2.heap[r.ad i]? = some (fileAt i (.slice q (s.file i).b.length cap) (s.file i).mark) → CutV (r.ad i) k ((s.file i).b.take k) (.slice q (s.file i).b.length cap) w2 := by
              intro w2 hC _
              have hrow : w2.ownsRow n₀ 5 1 (.slice q (s.file i).b.length cap) (s.file i).b.length (encB (s.file i).b) := row_same hdd2 (fun g hg => hC.1.block g (hdd2.lt g hg).2 (hadne g hg))
              obtain ⟨_, _, _, e9, h10, _⟩ := (bytesIn_of_own hrow (hwf.bytes i) (by omega)).take k hkl
              cases e9
              refine ⟨q, _, cap, rfl, Nat.le_trans hkl hcap, hkl, h10, fun a len c e => ?_⟩
              cases e
              rcases hrow.2 with ⟨e, _⟩ | ⟨g, c', cu, e, _⟩
              · cases e
              · cases e
                exact ⟨hadne g rfl, (hrow.lt g rfl).2⟩
            have hk0 : (0 : Int) ≤ (k : Int) := by omega
            clear hfl f0 f1 f2 hl c0 c1 c2 c3 c4 c5 c6 c7 hd
            refine poised_then 18 (fun w' => Grown (fun b => b = r.ad i) wd w' ∧ (w'.heap[r.ad i]? = some (fileAt i (.slice q (s.file i).b.length cap) (s.file i).mark) ∨ CutGood wd.heap.size (r.ad i) i k (s.file i).mark ((s.file i).b.take k) w')) (CutR wd.heap.size (r.ad i) i k (s.file i).mark ((s.file i).b.take k)) (by kernel_rfl) (by kernel_rfl) (by kernel_rfl) ?_ ⟨(Grown.refl _ _).drew, .inl hf⟩ ?_
            · intro w1 w2 hC hR
              refine ⟨hC.1.trans hR.1 (fun _ h => .inl h), ?_⟩
              rcases hR.2 with h | h
              · exact hC.2.imp (fun h2 => h.trans h2) (fun h2 => h2.last hadlt hR)
              · exact .inr h
            apply Exists.intro
            simp only [List.take_succ_cons, List.take_zero]
            apply walk_det
            · rfl
            · intro w2 hC hF
              simp only [upon]
              go_simp
              first | exact ⟨CutR.refl _, rfl⟩ | exact CutR.refl _
            simp only [put_lit, List.set_cons_succ, List.set_cons_zero]
            apply walk_det
            · rfl
            · intro w2 hC hF
              simp only [upon]
              go_simp
              first | exact ⟨CutR.refl _, rfl⟩ | exact CutR.refl _
            simp only [put_lit, List.set_cons_succ, List.set_cons_zero]
            apply walk_det
            · rfl
            · intro w2 hC hF
              simp only [upon]
              go_simp
              first | exact ⟨CutR.refl _, rfl⟩ | exact CutR.refl _
            simp only [put_lit, List.set_cons_succ, List.set_cons_zero]
            apply walk_det
            · rfl
            · intro w2 hC hF
              simp only [upon]
              go_simp
              first | exact ⟨CutR.refl _, rfl⟩ | exact CutR.refl _
            simp only [put_lit, List.set_cons_succ, List.set_cons_zero]
            apply walk_det
            · rfl
            · intro w2 hC hF
              simp only [upon]
              go_simp
              first | exact ⟨CutR.refl _, rfl⟩ | exact CutR.refl _
            simp only [put_lit, List.set_cons_succ, List.set_cons_zero]
            apply walk_free (fun v w' => CutV (r.ad i) k ((s.file i).b.take k) v w') (fun _ _ _ _ hR h => h.last hR)
            · rfl
            · intro w2 hC hF
              rcases hC.2 with hf2 | ⟨q2, cap2, hf2, hr2⟩
              · obtain ⟨y0, y1, y2⟩ := cells3 hf2
                simp only [upon]
                go_simp
                first | exact ⟨CutR.refl _, hV5 w2 hC hf2⟩ | exact CutR.refl _
              · obtain ⟨y0, y1, y2⟩ := cells3 hf2
                simp only [upon]
                go_simp
                first | exact ⟨CutR.refl _, cutV_good hadlt htk.out hby hr2⟩ | exact CutR.refl _
            intro v5
            simp only [put_lit, List.set_cons_succ, List.set_cons_zero]
            apply walk_det
            · rfl
            · intro w2 hC hF
              simp only [upon]
              go_simp
              first | exact ⟨CutR.refl _, rfl⟩ | exact CutR.refl _
            simp only [put_lit, List.set_cons_succ, List.set_cons_zero]
            apply walk_free (fun v w' => (∃ q' cap', v = .slice q' k cap') ∧ CutB (r.ad i) ((s.file i).b.take k) v w') (fun _ _ _ _ hR h => ⟨h.1, h.2.last hR⟩)
            · rfl
            · intro w2 hC hF
              obtain ⟨q5, l5, c5', rfl, hk5, hk5', hB5⟩ : CutV (r.ad i) k ((s.file i).b.take k) v5 w2 := hF 5 (by kernel_rfl)
              have hk5I : (k : Int) ≤ (c5' : Int) := by omega
              simp only [upon]
              go_simp
              first | exact ⟨CutR.refl _, ⟨_, _, rfl⟩, hB5⟩ | exact CutR.refl _
            intro v7
            simp only [put_lit, List.set_cons_succ, List.set_cons_zero]
            apply walk_free (fun v w' => w'.ownsRow wd.heap.size 5 1 v k (encB ((s.file i).b.take k))) (fun _ _ _ _ hR h => cut_row hadlt h hR)
            · rfl
            · intro w2 hC hF
              obtain ⟨⟨q7, c7', rfl⟩, hB7⟩ : (∃ q' cap', v7 = .slice q' k cap') ∧ CutB (r.ad i) ((s.file i).b.take k) v7 w2 := hF 7 (by kernel_rfl)
              simp only [upon]
              go_simp
              exact (cloneB_any _ _ w2 hB7.1 (by have := htk.out; omega)).mono (fun e w' hh => by obtain ⟨v', he, hr', hb'⟩ := hh; exact ⟨v', he, CutR.below hb' (Nat.lt_of_lt_of_le hadlt hC.1.size), by rw [htk.out] at hr'; exact own_base' hr' hC.1.size⟩)
            intro v8
            simp only [put_lit, List.set_cons_succ, List.set_cons_zero]
            apply walk_det
            · rfl
            · intro w2 hC hF
              simp only [upon]
              go_simp
              first | exact ⟨CutR.refl _, rfl⟩ | exact CutR.refl _
            simp only [put_lit, List.set_cons_succ, List.set_cons_zero]
            apply walk_det
            · rfl
            · intro w2 hC hF
              simp only [upon]
              go_simp
              first | exact ⟨CutR.refl _, rfl⟩ | exact CutR.refl _
            simp only [put_lit, List.set_cons_succ, List.set_cons_zero]
            apply walk_det
            · rfl
            · intro w2 hC hF
              simp only [upon]
              go_simp
              first | exact ⟨CutR.refl _, rfl⟩ | exact CutR.refl _
            simp only [put_lit, List.set_cons_succ, List.set_cons_zero]
            apply walk_det
            · rfl
            · intro w2 hC hF
              obtain ⟨bv2, hf2⟩ : ∃ bv2, w2.heap[r.ad i]? = some (fileAt i bv2 (s.file i).mark) := by
                rcases hC.2 with hf2 | ⟨q2, cap2, hf2, hr2⟩
                · exact ⟨_, hf2⟩
                · exact ⟨_, hf2⟩
              obtain ⟨y0, y1, y2⟩ := cells3 hf2
              simp only [upon]
              go_simp
              first | exact ⟨CutR.refl _, rfl⟩ | exact CutR.refl _
            simp only [put_lit, List.set_cons_succ, List.set_cons_zero]
            apply walk_det
            · rfl
            · intro w2 hC hF
              simp only [upon]
              go_simp
              first | exact ⟨CutR.refl _, rfl⟩ | exact CutR.refl _
            simp only [put_lit, List.set_cons_succ, List.set_cons_zero]
            apply walk_det
            · rfl
            · intro w2 hC hF
              simp only [upon]
              go_simp
              first | exact ⟨CutR.refl _, rfl⟩ | exact CutR.refl _
            simp only [put_lit, List.set_cons_succ, List.set_cons_zero]
            apply walk_det
            · rfl
            · intro w2 hC hF
              simp only [upon]
              go_simp
              first | exact ⟨CutR.refl _, rfl⟩ | exact CutR.refl _
            simp only [put_lit, List.set_cons_succ, List.set_cons_zero]
            apply walk_det
            · rfl
            · intro w2 hC hF
              simp only [upon]
              go_simp
              first | exact ⟨CutR.refl _, rfl⟩ | exact CutR.refl _
            simp only [put_lit, List.set_cons_succ, List.set_cons_zero]
            apply walk_free (fun _ w' => CutGood wd.heap.size (r.ad i) i k (s.file i).mark ((s.file i).b.take k) w') (fun _ _ _ _ hR h => h.last hadlt hR)
            · rfl
            · intro w2 hC hF
              have hr8 : w2.ownsRow wd.heap.size 5 1 v8 k (encB ((s.file i).b.take k)) := hF 8 (by kernel_rfl)
              obtain ⟨q8, c8, rfl⟩ := own_shape hr8
              obtain ⟨bv2, hf2⟩ : ∃ bv2, w2.heap[r.ad i]? = some (fileAt i bv2 (s.file i).mark) := by
                rcases hC.2 with hf2 | ⟨q2, cap2, hf2, hr2⟩
                · exact ⟨_, hf2⟩
                · exact ⟨_, hf2⟩
              have hz2 := free_of hf2 1
              obtain ⟨y0, y1, y2⟩ := cells3 hf2
              simp only [upon]
              go_simp
              exact cut_store hadlt hf2 hr8
            intro v17
            simp only [put_no]
            apply walk_nil
            intro w9 hC9 hF9
            simp only [List.drop_succ_cons, List.drop_zero]
            obtain ⟨cq, ccap, hf9, hv9⟩ : CutGood wd.heap.size (r.ad i) i k (s.file i).mark ((s.file i).b.take k) w9 := hF9 17
            have xz2 := free_of hf9 2
            obtain ⟨x0, x1, x2⟩ := cells3 hf9
            go_wp2_with fail
            go_returns
            exact ⟨rfl, cut_done hLd hGd hn h1 h2 hC9.1 hf9 hv9 htk.out⟩

  · rw [hdd] at ha
    simp only [if_true] at ha ⊢
    go_enter Tryz.func17, Tryz.ntmps17
    go_wp2_with (go_at_call 39; refine ha.mono ?_; rintro e w' ⟨rfl, rfl⟩)
    go_returns
    exact ⟨rfl, Turns.none hL (Below.refl _ _)⟩
end Go.Proofs.YtmcmagplaflegaaGreat

namespace Go.Proofs.YtmcmagplaflegaaGreat
open Go Go.RowKit Go.MapL Go.Poised

variable {p n₀ : Nat} {r : Rep} {s : DS}

theorem row_set {w : World} {n k x : Nat} {v : Value} {l : List Nat} (h : w.ownsRow n 5 1 v l.length (encB l)) (hk : k < l.length) {g : Nat} (hg : v.ownBlock = some g) :
    (w.setCell ⟨g, k, none⟩ (.int .u8 (x : Nat))).ownsRow n 5 1 v (l.set k x).length (encB (l.set k x)) := by
  rcases h.2 with ⟨e, h0⟩ | ⟨g2, c, cu, rfl, h3, h4, h5, h6, h7, h8⟩
  · omega
  · have e : g2 = g := by cases hg; rfl
    subst e
    refine ⟨by simp [encB], .inr ⟨g2, c, cu.setIfInBounds k (.int .u8 (x : Nat)), by simp, h3, setCell_heap h4, by simpa using h5, h6, by simpa using h7, ?_⟩⟩
    simp only [Array.toList_setIfInBounds, List.length_set]
    rw [List.take_set, h8]
    simp [encB, List.map_set]
theorem turn_done {w w9 : World} {i g k x : Nat} (hL : Lies w p n₀ r s) (h1 : 1 ≤ i) (h2 : i ≤ s.births) (hgo : (r.bv i).ownBlock = some g) (hC : Below w.heap.size w w9) (hk : k < (s.file i).b.length) :
    Turns w (w9.setCell ⟨g, k, none⟩ (.int .u8 (x : Nat))) p n₀ r s (s.setf i ⟨(s.file i).b.set k x, (s.file i).mark⟩) := by
  have hd := hL.data i h1 h2
  have hne : r.ad i ≠ g := fun e => by have := hL.sB h1 h2 hgo; rw [← e, hL.sF h1 h2] at this; cases this
  have hal : r.ad i < w.heap.size := (hL.own_lt _ (.inl (.inr (.inr (.inr (.inr ⟨i, h1, h2, .inl rfl⟩)))))).1
  refine Turns.setf hL h1 h2 (r.bv i) ⟨(s.file i).b.set k x, (s.file i).mark⟩ ?_ ?_ (fun k hk => .inl hk) ?_ ?_
  · rw [Below.heap_setCell _ _ _ _ hne]
    exact (hC.block _ hal).trans (hL.file i h1 h2)
  · exact row_set (own_kept hd hC) hk hgo
  · intro j hj _ g2
    rw [Below.heap_setCell _ _ _ _ (fun e => g2 (by have e2 : j = g := e; rw [e2]; exact hgo))]
    exact hC.block j hj
  · exact (Grown.of_below hC).setCell (p := ⟨g, k, none⟩) (.inl (.inr (.inr (.inr (.inr ⟨i, h1, h2, .inr hgo⟩))))) _
set_option maxRecDepth 100000 in
set_option maxHeartbeats 8000000 in
theorem turn_at (x : ByteArray) (n bit : Int) (w : World) (h : Lies w p n₀ r s) (hwf : WF s) (hlo : -9223372036854775808 ≤ n) (hhi : n ≤ 9223372036854775807) (hblo : -9223372036854775808 ≤ bit) (hbhi : bit ≤ 9223372036854775807) :
    Calls Tryz.prog 18 #[ofBlock p, .string x, .int .i64 n, .int .i64 bit] w fun e w' => e = .returned (.int .i64 (s.turn x n bit).2) ∧ Turns w w' p n₀ r s (s.turn x n bit).1 := by
  have hL := h
  obtain ⟨c0, c1, c2, c3, c4, c5, c6, c7⟩ := h.cells
  have ha := away_at w h
  have hl := lookup_at h x
  unfold DS.turn
  unfold ofBlock at *
  cases hdd : s.dead
  · rw [hdd] at ha
    simp only [Bool.false_eq_true, if_false] at ha ⊢
    cases hf : fileOf s x with
    | none =>
      rw [hf] at hl
      unfold ptrOf at *
      go_enter Tryz.func18, Tryz.ntmps18
      go_wp2_with (go_at_call 39; refine ha.mono ?_; rintro e w' ⟨rfl, rfl⟩)
      go_returns
      exact ⟨rfl, Turns.none hL (Below.refl _ _)⟩
    | some i =>
      rw [hf] at hl
      obtain ⟨h1, h2⟩ := fileOf_in hwf hf
      have hfl := h.file i h1 h2
      have hd := h.data i h1 h2
      have hlen := hwf.len i
      obtain ⟨q, cap, hbv⟩ := own_shape hd
      rw [hbv] at hfl
      obtain ⟨f0, f1, f2⟩ := cells3 hfl
      have hbvk := hbv
      replace hbv : Hid _ := hbv
      clear hf
      unfold ptrOf at *
      simp only
      by_cases hbad : n < 0 ∨ ((s.file i).b.length : Int) ≤ n ∨ bit < 0 ∨ 7 < bit
      · rw [if_pos hbad]
        have four : ∀ P : Prop, (n < 0 → P) → (¬ n < 0 → ((s.file i).b.length : Int) ≤ n → P) → (¬ n < 0 → ¬ ((s.file i).b.length : Int) ≤ n → bit < 0 → P) → (¬ n < 0 → ¬ ((s.file i).b.length : Int) ≤ n → ¬ bit < 0 → 7 < bit → P) → P := by
          intro P a1 a2 a3 a4
          by_cases b1 : n < 0
          · exact a1 b1
          · by_cases b2 : ((s.file i).b.length : Int) ≤ n
            · exact a2 b1 b2
            · by_cases b3 : bit < 0
              · exact a3 b1 b2 b3
              · exact a4 b1 b2 b3 (by omega)
        clear hbad
        replace hhi : Hid _ := hhi
        apply four
        all_goals
          intros
          go_enter Tryz.func18, Tryz.ntmps18
          go_wp2_with (go_at_call 39; refine ha.mono ?_; rintro e w' ⟨rfl, rfl⟩)
          go_returns
          exact ⟨rfl, Turns.none hL (Below.refl _ _)⟩
      · rw [if_neg hbad]
        obtain ⟨k, rfl⟩ : ∃ k : Nat, n = k := ⟨n.toNat, by omega⟩
        obtain ⟨bt, rfl⟩ : ∃ bt : Nat, bit = bt := ⟨bit.toNat, by omega⟩
        have hk : k < (s.file i).b.length := by omega
        have hbt : bt ≤ 7 := by omega
        have b1 : ¬ (k : Int) < 0 := by omega
        have b2 : ¬ ((s.file i).b.length : Int) ≤ (k : Int) := by omega
        have b3 : ¬ (bt : Int) < 0 := by omega
        have b4 : ¬ (7 : Int) < (bt : Int) := by omega
        clear hbad
        obtain ⟨g, hq⟩ : ∃ g, q = some ⟨g, 0, none⟩ := by
          rcases hd.2 with ⟨e, h0⟩ | ⟨g, c, cu, e, _⟩
          · omega
          · rw [hbvk] at e; cases e; exact ⟨g, rfl⟩
        subst hq
        have hgo : (r.bv i).ownBlock = some g := by rw [hbvk]; rfl
        have hgl := (hd.lt g hgo).2
        obtain ⟨cu, hgb⟩ : ∃ cu, w.heap[g]? = some (.cells cu 5) := by
          rcases hd.2 with ⟨e, h0⟩ | ⟨g', c, cu, e, _, h4, _⟩
          · omega
          · rw [hbvk] at e; cases e; exact ⟨cu, h4⟩
        have hcell : w.cell? ⟨g, k, none⟩ = some (.int .u8 ((s.file i).b.getD k 0 : Nat)) := by
          have := hd.cells (g := g) hgo k _ (encB_get _ k hk)
          rw [Addr.add_lit, Nat.zero_add] at this
          exact this
        have hyl : (s.file i).b.getD k 0 < 256 := by rw [List.getD_eq_getElem?_getD, List.getElem?_eq_getElem hk]; exact hwf.bytes i _ (List.getElem_mem hk)
        have hpl : 2 ^ bt < 256 := Nat.pow_lt_pow_right (n := 8) (by omega) (by omega)
        simp only [Int.toNat_natCast]
        obtain ⟨y, hy⟩ : ∃ y, (s.file i).b.getD k 0 = y := ⟨_, rfl⟩
        obtain ⟨pb, hpb⟩ : ∃ pb, 2 ^ bt = pb := ⟨_, rfl⟩
        rw [hy] at hcell hyl ⊢
        rw [hpb] at hpl ⊢
        have gx := xor8 y pb hyl hpl
        have gs : IntKind.u8.wrap (1 * 2 ^ bt) = (pb : Int) := by
          have : ((2 : Int) ^ bt) = ((2 ^ bt : Nat) : Int) := by simp
          rw [Int.one_mul, this, hpb]
          exact IntWalk.u8_in _ (by omega)
        have gs2 : IntKind.u8.wrap (2 ^ bt) = (pb : Int) := by rw [Int.one_mul] at gs; exact gs
        have hK0 : (0 : Int) ≤ (k : Int) := by omega
        have hK1 : (k : Int) < ((s.file i).b.length : Int) := by omega
        replace hpb : Hid _ := hpb
        replace hy : Hid _ := hy
        clear c0 c1 c3 c4 c5 c6 c7
        go_enter Tryz.func18, Tryz.ntmps18
        go_wp2_with (go_at_call 39; refine ha.mono ?_; rintro e w' ⟨rfl, rfl⟩)
        refine poised_then 10 (fun w2 => Below w'.heap.size w' w2) (fun w w2 => Below w.heap.size w w2) (by kernel_rfl) (by kernel_rfl) (by kernel_rfl) (fun _ _ h k => h.trans (k.mono h.size)) ((Below.refl _ _).drew) ?_
        apply Exists.intro
        simp only [List.take_succ_cons, List.take_zero]
        apply walk_det
        · rfl
        · intro w2 hC hF
          simp only [upon]
          go_simp
          exact ⟨Below.refl _ _, rfl⟩
        simp only [put_lit, List.set_cons_succ, List.set_cons_zero]
        apply walk_det
        · rfl
        · intro w2 hC hF
          simp only [upon]
          go_simp
          exact ⟨Below.refl _ _, rfl⟩
        simp only [put_lit, List.set_cons_succ, List.set_cons_zero]
        apply walk_det
        · rfl
        · intro w2 hC hF
          simp only [upon]
          go_simp
          exact ⟨Below.refl _ _, rfl⟩
        simp only [put_lit, List.set_cons_succ, List.set_cons_zero]
        apply walk_det
        · rfl
        · intro w2 hC hF
          have hfa := (hC.block _ (Array.getElem?_eq_some_iff.1 hfl).1).trans hfl
          obtain ⟨y0, y1, y2⟩ := cells3 hfa
          have hca := (hC.cell (p := ⟨g, k, none⟩) hgl).trans hcell
          simp only [upon]
          go_simp
          exact ⟨Below.refl _ _, rfl⟩
        simp only [put_lit, List.set_cons_succ, List.set_cons_zero]
        apply walk_det
        · rfl
        · intro w2 hC hF
          simp only [upon]
          go_simp
          exact ⟨Below.refl _ _, rfl⟩
        simp only [put_lit, List.set_cons_succ, List.set_cons_zero]
        apply walk_det
        · rfl
        · intro w2 hC hF
          simp only [upon]
          go_simp
          exact ⟨Below.refl _ _, rfl⟩
        simp only [put_lit, List.set_cons_succ, List.set_cons_zero]
        apply walk_det
        · rfl
        · intro w2 hC hF
          have hfa := (hC.block _ (Array.getElem?_eq_some_iff.1 hfl).1).trans hfl
          obtain ⟨y0, y1, y2⟩ := cells3 hfa
          have hca := (hC.cell (p := ⟨g, k, none⟩) hgl).trans hcell
          simp only [upon]
          go_simp
          exact ⟨Below.refl _ _, rfl⟩
        simp only [put_lit, List.set_cons_succ, List.set_cons_zero]
        apply walk_det
        · rfl
        · intro w2 hC hF
          simp only [upon]
          go_simp
          exact ⟨Below.refl _ _, rfl⟩
        simp only [put_lit, List.set_cons_succ, List.set_cons_zero]
        apply walk_det
        · rfl
        · intro w2 hC hF
          simp only [upon]
          go_simp
          exact ⟨Below.refl _ _, rfl⟩
        simp only [put_lit, List.set_cons_succ, List.set_cons_zero]
        apply walk_det
        · rfl
        · intro w2 hC hF
          simp only [upon]
          go_simp
          exact ⟨Below.refl _ _, rfl⟩
        simp only [put_lit, List.set_cons_succ, List.set_cons_zero]
        apply walk_nil
        intro w9 hC9 hF9
        simp only [List.drop_succ_cons, List.drop_zero]
        have hca := (hC9.cell (p := ⟨g, k, none⟩) hgl).trans hcell
        have hgz := free_of ((hC9.block _ hgl).trans hgb) k
        go_wp2_with fail
        go_returns
        exact ⟨rfl, turn_done hL h1 h2 hgo hC9 hk⟩
  · rw [hdd] at ha
    simp only [if_true] at ha ⊢
    go_enter Tryz.func18, Tryz.ntmps18
    go_wp2_with (go_at_call 39; refine ha.mono ?_; rintro e w' ⟨rfl, rfl⟩)
    go_returns
    exact ⟨rfl, Turns.none hL (Below.refl _ _)⟩
end Go.Proofs.YtmcmagplaflegaaGreat

namespace Go.Proofs.YtmcmagplaflegaaGreat
open Go Go.RowKit Go.MapL Go.Poised

variable {p n₀ m : Nat} {s : DS} {w w' w'' : World} {K K' : Nat → Prop}

/-- Of the blocks below n₀, and of the blocks K, none has turned. -/
structure Kept (K : Nat → Prop) (n₀ : Nat) (w w' : World) : Prop where
  below : Below n₀ w w'
  same : ∀ g, K g → w'.heap[g]? = w.heap[g]?
theorem Kept.refl (K : Nat → Prop) (n₀ : Nat) (w : World) : Kept K n₀ w w := ⟨Below.refl _ _, fun _ _ => rfl⟩
theorem Kept.trans (h : Kept K n₀ w w') (k : Kept K n₀ w' w'') : Kept K n₀ w w'' := ⟨h.below.trans k.below, fun g hg => (k.same g hg).trans (h.same g hg)⟩
theorem Kept.sub (h : Kept K n₀ w w') (hK : ∀ g, K' g → K g) : Kept K' n₀ w w' := ⟨h.below, fun g hg => h.same g (hK g hg)⟩
theorem Kept.of_below (hb : Below w.heap.size w w') (hn : n₀ ≤ w.heap.size) (hK : ∀ g, K g → g < w.heap.size) : Kept K n₀ w w' := ⟨hb.mono hn, fun g hg => hb.block g (hK g hg)⟩
theorem Kept.drew (K : Nat → Prop) (n₀ : Nat) (w : World) : Kept K n₀ w w.drew := ⟨⟨rfl, rfl, rfl, Nat.le_refl _, fun _ _ => rfl⟩, fun _ _ => rfl⟩
theorem Kept.bytes {v : Value} {l : List Nat} (h : Kept K n₀ w w') (hv : BytesIn w v l) (hK : ∀ q len cap, v = .slice (some q) len cap → K q.block) : BytesIn w' v l := by
  obtain ⟨h1, h2, h3⟩ := hv
  refine ⟨h1, h2, ?_⟩
  rcases h3 with h3 | h3 | ⟨b, off, cap, rfl, hc⟩
  · exact .inl h3
  · exact .inr (.inl h3)
  · refine .inr (.inr ⟨b, off, cap, rfl, fun k hk => ?_⟩)
    have := h.same b (hK _ _ _ rfl)
    have h4 := hc k hk
    simp only [World.cell?, Option.isSome_none, Bool.false_eq_true, if_false] at h4 ⊢
    rw [this]; exact h4
theorem Kept.row {n e size k : Nat} {v : Value} {xs : List Value} (h : Kept K n₀ w w') (hv : w.ownsRow n e size v k xs) (hK : ∀ g, v.ownBlock = some g → K g) : w'.ownsRow n e size v k xs := row_same hv (fun g hg => h.same g (hK g hg))
theorem Kept.cell {q : Addr} (h : Kept K n₀ w w') (hK : K q.block) : w'.cell? q = w.cell? q := by
  simp only [World.cell?, h.same _ hK]

/-- The disk s lies at p, none of its blocks is below n₀, no more than m works were done, and it has none of the blocks K. -/
structure Live (w : World) (p n₀ m : Nat) (s : DS) (K : Nat → Prop) : Prop where
  ex : ∃ r, Lies w p n₀ r s ∧ ∀ g, K g → g < w.heap.size ∧ ¬ own p r s g
  sound : Sound m s
  base : n₀ ≤ w.heap.size
theorem Live.lt (h : Live w p n₀ m s K) : ∀ g, K g → g < w.heap.size := fun g hg => by
  obtain ⟨r, _, hK⟩ := h.ex
  exact (hK g hg).1
theorem Live.mono {k : Nat} (h : Live w p n₀ m s K) (hm : m ≤ k) : Live w p n₀ k s K := ⟨h.ex, h.sound.mono hm, h.base⟩
theorem Live.sub (h : Live w p n₀ m s K) (hK : ∀ g, K' g → K g) : Live w p n₀ m s K' := by
  obtain ⟨r, hL, h1⟩ := h.ex
  exact ⟨⟨r, hL, fun g hg => h1 g (hK g hg)⟩, h.sound, h.base⟩
theorem Live.more (h : Live w p n₀ m s K) (hb : Below w.heap.size w w') (hK : ∀ g, K' g → K g ∨ (w.heap.size ≤ g ∧ g < w'.heap.size)) : Live w' p n₀ m s K' := by
  obtain ⟨r, hL, h1⟩ := h.ex
  refine ⟨⟨r, hL.below hb, fun g hg => ?_⟩, h.sound, Nat.le_trans h.base hb.size⟩
  rcases hK g hg with h2 | h2
  · exact ⟨Nat.lt_of_lt_of_le (h1 g h2).1 hb.size, (h1 g h2).2⟩
  · exact ⟨h2.2, fun ho => by have := (hL.own_lt g ho).1; omega⟩
theorem Live.below (h : Live w p n₀ m s K) (hb : Below w.heap.size w w') : Live w' p n₀ m s K := h.more hb (fun _ hg => .inl hg)
theorem Live.set (h : Live w p n₀ m s K) (hs : ∀ g, g < w.heap.size → ¬ K g → w'.heap[g]? = w.heap[g]?) (hz : w.heap.size ≤ w'.heap.size) : Live w' p n₀ m s K := by
  obtain ⟨r, hL, h1⟩ := h.ex
  refine ⟨⟨r, hL.same (fun k hk => hs k (hL.own_lt k hk).1 (fun hg => (h1 k hg).2 hk)), fun g hg => ⟨Nat.lt_of_lt_of_le (h1 g hg).1 hz, (h1 g hg).2⟩⟩, h.sound, Nat.le_trans h.base hz⟩
theorem Live.drew (h : Live w p n₀ m s K) : Live w.drew p n₀ m s K := h.below ⟨rfl, rfl, rfl, Nat.le_refl _, fun _ _ => rfl⟩
theorem Live.kept (h : Live w p n₀ m s K) (hb : Below w.heap.size w w') : Kept K n₀ w w' := .of_below hb h.base h.lt

theorem live_call {P : Program} {f : FuncId} {args : Array Value} {X : Ending} {m' : Nat} {s' : DS} (h : Live w p n₀ m s K) (hs : Sound m' s')
    (hc : ∀ r, Lies w p n₀ r s → (∀ w', Grown (foot p r s) w w' → Kept K n₀ w w') → Calls P f args w fun e w' => e = X ∧ Turns w w' p n₀ r s s') :
    Calls P f args w fun e w' => e = X ∧ Live w' p n₀ m' s' K ∧ Kept K n₀ w w' := by
  obtain ⟨r, hL, hK⟩ := h.ex
  have hk : ∀ w', Grown (foot p r s) w w' → Kept K n₀ w w' := fun w' hg => ⟨hg.below h.base (fun k hk => (hL.foot_lt k hk).2), fun g hg' => hg.block g (hK g hg').1 (fun hf => (hK g hg').2 (.inl hf))⟩
  refine (hc r hL hk).mono ?_
  rintro e w' ⟨rfl, r', h1, h2, h3⟩
  exact ⟨rfl, ⟨⟨r', h1, fun g hg => ⟨Nat.lt_of_lt_of_le (hK g hg).1 h2.size, fun ho => (h3 g ho).elim (hK g hg).2 (fun h4 => by have := (hK g hg).1; omega)⟩⟩, hs, Nat.le_trans h.base h2.size⟩, hk w' h2⟩

theorem live_append (x : ByteArray) (v : Value) (l : List Nat) (h : Live w p n₀ m s K) (hm : m < 536870912) (hl : ∀ x ∈ l, x < 256) (hlen : l.length ≤ 4611686018427387904) (hv : ∀ w', Kept K n₀ w w' → BytesIn w' v l) :
    Calls Tryz.prog 12 #[ofBlock p, .string x, v] w fun e w' => e = .returned (.int .i64 (s.append x l).2) ∧ Live w' p n₀ (m + 2) (s.append x l).1 K ∧ Kept K n₀ w w' :=
  live_call h (sound_append h.sound hm x l hl) fun _ hL hk => append_at x v l w hL h.sound.wf (by have := h.sound.nb; omega) (by have := h.sound.nw; omega) (by have := h.sound.nk; omega) hlen h.base (fun w' hg => hv w' (hk w' hg))
theorem live_sync (x : ByteArray) (h : Live w p n₀ m s K) (hm : m < 536870912) :
    Calls Tryz.prog 13 #[ofBlock p, .string x] w fun e w' => e = .returned (.int .i64 (s.sync x).2) ∧ Live w' p n₀ m (s.sync x).1 K ∧ Kept K n₀ w w' :=
  live_call h (sound_sync h.sound x) fun _ hL _ => sync_at x w hL h.sound.wf (by have := h.sound.nk; omega) h.base
theorem live_remove (x : ByteArray) (h : Live w p n₀ m s K) (hm : m < 536870912) :
    Calls Tryz.prog 15 #[ofBlock p, .string x] w fun e w' => e = .returned (.int .i64 (s.remove x).2) ∧ Live w' p n₀ (m + 1) (s.remove x).1 K ∧ Kept K n₀ w w' :=
  live_call h (sound_remove h.sound hm x) fun _ hL _ => remove_at x w hL h.sound.wf (by have := h.sound.nk; omega) (by have := h.sound.nw; omega) h.base
theorem live_rename (x y : ByteArray) (h : Live w p n₀ m s K) (hm : m < 536870912) :
    Calls Tryz.prog 14 #[ofBlock p, .string x, .string y] w fun e w' => e = .returned (.int .i64 (s.rename x y).2) ∧ Live w' p n₀ (m + 1) (s.rename x y).1 K ∧ Kept K n₀ w w' :=
  live_call h (sound_rename h.sound hm x y) fun _ hL _ => rename_at x y w hL h.sound.wf (by have := h.sound.nk; omega) (by have := h.sound.nw; omega) h.base
theorem live_syncNames (h : Live w p n₀ m s K) (hm : m < 536870912) :
    Calls Tryz.prog 16 #[ofBlock p] w fun e w' => e = .returned (.int .i64 s.syncNames.2) ∧ Live w' p n₀ m s.syncNames.1 K ∧ Kept K n₀ w w' :=
  live_call h (sound_syncNames h.sound) fun _ hL _ => syncNames_at w hL h.sound.wf (by have := h.sound.nk; omega) h.base
theorem live_cut (x : ByteArray) (n : Int) (h : Live w p n₀ m s K) (hm : m < 536870912) (h1 : -9223372036854775808 ≤ n) (h2 : n ≤ 9223372036854775807) :
    Calls Tryz.prog 17 #[ofBlock p, .string x, .int .i64 n] w fun e w' => e = .returned (.int .i64 (s.cut x n).2) ∧ Live w' p n₀ m (s.cut x n).1 K ∧ Kept K n₀ w w' :=
  live_call h (sound_cut h.sound x n) fun _ hL _ => cut_at x n w hL h.sound.wf (by have := h.sound.nk; omega) h.base h1 h2
theorem live_turn (x : ByteArray) (k bit : Int) (h : Live w p n₀ m s K) (h1 : -9223372036854775808 ≤ k) (h2 : k ≤ 9223372036854775807) (h3 : -9223372036854775808 ≤ bit) (h4 : bit ≤ 9223372036854775807) :
    Calls Tryz.prog 18 #[ofBlock p, .string x, .int .i64 k, .int .i64 bit] w fun e w' => e = .returned (.int .i64 (s.turn x k bit).2) ∧ Live w' p n₀ m (s.turn x k bit).1 K ∧ Kept K n₀ w w' :=
  live_call h (sound_turn h.sound x k bit) fun _ hL _ => turn_at x k bit w hL h.sound.wf h1 h2 h3 h4
theorem live_fail (n : Int) (v : Value) (keep : List Int) (h : Live w p n₀ m s K) (h1 : -9223372036854775808 ≤ n) (h2 : n ≤ 9223372036854775807) (hv : IntsIn w v keep) (hl : keep.length ≤ 17592186044416) :
    Calls Tryz.prog 10 #[ofBlock p, .int .i64 n, v] w fun e w' => e = .returned (.tuple #[]) ∧ Live w' p n₀ m (s.fail n keep) K ∧ Kept K n₀ w w' :=
  live_call h (sound_fail h.sound n keep h2 hv.1 hl) fun _ hL _ => fail_at n v keep w hL h.sound.wf h.base h1 h2 hv hl
theorem live_crash (v : Value) (keep : List Int) (h : Live w p n₀ m s K) (hm : m < 536870912) (hv : ∀ w', Kept K n₀ w w' → IntsIn w' v keep) :
    Calls Tryz.prog 9 #[ofBlock p, v] w fun e w' => e = .returned (.tuple #[]) ∧ Live w' p n₀ m (s.crash keep) K ∧ Kept K n₀ w w' :=
  live_call h (sound_crash h.sound keep) fun _ hL hk => crash_at v keep w hL h.sound.wf (by have := h.sound.nk; omega) h.base (fun w' hg => hv w' (hk w' hg))
theorem live_boot (h : Live w p n₀ m s K) :
    Calls Tryz.prog 11 #[ofBlock p] w fun e w' => e = .returned (.tuple #[]) ∧ Live w' p n₀ m s.boot K ∧ Kept K n₀ w w' :=
  live_call h (sound_boot h.sound) fun _ hL _ => (boot_at w hL).mono fun _ _ hh => ⟨hh.1, Turns.of_top hh.2.1 hh.2.2 (fun _ hk => hk)⟩
theorem live_read (x : ByteArray) (h : Live w p n₀ m s K) :
    Calls Tryz.prog 7 #[ofBlock p, .string x] w fun e w' => ∃ v, e = .returned (.tuple #[v, .int .i64 (readRes s x).2]) ∧ w'.ownsRow w.heap.size 5 1 v (readRes s x).1.length (encB (readRes s x).1) ∧ Below w.heap.size w w' := by
  obtain ⟨r, hL, _⟩ := h.ex
  exact read_at x w hL h.sound.wf
theorem live_size (x : ByteArray) (h : Live w p n₀ m s K) :
    Calls Tryz.prog 8 #[ofBlock p, .string x] w fun e w' => e = .returned (.tuple #[.int .i64 (readRes s x).1.length, .int .i64 (readRes s x).2]) ∧ Below w.heap.size w w' := by
  obtain ⟨r, hL, _⟩ := h.ex
  exact size_at x w hL h.sound.wf
theorem live_names (h : Live w p n₀ m s K) (hm : m < 536870912) :
    Calls Tryz.prog 19 #[ofBlock p] w fun e w' => ∃ v, e = .returned v ∧ w'.ownsRow w.heap.size 9 1 v (namesOf s).length ((namesOf s).map Value.string) ∧ Below w.heap.size w w' := by
  obtain ⟨r, hL, _⟩ := h.ex
  exact names_at w hL h.sound.tn (by have := h.sound.nn; omega)
theorem live_dead (h : Live w p n₀ m s K) : Calls Tryz.prog 21 #[ofBlock p] w fun e w' => e = .returned (.bool s.dead) ∧ w' = w := by
  obtain ⟨r, hL, _⟩ := h.ex
  exact dead_at w hL
theorem live_new (room : Nat) (hroom : room ≤ 16777216) (w : World) :
    Calls Tryz.prog 35 #[.int .i64 room] w fun e w' => e = .returned (.tuple #[ofBlock (w.heap.size + 2), .int .i64 0]) ∧ Below w.heap.size w w' ∧ Live w' (w.heap.size + 2) w.heap.size 0 (DS.new room) (fun _ => False) :=
  (new_at room hroom w).mono fun _ _ hh => by
    obtain ⟨h1, h2, h3, r, h4⟩ := hh
    exact ⟨h1, h2, ⟨⟨r, h4, fun _ hf => hf.elim⟩, sound_new hroom, h2.size⟩⟩
theorem names_len (hs : Sound m s) : (namesOf s).length ≤ m := by
  unfold namesOf
  split
  · exact Nat.zero_le _
  · rw [(sortedN_perm _).length_eq, List.length_map]; exact hs.nn
/-- Is a name there? -/
theorem isIn_names (hd : s.dead = false) (x : ByteArray) : isIn x (namesOf s) = (fileOf s x).isSome := by
  unfold namesOf fileOf
  rw [hd]
  simp only [Bool.false_eq_true, if_false]
  have key : ∀ l : List (ByteArray × Nat), (MapL.look x l).isSome = true ↔ x ∈ l.map (·.1) := by
    intro l
    induction l with
    | nil => simp [MapL.look]
    | cons q l ih =>
      obtain ⟨k, v⟩ := q
      unfold MapL.look
      by_cases h : k = x
      · simp [h]
      · rw [if_neg h, ih]
        simp [Ne.symm h]
  by_cases hx : x ∈ s.names.map (·.1)
  · rw [isIn_yes ((sortedN_perm _).mem_iff.2 hx), (key s.names).2 hx]
  · rw [isIn_no (fun h => hx ((sortedN_perm _).mem_iff.1 h))]
    cases h : MapL.look x s.names with
    | none => rfl
    | some i => exact absurd ((key s.names).1 (by rw [h]; rfl)) hx
end Go.Proofs.YtmcmagplaflegaaGreat

namespace Go.Proofs.YtmcmagplaflegaaGreat
open Go Go.RowKit Go.MapL Go.Poised

/-- A work: a function, what it is bound to, what it captured. -/
structure Wk where
  f : Nat
  pre : Array Value
  cap : Array Value
def Wk.v (k : Wk) : Value := .func (.func k.f) k.pre k.cap
set_option maxRecDepth 100000 in
set_option maxHeartbeats 2000000 in
theorem first_any (fs : List Wk) (B cap : Nat) (I : Nat → World → Prop) (Q : Int → World → Prop) (w : World) (h0 : I 0 w) (hlen : fs.length ≤ 100)
    (hen : ∀ k (hk : k < fs.length), Enters Tryz.prog fs[k].f) (hc : ∀ k w', I k w' → ∀ hk : k < fs.length, w'.cell? ⟨B, k, none⟩ = some fs[k].v)
    (hs : ∀ k w', (hk : k < fs.length) → I k w' → Calls Tryz.prog fs[k].f (fs[k].pre ++ fs[k].cap) w' fun e w'' => ∃ c : Int, e = .returned (.int .i64 c) ∧ (c = 0 → I (k + 1) w'') ∧ (c ≠ 0 → Q c w'')) :
    Calls Tryz.prog 83 #[.slice (some ⟨B, 0, none⟩) fs.length cap] w fun e w' => ∃ c : Int, e = .returned (.int .i64 c) ∧ (c = 0 → I fs.length w') ∧ (c ≠ 0 → Q c w') := by
  replace hc : Hid _ := hc
  replace hs : Hid _ := hs
  replace hen : Hid _ := hen
  go_enter Tryz.func83, Tryz.ntmps83
  go_wp2_with fail
  go_loopw [8, 5] (fun i _ wr => ∃ k : Nat, k ≤ fs.length ∧ i = .int .i64 k ∧ I k wr) (fun i _ _ => fs.length - (intOf i).toNat)
  case atStart => exact ⟨0, by omega, rfl, h0⟩
  case round =>
    clear h0
    obtain ⟨k, hk, rfl, hI⟩ := hrel
    by_cases hlt : k < fs.length
    · have hlt' : (k : Int) < (fs.length : Int) := by omega
      have hcell := hc.out k wr hI hlt
      have hstep := hs.out k wr hlt hI
      have he := hen.out k hlt
      generalize fs[k] = x at *
      obtain ⟨f, pre, cp⟩ := x
      unfold Wk.v at hcell
      unfold Enters at he
      simp only at hcell hstep he
      go_wp2_with (go_at_fn f; refine hstep.mono ?_; clear hstep; rintro e w1 ⟨c, rfl, h1, h2⟩)
      · rename_i hb
        have hz : c ≠ 0 := by simpa using hb
        go_returns
        exact ⟨c, rfl, fun h => absurd h hz, fun _ => h2 hz⟩
      · rename_i hb
        have hz : c = 0 := by simpa using hb
        exact ⟨⟨k + 1, by omega, by go_num, h1 hz⟩, by simp [intOf]; omega⟩
    · obtain rfl : k = fs.length := by omega
      go_wp2_with fail
      go_returns
      exact ⟨0, rfl, fun _ => hI, fun h => absurd rfl h⟩
end Go.Proofs.YtmcmagplaflegaaGreat

namespace Go.Proofs.YtmcmagplaflegaaGreat
open Go Go.RowKit Go.MapL Go.Poised

def jN : ByteArray := ⟨#[106, 111, 117, 114, 110, 97, 108]⟩
def jM : ByteArray := ⟨#[106, 111, 117, 114, 110, 97, 108, 46, 110, 101, 119]⟩
def thenD (q : DS × Int) (f : DS → DS × Int) : DS × Int := if q.2 = 0 then f q.1 else q
theorem thenD_yes {q : DS × Int} {f : DS → DS × Int} (h : q.2 = 0) : thenD q f = f q.1 := if_pos h
theorem thenD_no {q : DS × Int} {f : DS → DS × Int} (h : ¬ q.2 = 0) : thenD q f = q := if_neg h
def dropNew (s : DS) : DS × Int := if isIn jM (namesOf s) = true then s.remove jM else (s, 0)
def readD (s : DS) : DS × Int :=
  if isIn jN (namesOf s) = true then
    match recs (readRes s jN).1 with
    | none => (s, 70)
    | some (_, c) => if c < (readRes s jN).1.length then s.cut jN c else (s, 0)
  else s.append jN []
def readL (s : DS) : List (List Nat) := if isIn jN (namesOf s) = true then listOf (recs (readRes s jN).1) else []
def openD (s : DS) : DS × Int := if s.dead = true then (s, 51) else thenD (thenD (thenD (dropNew s) readD) (fun s => s.sync jN)) DS.syncNames
def openL (s : DS) : List (List Nat) := readL (dropNew s).1

variable {p n₀ m : Nat} {s : DS} {w w' w'' : World} {K K' : Nat → Prop}
theorem cell_of {D : Nat} {v : Value} {t : TypeId} (h : w.heap[D]? = some (.cells #[v] t)) : w.cell? ⟨D, 0, none⟩ = some v := by simp [World.cell?, h]
set_option maxRecDepth 100000 in
set_option maxHeartbeats 4000000 in
theorem dropNew_any (D : Nat) (h : Live w p n₀ m s K) (hm : m < 268435456) (hD : K D) (hc : w.heap[D]? = some (.cells #[ofBlock p] 22)) :
    Calls Tryz.prog 84 #[.pointer (some ⟨D, 0, none⟩)] w fun e w' => e = .returned (.int .i64 (dropNew s).2) ∧ Live w' p n₀ (m + 1) (dropNew s).1 K ∧ Kept K n₀ w w' := by
  have hn := live_names h (by omega)
  have hcell := cell_of hc
  have hlen := names_len h.sound
  have hDl := h.lt D hD
  unfold dropNew
  obtain ⟨S, hS⟩ : ∃ S, namesOf s = S := ⟨_, rfl⟩
  rw [hS] at hn hlen ⊢
  clear hS
  replace h : Hid _ := h
  replace hc : Hid _ := hc
  cases hin : isIn jM S
  · simp only [Bool.false_eq_true, if_false]
    unfold ofBlock at *
    go_enter Tryz.func84, Tryz.ntmps84
    go_wp2_with (first
      | (go_at_call 19; refine hn.mono ?_; clear hn; rintro e w1 ⟨v, rfl, hv, hb1⟩; have hct := contains_any w1 v S jM (own_texts hv (by omega)); rw [hin] at hct; obtain ⟨q, cap, rfl⟩ := own_shape hv)
      | (go_at_call 85; refine hct.mono ?_; clear hct; rintro e w2 ⟨rfl, rfl⟩))
    go_returns
    exact ⟨rfl, (h.out.below hb1).mono (by omega), h.out.kept hb1⟩
  · simp only [if_true]
    unfold ofBlock at *
    go_enter Tryz.func84, Tryz.ntmps84
    go_wp2_with (first
      | (go_at_call 19; refine hn.mono ?_; clear hn; rintro e w1 ⟨v, rfl, hv, hb1⟩; have hct := contains_any w1 v S jM (own_texts hv (by omega)); rw [hin] at hct; obtain ⟨q, cap, rfl⟩ := own_shape hv; have hcell1 := (hb1.cell (p := ⟨D, 0, none⟩) hDl).trans hcell; have hre := live_remove jM (h.out.below hb1) (by omega))
      | (go_at_call 85; refine hct.mono ?_; clear hct; rintro e w2 ⟨rfl, rfl⟩)
      | (go_at_call 15; refine hre.mono ?_; clear hre; rintro e w3 ⟨rfl, hL3, hK3⟩))
    go_returns
    exact ⟨rfl, hL3, (h.out.kept hb1).trans hK3⟩

theorem recsOf_end : ∀ (k : Nat) (b : List Nat) (n : Nat) (l : List (List Nat)) (c : Nat), recsOf k b n = some (l, c) → c ≤ b.length
  | 0, b, n, l, c, h => by cases h; exact Nat.zero_le _
  | k + 1, b, n, l, c, h => by
    unfold recsOf at h
    split at h
    · cases h; exact Nat.zero_le _
    · split at h
      · cases h
      · cases h; exact Nat.zero_le _
      · rename_i size ho
        have h2 := oneRes_size ho
        rcases hr : recsOf k (b.drop (20 + size)) (n + 1) with _ | ⟨l2, c2⟩
        · rw [hr] at h; cases h
        · rw [hr] at h
          have ih := recsOf_end k _ _ _ _ hr
          rw [List.length_drop] at ih
          cases h
          omega
theorem recs_end {b : List Nat} {l : List (List Nat)} {c : Nat} (h : recs b = some (l, c)) : c ≤ b.length := recsOf_end _ _ _ _ _ h
theorem rows_less {n k : Nat} {u : Value} {L : List (Value × List Nat)} (h : RowsAt w n u L) (hn : k ≤ n) : RowsAt w k u L := ⟨own_base' h.row hn, fun q hq => own_base' (h.each q hq) hn⟩
theorem readRes_of {i : Nat} {x : ByteArray} (hd : s.dead = false) (hf : fileOf s x = some i) : readRes s x = ((s.file i).b, 0) := by
  unfold readRes; rw [hd, hf]; simp
set_option maxRecDepth 100000 in
set_option maxHeartbeats 8000000 in
theorem readJ_any (h : Live w p n₀ m s K) (hm : m < 268435456) (hd : s.dead = false) :
    Calls Tryz.prog 87 #[ofBlock p] w fun e w' => ∃ u L, e = .returned (.tuple #[u, .int .i64 (readD s).2]) ∧ Kept K n₀ w w' ∧ RowsAt w' w.heap.size u L ∧ ((readD s).2 = 0 → L.map (·.2) = readL s) ∧ Live w' p n₀ (m + 2) (readD s).1 (fun g => K g ∨ rowsK u L g) := by
  have hn := live_names h (by omega)
  have hlen := names_len h.sound
  have hin := isIn_names hd jN
  unfold readD readL
  obtain ⟨S, hS⟩ : ∃ S, namesOf s = S := ⟨_, rfl⟩
  rw [hS] at hn hlen hin ⊢
  clear hS
  have h0 : Hid (Live w p n₀ m s K) := h
  have hf : Hid (Live w p n₀ m s K) := h
  clear h
  cases hfo : fileOf s jN with
  | none =>
    rw [hfo] at hin
    have hin : isIn jN S = false := hin
    simp only [hin, Bool.false_eq_true, if_false]
    clear hfo
    unfold ofBlock at *
    go_enter Tryz.func87, Tryz.ntmps87
    go_wp2_with (first
      | (go_at_call 19; refine hn.mono ?_; clear hn; rintro e w1 ⟨v, rfl, hv, hb1⟩; have hct := contains_any w1 v S jN (own_texts hv (by omega)); rw [hin] at hct; obtain ⟨q, cap, rfl⟩ := own_shape hv; have hap := live_append jN (.slice none 0 0) [] (h0.out.below hb1) (by omega) (by simp) (by simp) (fun _ _ => ⟨by simp, by simp, .inl ⟨rfl, rfl⟩⟩))
      | (go_at_call 85; refine hct.mono ?_; clear hct; rintro e w2 ⟨rfl, rfl⟩)
      | (go_at_call 12; refine hap.mono ?_; clear hap; rintro e w3 ⟨rfl, hL3, hK3⟩))
    go_returns
    exact ⟨_, [], rfl, (h0.out.kept hb1).trans hK3, RowsAt.nil _ _, fun _ => rfl, hL3.sub (fun g hg => hg.elim id (fun h => (rowsK_nil h).elim))⟩
  | some i =>
    rw [hfo] at hin
    have hin : isIn jN S = true := hin
    simp only [hin, if_true]
    have hrr := readRes_of hd hfo
    have hre := fun W (hb : Below w.heap.size w W) => live_read jN (h0.out.below hb)
    have hby := h0.out.sound.wf.bytes i
    have hbl := h0.out.sound.wf.len i
    clear hfo
    rw [hrr] at hre ⊢
    simp only at hre ⊢
    obtain ⟨b, hb0⟩ : ∃ b, (s.file i).b = b := ⟨_, rfl⟩
    rw [hb0] at hre hby hbl ⊢
    clear hrr hb0
    replace hby : Hid _ := hby
    replace hre : Hid _ := hre
    rcases hrc : recs b with _ | ⟨L0, c⟩
    · have hrs := fun W v (hv : BytesIn W v b) hc => recs_any b v W hv hc (by omega)
      simp only [hrc] at hrs
      replace hrs : Hid _ := hrs
      replace hrc : Hid _ := hrc
      unfold ofBlock at *
      go_enter Tryz.func87, Tryz.ntmps87
      go_wp2_with (first
        | (go_at_call 19; refine hn.mono ?_; clear hn; rintro e w1 ⟨v, rfl, hv, hb1⟩; have hct := contains_any w1 v S jN (own_texts hv (by omega)); rw [hin] at hct; obtain ⟨q, cap, rfl⟩ := own_shape hv)
        | (go_at_call 85; refine hct.mono ?_; clear hct; rintro e w2 ⟨rfl, rfl⟩)
        | (go_at_call 7; refine (hre.out _ hb1).mono ?_; clear hre; rintro e w3 ⟨v3, rfl, hr3, hb3⟩; obtain ⟨q3, cap3, rfl, hc3⟩ := own_copy hr3; have hB3 := hb1.trans (hb3.mono hb1.size))
        | (go_at_call 28; refine (hrs.out _ _ (bytesIn_of_own hr3 hby.out (by omega)) ⟨_, _, rfl, hc3⟩).mono ?_; clear hrs; rintro e w4 ⟨hR, hb4⟩; unfold RecsIs at hR; subst hR; have hB4 := hB3.trans (hb4.mono hB3.size)))
      go_returns
      exact ⟨_, [], rfl, h0.out.kept hB4, RowsAt.nil _ _, fun h => (by cases h), ((h0.out.below hB4).mono (by omega)).sub (fun g hg => hg.elim id (fun h => (rowsK_nil h).elim))⟩
    · have hrs := fun W v (hv : BytesIn W v b) hc => recs_any b v W hv hc (by omega)
      simp only [hrc] at hrs
      have hend : c ≤ b.length := recs_end hrc
      replace hrs : Hid _ := hrs
      replace hrc : Hid _ := hrc
      by_cases hcl : c < b.length
      · have hclI : (c : Int) < (b.length : Int) := by omega
        simp only [hcl, if_true]
        unfold ofBlock at *
        go_enter Tryz.func87, Tryz.ntmps87
        go_wp2_with (first
          | (go_at_call 19; refine hn.mono ?_; clear hn; rintro e w1 ⟨v, rfl, hv, hb1⟩; have hct := contains_any w1 v S jN (own_texts hv (by omega)); rw [hin] at hct; obtain ⟨q, cap, rfl⟩ := own_shape hv)
          | (go_at_call 85; refine hct.mono ?_; clear hct; rintro e w2 ⟨rfl, rfl⟩)
          | (go_at_call 7; refine (hre.out _ hb1).mono ?_; clear hre; rintro e w3 ⟨v3, rfl, hr3, hb3⟩; obtain ⟨q3, cap3, rfl, hc3⟩ := own_copy hr3; have hB3 := hb1.trans (hb3.mono hb1.size))
          | (go_at_call 28; refine (hrs.out _ _ (bytesIn_of_own hr3 hby.out (by omega)) ⟨_, _, rfl, hc3⟩).mono ?_; clear hrs; rintro e w4 ⟨hR, hb4⟩; obtain ⟨u, L, rfl, hRL, hLm⟩ := hR; obtain ⟨uq, ucap, rfl⟩ := own_shape hRL.row; have hB4 := hB3.trans (hb4.mono hB3.size)
             have h4 : Live w4 p n₀ m s (fun g => K g ∨ rowsK (.slice uq L.length ucap) L g) := (h0.out.below hB3).more hb4 (fun g hg => hg.imp id (fun h => hRL.lt h))
             have hcu := live_cut jN c h4 (by omega) (by omega) (by omega); replace hLm : Hid _ := hLm; replace h4 : Hid _ := h4)
          | (go_at_call 17; refine hcu.mono ?_; clear hcu; rintro e w5 ⟨rfl, hL5, hK5⟩))
        go_returns
        refine ⟨_, L, rfl, ((h0.out.kept hB4)).trans (hK5.sub (fun g hg => .inl hg)), ?_, fun _ => by rw [hLm.out]; rfl, hL5.mono (by omega)⟩
        exact rows_less (hRL.same (fun g hg => hK5.same g (.inr hg))) hB3.size
      · have hclI : ¬ (c : Int) < (b.length : Int) := by omega
        simp only [hcl, if_false]
        unfold ofBlock at *
        go_enter Tryz.func87, Tryz.ntmps87
        go_wp2_with (first
          | (go_at_call 19; refine hn.mono ?_; clear hn; rintro e w1 ⟨v, rfl, hv, hb1⟩; have hct := contains_any w1 v S jN (own_texts hv (by omega)); rw [hin] at hct; obtain ⟨q, cap, rfl⟩ := own_shape hv)
          | (go_at_call 85; refine hct.mono ?_; clear hct; rintro e w2 ⟨rfl, rfl⟩)
          | (go_at_call 7; refine (hre.out _ hb1).mono ?_; clear hre; rintro e w3 ⟨v3, rfl, hr3, hb3⟩; obtain ⟨q3, cap3, rfl, hc3⟩ := own_copy hr3; have hB3 := hb1.trans (hb3.mono hb1.size))
          | (go_at_call 28; refine (hrs.out _ _ (bytesIn_of_own hr3 hby.out (by omega)) ⟨_, _, rfl, hc3⟩).mono ?_; clear hrs; rintro e w4 ⟨hR, hb4⟩; obtain ⟨u, L, rfl, hRL, hLm⟩ := hR; obtain ⟨uq, ucap, rfl⟩ := own_shape hRL.row; have hB4 := hB3.trans (hb4.mono hB3.size)
             have h4 : Live w4 p n₀ m s (fun g => K g ∨ rowsK (.slice uq L.length ucap) L g) := (h0.out.below hB3).more hb4 (fun g hg => hg.imp id (fun h => hRL.lt h)); replace hLm : Hid _ := hLm; replace h4 : Hid _ := h4))
        go_returns
        exact ⟨_, L, rfl, h0.out.kept hB4, rows_less hRL hB3.size, fun _ => by rw [hLm.out]; rfl, h4.out.mono (by omega)⟩
end Go.Proofs.YtmcmagplaflegaaGreat

namespace Go.Proofs.YtmcmagplaflegaaGreat
open Go Go.RowKit Go.MapL Go.Poised

variable {p n₀ m : Nat} {s : DS} {w w' w'' : World} {K K' : Nat → Prop}

set_option maxRecDepth 100000 in
set_option maxHeartbeats 4000000 in
theorem readC_any (D Lb : Nat) (h : Live w p n₀ m s (fun g => K g ∨ g = Lb)) (hm : m < 268435456) (hd : s.dead = false) (hD : K D) (hLb : ¬ K Lb) (hLn : n₀ ≤ Lb) (hc : w.heap[D]? = some (.cells #[ofBlock p] 22)) (hl : w.heap[Lb]? = some (.cells #[.slice none 0 0] 53)) :
    Calls Tryz.prog 86 #[.pointer (some ⟨D, 0, none⟩), .pointer (some ⟨Lb, 0, none⟩)] w fun e w' => e = .returned (.int .i64 (readD s).2) ∧ Kept K n₀ w w' ∧ ∃ u L, w'.heap[Lb]? = some (.cells #[u] 53) ∧ RowsAt w' w.heap.size u L ∧ ((readD s).2 = 0 → L.map (·.2) = readL s) ∧ Live w' p n₀ (m + 2) (readD s).1 (fun g => K g ∨ g = Lb ∨ rowsK u L g) := by
  have hcell := cell_of hc
  have hDl := h.lt D (.inl hD)
  have hLl := h.lt Lb (.inr rfl)
  have hr := readJ_any h hm hd
  obtain ⟨cd, hcd⟩ : ∃ cd, (readD s).2 = cd := ⟨_, rfl⟩
  rw [hcd] at hr ⊢
  replace hcd : Hid _ := hcd
  replace hc : Hid _ := hc
  replace h : Hid _ := h
  unfold ofBlock at *
  go_enter Tryz.func86, Tryz.ntmps86
  go_wp2_with (go_at_call 87; refine hr.mono ?_; clear hr; rintro e w1 ⟨u, L, rfl, hK1, hR1, hm1, hL1⟩; have hl1 := (hK1.same Lb (.inr rfl)).trans hl; have hlc := cell_of hl1; have hlf := free_of hl1 0; replace hl1 : Hid _ := hl1; obtain ⟨uq, ucap, rfl⟩ := own_shape hR1.row)
  go_returns
  refine ⟨rfl, hK1.sub (fun g hg => .inl hg) |>.trans ⟨⟨rfl, rfl, rfl, by simp [World.setCell], fun g hg => Below.heap_setCell _ _ _ _ (fun e => by have e2 : g = Lb := e; omega)⟩, fun g hg => Below.heap_setCell _ _ _ _ (fun e => hLb (by have e2 : g = Lb := e; rw [← e2]; exact hg))⟩, _, L, (setCell_heap hl1.out).trans rfl, ?_, hm1, ?_⟩
  · refine hR1.same (fun g hg => Below.heap_setCell _ _ _ _ (fun e => ?_))
    have := (hR1.lt hg).1
    have e2 : g = Lb := e
    omega
  · refine (hL1.sub (K' := fun g => K g ∨ g = Lb ∨ rowsK _ L g) (fun g hg => by rcases hg with hg | hg | hg; exact .inl (.inl hg); exact .inl (.inr hg); exact .inr hg)).set (fun g _ hg => Below.heap_setCell _ _ _ _ (fun e => hg (.inr (.inl e)))) (by simp [World.setCell])
end Go.Proofs.YtmcmagplaflegaaGreat

namespace Go.Proofs.YtmcmagplaflegaaGreat
open Go Go.RowKit Go.MapL Go.Poised

variable {p n₀ m : Nat} {s : DS} {w w' w'' : World} {K K' : Nat → Prop}

theorem work_alive {x : ByteArray} {ok : Bool} {f : DS → Nat → DS} (hd : s.dead = false) (hf : ∀ i, (f s.tick i).dead = s.dead) (h : (s.work (ofRes s x ok) f).2 = 0) : (s.work (ofRes s x ok) f).1.dead = false := by
  unfold DS.work at h ⊢
  split
  · exact hd
  · rename_i i hi
    rw [hi] at h
    simp only at h
    split
    · rename_i h0; rw [if_pos h0] at h; cases h
    · simp only [hf]; exact hd
theorem dropNew_alive (hd : s.dead = false) (h : (dropNew s).2 = 0) : (dropNew s).1.dead = false := by
  unfold dropNew at h ⊢
  split
  · rename_i hi
    rw [if_pos hi] at h
    exact work_alive hd (fun _ => rfl) h
  · exact hd
set_option maxRecDepth 100000 in
set_option maxHeartbeats 4000000 in
theorem syncC_any (D : Nat) (h : Live w p n₀ m s K) (hm : m < 268435456) (_ : K D) (hc : w.heap[D]? = some (.cells #[ofBlock p] 22)) :
    Calls Tryz.prog 88 #[.pointer (some ⟨D, 0, none⟩)] w fun e w' => e = .returned (.int .i64 (s.sync jN).2) ∧ Live w' p n₀ m (s.sync jN).1 K ∧ Kept K n₀ w w' := by
  have hcell := cell_of hc
  have hsy := live_sync jN h (by omega)
  obtain ⟨cd, hcd⟩ : ∃ cd, (s.sync jN).2 = cd := ⟨_, rfl⟩
  rw [hcd] at hsy ⊢
  clear hc h
  replace hcd : Hid _ := hcd
  unfold ofBlock at *
  go_enter Tryz.func88, Tryz.ntmps88
  go_wp2_with (go_at_call 13; refine hsy.mono ?_; clear hsy; rintro e w1 ⟨rfl, hL1, hK1⟩)
  go_returns
  exact ⟨rfl, hL1, hK1⟩

/-- Open's four works. -/
def openWs (p D Lb : Nat) : List Wk := [⟨84, #[], #[.pointer (some ⟨D, 0, none⟩)]⟩, ⟨86, #[], #[.pointer (some ⟨D, 0, none⟩), .pointer (some ⟨Lb, 0, none⟩)]⟩, ⟨88, #[], #[.pointer (some ⟨D, 0, none⟩)]⟩, ⟨16, #[ofBlock p], #[]⟩]
/-- The kept blocks. -/
abbrev opK (K : Nat → Prop) (D WB : Nat) (g : Nat) : Prop := K g ∨ g = D ∨ g = WB
structure OI (K : Nat → Prop) (p n₀ D Lb WB m : Nat) (wD : World) (q : DS × Int) (w' : World) : Prop where
  zero : q.2 = 0
  live : Live w' p n₀ m q.1 (fun g => opK K D WB g ∨ g = Lb)
  kept : Kept (opK K D WB) n₀ wD w'
  l : w'.heap[Lb]? = some (.cells #[.slice none 0 0] 53)
structure OJ (K : Nat → Prop) (p n₀ D Lb WB m : Nat) (wD : World) (q : DS × Int) (T : List (List Nat)) (w' : World) : Prop where
  zero : q.2 = 0
  kept : Kept (opK K D WB) n₀ wD w'
  ex : ∃ u L, w'.heap[Lb]? = some (.cells #[u] 53) ∧ RowsAt w' wD.heap.size u L ∧ L.map (·.2) = T ∧ Live w' p n₀ m q.1 (fun g => opK K D WB g ∨ g = Lb ∨ rowsK u L g)
/-- What is left where a work fails. -/
structure OQ (K : Nat → Prop) (p n₀ D WB m : Nat) (wD : World) (q : DS × Int) (c : Int) (w' : World) : Prop where
  code : c = q.2
  live : Live w' p n₀ m q.1 (opK K D WB)
  kept : Kept (opK K D WB) n₀ wD w'
theorem OJ.step {D Lb WB : Nat} {wD : World} {s' : DS × Int} {T : List (List Nat)} {u : Value} {L : List (Value × List Nat)} {m' : Nat} (hk : Kept (opK K D WB) n₀ wD w) (hl : w.heap[Lb]? = some (.cells #[u] 53)) (hr : RowsAt w wD.heap.size u L) (hT : L.map (·.2) = T)
    (hL : Live w' p n₀ m' s'.1 (fun g => opK K D WB g ∨ g = Lb ∨ rowsK u L g)) (hK : Kept (fun g => opK K D WB g ∨ g = Lb ∨ rowsK u L g) n₀ w w') (h0 : s'.2 = 0) : OJ K p n₀ D Lb WB m' wD s' T w' :=
  ⟨h0, hk.trans (hK.sub (fun _ hg => .inl hg)), u, L, (hK.same Lb (.inr (.inl rfl))).trans hl, hr.same (fun g hg => hK.same g (.inr (.inr hg))), hT, hL⟩
theorem works_any (D Lb WB : Nat) (wD : World) (h : Live wD p n₀ m s (fun g => opK K D WB g ∨ g = Lb)) (hm : m < 134217728) (hd : s.dead = false) (hLb : ¬ opK K D WB Lb) (hLn : n₀ ≤ Lb)
    (hc : wD.heap[D]? = some (.cells #[ofBlock p] 22)) (hl : wD.heap[Lb]? = some (.cells #[.slice none 0 0] 53)) (hW : wD.heap[WB]? = some (.cells ((openWs p D Lb).map Wk.v).toArray 34)) :
    Calls Tryz.prog 83 #[.slice (some ⟨WB, 0, none⟩) 4 4] wD fun e w' => ∃ c : Int, e = .returned (.int .i64 c) ∧ (c = 0 → OJ K p n₀ D Lb WB (m + 3) wD (openD s) (openL s) w') ∧ (c ≠ 0 → OQ K p n₀ D WB (m + 3) wD (openD s) c w') := by
  have hDk : ∀ {w'}, Kept (opK K D WB) n₀ wD w' → w'.heap[D]? = some (.cells #[ofBlock p] 22) := fun hk => (hk.same D (.inr (.inl rfl))).trans hc
  obtain ⟨q2, hq2⟩ : ∃ q2, thenD (dropNew s) readD = q2 := ⟨_, rfl⟩
  obtain ⟨q3, hq3⟩ : ∃ q3, thenD q2 (fun s => s.sync jN) = q3 := ⟨_, rfl⟩
  have hq4 : openD s = thenD q3 DS.syncNames := by unfold openD; rw [if_neg (by rw [hd]; simp), hq2, hq3]
  refine first_any (openWs p D Lb) WB 4 (fun k w' => match k with
      | 0 => OI K p n₀ D Lb WB m wD (s, 0) w'
      | 1 => OI K p n₀ D Lb WB (m + 1) wD (dropNew s) w'
      | 2 => OJ K p n₀ D Lb WB (m + 3) wD q2 (openL s) w'
      | 3 => OJ K p n₀ D Lb WB (m + 3) wD q3 (openL s) w'
      | _ => OJ K p n₀ D Lb WB (m + 3) wD (openD s) (openL s) w')
    (fun c w' => OQ K p n₀ D WB (m + 3) wD (openD s) c w') wD ⟨rfl, h, Kept.refl _ _ _, hl⟩ (by show 4 ≤ 100; omega) ?_ ?_ ?_
  · intro k hk
    have hk4 : k < 4 := hk
    rcases k with _ | _ | _ | _ | k
    · exact enters_of Tryz.func84 (by kernel_rfl) rfl
    · exact enters_of Tryz.func86 (by kernel_rfl) rfl
    · exact enters_of Tryz.func88 (by kernel_rfl) rfl
    · exact enters_of Tryz.func16 (by kernel_rfl) rfl
    · omega
  · intro k w' hI hk
    have hkept : Kept (opK K D WB) n₀ wD w' := by
      rcases k with _ | _ | _ | _ | k
      · exact hI.kept
      · exact hI.kept
      · exact hI.kept
      · exact hI.kept
      · exact hI.kept
    have := (hkept.same WB (.inr (.inr rfl))).trans hW
    simp only [World.cell?, this, Option.isSome_none, Bool.false_eq_true, if_false]
    simp [hk]
  · intro k w' hk hI
    have hk4 : k < 4 := hk
    rcases k with _ | _ | _ | _ | k
    · have hI : OI K p n₀ D Lb WB m wD (s, 0) w' := hI
      refine (dropNew_any D hI.live (by omega) (.inl (.inr (.inl rfl))) (hDk hI.kept)).mono ?_
      rintro e w1 ⟨rfl, hL1, hK1⟩
      have hk1 := hI.kept.trans (hK1.sub (fun g hg => .inl hg))
      refine ⟨_, rfl, fun h0 => ⟨h0, hL1, hk1, (hK1.same Lb (.inr rfl)).trans hI.l⟩, fun h0 => ?_⟩
      rw [thenD_no h0] at hq2
      subst hq2
      rw [thenD_no h0] at hq3
      subst hq3
      rw [thenD_no h0] at hq4
      exact ⟨by rw [hq4], by rw [hq4]; exact (hL1.sub (fun g hg => .inl hg)).mono (by omega), hk1⟩
    · have hI : OI K p n₀ D Lb WB (m + 1) wD (dropNew s) w' := hI
      rw [thenD_yes hI.zero] at hq2
      refine (readC_any (K := opK K D WB) D Lb hI.live (by omega) (dropNew_alive hd hI.zero) (.inr (.inl rfl)) hLb hLn (hDk hI.kept) hI.l).mono ?_
      rintro e w1 ⟨rfl, hK1, u, L, hl1, hr1, ht1, hL1⟩
      rw [hq2] at ht1 hL1 ⊢
      have hk1 := hI.kept.trans hK1
      refine ⟨_, rfl, fun h0 => ⟨h0, hk1, u, L, hl1, rows_less hr1 hI.kept.below.size, ht1 h0, hL1.mono (by omega)⟩, fun h0 => ?_⟩
      rw [thenD_no h0] at hq3
      subst hq3
      rw [thenD_no h0] at hq4
      exact ⟨by rw [hq4], by rw [hq4]; exact (hL1.sub (fun g hg => .inl hg)).mono (by omega), hk1⟩
    · have hI : OJ K p n₀ D Lb WB (m + 3) wD q2 (openL s) w' := hI
      obtain ⟨h0, hk, u, L, hl2, hr2, ht2, hL2⟩ := hI
      rw [thenD_yes h0] at hq3
      refine (syncC_any D hL2 (by omega) (.inl (.inr (.inl rfl))) (hDk hk)).mono ?_
      rintro e w1 ⟨rfl, hL1, hK1⟩
      rw [hq3] at hL1 ⊢
      have hk1 := hk.trans (hK1.sub (fun g hg => .inl hg))
      refine ⟨_, rfl, fun h0 => OJ.step hk hl2 hr2 ht2 hL1 hK1 h0, fun h0 => ?_⟩
      rw [thenD_no h0] at hq4
      exact ⟨by rw [hq4], by rw [hq4]; exact (hL1.sub (fun g hg => .inl hg)), hk1⟩
    · have hI : OJ K p n₀ D Lb WB (m + 3) wD q3 (openL s) w' := hI
      obtain ⟨h0, hk, u, L, hl2, hr2, ht2, hL2⟩ := hI
      rw [thenD_yes h0] at hq4
      refine (live_syncNames hL2 (by omega)).mono ?_
      rintro e w1 ⟨rfl, hL1, hK1⟩
      rw [← hq4] at hL1 ⊢
      have hk1 := hk.trans (hK1.sub (fun g hg => .inl hg))
      exact ⟨_, rfl, fun h0 => OJ.step hk hl2 hr2 ht2 hL1 hK1 h0, fun h0 => ⟨rfl, hL1.sub (fun g hg => .inl hg), hk1⟩⟩
    · omega
end Go.Proofs.YtmcmagplaflegaaGreat

namespace Go.Proofs.YtmcmagplaflegaaGreat
open Go Go.RowKit Go.MapL Go.Poised

variable {p n₀ m : Nat} {s : DS} {w w' w'' : World} {K K' : Nat → Prop}
def JnlV (p l n : Nat) (v : Value) (w : World) : Prop := ∃ J, v = ofBlock J ∧ w.heap[J]? = some (.cells #[ofBlock p, .int .i64 l, .int .i64 l, .bool false] 134) ∧ n ≤ J
theorem JnlV.last {l n : Nat} {v : Value} (hR : Below w.heap.size w w') (h : JnlV p l n v w) : JnlV p l n v w' := by
  obtain ⟨J, h1, h2, h3⟩ := h
  exact ⟨J, h1, (hR.block J (Array.getElem?_eq_some_iff.1 h2).1).trans h2, h3⟩
/-- What Open tells. -/
structure OpenOk (w w' : World) (p n₀ m : Nat) (s' : DS) (T : List (List Nat)) (K : Nat → Prop) (e : Ending) : Prop where
  ex : ∃ J u L, e = .returned (.tuple #[ofBlock J, u, .int .i64 0]) ∧ JnlAt w' J p L.length L.length false ∧ RowsAt w' w.heap.size u L ∧ L.map (·.2) = T ∧ w.heap.size ≤ J ∧ Live w' p n₀ m s' (fun g => K g ∨ g = J ∨ rowsK u L g)
/-- The memory that Open has made ahead of its works. -/
def openW (p : Nat) (w wB : World) : World := (wB.alloc (.cells #[.slice none 0 0] 53)).alloc (.cells #[.func (.func 84) #[] #[.pointer (some ⟨w.heap.size, 0, none⟩)], .func (.func 86) #[] #[.pointer (some ⟨w.heap.size, 0, none⟩), .pointer (some ⟨wB.heap.size, 0, none⟩)], .func (.func 88) #[] #[.pointer (some ⟨w.heap.size, 0, none⟩)], .func (.func 16) #[.pointer (some ⟨p, 0, none⟩)] #[]] 34)
theorem open_works (w wB : World) (hb1 : Below (w.alloc (.cells #[ofBlock p] 22)).heap.size (w.alloc (.cells #[ofBlock p] 22)) wB) (hDb : wB.heap[w.heap.size]? = some (.cells #[ofBlock p] 22)) (h : Live w p n₀ m s K) (hm : m < 134217728) (hd : s.dead = false) :
    (Calls Tryz.prog 83 #[.slice (some ⟨wB.heap.size + 1, 0, none⟩) 4 4] (openW p w wB) fun e w' => ∃ c : Int, e = .returned (.int .i64 c) ∧ (c = 0 → OJ K p n₀ w.heap.size wB.heap.size (wB.heap.size + 1) (m + 3) (openW p w wB) (openD s) (openL s) w') ∧ (c ≠ 0 → OQ K p n₀ w.heap.size (wB.heap.size + 1) (m + 3) (openW p w wB) (openD s) c w')) ∧
    Below w.heap.size w (openW p w wB) ∧ (openW p w wB).heap[w.heap.size]? = some (.cells #[ofBlock p] 22) := by
  have hDl := (Array.getElem?_eq_some_iff.1 hDb).1
  have hA : Below w.heap.size w wB := ((Below.refl _ _).alloc (Nat.le_refl _) _).trans (hb1.mono (by simp))
  have hB : Below w.heap.size w (openW p w wB) := (hA.alloc hA.size _).alloc (by simp; have := hA.size; omega) _
  have hDW : (openW p w wB).heap[w.heap.size]? = some (.cells #[ofBlock p] 22) := (Below.heap_alloc _ _ _ (by simp; omega)).trans ((Below.heap_alloc _ _ _ hDl).trans hDb)
  have hLW : (openW p w wB).heap[wB.heap.size]? = some (.cells #[.slice none 0 0] 53) := (Below.heap_alloc _ _ _ (by simp)).trans (heap_new _ _)
  have hsz : (openW p w wB).heap.size = wB.heap.size + 2 := by simp [openW]
  have hWW : (openW p w wB).heap[wB.heap.size + 1]? = some (.cells ((openWs p w.heap.size wB.heap.size).map Wk.v).toArray 34) := by
    have := heap_new (wB.alloc (.cells #[.slice none 0 0] 53)) (.cells #[.func (.func 84) #[] #[.pointer (some ⟨w.heap.size, 0, none⟩)], .func (.func 86) #[] #[.pointer (some ⟨w.heap.size, 0, none⟩), .pointer (some ⟨wB.heap.size, 0, none⟩)], .func (.func 88) #[] #[.pointer (some ⟨w.heap.size, 0, none⟩)], .func (.func 16) #[.pointer (some ⟨p, 0, none⟩)] #[]] 34)
    rw [World.size_alloc] at this
    exact this
  refine ⟨works_any w.heap.size wB.heap.size (wB.heap.size + 1) (openW p w wB) (h.more hB (fun g hg => ?_)) hm hd ?_ (Nat.le_trans h.base hA.size) hDW hLW hWW, hB, hDW⟩
  · rcases hg with (hg | rfl | rfl) | rfl
    · exact .inl hg
    · exact .inr ⟨Nat.le_refl _, by omega⟩
    · exact .inr ⟨by omega, by omega⟩
    · exact .inr ⟨by omega, by omega⟩
  · rintro (hg | hg | hg)
    · have := h.lt _ hg; omega
    · omega
    · omega
theorem open_ok (w wB : World) (hb1 : Below (w.alloc (.cells #[ofBlock p] 22)).heap.size (w.alloc (.cells #[ofBlock p] 22)) wB) (hDb : wB.heap[w.heap.size]? = some (.cells #[ofBlock p] 22)) (h : Live w p n₀ m s K) (hm : m < 134217728) (hd : s.dead = false) (hz : (openD s).2 = 0) :
    Calls Tryz.prog 83 #[.slice (some ⟨wB.heap.size + 1, 0, none⟩) 4 4] (openW p w wB) fun e w' => e = .returned (.int .i64 0) ∧ (openW p w wB).heap[w.heap.size]? = some (.cells #[ofBlock p] 22) ∧ Below w.heap.size w (openW p w wB) ∧ OJ K p n₀ w.heap.size wB.heap.size (wB.heap.size + 1) (m + 3) (openW p w wB) (openD s) (openL s) w' := by
  obtain ⟨h1, h2, h3⟩ := open_works w wB hb1 hDb h hm hd
  refine h1.mono ?_
  rintro e w' ⟨c, rfl, ho, hq⟩
  by_cases hc : c = 0
  · exact ⟨by rw [hc], h3, h2, ho hc⟩
  · exact absurd ((hq hc).code.trans hz) hc
theorem open_bad (w wB : World) (hb1 : Below (w.alloc (.cells #[ofBlock p] 22)).heap.size (w.alloc (.cells #[ofBlock p] 22)) wB) (hDb : wB.heap[w.heap.size]? = some (.cells #[ofBlock p] 22)) (h : Live w p n₀ m s K) (hm : m < 134217728) (hd : s.dead = false) (hz : ¬ (openD s).2 = 0) :
    Calls Tryz.prog 83 #[.slice (some ⟨wB.heap.size + 1, 0, none⟩) 4 4] (openW p w wB) fun e w' => ∃ c : Int, e = .returned (.int .i64 c) ∧ c ≠ 0 ∧ c = (openD s).2 ∧ Kept K n₀ w w' ∧ Live w' p n₀ (m + 3) (openD s).1 K := by
  obtain ⟨h1, h2, h3⟩ := open_works w wB hb1 hDb h hm hd
  refine h1.mono ?_
  rintro e w' ⟨c, rfl, ho, hq⟩
  by_cases hc : c = 0
  · exact absurd (ho hc).zero hz
  · obtain ⟨g1, g2, g3⟩ := hq hc
    exact ⟨c, rfl, hc, g1, (h.kept h2).trans (g3.sub (fun g hg => .inl hg)), g2.sub (fun g hg => .inl hg)⟩
set_option maxRecDepth 100000 in
set_option maxHeartbeats 8000000 in
theorem open_any (h : Live w p n₀ m s K) (hm : m < 134217728) :
    Calls Tryz.prog 36 #[ofBlock p] w fun e w' => Kept K n₀ w w' ∧ ((openD s).2 = 0 → OpenOk w w' p n₀ (m + 3) (openD s).1 (openL s) K e) ∧
      ((openD s).2 ≠ 0 → e = .returned (.tuple #[.pointer none, .slice none 0 0, .int .i64 (openD s).2]) ∧ Live w' p n₀ (m + 3) (openD s).1 K) := by
  have hA0 : Below w.heap.size w (w.alloc (.cells #[ofBlock p] 22)) := (Below.refl _ _).alloc (Nat.le_refl _) _
  have hrd := live_read jN (h.below hA0)
  have hmf : ∀ (fn : Fn) (first cap : Array Value) (w : World), (Instr.makeFunc fn first cap).run Tryz.prog w = .ok (.func fn first cap) w := fun _ _ _ _ => rfl
  by_cases hd : s.dead = true
  · have e1 : readRes s jN = ([], 51) := by unfold readRes; rw [if_pos hd]
    have e2 : openD s = (s, 51) := by unfold openD; rw [if_pos hd]
    rw [e1] at hrd
    rw [e2]
    simp only at hrd ⊢
    replace h : Hid _ := h
    replace hA0 : Hid _ := hA0
    unfold ofBlock at *
    go_enter Tryz.func36, Tryz.ntmps36
    go_wp2_with (go_at_call 7; refine hrd.mono ?_; clear hrd; rintro e w1 ⟨v, rfl, hv, hb1⟩; obtain ⟨q, cap, rfl⟩ := own_shape hv)
    go_returns
    have hB := hA0.out.trans (hb1.mono (by simp))
    exact ⟨h.out.kept hB, fun h => (by cases h), fun _ => ⟨rfl, (h.out.below hB).mono (by omega)⟩⟩
  · have hd : s.dead = false := by simpa using hd
    obtain ⟨cc, hcc, hc1, hc2⟩ : ∃ cc, (readRes s jN).2 = cc ∧ cc ≠ 1 ∧ cc ≠ 51 := by
      refine ⟨_, rfl, ?_, ?_⟩
      · unfold readRes; rw [hd]; simp only [Bool.false_eq_true, if_false]; split <;> simp
      · unfold readRes; rw [hd]; simp only [Bool.false_eq_true, if_false]; split <;> simp
    rw [hcc] at hrd
    have hcb1 : (cc == 1) = false := by simpa using hc1
    have hcb2 : (cc == 51) = false := by simpa using hc2
    clear hcc hc1 hc2
    replace hd : Hid _ := hd
    replace h : Hid _ := h
    replace hA0 : Hid _ := hA0
    generalize hbl : (readRes s jN).1 = bl at hrd
    clear hbl
    by_cases hz : (openD s).2 = 0
    · have hz' : Hid _ := hz
      simp only [hz, ne_eq, not_true_eq_false, false_implies, true_implies, and_true] 
      clear hz
      unfold ofBlock at hrd ⊢
      go_enter Tryz.func36, Tryz.ntmps36
      go_wp2_with (first
        | (go_at_call 7; refine hrd.mono ?_; clear hrd; rintro e wB ⟨v, rfl, hv, hb1⟩; obtain ⟨q, cap, rfl⟩ := own_shape hv; clear hv
           have hDw : w.heap.size < (w.alloc (.cells #[ofBlock p] 22)).heap.size := (by simp)
           have hDb : wB.heap[w.heap.size]? = some (.cells #[ofBlock p] 22) := (hb1.block _ hDw).trans (heap_new _ _)
           have hDc := cell_of hDb
           have hDl := (Array.getElem?_eq_some_iff.1 hDb).1
           replace hDb : Hid _ := hDb
           unfold ofBlock at hDc)
        | (go_at_call 83; refine (open_ok w wB hb1 hDb.out h.out hm hd.out hz'.out).mono ?_; rintro e we ⟨rfl, hbe, hBw, hJ⟩
           obtain ⟨hz0, hke, u, L, hle, hre, hte, hLe⟩ := hJ
           obtain ⟨uq, ucap, rfl⟩ := own_shape hre.row
           have hDe := (hke.same w.heap.size (.inr (.inl rfl))).trans hbe; have hDc2 := cell_of hDe; have hLc := cell_of hle; unfold ofBlock at hDc2))
      have hDl2 := (Array.getElem?_eq_some_iff.1 hDe).1
      have hLl2 := (Array.getElem?_eq_some_iff.1 hle).1
      refine poised_whole (fun w2 => Below we.heap.size we w2) (fun w1 w2 => Below w1.heap.size w1 w2) (by kernel_rfl) (by kernel_rfl) (by kernel_rfl) (fun _ _ h k => h.trans (k.mono h.size)) ((Below.refl _ _).drew) ?_
      apply Exists.intro
      apply walk_det
      · rfl
      · intro w2 hC hF
        have hca := (hC.cell (p := ⟨w.heap.size, 0, none⟩) (by omega)).trans hDc2
        have hcb := (hC.cell (p := ⟨wB.heap.size, 0, none⟩) (by omega)).trans hLc
        simp only [upon]
        go_simp
        exact ⟨Below.refl _ _, rfl⟩
      simp only [put_lit, List.set_cons_succ, List.set_cons_zero]
      apply walk_det
      · rfl
      · intro w2 hC hF
        have hca := (hC.cell (p := ⟨w.heap.size, 0, none⟩) (by omega)).trans hDc2
        have hcb := (hC.cell (p := ⟨wB.heap.size, 0, none⟩) (by omega)).trans hLc
        simp only [upon]
        go_simp
        exact ⟨Below.refl _ _, rfl⟩
      simp only [put_lit, List.set_cons_succ, List.set_cons_zero]
      apply walk_det
      · rfl
      · intro w2 hC hF
        simp only [upon]
        go_simp
        exact ⟨Below.refl _ _, rfl⟩
      simp only [put_lit, List.set_cons_succ, List.set_cons_zero]
      apply walk_det
      · rfl
      · intro w2 hC hF
        have hca := (hC.cell (p := ⟨w.heap.size, 0, none⟩) (by omega)).trans hDc2
        have hcb := (hC.cell (p := ⟨wB.heap.size, 0, none⟩) (by omega)).trans hLc
        simp only [upon]
        go_simp
        exact ⟨Below.refl _ _, rfl⟩
      simp only [put_lit, List.set_cons_succ, List.set_cons_zero]
      apply walk_det
      · rfl
      · intro w2 hC hF
        simp only [upon]
        go_simp
        exact ⟨Below.refl _ _, rfl⟩
      simp only [put_lit, List.set_cons_succ, List.set_cons_zero]
      apply walk_det
      · rfl
      · intro w2 hC hF
        simp only [upon]
        go_simp
        exact ⟨Below.refl _ _, rfl⟩
      simp only [put_lit, List.set_cons_succ, List.set_cons_zero]
      apply walk_free (fun v w' => JnlV p L.length we.heap.size v w') (fun _ _ _ _ hR h => JnlV.last hR h)
      · rfl
      · intro w2 hC hF
        simp only [upon]
        go_simp
        exact ⟨(Below.refl _ _).alloc (Nat.le_refl _) _, w2.heap.size, rfl, heap_new _ _, hC.size⟩
      intro v6
      simp only [put_lit, List.set_cons_succ, List.set_cons_zero]
      apply walk_det
      · rfl
      · intro w2 hC hF
        have hca := (hC.cell (p := ⟨w.heap.size, 0, none⟩) (by omega)).trans hDc2
        have hcb := (hC.cell (p := ⟨wB.heap.size, 0, none⟩) (by omega)).trans hLc
        simp only [upon]
        go_simp
        exact ⟨Below.refl _ _, rfl⟩
      simp only [put_lit, List.set_cons_succ, List.set_cons_zero]
      apply walk_free (fun v w' => JnlV p L.length we.heap.size v w') (fun _ _ _ _ hR h => JnlV.last hR h)
      · rfl
      · intro w2 hC hF
        simp only [upon]
        go_simp
        exact ⟨Below.refl _ _, hF 6 (by kernel_rfl)⟩
      intro v8
      simp only [put_lit, List.set_cons_succ, List.set_cons_zero]
      apply walk_det
      · rfl
      · intro w2 hC hF
        simp only [upon]
        go_simp
        exact ⟨Below.refl _ _, rfl⟩
      simp only [put_lit, List.set_cons_succ, List.set_cons_zero]
      apply walk_det
      · rfl
      · intro w2 hC hF
        simp only [upon]
        go_simp
        exact ⟨Below.refl _ _, rfl⟩
      simp only [put_lit, List.set_cons_succ, List.set_cons_zero]
      apply walk_nil
      intro w9 hC9 hF9
      obtain ⟨J, hJe, hJ, hJ2⟩ : ∃ J, v8 = ofBlock J ∧ w9.heap[J]? = some (.cells #[ofBlock p, .int .i64 L.length, .int .i64 L.length, .bool false] 134) ∧ we.heap.size ≤ J := hF9 8
      subst hJe
      unfold ofBlock
      go_wp2
      go_returns
      have hB9 := hBw
      refine ⟨((h.out.kept hBw).trans (hke.sub (fun g hg => .inl hg))).trans (.of_below hC9 hLe.base (fun g hg => hLe.lt g (.inl (.inl hg)))), ⟨J, _, L, rfl, hJ, rows_less (hre.below hC9) hBw.size, hte, Nat.le_trans (Nat.le_trans hBw.size hke.below.size) hJ2, hLe.more hC9 (fun g hg => ?_)⟩⟩
      rcases hg with hg | rfl | hg
      · exact .inl (.inl (.inl hg))
      · exact .inr ⟨hJ2, (Array.getElem?_eq_some_iff.1 hJ).1⟩
      · exact .inl (.inr (.inr hg))
    · have hz' : Hid _ := hz
      simp only [hz, ne_eq, not_false_eq_true, false_implies, true_implies, true_and]
      unfold ofBlock at hrd ⊢
      go_enter Tryz.func36, Tryz.ntmps36
      go_wp2_with (first
        | (go_at_call 7; refine hrd.mono ?_; clear hrd; rintro e wB ⟨v, rfl, hv, hb1⟩; obtain ⟨q, cap, rfl⟩ := own_shape hv; clear hv
           have hDw : w.heap.size < (w.alloc (.cells #[ofBlock p] 22)).heap.size := (by simp)
           have hDb : wB.heap[w.heap.size]? = some (.cells #[ofBlock p] 22) := (hb1.block _ hDw).trans (heap_new _ _)
           have hDc := cell_of hDb
           have hDl := (Array.getElem?_eq_some_iff.1 hDb).1
           replace hDb : Hid _ := hDb
           unfold ofBlock at hDc)
        | (go_at_call 83; refine (open_bad w wB hb1 hDb.out h.out hm hd.out hz'.out).mono ?_; rintro e we ⟨c, rfl, hcz, hQ⟩; have hcb : (c != 0) = true := (by simpa using hcz)))
      go_returns
      exact ⟨hQ.2.1, rfl, hQ.2.2⟩
end Go.Proofs.YtmcmagplaflegaaGreat
