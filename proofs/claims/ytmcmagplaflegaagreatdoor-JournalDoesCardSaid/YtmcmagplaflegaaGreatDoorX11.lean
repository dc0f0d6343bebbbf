/-
  TURNED BITS, in plain Lean. Conditions: those of each theorem.
  TURNED BITS ARE SEEN: the statement, walked. Conditions: those of each theorem.
-/
import Derived.Test.YtmcmagplaflegaaGreatDoorX10

namespace Go.Proofs.YtmcmagplaflegaaGreatDoor
open Go Go.RowKit Go.MapL Go.Poised

theorem mul_xor (k a b : Nat) : 2 ^ k * (a ^^^ b) = 2 ^ k * a ^^^ 2 ^ k * b := by
  apply Nat.eq_of_testBit_eq
  intro i
  rw [Nat.testBit_two_pow_mul, Nat.testBit_xor, Nat.testBit_xor, Nat.testBit_two_pow_mul, Nat.testBit_two_pow_mul]
  by_cases h : k ≤ i <;> simp [h]
theorem le_cons (c : Nat) (l : List Nat) (hc : c < 256) : le (c :: l) = c ^^^ 2 ^ 8 * le l := low_xor c (le l) 8 hc
theorem le_set : ∀ (l : List Nat) (k x : Nat), k < l.length → (∀ y ∈ l, y < 256) → x < 256 → le (l.set k (l.getD k 0 ^^^ x)) = le l ^^^ 2 ^ (8 * k) * x
  | [], k, x, h, _, _ => by simp at h
  | c :: l, 0, x, _, hl, hx => by
    have hc := hl c (.head _)
    have h2 : c ^^^ x < 256 := Nat.xor_lt_two_pow (n := 8) hc hx
    show le ((c ^^^ x) :: l) = _
    rw [le_cons _ _ h2, le_cons _ _ hc, Nat.mul_zero, Nat.pow_zero, Nat.one_mul, Nat.xor_assoc, Nat.xor_comm x, ← Nat.xor_assoc]
  | c :: l, k + 1, x, h, hl, hx => by
    have hc := hl c (.head _)
    have ih := le_set l k x (by simpa using h) (fun y hy => hl y (.tail _ hy)) hx
    show le (c :: l.set k (l.getD k 0 ^^^ x)) = _
    rw [le_cons _ _ hc, le_cons _ _ hc, ih, mul_xor, ← Nat.mul_assoc, ← Nat.pow_add, show 8 + 8 * k = 8 * (k + 1) by omega, Nat.xor_assoc]
variable {s : DS} {i mark : Nat} {B : List Nat}
theorem JS.turn (h : JS s i B mark) (k bit : Nat) (hk : k < B.length) (hb : bit ≤ 7) : s.turn jN k bit = (s.setf i ⟨B.set k (B.getD k 0 ^^^ 2 ^ bit), mark⟩, 0) := by
  unfold DS.turn
  rw [h.dead, h.fileN]
  simp only [Bool.false_eq_true, if_false, h.file, Int.toNat_natCast]
  rw [if_neg (by omega)]
/-- The journal's file with some bits turned, from the f-th on. -/
structure Turned (s : DS) (B : List Nat) (f W : Nat) : Prop where
  ex : ∃ B', JS s 1 B' B.length ∧ B'.length = B.length ∧ (∀ x ∈ B', x < 256) ∧ le B' = le B ^^^ 2 ^ f * W
  fails : s.fails = -1
theorem Turned.skip {f k b : Nat} (h : Turned s B f (b % 2 ^ k)) (hb : b / 2 ^ k % 2 = 0) : Turned s B f (b % 2 ^ (k + 1)) := by
  have e : b % 2 ^ (k + 1) = b % 2 ^ k := by
    rw [Nat.pow_succ, Nat.mod_mul, hb, Nat.mul_zero, Nat.add_zero]
  rw [e]; exact h
theorem Turned.step {f k b : Nat} (h : Turned s B f (b % 2 ^ k)) (hb : b / 2 ^ k % 2 = 1) (hlt : f + k < 8 * B.length) :
    Turned (s.turn jN (((f + k) / 8 : Nat) : Int) (((f + k) % 8 : Nat) : Int)).1 B f (b % 2 ^ (k + 1)) := by
  obtain ⟨⟨B', h1, h2, h3, h4⟩, h5⟩ := h
  have hk : (f + k) / 8 < B'.length := by omega
  have hbit : (f + k) % 8 ≤ 7 := by omega
  rw [h1.turn _ _ hk hbit]
  have hp : 2 ^ ((f + k) % 8) < 256 := Nat.pow_lt_pow_right (n := 8) (by omega) (by omega)
  refine ⟨⟨_, h1.setf _, by rw [List.length_set, h2], fun x hx => ?_, ?_⟩, h5⟩
  · rcases List.mem_or_eq_of_mem_set hx with hx | rfl
    · exact h3 x hx
    · refine Nat.xor_lt_two_pow (n := 8) ?_ hp
      rw [List.getD_eq_getElem?_getD, List.getElem?_eq_getElem hk]
      exact h3 _ (List.getElem_mem hk)
  · have e : b % 2 ^ (k + 1) = b % 2 ^ k ^^^ 2 ^ k * 1 := by
      rw [Nat.pow_succ, Nat.mod_mul, hb, low_xor _ _ _ (Nat.mod_lt _ (Nat.two_pow_pos k))]
    show le (B'.set _ _) = _
    rw [le_set B' _ _ hk h3 hp, h4, e, mul_xor, Nat.mul_one, Nat.xor_assoc, ← Nat.pow_add, ← Nat.pow_add, show 8 * ((f + k) / 8) + (f + k) % 8 = f + k by omega]
theorem turned_count {k b t : Nat} (_ : t = 0 ↔ b % 2 ^ k = 0) (hb : b / 2 ^ k % 2 = 1) : t + 1 = 0 ↔ b % 2 ^ (k + 1) = 0 := by
  have e : b % 2 ^ (k + 1) = b % 2 ^ k + 2 ^ k * 1 := by rw [Nat.pow_succ, Nat.mod_mul, hb]
  have := Nat.two_pow_pos k
  rw [e]; omega
theorem turned_none {k b t : Nat} (h : t = 0 ↔ b % 2 ^ k = 0) (hb : b / 2 ^ k % 2 = 0) : t = 0 ↔ b % 2 ^ (k + 1) = 0 := by
  have e : b % 2 ^ (k + 1) = b % 2 ^ k := by rw [Nat.pow_succ, Nat.mod_mul, hb, Nat.mul_zero, Nat.add_zero]
  rw [e]; exact h
/-- Opened: none turned, or some. -/
theorem Turned.open_same {L : List (List Nat)} {f : Nat} (h : Turned s (listB 1 L) f 0) (hl : L.length < 1000000000) (hb : ∀ b ∈ L, b.length ≤ 262144) (hby : ∀ b ∈ L, ∀ x ∈ b, x < 256) : (openD s).2 = 0 ∧ openL s = L := by
  obtain ⟨⟨B', h1, h2, h3, h4⟩, h5⟩ := h
  rw [Nat.mul_zero, Nat.xor_zero] at h4
  have e := le_inj _ _ h2 h3 (listB_byte L 1 hby) h4
  subst e
  obtain ⟨g1, g2, _⟩ := h1.open h5 (recs_all L hl hb)
  exact ⟨g1, g2⟩
theorem Turned.open_seen {L : List (List Nat)} {f W : Nat} (h : Turned s (listB 1 L) f W) (hW : W < 4294967296) (h0 : W ≠ 0) (hl : L.length < 1000000000) (hb : ∀ b ∈ L, b.length ≤ 262144) (hby : ∀ b ∈ L, ∀ x ∈ b, x < 256) : (openD s).2 = 70 := by
  obtain ⟨⟨B', h1, h2, h3, h4⟩, h5⟩ := h
  have hn := recs_seen L (2 ^ f * W) B' hl hb hby h3 h2 h4 ⟨f, W, hW, rfl⟩ (Nat.mul_ne_zero (Nat.pos_iff_ne_zero.1 (Nat.two_pow_pos _)) h0)
  unfold openD
  rw [if_neg (by rw [h1.dead]; simp), h1.drops, thenD_yes (q := (s, 0)) rfl, h1.readsD, hn]
  simp only
  rw [thenD_no (q := (s, 70)) (by simp), thenD_no (q := (s, 70)) (by simp)]
theorem sizesB_zero : ∀ (L : List (List Nat)), sizesB L = 0 ↔ L.length = 0
  | [] => by simp [sizesB]
  | b :: L => by unfold sizesB; simp
end Go.Proofs.YtmcmagplaflegaaGreatDoor

namespace Go.Proofs.YtmcmagplaflegaaGreatDoor
open Go Go.RowKit Go.MapL Go.Poised

/-- A list's first ones, that lie below. -/
structure FirstAt (w : World) (n : Nat) (u : Value) (M : List (Value × List Nat)) (T : List (List Nat)) : Prop where
  rows : RowsAt w n u M
  eq : M.map (·.2) = T
  each : ∀ l ∈ T, (∀ x ∈ l, x < 256) ∧ l.length ≤ 200
  few : T.length ≤ 20
theorem some_first (v : Value) (A : List (Value × List Nat)) (w : World) (hA : ArgR w v A) :
    Calls Tryz.prog 8 #[v] w fun e w' => ∃ u M, e = .returned u ∧ FirstAt w' w.heap.size u M (firstOnes (A.map (·.2))) ∧ Below w.heap.size w w' := by
  obtain ⟨hin, hn20⟩ := firstOnes_in (L := A.map (·.2)) (fun l hl x hx => by
    obtain ⟨q, hq, rfl⟩ := List.mem_map.1 hl
    exact (hA.2.2 q hq).1.1 x hx)
  refine (some_any v A w hA).mono ?_
  rintro e w' ⟨u, M, rfl, h1, h2, h3⟩
  exact ⟨u, M, rfl, ⟨h1, h2, hin, hn20⟩, h3⟩
theorem FirstAt.same {w w' : World} {n b : Nat} {u : Value} {M : List (Value × List Nat)} {T : List (List Nat)} (h : FirstAt w n u M T) (hb : w.heap.size ≤ b) (hB : Below b w w') : FirstAt w' n u M T :=
  ⟨h.rows.same (fun g hg => hB.block g (Nat.lt_of_lt_of_le (h.rows.lt hg).2 hb)), h.eq, h.each, h.few⟩
theorem FirstAt.len {w : World} {n : Nat} {u : Value} {M : List (Value × List Nat)} {T : List (List Nat)} (h : FirstAt w n u M T) : M.length = T.length := by rw [← h.eq, List.length_map]
theorem FirstAt.list {w : World} {n : Nat} {u : Value} {M : List (Value × List Nat)} {T : List (List Nat)} (h : FirstAt w n u M T) : ListIn w u M :=
  h.rows.list (fun q hq => (h.each q.2 (by rw [← h.eq]; exact List.mem_map_of_mem hq)).1) (fun q hq => by have := (h.each q.2 (by rw [← h.eq]; exact List.mem_map_of_mem hq)).2; omega)
/-- One of them. -/
theorem FirstAt.at {w : World} {n : Nat} {q : Option Addr} {cap : Nat} {M : List (Value × List Nat)} {T : List (List Nat)} (h : FirstAt w n (.slice q M.length cap) M T) (k : Nat) (hk : k < M.length) :
    ∃ g xv xl, q = some ⟨g, 0, none⟩ ∧ w.cell? ⟨g, k, none⟩ = some xv ∧ BytesIn w xv xl ∧ (∃ xq xcap, xv = .slice xq xl.length xcap) ∧ T.take (k + 1) = T.take k ++ [xl] ∧ (∀ x ∈ xl, x < 256) ∧ xl.length ≤ 200 := by
  have hkT : k < T.length := by rw [← h.len]; exact hk
  obtain ⟨g, hg⟩ : ∃ g, q = some ⟨g, 0, none⟩ := by
    rcases h.rows.row.2 with ⟨_, h0⟩ | ⟨g, c, cu, e, _⟩
    · omega
    · cases e; exact ⟨g, rfl⟩
  subst hg
  have hx := h.rows.each M[k] (List.getElem_mem hk)
  have hMT : M[k].2 = T[k] := by
    have : (M.map (·.2))[k]? = T[k]? := by rw [h.eq]
    simpa [hk, hkT] using this
  have hxin := h.each T[k] (List.getElem_mem hkT)
  rw [← hMT] at hxin
  refine ⟨g, M[k].1, M[k].2, rfl, ?_, row_bytes hx hxin.1 (by omega), own_shape hx, by rw [hMT, List.take_succ_eq_append_getElem hkT], hxin.1, hxin.2⟩
  have := h.rows.row.cells (g := g) rfl k M[k].1 (by simp [hk])
  rw [Addr.add_lit, Nat.zero_add] at this
  exact this
theorem JS.mono {s : DS} {i mark mark' : Nat} {B : List Nat} (h : JS s i B mark) (e : mark' = mark) : JS s i B mark' := by rw [e]; exact h
/-- A journal that is opened on a new disk. -/
def jnew (room : Nat) : Jn := ⟨(openD (DS.new room)).1, 0, 0, false⟩
theorem jnew_good (room : Nat) : JG (jnew room) 1 [] 0 ∧ (jnew room).s.room = room := by
  obtain ⟨o1, o2, o3, o4, o5, o6⟩ := open_new room
  exact ⟨⟨rfl, rfl, o3, o5⟩, o4⟩
end Go.Proofs.YtmcmagplaflegaaGreatDoor
