/-
  TURNED BITS, in plain Lean. Conditions: those of each theorem.
  TURNED BITS ARE SEEN: the statement, walked. Conditions: those of each theorem.
-/
import Derived.Test.YtmcmagplaflegaaGreatX10

namespace Go.Proofs.YtmcmagplaflegaaGreat
open Go Go.RowKit Go.MapL Go.Poised

theorem mul_xor (k a b : Nat) : 2 ^ k * (a ^^^ b) = 2 ^ k * a ^^^ 2 ^ k * b := by
  apply Nat.eq_of_testBit_eq
  intro i
  rw [Nat.testBit_two_pow_mul, Nat.testBit_xor, Nat.testBit_xor, Nat.testBit_two_pow_mul, Nat.testBit_two_pow_mul]
  by_cases h : k ≤ i <;> simp [h]
theorem le_cons (c : Nat) (l : List Nat) (hc : c < 256) : le (c :: l) = c ^^^ 2 ^ 8 * le l := low_xor c (le l) 8 hc
theorem le_set : ∀ (l : List Nat) (k x : Nat), k < l.length → (∀ y ∈ l, y < 256) → x < 256 → le (l.set k (l.getD k 0 ^^^ x)) = le l ^^^ 2 ^ (8 * k) * x
  | [], k, x, h, _, _ => by simp at h
  | c :: l, 0, x, _, hl, hx => by
    have hc := hl c (.head _)
    have h2 : c ^^^ x < 256 := Nat.xor_lt_two_pow (n := 8) hc hx
    show le ((c ^^^ x) :: l) = _
    rw [le_cons _ _ h2, le_cons _ _ hc, Nat.mul_zero, Nat.pow_zero, Nat.one_mul, Nat.xor_assoc, Nat.xor_comm x, ← Nat.xor_assoc]
  | c :: l, k + 1, x, h, hl, hx => by
    have hc := hl c (.head _)
    have ih := le_set l k x (by simpa using h) (fun y hy => hl y (.tail _ hy)) hx
    show le (c :: l.set k (l.getD k 0 ^^^ x)) = _
    rw [le_cons _ _ hc, le_cons _ _ hc, ih, mul_xor, ← Nat.mul_assoc, ← Nat.pow_add, show 8 + 8 * k = 8 * (k + 1) by omega, Nat.xor_assoc]
variable {s : DS} {i mark : Nat} {B : List Nat}
theorem JS.turn (h : JS s i B mark) (k bit : Nat) (hk : k < B.length) (hb : bit ≤ 7) : s.turn jN k bit = (s.setf i ⟨B.set k (B.getD k 0 ^^^ 2 ^ bit), mark⟩, 0) := by
  unfold DS.turn
  rw [h.dead, h.fileN]
  simp only [Bool.false_eq_true, if_false, h.file, Int.toNat_natCast]
  rw [if_neg (by omega)]
/-- The journal's file with some bits turned, from the f-th on. -/
structure Turned (s : DS) (B : List Nat) (f W : Nat) : Prop where
  ex : ∃ B', JS s 1 B' B.length ∧ B'.length = B.length ∧ (∀ x ∈ B', x < 256) ∧ le B' = le B ^^^ 2 ^ f * W
  fails : s.fails = -1
theorem Turned.skip {f k b : Nat} (h : Turned s B f (b % 2 ^ k)) (hb : b / 2 ^ k % 2 = 0) : Turned s B f (b % 2 ^ (k + 1)) := by
  have e : b % 2 ^ (k + 1) = b % 2 ^ k := by
    rw [Nat.pow_succ, Nat.mod_mul, hb, Nat.mul_zero, Nat.add_zero]
  rw [e]; exact h
theorem Turned.step {f k b : Nat} (h : Turned s B f (b % 2 ^ k)) (hb : b / 2 ^ k % 2 = 1) (hlt : f + k < 8 * B.length) :
    Turned (s.turn jN (((f + k) / 8 : Nat) : Int) (((f + k) % 8 : Nat) : Int)).1 B f (b % 2 ^ (k + 1)) := by
  obtain ⟨⟨B', h1, h2, h3, h4⟩, h5⟩ := h
  have hk : (f + k) / 8 < B'.length := by omega
  have hbit : (f + k) % 8 ≤ 7 := by omega
  rw [h1.turn _ _ hk hbit]
  have hp : 2 ^ ((f + k) % 8) < 256 := Nat.pow_lt_pow_right (n := 8) (by omega) (by omega)
  refine ⟨⟨_, h1.setf _, by rw [List.length_set, h2], fun x hx => ?_, ?_⟩, h5⟩
  · rcases List.mem_or_eq_of_mem_set hx with hx | rfl
    · exact h3 x hx
    · refine Nat.xor_lt_two_pow (n := 8) ?_ hp
      rw [List.getD_eq_getElem?_getD, List.getElem?_eq_getElem hk]
      exact h3 _ (List.getElem_mem hk)
  · have e : b % 2 ^ (k + 1) = b % 2 ^ k ^^^ 2 ^ k * 1 := by
      rw [Nat.pow_succ, Nat.mod_mul, hb, low_xor _ _ _ (Nat.mod_lt _ (Nat.two_pow_pos k))]
    show le (B'.set _ _) = _
    rw [le_set B' _ _ hk h3 hp, h4, e, mul_xor, Nat.mul_one, Nat.xor_assoc, ← Nat.pow_add, ← Nat.pow_add, show 8 * ((f + k) / 8) + (f + k) % 8 = f + k by omega]
theorem turned_count {k b t : Nat} (_ : t = 0 ↔ b % 2 ^ k = 0) (hb : b / 2 ^ k % 2 = 1) : t + 1 = 0 ↔ b % 2 ^ (k + 1) = 0 := by
  have e : b % 2 ^ (k + 1) = b % 2 ^ k + 2 ^ k * 1 := by rw [Nat.pow_succ, Nat.mod_mul, hb]
  have := Nat.two_pow_pos k
  rw [e]; omega
theorem turned_none {k b t : Nat} (h : t = 0 ↔ b % 2 ^ k = 0) (hb : b / 2 ^ k % 2 = 0) : t = 0 ↔ b % 2 ^ (k + 1) = 0 := by
  have e : b % 2 ^ (k + 1) = b % 2 ^ k := by rw [Nat.pow_succ, Nat.mod_mul, hb, Nat.mul_zero, Nat.add_zero]
  rw [e]; exact h
/-- Opened: none turned, or some. -/
theorem Turned.open_same {L : List (List Nat)} {f : Nat} (h : Turned s (listB 1 L) f 0) (hl : L.length < 1000000000) (hb : ∀ b ∈ L, b.length ≤ 262144) (hby : ∀ b ∈ L, ∀ x ∈ b, x < 256) : (openD s).2 = 0 ∧ openL s = L := by
  obtain ⟨⟨B', h1, h2, h3, h4⟩, h5⟩ := h
  rw [Nat.mul_zero, Nat.xor_zero] at h4
  have e := le_inj _ _ h2 h3 (listB_byte L 1 hby) h4
  subst e
  obtain ⟨g1, g2, _⟩ := h1.open h5 (recs_all L hl hb)
  exact ⟨g1, g2⟩
theorem Turned.open_seen {L : List (List Nat)} {f W : Nat} (h : Turned s (listB 1 L) f W) (hW : W < 4294967296) (h0 : W ≠ 0) (hl : L.length < 1000000000) (hb : ∀ b ∈ L, b.length ≤ 262144) (hby : ∀ b ∈ L, ∀ x ∈ b, x < 256) : (openD s).2 = 70 := by
  obtain ⟨⟨B', h1, h2, h3, h4⟩, h5⟩ := h
  have hn := recs_seen L (2 ^ f * W) B' hl hb hby h3 h2 h4 ⟨f, W, hW, rfl⟩ (Nat.mul_ne_zero (Nat.pos_iff_ne_zero.1 (Nat.two_pow_pos _)) h0)
  unfold openD
  rw [if_neg (by rw [h1.dead]; simp), h1.drops, thenD_yes (q := (s, 0)) rfl, h1.readsD, hn]
  simp only
  rw [thenD_no (q := (s, 70)) (by simp), thenD_no (q := (s, 70)) (by simp)]
theorem sizesB_zero : ∀ (L : List (List Nat)), sizesB L = 0 ↔ L.length = 0
  | [] => by simp [sizesB]
  | b :: L => by unfold sizesB; simp
end Go.Proofs.YtmcmagplaflegaaGreat

namespace Go.Proofs.YtmcmagplaflegaaGreat
open Go Go.RowKit Go.MapL Go.Poised

/-- A list's first ones, that lie below. -/
structure FirstAt (w : World) (n : Nat) (u : Value) (M : List (Value × List Nat)) (T : List (List Nat)) : Prop where
  rows : RowsAt w n u M
  eq : M.map (·.2) = T
  each : ∀ l ∈ T, (∀ x ∈ l, x < 256) ∧ l.length ≤ 200
  few : T.length ≤ 20
theorem some_first (v : Value) (A : List (Value × List Nat)) (w : World) (hA : ArgR w v A) :
    Calls Tryz.prog 33 #[v] w fun e w' => ∃ u M, e = .returned u ∧ FirstAt w' w.heap.size u M (firstOnes (A.map (·.2))) ∧ Below w.heap.size w w' := by
  obtain ⟨hin, hn20⟩ := firstOnes_in (L := A.map (·.2)) (fun l hl x hx => by
    obtain ⟨q, hq, rfl⟩ := List.mem_map.1 hl
    exact (hA.2.2 q hq).1.1 x hx)
  refine (some_any v A w hA).mono ?_
  rintro e w' ⟨u, M, rfl, h1, h2, h3⟩
  exact ⟨u, M, rfl, ⟨h1, h2, hin, hn20⟩, h3⟩
theorem FirstAt.same {w w' : World} {n b : Nat} {u : Value} {M : List (Value × List Nat)} {T : List (List Nat)} (h : FirstAt w n u M T) (hb : w.heap.size ≤ b) (hB : Below b w w') : FirstAt w' n u M T :=
  ⟨h.rows.same (fun g hg => hB.block g (Nat.lt_of_lt_of_le (h.rows.lt hg).2 hb)), h.eq, h.each, h.few⟩
theorem FirstAt.len {w : World} {n : Nat} {u : Value} {M : List (Value × List Nat)} {T : List (List Nat)} (h : FirstAt w n u M T) : M.length = T.length := by rw [← h.eq, List.length_map]
theorem FirstAt.list {w : World} {n : Nat} {u : Value} {M : List (Value × List Nat)} {T : List (List Nat)} (h : FirstAt w n u M T) : ListIn w u M :=
  h.rows.list (fun q hq => (h.each q.2 (by rw [← h.eq]; exact List.mem_map_of_mem hq)).1) (fun q hq => by have := (h.each q.2 (by rw [← h.eq]; exact List.mem_map_of_mem hq)).2; omega)
/-- One of them. -/
theorem FirstAt.at {w : World} {n : Nat} {q : Option Addr} {cap : Nat} {M : List (Value × List Nat)} {T : List (List Nat)} (h : FirstAt w n (.slice q M.length cap) M T) (k : Nat) (hk : k < M.length) :
    ∃ g xv xl, q = some ⟨g, 0, none⟩ ∧ w.cell? ⟨g, k, none⟩ = some xv ∧ BytesIn w xv xl ∧ (∃ xq xcap, xv = .slice xq xl.length xcap) ∧ T.take (k + 1) = T.take k ++ [xl] ∧ (∀ x ∈ xl, x < 256) ∧ xl.length ≤ 200 := by
  have hkT : k < T.length := by rw [← h.len]; exact hk
  obtain ⟨g, hg⟩ : ∃ g, q = some ⟨g, 0, none⟩ := by
    rcases h.rows.row.2 with ⟨_, h0⟩ | ⟨g, c, cu, e, _⟩
    · omega
    · cases e; exact ⟨g, rfl⟩
  subst hg
  have hx := h.rows.each M[k] (List.getElem_mem hk)
  have hMT : M[k].2 = T[k] := by
    have : (M.map (·.2))[k]? = T[k]? := by rw [h.eq]
    simpa [hk, hkT] using this
  have hxin := h.each T[k] (List.getElem_mem hkT)
  rw [← hMT] at hxin
  refine ⟨g, M[k].1, M[k].2, rfl, ?_, row_bytes hx hxin.1 (by omega), own_shape hx, by rw [hMT, List.take_succ_eq_append_getElem hkT], hxin.1, hxin.2⟩
  have := h.rows.row.cells (g := g) rfl k M[k].1 (by simp [hk])
  rw [Addr.add_lit, Nat.zero_add] at this
  exact this
theorem JS.mono {s : DS} {i mark mark' : Nat} {B : List Nat} (h : JS s i B mark) (e : mark' = mark) : JS s i B mark' := by rw [e]; exact h
/-- A journal that is opened on a new disk. -/
def jnew (room : Nat) : Jn := ⟨(openD (DS.new room)).1, 0, 0, false⟩
theorem jnew_good (room : Nat) : JG (jnew room) 1 [] 0 ∧ (jnew room).s.room = room := by
  obtain ⟨o1, o2, o3, o4, o5, o6⟩ := open_new room
  exact ⟨⟨rfl, rfl, o3, o5⟩, o4⟩
set_option maxRecDepth 100000 in
set_option maxHeartbeats 16000000 in
theorem turned_walk (v : Value) (A : List (Value × List Nat)) (at' bits : Int) (w : World) (hA : ArgR w v A) (hc1 : -9223372036854775808 ≤ at') (hc2 : at' ≤ 9223372036854775807) (hbt1 : 0 ≤ bits) (hbt2 : bits < 4294967296) :
    Calls Tryz.prog 6 #[v, .int .i64 at', .int .u32 bits] w fun e w' => e = .returned (.bool true) ∧ Below w.heap.size w w' := by
  have hso := some_first v A w hA
  obtain ⟨T, hT⟩ : ∃ T, firstOnes (A.map (·.2)) = T := ⟨_, rfl⟩
  rw [hT] at hso
  have hv : ∃ q n c, v = .slice q n c := by
    obtain ⟨_, ⟨q, cap, e, _⟩, _⟩ := hA
    exact ⟨_, _, _, e⟩
  obtain ⟨bt, rfl⟩ : ∃ bt : Nat, bits = bt := ⟨bits.toNat, by omega⟩
  clear hT hA
  obtain ⟨vq, vn, vc, rfl⟩ := hv
  obtain ⟨o1, o2, _⟩ := open_new 1048576
  obtain ⟨hg0, hroom0⟩ := jnew_good 1048576
  replace o1 : Hid _ := o1
  replace o2 : Hid _ := o2
  have hnew := fun W => live_new 1048576 (by omega) W
  unfold ofBlock at hnew
  replace hnew : Hid _ := hnew
  have k1 : True := trivial
  go_enter Tryz.func6, Tryz.ntmps6
  go_wp2_with (first
    | (clear k1; go_at_call 33; refine hso.mono ?_; clear hso; rintro e w1 ⟨u, M, rfl, hM, hb1⟩; obtain ⟨uq, ucap, rfl⟩ := own_shape hM.rows.row; have k2 : True := trivial)
    | (clear k2; go_at_call 35; refine (hnew.out w1).mono ?_; clear hnew; rintro e w2 ⟨rfl, hbw2, hL2⟩; have k3 : True := trivial)
    | (clear k3; go_at_call 36; refine (open_any hL2 (by omega)).mono ?_; rintro e w3 ⟨hK3, hok, _⟩; obtain ⟨⟨J, u0, L0, rfl, hJ, hR, hT0, hJn, hL3⟩⟩ := hok o1.out
       rw [o2.out] at hT0
       obtain rfl : L0 = [] := (List.map_eq_nil_iff.1 hT0)
       obtain ⟨u0q, u0cap, rfl⟩ := own_shape hR.row
       have hj3 : JLive w3 J (w1.heap.size + 2) w1.heap.size 3 (jnew 1048576) (fun _ => False) := ⟨hL3.sub (fun g hg => by rcases hg with hg | hg; exact hg.elim; exact .inr (.inl hg)), hJ, Nat.le_trans hbw2.size hJn, id⟩
       have hB3 := hbw2.trans hK3.below
       clear hT0 hR hL3 hJ hok hJn
       unfold ofBlock))
  have hMl := hM.len
  have hsz := fun k => firstOnes_size (fun l hl => (hM.each l hl).2) hM.few k
  replace hsz : Hid _ := hsz
  have hfew := hM.few
  have hM20 : M.length ≤ 20 := by omega
  replace hMl : Hid (M.length = T.length) := hMl
  go_loopw [12] (fun i wr => ∃ (k : Nat) (j : Jn), k ≤ M.length ∧ i = .int .i64 k ∧ JLive wr J (w1.heap.size + 2) w1.heap.size (3 + 2 * k) j (fun _ => False) ∧ JG j 1 (T.take k) 0 ∧ j.s.room = 1048576 ∧ Below w1.heap.size w1 wr) (fun i _ => M.length - (intOf i).toNat)
  case atStart => exact ⟨0, _, by omega, rfl, hj3, hg0, hroom0, hB3⟩
  case round =>
    obtain ⟨k, j, hk, rfl, hj, hg, hroom, hB⟩ := hrel
    clear hj3 hg0 hroom0 hB3
    have hMr := hM.same (Nat.le_refl _) hB
    by_cases hlt : k < M.length
    · have hlt' : (k : Int) < (M.length : Int) := by omega
      obtain ⟨g, xv, xl, rfl, hcell, hxB, ⟨xq, xcap, rfl⟩, hTk, hxb, hxl⟩ := hMr.at k hlt
      have hTl : (T.take k).length ≤ 20 := by rw [List.length_take]; omega
      obtain ⟨a1, a2, _⟩ := hg.append xl (by omega) (by omega)
      have hfit : sizesB (T.take k) + (xl.length + 20) ≤ j.s.room := by rw [hroom]; have := hsz.out k; omega
      rw [if_neg (by omega)] at a1
      obtain ⟨a3, _, a4, _⟩ := a2 hfit
      have hap := jappend_any _ xl hj (by omega) (by rw [hg.many]; omega) hxB (by omega)
      rw [a1] at hap
      rw [← hTk] at a3
      rw [hroom] at a4
      replace hfit : Hid _ := hfit
      replace a3 : Hid _ := a3
      replace a4 : Hid _ := a4
      unfold ofBlock at hap
      clear a1 a2 hg hTk
      go_wp2_with (go_at_call 37; refine hap.mono ?_; clear hap; rintro e w4 ⟨rfl, hj4, hK4⟩)
      go_roundw
      case rel => exact ⟨k + 1, _, by omega, by go_num, hj4, a3.out, a4.out, hB.trans hK4.below⟩
      case measure => simp [intOf]; omega
    · obtain rfl : k = M.length := by omega
      have hTk : T.take M.length = T := by rw [hMl.out, List.take_length]
      rw [hTk] at hg
      obtain ⟨b1, b2, _, b3, _⟩ := hg.sync
      have hsy := jsync_any hj (by omega)
      rw [b1] at hsy
      rw [hroom] at b3
      have hbB : ∀ x ∈ listB 1 T, x < 256 := listB_byte T 1 (fun l hl => (hM.each l hl).1)
      have hbl : (listB 1 T).length ≤ 4400 := by have := hsz.out T.length; rw [List.take_length] at this; rw [listB_len]; exact this
      have hz0 : (listB 1 T).length = 0 ↔ M.length = 0 := by rw [listB_len, hMl.out]; exact sizesB_zero T
      have hT3 : ∀ l ∈ T, l.length ≤ 262144 := fun l hl => by have := (hM.each l hl).2; omega
      have hTb : ∀ l ∈ T, ∀ x ∈ l, x < 256 := fun l hl => (hM.each l hl).1
      obtain ⟨js, hjs⟩ : ∃ js, j.sync.1 = js := ⟨_, rfl⟩
      rw [hjs] at b2 b3 hsy
      have hrr := b2.disk.readRes
      have hszs : Hid (∀ W, Live W (w1.heap.size + 2) w1.heap.size (3 + 2 * M.length) js.s (fun g => False ∨ g = J) → _) := fun W hW => live_size jN hW
      simp only [hrr] at hszs
      have ht0 : ∀ f, Turned js.s (listB 1 T) f (bt % 2 ^ 0) := fun f => ⟨⟨listB 1 T, b2.disk.mono (listB_len T 1), rfl, hbB, by rw [Nat.pow_zero, Nat.mod_one, Nat.mul_zero, Nat.xor_zero]⟩, b2.fails⟩
      clear hjs hg
      obtain ⟨N, hN⟩ : ∃ N, (listB 1 T).length = N := ⟨_, rfl⟩
      rw [hN] at hbl hz0 hszs
      replace hN : Hid _ := hN
      replace hbB : Hid _ := hbB
      unfold ofBlock at hsy hszs
      have k1 : True := trivial
      by_cases hN0 : N = 0
      · have hM0 : M.length = 0 := hz0.1 hN0
        rw [hN0] at hszs
        clear hz0 hbl
        have hMI : ((M.length : Int) == 0) = true := beq_iff_eq.2 (by omega)
        go_wp2_with (first
          | (clear k1; go_at_call 38; refine hsy.mono ?_; clear hsy; rintro e w4 ⟨rfl, hj4, hK4⟩; have k2 : True := trivial)
          | (clear k2; go_at_call 8; refine (hszs.out _ hj4.live).mono ?_; clear hszs; rintro e w5 ⟨rfl, hb5⟩; have k3 : True := trivial)
          | (clear k3; go_at_call 32; refine (awake_any _).mono ?_; rintro e w6 ⟨rfl, hb6⟩))
        go_returns
        have hB5 := (hB.trans hK4.below).trans (hb5.mono (Nat.le_trans hB.size hK4.below.size))
        exact ⟨rfl, hb1.trans ((hB5.trans (hb6.mono hB5.size)).mono hb1.size)⟩
      · have hM0 : ¬ M.length = 0 := fun h => hN0 (hz0.2 h)
        have hNI : ((N : Int) == 0) = false := beq_eq_false_iff_ne.2 (by omega)
        have hMI : ((M.length : Int) == 0) = false := beq_eq_false_iff_ne.2 (by omega)
        by_cases hbt0 : bt = 0
        · subst hbt0
          go_wp2_with (first
          | (clear k1; go_at_call 38; refine hsy.mono ?_; clear hsy; rintro e w4 ⟨rfl, hj4, hK4⟩; have k2 : True := trivial)
          | (clear k2; go_at_call 8; refine (hszs.out _ hj4.live).mono ?_; clear hszs; rintro e w5 ⟨rfl, hb5⟩; have k3 : True := trivial)
          | (clear k3; go_at_call 32; refine (awake_any _).mono ?_; rintro e w6 ⟨rfl, hb6⟩))
          go_returns
          have hB5 := (hB.trans hK4.below).trans (hb5.mono (Nat.le_trans hB.size hK4.below.size))
          exact ⟨rfl, hb1.trans ((hB5.trans (hb6.mono hB5.size)).mono hb1.size)⟩
        · have hbI : ((bt : Int) == 0) = false := beq_eq_false_iff_ne.2 (by omega)
          obtain ⟨f, hf, hfl⟩ : ∃ f : Nat, at' % (8 * (N : Int)) = f ∧ f < 8 * N := by
            have h1 := Int.emod_nonneg at' (b := 8 * (N : Int)) (by omega)
            have h2 := Int.emod_lt_of_pos at' (b := 8 * (N : Int)) (by omega)
            exact ⟨(at' % (8 * (N : Int))).toNat, by omega, by omega⟩
          have hbr := fun W => bring_any at' (8 * (N : Int)) (by omega) (by omega) hc1 hc2 W
          simp only [hf] at hbr
          have hgw : IntKind.i64.wrap (8 * (N : Int)) = 8 * (N : Int) := IntWalk.i64_in _ (by omega)
          have ht0 := ht0 f
          clear hf
          replace hbr : Hid _ := hbr
          go_wp2_with (first
            | (clear k1; go_at_call 38; refine hsy.mono ?_; clear hsy; rintro e w4 ⟨rfl, hj4, hK4⟩; have k2 : True := trivial)
            | (clear k2; go_at_call 8; refine (hszs.out _ hj4.live).mono ?_; clear hszs; rintro e w5 ⟨rfl, hb5⟩; have k3 : True := trivial)
            | (clear k3; go_at_call 34; refine (hbr.out w5).mono ?_; rintro e w6 ⟨rfl, rfl⟩))
          have hB5 := (hB.trans hK4.below).trans (hb5.mono (Nat.le_trans hB.size hK4.below.size))
          have hL5 := hj4.live.below hb5
          replace hN : (listB 1 T).length = N := hN.out
          replace hN : Hid ((listB 1 T).length = N) := hN
          go_loopw [18, 17] (fun i t wx => ∃ (k c : Nat) (sk : DS), k ≤ 32 ∧ i = .int .i64 k ∧ t = .int .i64 c ∧ c ≤ k ∧ Live wx (w1.heap.size + 2) w1.heap.size (3 + 2 * M.length) sk (fun g => False ∨ g = J) ∧ Turned sk (listB 1 T) f (bt % 2 ^ k) ∧ (c = 0 ↔ bt % 2 ^ k = 0) ∧ Below w1.heap.size w1 wx) (fun i _ _ => 32 - (intOf i).toNat)
          case atStart => exact ⟨0, 0, _, by omega, rfl, rfl, Nat.le_refl _, hL5, ht0, by simp [Nat.mod_one], hB5⟩
          case round =>
            obtain ⟨k, c, sk, hk, rfl, rfl, hck, hL, htk, hcz, hB6⟩ := hrel
            by_cases hlt : k < 32 ∧ f + k < 8 * N
            · have h32 : (k : Int) < 32 := by omega
              have h8 : (f : Int) + (k : Int) < 8 * (N : Int) := by omega
              have hgf : IntKind.i64.wrap ((f : Int) + (k : Int)) = (f : Int) + (k : Int) := IntWalk.i64_in _ (by omega)
              have hk0 : (0 : Int) ≤ (k : Int) := by omega
              have hk64 : (k : Int) ≤ 32 := by omega
              obtain ⟨X, hX⟩ : ∃ X, bt / 2 ^ k = X := ⟨_, rfl⟩
              have hsh : (bt : Int) / 2 ^ k = (X : Int) := by rw [← hX]; simp
              have hXl : X < 4294967296 := by rw [← hX]; exact Nat.lt_of_le_of_lt (Nat.div_le_self _ _) (by omega)
              have hand := and_one X hXl
              have e8 : (((f + k) / 8 : Nat) : Int) = ((f : Int) + (k : Int)) / 8 := by omega
              have e9 : (((f + k) % 8 : Nat) : Int) = ((f : Int) + (k : Int)) % 8 := by omega
              have hstep : Hid (X % 2 = 1 → Turned (sk.turn jN (((f : Int) + (k : Int)) / 8) (((f : Int) + (k : Int)) % 8)).1 (listB 1 T) f (bt % 2 ^ (k + 1))) := fun h1 => by rw [← e8, ← e9]; exact htk.step (by rw [hX]; exact h1) (by rw [hN.out]; exact hlt.2)
              have hskip : Hid (X % 2 = 0 → Turned sk (listB 1 T) f (bt % 2 ^ (k + 1))) := fun h1 => htk.skip (by rw [hX]; exact h1)
              have hc1' : Hid (X % 2 = 1 → (c + 1 = 0 ↔ bt % 2 ^ (k + 1) = 0)) := fun h1 => turned_count hcz (by rw [hX]; exact h1)
              have hc0' : Hid (X % 2 = 0 → (c = 0 ↔ bt % 2 ^ (k + 1) = 0)) := fun h1 => turned_none hcz (by rw [hX]; exact h1)
              clear hX hcz htk
              have htn := live_turn jN (((f : Int) + (k : Int)) / 8) (((f : Int) + (k : Int)) % 8) hL (by omega) (by omega) (by omega) (by omega)
              clear e8 e9
              unfold ofBlock at htn
              by_cases hodd : X % 2 = 1
              · rw [decide_eq_true hodd] at hand
                have Hodd : Hid (X % 2 = 1) := hodd
                have hgc : IntKind.i64.wrap ((c : Int) + 1) = (c : Int) + 1 := IntWalk.i64_in _ (by omega)
                clear hodd
                generalize sk.turn jN (((f : Int) + (k : Int)) / 8) (((f : Int) + (k : Int)) % 8) = qt at *
                go_wp2_with (go_at_call 18; refine htn.mono ?_; clear htn; rintro e w7 ⟨rfl, hL7, hK7⟩)
                go_roundw
                case rel => exact ⟨k + 1, c + 1, qt.1, by omega, by go_num, by go_num, by omega, hL7, hstep.out Hodd.out, hc1'.out Hodd.out, hB6.trans hK7.below⟩
                case measure => simp [intOf]; omega
              · rw [decide_eq_false hodd] at hand
                have Hodd : Hid (X % 2 = 0) := by show _ = _; omega
                clear hodd htn
                go_wp2_with fail
                go_roundw
                case rel => exact ⟨k + 1, c, sk, by omega, by go_num, rfl, by omega, hL, hskip.out Hodd.out, hc0'.out Hodd.out, hB6⟩
                case measure => simp [intOf]; omega
            · have hW : bt % 2 ^ k < 4294967296 := Nat.lt_of_le_of_lt (Nat.mod_le _ _) (by omega)
              have hop := open_any hL (by omega)
              unfold ofBlock at hop
              have two : ∀ P : Prop, (¬ (k : Int) < 32 → P) → ((k : Int) < 32 → ¬ (f : Int) + (k : Int) < 8 * (N : Int) → P) → P := by
                intro P a1 a2
                by_cases b1 : (k : Int) < 32
                · exact a2 b1 (fun h => hlt ⟨by omega, by omega⟩)
                · exact a1 b1
              have hgf : IntKind.i64.wrap ((f : Int) + (k : Int)) = (f : Int) + (k : Int) := IntWalk.i64_in _ (by omega)
              by_cases hc0 : c = 0
              · have h0 := hcz.1 hc0
                rw [h0] at htk
                obtain ⟨p1, p2⟩ := htk.open_same (by omega) hT3 hTb
                replace p1 : Hid _ := p1
                replace p2 : Hid _ := p2
                have hcI : ((c : Int) == 0) = true := beq_iff_eq.2 (by omega)
                clear hlt hcz htk
                have k4 : True := trivial
                apply two
                all_goals
                  intros
                  go_wp2_with (first
                    | (clear k4; go_at_call 36; refine hop.mono ?_; clear hop; rintro e w7 ⟨hK7, hok7, _⟩; obtain ⟨⟨J7, u7, L7, rfl, hJ7, hR7, hT7, hJn7, hL7⟩⟩ := hok7 p1.out; obtain ⟨u7q, u7cap, rfl⟩ := own_shape hR7.row
                       rw [p2.out] at hT7
                       have hl7 := hR7.list (fun q hq => hTb q.2 (by rw [← hT7]; exact List.mem_map_of_mem hq)) (fun q hq => hT3 q.2 (by rw [← hT7]; exact List.mem_map_of_mem hq))
                       have hsm := same_any _ _ L7 M w7 hl7 (hM.same (Nat.le_refl _) (hB6.trans hK7.below)).list
                       rw [decide_eq_true (hT7.trans hM.eq.symm)] at hsm
                       clear hok7
                       replace hT7 : Hid _ := hT7
                       unfold ofBlock
                       have k5 : True := trivial)
                    | (clear k5; go_at_call 31; refine hsm.mono ?_; clear hsm; rintro e w8 ⟨rfl, hb8⟩; have k6 : True := trivial)
                    | (clear k6; go_at_call 32; refine (awake_any _).mono ?_; rintro e w9 ⟨rfl, hb9⟩))
                  go_returns
                  have hB7 := hB6.trans hK7.below
                  have hB8 := hB7.trans (hb8.mono hB7.size)
                  exact ⟨rfl, hb1.trans ((hB8.trans (hb9.mono hB8.size)).mono hb1.size)⟩
              · have p1 := htk.open_seen hW (fun h => hc0 (hcz.2 h)) (by omega) hT3 hTb
                rw [p1] at hop
                have hcI : ((c : Int) == 0) = false := beq_eq_false_iff_ne.2 (by omega)
                clear hlt hcz htk p1
                have k4 : True := trivial
                apply two
                all_goals
                  intros
                  go_wp2_with (first
                    | (clear k4; go_at_call 36; refine hop.mono ?_; clear hop; rintro e w7 ⟨hK7, _, hbad⟩; obtain ⟨rfl, hL7⟩ := hbad (by decide); have k5 : True := trivial)
                    | (clear k5; go_at_call 32; refine (awake_any _).mono ?_; rintro e w9 ⟨rfl, hb9⟩))
                  go_returns
                  have hB7 := hB6.trans hK7.below
                  exact ⟨rfl, hb1.trans ((hB7.trans (hb9.mono hB7.size)).mono hb1.size)⟩
end Go.Proofs.YtmcmagplaflegaaGreat
