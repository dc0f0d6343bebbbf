/-
  THE DOCUMENT'S DISK: its lists of names, walked. Conditions: those of each theorem.
-/
import Derived.Test.YtmcmagplaflegaaGreatRf
namespace Go.Proofs.YtmcmagplaflegaaGreat
open Go Go.RowKit Go.MapL Go.Poised

def encN (q : ByteArray × Nat) : List Value := [.string q.1, .int .i64 q.2]
/-- A list of names in memory. -/
def NamesAt (w : World) (n₀ : Nat) (v : Value) (m : NL) : Prop := w.ownsRow n₀ 181 2 v m.length (m.flatMap encN)
theorem NamesAt.below {w w' : World} {n₀ : Nat} {v : Value} {m : NL} (h : NamesAt w n₀ v m) (hb : Below w.heap.size w w') : NamesAt w' n₀ v m := own_kept h hb
theorem NamesAt.lower {w : World} {n₀ n₁ : Nat} {v : Value} {m : NL} (h : NamesAt w n₀ v m) (hn : n₁ ≤ n₀) : NamesAt w n₁ v m := own_base' h hn
theorem flat_get {α : Type} {enc : α → List Value} {z : Nat} (hz : ∀ x, (enc x).length = z) : ∀ (l : List α) (k : Nat) (hk : k < l.length) (j : Nat), j < z → (l.flatMap enc)[k * z + j]? = (enc l[k])[j]?
  | [], k, hk, _, _ => by simp at hk
  | x :: l, 0, _, j, hj => by
    rw [List.flatMap_cons, List.getElem?_append_left (by rw [hz]; omega)]; simp
  | x :: l, k + 1, hk, j, hj => by
    have : (k + 1) * z + j - z = k * z + j := by rw [Nat.succ_mul]; omega
    rw [List.flatMap_cons, List.getElem?_append_right (by rw [hz, Nat.succ_mul]; omega), hz, this]
    exact flat_get hz l k (by simpa using hk) j hj
/-- A row of structs: its cells. -/
theorem flat_cells {α : Type} {enc : α → List Value} {z : Nat} (hz : ∀ x, (enc x).length = z) {w : World} {n e : Nat} {v : Value} {l : List α} (h : w.ownsRow n e z v l.length (l.flatMap enc)) (k : Nat) (hk : k < l.length) :
    ∃ g cap, v = .slice (some ⟨g, 0, none⟩) l.length cap ∧ g < w.heap.size ∧ ∀ j, j < z → w.cell? ⟨g, k * z + j, none⟩ = (enc l[k])[j]? := by
  rcases h.2 with ⟨_, h0⟩ | ⟨g, cap, cur, hv, _, hg, hc, _, hsz, ht⟩
  · omega
  · refine ⟨g, cap, hv, (Array.getElem?_eq_some_iff.1 hg).1, fun j hj => ?_⟩
    rw [← flat_get hz l k hk j hj, ← ht]
    have : (k + 1) * z ≤ l.length * z := Nat.mul_le_mul_right _ (by omega)
    rw [Nat.succ_mul] at this
    simp only [World.cell?, hg, Option.isSome_none, Bool.false_eq_true, if_false]
    rw [List.getElem?_take, if_pos (by omega)]; simp
theorem NamesAt.cells {w : World} {n₀ : Nat} {v : Value} {m : NL} (h : NamesAt w n₀ v m) (k : Nat) (hk : k < m.length) :
    ∃ g cap, v = .slice (some ⟨g, 0, none⟩) m.length cap ∧ g < w.heap.size ∧ w.cell? ⟨g, k * 2, none⟩ = some (.string m[k].1) ∧ w.cell? ⟨g, k * 2 + 1, none⟩ = some (.int .i64 m[k].2) := by
  obtain ⟨g, cap, h1, h2, h3⟩ := flat_cells (enc := encN) (z := 2) (fun _ => rfl) h k hk
  exact ⟨g, cap, h1, h2, h3 0 (by omega), h3 1 (by omega)⟩
theorem text_eqD (x y : ByteArray) : (x.toList == y.toList) = decide (x = y) := text_eq x y
/-- Whose a name is, as a number. -/
def idxOf (m : NL) (x : ByteArray) : Int := match MapL.look x m with | none => -1 | some i => (i : Int)
theorem look_take_none {x : ByteArray} : ∀ {m : NL}, (∀ q ∈ m, q.1 ≠ x) → MapL.look x m = none
  | [], _ => rfl
  | (k, v) :: r, h => by
    unfold MapL.look
    rw [if_neg (h _ (.head _)), look_take_none (fun q hq => h q (.tail _ hq))]
theorem look_at_first {x : ByteArray} : ∀ {m : NL} {k : Nat} (hk : k < m.length), (∀ q ∈ m.take k, q.1 ≠ x) → m[k].1 = x → MapL.look x m = some m[k].2
  | [], k, hk, _, _ => by simp at hk
  | (y, v) :: r, 0, _, _, h2 => if_pos (show y = x from h2)
  | (y, v) :: r, k + 1, hk, h1, h2 => by
    unfold MapL.look
    rw [if_neg (h1 (y, v) (by simp)), look_at_first (k := k) (by simpa using hk) (fun q hq => h1 q (by simp [hq])) h2]; rfl
set_option maxRecDepth 100000 in
set_option maxHeartbeats 4000000 in
theorem find_any (v : Value) (m : NL) (x : ByteArray) (n₀ : Nat) (w : World) (h : NamesAt w n₀ v m) (hlen : m.length ≤ 1099511627776) :
    Calls Tryz.prog 140 #[v, .string x] w fun e w' => e = .returned (.int .i64 (idxOf m x)) ∧ w' = w := by
  obtain ⟨p, cap, rfl⟩ := own_shape h
  replace h : Hid (NamesAt w n₀ (.slice p m.length cap) m) := h
  go_enter Tryz.func140, Tryz.ntmps140
  go_wp2_with fail
  go_loopw [5] (fun i wr => ∃ k : Nat, k ≤ m.length ∧ i = .int .i64 k ∧ (∀ q ∈ m.take k, q.1 ≠ x) ∧ wr = w) (fun i _ => m.length - (intOf i).toNat)
  case atStart => exact ⟨0, by omega, rfl, by simp, rfl⟩
  case round =>
    obtain ⟨k, hk, rfl, hno, rfl⟩ := hrel
    by_cases hlt : k < m.length
    · have hlt' : (k : Int) < (m.length : Int) := by omega
      obtain ⟨g, cap', e, hg, c0, c1⟩ := h.out.cells k hlt
      cases e
      generalize hq : m[k] = q at c0 c1
      obtain ⟨y, i⟩ := q
      simp only at c0 c1
      by_cases hx : y = x
      · have hb : (y.toList == x.toList) = true := by rw [text_eqD, decide_eq_true hx]
        have hr : idxOf m x = (i : Int) := by unfold idxOf; rw [look_at_first hlt hno (by rw [hq]; exact hx), hq]
        replace hr : Hid _ := hr
        clear hx hno hq
        go_wp2_with fail
        go_returns
        exact ⟨by rw [hr.out]; rfl, rfl⟩
      · have hb : (y.toList == x.toList) = false := by rw [text_eqD, decide_eq_false hx]
        have hno2 : Hid (∀ q ∈ m.take (k + 1), q.1 ≠ x) := fun q h2 => by
          rw [List.take_succ_eq_append_getElem hlt] at h2
          rcases List.mem_append.1 h2 with h2 | h2
          · exact hno q h2
          · rw [List.mem_singleton] at h2; rw [h2, hq]; exact hx
        clear hx hno hq
        go_wp2_with fail
        go_roundw
        case rel => exact ⟨k + 1, by omega, by go_num, hno2.out, by first | rfl | trivial⟩
        case measure => simp [intOf]; omega
    · obtain rfl : k = m.length := by omega
      have hr : idxOf m x = -1 := by unfold idxOf; rw [look_take_none (by rw [List.take_of_length_le (Nat.le_refl _)] at hno; exact hno)]
      replace hr : Hid _ := hr
      clear hno
      have hlt' : ¬ ((m.length : Nat) : Int) < (m.length : Int) := by omega
      go_wp2_with fail
      go_returns
      exact ⟨by rw [hr.out]; rfl, rfl⟩

theorem info181 : (Tryz.prog.info? 181).map (fun i => (i.zero, i.size, i.bytes)) = some (some (.agg #[.string ⟨#[]⟩, .int .i64 0]), 2, 24) := by kernel_rfl
theorem cells_new2 (w : World) (x y : Value) (t : TypeId) : ∀ j u, [x, y][j]? = some u → (w.alloc (.cells #[x, y] t)).cell? ((⟨w.heap.size, 0, none⟩ : Addr).add j) = some u := by
  intro j u hj
  obtain ⟨c0, c1⟩ := getD_cell (heap_new w (.cells #[x, y] t))
  rw [Addr.add_lit, Nat.zero_add]
  match j, hj with
  | 0, hj => simp at hj; subst hj; exact c0
  | 1, hj => simp at hj; subst hj; exact c1
theorem NamesAt.nil (w : World) (n : Nat) : NamesAt w n (.slice none 0 0) [] := World.ownsRow_nil _ _ _ _
theorem NamesAt.push {w : World} {n : Nat} {v : Value} {m : NL} {q : ByteArray × Nat} (h : w.ownsRow n 181 2 v (m.length + 1) (m.flatMap encN ++ encN q)) : NamesAt w n v (m ++ [q]) := by
  unfold NamesAt
  rw [List.length_append, List.flatMap_append, List.flatMap_cons, List.flatMap_nil, List.append_nil]
  exact h
theorem without_succ {x : ByteArray} {m : NL} {k : Nat} (hk : k < m.length) : without x (m.take (k + 1)) = if m[k].1 = x then without x (m.take k) else without x (m.take k) ++ [m[k]] := by
  rw [List.take_succ_eq_append_getElem hk]
  unfold without
  rw [List.filter_append]
  split
  · rename_i h; simp [h]
  · rename_i h; simp [h]
theorem without_len (x : ByteArray) (m : NL) : (without x m).length ≤ m.length := List.length_filter_le _ _
theorem one2 (x : ByteArray) (i : Int) : ∀ u ∈ [Value.string x, .int .i64 i], u.oneCell' = true := by
  intro u hu
  rcases List.mem_cons.1 hu with rfl | hu
  · rfl
  · rw [List.mem_singleton] at hu; subst hu; rfl
set_option maxRecDepth 100000 in
set_option maxHeartbeats 4000000 in
theorem without_any (v : Value) (m : NL) (x : ByteArray) (n₀ : Nat) (w : World) (h : NamesAt w n₀ v m) (hlen : m.length ≤ 1099511627776) :
    Calls Tryz.prog 165 #[v, .string x] w fun e w' => ∃ v', e = .returned v' ∧ NamesAt w' w.heap.size v' (without x m) ∧ Below w.heap.size w w' := by
  obtain ⟨i0, hi, hz0, hz1, hz2⟩ := info_parts info181
  obtain ⟨p, cap, rfl⟩ := own_shape h
  replace h : Hid (NamesAt w n₀ (.slice p m.length cap) m) := h
  replace hz0 : Hid _ := hz0
  replace hz1 : Hid _ := hz1
  replace hz2 : Hid _ := hz2
  go_enter Tryz.func165, Tryz.ntmps165
  go_wp2_with fail
  go_loopw [6, 5] (fun i o wr => ∃ k : Nat, k ≤ m.length ∧ i = .int .i64 k ∧ NamesAt wr w.heap.size o (without x (m.take k)) ∧ Below w.heap.size w wr) (fun i _ _ => m.length - (intOf i).toNat)
  case atStart => exact ⟨0, by omega, rfl, NamesAt.nil _ _, Below.refl _ _⟩
  case round =>
    obtain ⟨k, hk, rfl, hout, hB⟩ := hrel
    obtain ⟨po, co, rfl⟩ := own_shape hout
    by_cases hlt : k < m.length
    · have hlt' : (k : Int) < (m.length : Int) := by omega
      obtain ⟨g, cap', e, hg, c0', c1'⟩ := h.out.cells k hlt
      have c0 := (hB.cell (p := ⟨g, k * 2, none⟩) hg).trans c0'
      have c1 := (hB.cell (p := ⟨g, k * 2 + 1, none⟩) hg).trans c1'
      clear c0' c1'
      cases e
      have hw := without_succ (x := x) hlt
      have hol := without_len x (m.take k)
      rw [List.length_take] at hol
      generalize hq : m[k] = q at c0 c1 hw
      obtain ⟨y, i⟩ := q
      simp only at c0 c1 hw
      by_cases hx : y = x
      · rw [if_pos hx] at hw
        have hb : (y.toList == x.toList) = true := by rw [text_eqD, decide_eq_true hx]
        have hb2 : (y.toList != x.toList) = false := by simp only [bne, hb]; rfl
        replace hw : Hid _ := hw
        replace hout : Hid (NamesAt wr w.heap.size (.slice po (without x (m.take k)).length co) (without x (m.take k))) := hout
        clear hx hq
        go_wp2_with fail
        go_roundw
        case rel => exact ⟨k + 1, by omega, by go_num, by rw [hw.out]; exact hout.out, hB⟩
        case measure => simp [intOf]; omega
      · rw [if_neg hx] at hw
        have hb : (y.toList == x.toList) = false := by rw [text_eqD, decide_eq_false hx]
        have hb2 : (y.toList != x.toList) = true := by simp only [bne, hb]; rfl
        replace hw : Hid _ := hw
        replace hout : Hid (NamesAt wr w.heap.size (.slice po (without x (m.take k)).length co) (without x (m.take k))) := hout
        clear hx hq
        obtain ⟨M, hM⟩ : ∃ M, without x (m.take k) = M := ⟨_, rfl⟩
        rw [hM] at hw hout hol ⊢
        clear hM
        go_wp2_with (at_builtin; refine wpList_append_own _ rfl _ _ 151 rfl w.heap.size 181 i0 (.agg #[.string ⟨#[]⟩, .int .i64 0]) 2 24 Tryz.underlying151 hi hz0.out hz1.out hz2.out rfl (by decide) _ M.length _ rfl (own_kept hout.out ((Below.refl _ _).alloc (Nat.le_refl _) _)) ⟨wr.heap.size, 0, none⟩ 1 1 [.string y, .int .i64 i] rfl rfl (cells_new2 wr _ _ 181) (one2 y i) (by unfold maxLen; omega) (by omega) (by have := hB.size; simp; omega) ?_; intro v' w1 hown' hgrow _)
        go_roundw
        case rel => exact ⟨k + 1, by omega, by go_num, by rw [hw.out]; exact NamesAt.push hown', (hB.alloc hB.size _).grown hgrow (by simp; have := hB.size; omega) (fun k hk => (hout.out.lt k hk).1)⟩
        case measure => simp [intOf]; omega
    · obtain rfl : k = m.length := by omega
      rw [List.take_of_length_le (Nat.le_refl _)] at hout
      replace hout : Hid (NamesAt wr w.heap.size (.slice po (without x m).length co) (without x m)) := hout
      have hlt' : ¬ ((m.length : Nat) : Int) < (m.length : Int) := by omega
      go_wp2_with fail
      go_returns
      exact ⟨_, rfl, hout.out, hB⟩
set_option maxHeartbeats 2000000 in
set_option maxRecDepth 100000 in
theorem broughtR_any (v : Value) (l : List Int) (i most : Nat) (_ : i ≤ 4611686018427387904) (hm : most ≤ 4611686018427387904) (w : World) (hl : IntsIn w v l) :
    Calls Tryz.prog 143 #[v, .int .i64 i, .int .i64 most] w fun e w' => e = .returned (.int .i64 (brought l i most)) ∧ w' = w := by
  obtain ⟨hb, hlen, hv⟩ := hl
  by_cases hlt : i < l.length
  · obtain ⟨rfl, rfl⟩ | ⟨a, cap, rfl, rfl⟩ | ⟨b, off, cap, rfl, hc⟩ := hv
    · simp at hlt
    · simp at hlt
    · have hci := hc i hlt
      obtain ⟨x, hx⟩ : ∃ x, l.getD i 0 = x := ⟨_, rfl⟩
      have hxb : -9223372036854775808 ≤ x ∧ x ≤ 9223372036854775807 := by
        rw [← hx, List.getD_eq_getElem?_getD, List.getElem?_eq_getElem hlt]; exact hb _ (List.getElem_mem hlt)
      rw [hx] at hci
      obtain ⟨y, hy⟩ : ∃ y : Nat, brought l i most = y := ⟨_, rfl⟩
      have hyx : Hid ((y : Int) = x % (most + 1)) := by
        show (y : Int) = x % (most + 1)
        rw [← hy, brought, if_pos hlt, hx]
        have := Int.emod_nonneg x (b := (most : Int) + 1) (by omega)
        omega
      rw [hy]
      have h1 : -((most : Int) + 1) < x.tmod (most + 1) := by have := Int.lt_tmod_of_pos x (show (0:Int) < most + 1 by omega); omega
      have h2 : x.tmod (most + 1) < most + 1 := Int.tmod_lt_of_pos x (by omega)
      have g1 : IntKind.i64.wrap ((most : Int) + 1) = (most : Int) + 1 := IntWalk.i64_in _ (by omega)
      have g3 : decide (l.length ≤ i) = false := by simp; omega
      clear hx hy hb hc
      obtain ⟨n, hn⟩ : ∃ n : Int, (most : Int) + 1 = n := ⟨_, rfl⟩
      rw [hn] at h1 h2 hyx
      have hn1 : 1 ≤ n ∧ n ≤ 4611686018427387905 := by omega
      rw [hn] at g1
      have hn0 : ¬ n ≤ 0 := by omega
      have g1' : IntKind.i64.wrap ((most : Int) + 1) = n := by rw [hn]; exact g1
      have hmn : Hid ((most : Int) = n - 1) := by show (most : Int) = n - 1; omega
      clear hn
      by_cases hneg : x.tmod n < 0
      · have g4 : IntKind.i64.wrap (x.tmod n + (most : Int)) = x.tmod n + (most : Int) := IntWalk.i64_in _ (by omega)
        have g5 : IntKind.i64.wrap (x.tmod n + (most : Int) + 1) = x.tmod n + (most : Int) + 1 := IntWalk.i64_in _ (by omega)
        have hr : Hid (x.tmod n + (most : Int) + 1 = x % n) := by
          show x.tmod n + (most : Int) + 1 = x % n
          have hmn := hmn.out
          suffices x.tmod n + n = x % n by omega
          have e1 := Int.emod_add_mul_ediv x n
          have e2 := Int.tmod_add_mul_tdiv x n
          have e3 : (x.tmod n + n - x % n) = n * (x / n - x.tdiv n + 1) := by rw [Int.mul_add, Int.mul_sub]; omega
          have a1 := Int.emod_nonneg x (show n ≠ 0 by omega)
          have a2 := Int.emod_lt_of_pos x (show 0 < n by omega)
          have h5 : (x / n - x.tdiv n + 1) = 0 := by
            have b1 : n * (x / n - x.tdiv n + 1) < n * 1 := by omega
            have b2 : n * (-1) < n * (x / n - x.tdiv n + 1) := by omega
            have c1 := Int.lt_of_mul_lt_mul_left b1 (by omega)
            have c2 := Int.lt_of_mul_lt_mul_left b2 (by omega)
            omega
          rw [h5] at e3
          omega
        go_enter Tryz.func143, Tryz.ntmps143
        go_wp2
        go_returns
        exact ⟨ret_int (hr.out.trans hyx.out.symm), rfl⟩
      · have hr : Hid (x.tmod n = x % n) := by
          show x.tmod n = x % n
          have e1 := Int.emod_add_mul_ediv x n
          have e2 := Int.tmod_add_mul_tdiv x n
          have e3 : (x.tmod n - x % n) = n * (x / n - x.tdiv n) := by rw [Int.mul_sub]; omega
          have a1 := Int.emod_nonneg x (show n ≠ 0 by omega)
          have a2 := Int.emod_lt_of_pos x (show 0 < n by omega)
          have h5 : (x / n - x.tdiv n) = 0 := by
            have b1 : n * (x / n - x.tdiv n) < n * 1 := by omega
            have b2 : n * (-1) < n * (x / n - x.tdiv n) := by omega
            have c1 := Int.lt_of_mul_lt_mul_left b1 (by omega)
            have c2 := Int.lt_of_mul_lt_mul_left b2 (by omega)
            omega
          rw [h5] at e3
          omega
        go_enter Tryz.func143, Tryz.ntmps143
        go_wp2
        go_returns
        exact ⟨ret_int (hr.out.trans hyx.out.symm), rfl⟩
  · have hy : brought l i most = 0 := by rw [brought, if_neg hlt]
    rw [hy]
    have g3 : decide (l.length ≤ i) = true := by simp; omega
    obtain ⟨rfl, rfl⟩ | ⟨a, cap, rfl, rfl⟩ | ⟨b, off, cap, rfl, hc⟩ := hv
    all_goals
      go_enter Tryz.func143, Tryz.ntmps143
      go_wp2
      go_returns
      exact ⟨rfl, rfl⟩

theorem insN_no {x : ByteArray} {f : Nat} : ∀ {l : NL}, (l.any fun q => ltN x q.1) = false → insN x f l = l ++ [(x, f)]
  | [], _ => rfl
  | q :: t, h => by
    rw [List.any_cons, Bool.or_eq_false_iff] at h
    unfold insN
    rw [if_neg (by rw [h.1]; simp), insN_no h.2]; rfl
theorem insN_yes {x : ByteArray} {f : Nat} (r : NL) : ∀ {l : NL}, (l.any fun q => ltN x q.1) = true → insN x f (l ++ r) = insN x f l ++ r
  | [], h => by simp at h
  | q :: t, h => by
    rw [List.cons_append]
    unfold insN
    by_cases hq : ltN x q.1 = true
    · rw [if_pos hq, if_pos hq]; rfl
    · rw [if_neg hq, if_neg hq]
      rw [List.any_cons] at h
      rw [insN_yes r (by simpa [hq] using h)]; rfl
theorem insN_new {x : ByteArray} {f : Nat} {q : ByteArray × Nat} : ∀ {l : NL}, (l.any fun q => ltN x q.1) = false → ltN x q.1 = true → insN x f (l ++ [q]) = l ++ [(x, f)] ++ [q]
  | [], _, h => by show insN x f [q] = _; unfold insN; rw [if_pos h]; rfl
  | p :: t, h, hq => by
    rw [List.any_cons, Bool.or_eq_false_iff] at h
    rw [List.cons_append]
    unfold insN
    rw [if_neg (by rw [h.1]; simp), insN_new h.2 hq]; rfl
/-- What stands there behind k rounds. -/
def partN (x : ByteArray) (f : Nat) (R : NL) (k : Nat) : NL := if ((R.take k).any fun q => ltN x q.1) = true then insN x f (R.take k) else R.take k
theorem partN_len (x : ByteArray) (f : Nat) (R : NL) (k : Nat) : (partN x f R k).length ≤ R.length + 1 := by
  have : (R.take k).length ≤ R.length := by rw [List.length_take]; omega
  unfold partN; split
  · rw [(insN_perm _ _ _).length_eq, List.length_cons]; omega
  · omega
theorem any_succ {x : ByteArray} {R : NL} {k : Nat} (hk : k < R.length) : ((R.take (k + 1)).any fun q => ltN x q.1) = (((R.take k).any fun q => ltN x q.1) || ltN x R[k].1) := by
  rw [List.take_succ_eq_append_getElem hk, List.any_append]; simp
theorem partN_old {x : ByteArray} {f : Nat} {R : NL} {k : Nat} (hk : k < R.length) (h : ((R.take k).any fun q => ltN x q.1) = true ∨ ltN x R[k].1 = false) : partN x f R (k + 1) = partN x f R k ++ [R[k]] := by
  unfold partN
  rw [any_succ hk]
  by_cases h1 : ((R.take k).any fun q => ltN x q.1) = true
  · rw [h1, Bool.true_or, if_pos rfl, if_pos rfl, List.take_succ_eq_append_getElem hk, insN_yes _ h1]
  · rw [Bool.not_eq_true] at h1
    have h2 := h.resolve_left (by rw [h1]; simp)
    rw [h1, h2, Bool.or_false, if_neg (by simp), if_neg (by simp), List.take_succ_eq_append_getElem hk]
theorem partN_new {x : ByteArray} {f : Nat} {R : NL} {k : Nat} (hk : k < R.length) (h1 : ((R.take k).any fun q => ltN x q.1) = false) (h2 : ltN x R[k].1 = true) : partN x f R (k + 1) = partN x f R k ++ [(x, f)] ++ [R[k]] := by
  unfold partN
  rw [any_succ hk, h1, h2, Bool.or_true, if_pos rfl, if_neg (by simp), List.take_succ_eq_append_getElem hk, insN_new h1 h2]
theorem partN_end {x : ByteArray} {f : Nat} {R : NL} : insN x f R = if (R.any fun q => ltN x q.1) = true then partN x f R R.length else partN x f R R.length ++ [(x, f)] := by
  unfold partN
  rw [List.take_of_length_le (Nat.le_refl _)]
  split
  · rfl
  · rename_i h
    rw [Bool.not_eq_true] at h
    exact insN_no h
theorem ltN_list (x y : ByteArray) : Op.bytesLess x.toList y.toList = ltN x y := by unfold ltN; rw [Lib.toList_data, Lib.toList_data]
set_option maxRecDepth 100000 in
set_option maxHeartbeats 8000000 in
theorem with_any (v : Value) (m : NL) (x : ByteArray) (f n₀ : Nat) (w : World) (h : NamesAt w n₀ v m) (hlen : m.length ≤ 1099511627776) :
    Calls Tryz.prog 141 #[v, .string x, .int .i64 f] w fun e w' => ∃ v', e = .returned v' ∧ NamesAt w' w.heap.size v' (withN x f m) ∧ Below w.heap.size w w' := by
  obtain ⟨i0, hi, hz0, hz1, hz2⟩ := info_parts info181
  have hwo := without_any v m x n₀ w h hlen
  have hRl := without_len x m
  replace hz0 : Hid _ := hz0
  replace hz1 : Hid _ := hz1
  replace hz2 : Hid _ := hz2
  unfold withN
  generalize without x m = R at hwo hRl ⊢
  clear h
  go_enter Tryz.func141, Tryz.ntmps141
  go_wp2_with (go_at_call 165; refine hwo.mono ?_; clear hwo; rintro e wR ⟨vR, rfl, hR, hBR⟩; obtain ⟨pR, cR, rfl⟩ := own_shape hR; replace hR : Hid (NamesAt wR w.heap.size (.slice pR R.length cR) R) := hR)
  go_loopw [10, 7, 8] (fun i o pt wr => ∃ k : Nat, k ≤ R.length ∧ i = .int .i64 k ∧ pt = .bool ((R.take k).any fun q => ltN x q.1) ∧ NamesAt wr wR.heap.size o (partN x f R k) ∧ Below wR.heap.size wR wr) (fun i _ _ _ => R.length - (intOf i).toNat)
  case atStart => exact ⟨0, by omega, rfl, rfl, NamesAt.nil _ _, Below.refl _ _⟩
  case round =>
    obtain ⟨k, hk, rfl, rfl, hout, hB⟩ := hrel
    obtain ⟨po, co, rfl⟩ := own_shape hout
    have hBw := hBR.trans (hB.mono hBR.size)
    have hpl := partN_len x f R k
    by_cases hlt : k < R.length
    · have hlt' : (k : Int) < (R.length : Int) := by omega
      obtain ⟨g, cap', e, hg, c0', c1'⟩ := hR.out.cells k hlt
      have c0 := (hB.cell (p := ⟨g, k * 2, none⟩) hg).trans c0'
      have c1 := (hB.cell (p := ⟨g, k * 2 + 1, none⟩) hg).trans c1'
      have hcs : ∀ W, Below wR.heap.size wR W → W.cell? ⟨g, k * 2, none⟩ = some (.string R[k].1) ∧ W.cell? ⟨g, k * 2 + 1, none⟩ = some (.int .i64 R[k].2) := fun W hW => ⟨(hW.cell (p := ⟨g, k * 2, none⟩) hg).trans c0', (hW.cell (p := ⟨g, k * 2 + 1, none⟩) hg).trans c1'⟩
      clear c0' c1'
      cases e
      have ho := partN_old (x := x) (f := f) hlt
      have hn := partN_new (x := x) (f := f) hlt
      have ha := any_succ (x := x) hlt
      generalize hq : R[k] = q at c0 c1 ho hn ha hcs
      obtain ⟨y, i⟩ := q
      simp only at c0 c1 ho hn ha hcs
      replace hcs : Hid _ := hcs
      obtain ⟨M, hM⟩ : ∃ M, partN x f R k = M := ⟨_, rfl⟩
      rw [hM] at ho hn hout hpl ⊢
      clear hM hq
      replace hout : Hid (NamesAt wr wR.heap.size (.slice po M.length co) M) := hout
      have hlty := ltN_list x y
      obtain ⟨pb, hpb⟩ : ∃ pb, ((R.take k).any fun q => ltN x q.1) = pb := ⟨_, rfl⟩
      rw [hpb] at ho hn ha ⊢
      clear hpb
      obtain ⟨lb, hlb⟩ : ∃ lb, ltN x y = lb := ⟨_, rfl⟩
      rw [hlb] at ho hn ha hlty
      clear hlb
      cases pb with
      | true =>
        have ho' := ho (.inl rfl)
        clear ho hn
        replace ho' : Hid _ := ho'
        replace ha : Hid _ := ha
        go_wp2_with (at_builtin; refine wpList_append_own _ rfl _ _ 151 rfl wR.heap.size 181 i0 (.agg #[.string ⟨#[]⟩, .int .i64 0]) 2 24 Tryz.underlying151 hi hz0.out hz1.out hz2.out rfl (by decide) _ M.length _ rfl (own_kept hout.out ((Below.refl _ _).alloc (Nat.le_refl _) _)) ⟨wr.heap.size, 0, none⟩ 1 1 [.string y, .int .i64 i] rfl rfl (cells_new2 wr _ _ 181) (one2 y i) (by unfold maxLen; omega) (by omega) (by have := hB.size; simp; omega) ?_; intro v' w1 hown' hgrow _)
        go_roundw
        case rel => exact ⟨k + 1, by omega, by go_num, by rw [ha.out]; rfl, by rw [ho'.out]; exact NamesAt.push hown', (hB.alloc hB.size _).grown hgrow (by simp; have := hB.size; omega) (fun k hk => (hout.out.lt k hk).1)⟩
        case measure => simp [intOf]; omega
      | false =>
        cases lb with
        | false =>
          have ho' := ho (.inr rfl)
          clear ho hn
          replace ho' : Hid _ := ho'
          replace ha : Hid _ := ha
          go_wp2_with (at_builtin; refine wpList_append_own _ rfl _ _ 151 rfl wR.heap.size 181 i0 (.agg #[.string ⟨#[]⟩, .int .i64 0]) 2 24 Tryz.underlying151 hi hz0.out hz1.out hz2.out rfl (by decide) _ M.length _ rfl (own_kept hout.out ((Below.refl _ _).alloc (Nat.le_refl _) _)) ⟨wr.heap.size, 0, none⟩ 1 1 [.string y, .int .i64 i] rfl rfl (cells_new2 wr _ _ 181) (one2 y i) (by unfold maxLen; omega) (by omega) (by have := hB.size; simp; omega) ?_; intro v' w1 hown' hgrow _)
          go_roundw
          case rel => exact ⟨k + 1, by omega, by go_num, by rw [ha.out]; rfl, by rw [ho'.out]; exact NamesAt.push hown', (hB.alloc hB.size _).grown hgrow (by simp; have := hB.size; omega) (fun k hk => (hout.out.lt k hk).1)⟩
          case measure => simp [intOf]; omega
        | true =>
          have hn' := hn rfl rfl
          clear ho hn
          replace hn' : Hid _ := hn'
          replace ha : Hid _ := ha
          have k1 : True := trivial
          go_wp2_with (first
            | (clear k1; at_builtin; refine wpList_append_own _ rfl _ _ 151 rfl wR.heap.size 181 i0 (.agg #[.string ⟨#[]⟩, .int .i64 0]) 2 24 Tryz.underlying151 hi hz0.out hz1.out hz2.out rfl (by decide) _ M.length _ rfl (own_kept hout.out ((Below.refl _ _).alloc (Nat.le_refl _) _)) ⟨wr.heap.size, 0, none⟩ 1 1 [.string x, .int .i64 f] rfl rfl (cells_new2 wr _ _ 181) (one2 x f) (by unfold maxLen; omega) (by omega) (by have := hB.size; simp; omega) ?_; intro v' w1 hown' hgrow _
               have hM1 := NamesAt.push (q := (x, f)) hown'
               have hB1 : Below wR.heap.size wR w1 := (hB.alloc hB.size _).grown hgrow (by simp; have := hB.size; omega) (fun k hk => (hout.out.lt k hk).1)
               obtain ⟨p1, c1', rfl⟩ := own_shape hM1
               obtain ⟨d0, d1⟩ := hcs.out w1 hB1
               have hMl : (M ++ [(x, f)]).length = M.length + 1 := by simp
               unfold NamesAt at hM1
               rw [hMl] at hM1 ⊢
               replace hM1 : Hid (w1.ownsRow wR.heap.size 181 2 (.slice p1 (M.length + 1) c1') (M.length + 1) ((M ++ [(x, f)]).flatMap encN)) := hM1
               clear hMl
               have k2 : True := trivial)
            | (clear k2; at_builtin; refine wpList_append_own _ rfl _ _ 151 rfl wR.heap.size 181 i0 (.agg #[.string ⟨#[]⟩, .int .i64 0]) 2 24 Tryz.underlying151 hi hz0.out hz1.out hz2.out rfl (by decide) _ (M.length + 1) _ rfl (own_kept hM1.out ((Below.refl _ _).alloc (Nat.le_refl _) _)) ⟨w1.heap.size, 0, none⟩ 1 1 [.string y, .int .i64 i] rfl rfl (cells_new2 w1 _ _ 181) (one2 y i) (by unfold maxLen; omega) (by omega) (by have := hB1.size; simp; omega) ?_; intro v'' w2 hown'' hgrow2 _))
          go_roundw
          case rel => exact ⟨k + 1, by omega, by go_num, by rw [ha.out]; rfl, by rw [hn'.out]; exact NamesAt.push (m := M ++ [(x, f)]) (q := (y, i)) (by rw [List.length_append]; exact hown''), (hB1.alloc hB1.size _).grown hgrow2 (by simp; have := hB1.size; omega) (fun k hk => (hM1.out.lt k hk).1)⟩
          case measure => simp [intOf]; omega
    · obtain rfl : k = R.length := by omega
      have hlt' : ¬ ((R.length : Nat) : Int) < (R.length : Int) := by omega
      have he := partN_end (x := x) (f := f) (R := R)
      rw [List.take_of_length_le (Nat.le_refl _)]
      obtain ⟨pb, hpb⟩ : ∃ pb, (R.any fun q => ltN x q.1) = pb := ⟨_, rfl⟩
      rw [hpb] at he ⊢
      clear hpb
      cases pb with
      | true =>
        rw [if_pos rfl] at he
        replace he : Hid _ := he
        replace hout : Hid (NamesAt wr wR.heap.size (.slice po (partN x f R R.length).length co) (partN x f R R.length)) := hout
        go_wp2_with fail
        go_returns
        exact ⟨_, rfl, by rw [he.out]; exact hout.out.lower hBR.size, hBw⟩
      | false =>
        rw [if_neg (by simp)] at he
        replace he : Hid _ := he
        replace hout : Hid (NamesAt wr wR.heap.size (.slice po (partN x f R R.length).length co) (partN x f R R.length)) := hout
        go_wp2_with (at_builtin; refine wpList_append_own _ rfl _ _ 151 rfl wR.heap.size 181 i0 (.agg #[.string ⟨#[]⟩, .int .i64 0]) 2 24 Tryz.underlying151 hi hz0.out hz1.out hz2.out rfl (by decide) _ (partN x f R R.length).length _ rfl (own_kept hout.out ((Below.refl _ _).alloc (Nat.le_refl _) _)) ⟨wr.heap.size, 0, none⟩ 1 1 [.string x, .int .i64 f] rfl rfl (cells_new2 wr _ _ 181) (one2 x f) (by unfold maxLen; omega) (by omega) (by have := hB.size; simp; omega) ?_; intro v' w1 hown' hgrow _)
        go_returns
        exact ⟨_, rfl, by rw [he.out]; exact (NamesAt.push hown').lower hBR.size, hBR.trans (((hB.alloc hB.size _).grown hgrow (by simp; have := hB.size; omega) (fun k hk => (hout.out.lt k hk).1)).mono hBR.size)⟩
end Go.Proofs.YtmcmagplaflegaaGreat
