/-
 A STEP OF THE PAIR: more kinds. Conditions: those of each theorem.
-/
import Derived.Test.YtmcmagplaflegaaGreatDoorX22

namespace Go.Proofs.YtmcmagplaflegaaGreatDoor
open Go Go.RowKit Go.MapL Go.Poised

variable {P pd pu J M n₀ m m' : Nat} {s s' : DS} {d d' : RD} {j j' : Jn} {r r' : Jr} {jv mv : Value} {w w' w'' W : World} {K K' : Nat → Prop}
set_option maxRecDepth 100000 in
set_option maxHeartbeats 16000000 in
theorem step7_any (w0 : World) (x : De) (bv lv kv : Value) (hd : DeIn w0 x bv lv kv) (hk : x.kind % 8 = 7) (h : PV w P pd pu w0.heap.size m s d jv mv K) (al : Alike m s d) (hB : Below w0.heap.size w0 w) (hm : m < 50000000) (hback : ∀ w' s' d' m', PV w' P pd pu w0.heap.size m' s' d' jv mv K → Kept K w0.heap.size w w' → Alike m' s' d' → m ≤ m' → PairIn w' P pd pu w0.heap.size m') :
  Calls Tryz.prog 27 #[ofBlock P, .agg #[.int .i64 x.kind, .int .i64 x.n, bv, lv, kv]] w fun e w' => StepOk w0 w' P pd pu m e := by
 obtain ⟨kind, n, b, l, keep⟩ := x
 have hbr8 := fun W => bring_any kind 8 (by omega) (by omega) hd.kind1 hd.kind2 W
 simp only at hk
 rw [hk] at hbr8
 replace hbr8 : Hid _ := hbr8
 obtain ⟨bq, bcap, rfl⟩ : ∃ bq bcap, bv = .slice bq b.length bcap := by
  obtain ⟨_, q, c, e, _⟩ := hd.b
  exact ⟨q, c, e⟩
 obtain ⟨lq, lcap, rfl⟩ : ∃ lq lcap, lv = .slice lq l.length lcap := by
  obtain ⟨_, ⟨q, c, e, _⟩, _⟩ := hd.l
  exact ⟨q, c, e⟩
 obtain ⟨kq, kcap, rfl⟩ : ∃ kq kcap, kv = .slice kq keep.length kcap := by
  rcases hd.keep.2.2 with ⟨rfl, e⟩ | ⟨a, c, rfl, e⟩ | ⟨a, o, c, rfl, _⟩
  ·exact ⟨none, 0, by rw [show keep = [] from e]; rfl⟩
  ·exact ⟨some a, c, by rw [show keep = [] from e]; rfl⟩
  ·exact ⟨_, c, rfl⟩
 obtain ⟨W, hW⟩ : ∃ W, (w.alloc (.cells #[.int .i64 kind, .int .i64 n, .slice bq b.length bcap, .slice lq l.length lcap, .slice kq keep.length kcap] 46)).alloc (.cells #[.string jN, .string jM] 9) = W := ⟨_, rfl⟩
 have hA := stepMem_ahead ⟨kind, n, b, l, keep⟩ (.slice bq b.length bcap) (.slice lq l.length lcap) (.slice kq keep.length kcap) w
 rw [show stepMem ⟨kind, n, b, l, keep⟩ (.slice bq b.length bcap) (.slice lq l.length lcap) (.slice kq keep.length kcap) w = W from hW] at hA
 obtain ⟨hbW, hxW, hlW⟩ := hA
 have hW' : Hid ((w.alloc (.cells #[.int .i64 kind, .int .i64 n, .slice bq b.length bcap, .slice lq l.length lcap, .slice kq keep.length kcap] 46)).alloc (.cells #[.string ⟨#[106, 111, 117, 114, 110, 97, 108]⟩, .string ⟨#[106, 111, 117, 114, 110, 97, 108, 46, 110, 101, 119]⟩] 9) = W) := hW
 clear hW
 have hBW := hB.trans (hbW.mono hB.size)
 have hK0P := h.kp
 have hnW : ¬ K w.heap.size := fun hg => by have := h.both.lt _ hg; omega
 have hp0 : PV W P pd pu w0.heap.size m s d jv mv (fun g => K g ∨ g = w.heap.size) := h.more hbW (.inl h.kp) (fun g hg => hg.imp id (fun e => ⟨by omega, by omega⟩))
 have hk0 : Kept K w0.heap.size w W := h.both.kept hbW
 have hde : ∀ w', Kept (fun g => K g ∨ g = w.heap.size) w0.heap.size W w' → DeIn w' ⟨kind, n, b, l, keep⟩ (.slice bq b.length bcap) (.slice lq l.length lcap) (.slice kq keep.length kcap) := fun w' hk => hd.below (hBW.trans hk.below)
 obtain ⟨p0, p1, p2, p3, p4⟩ := cells5p h.cell
 have hPw := h.both.lt P h.kp
 clear h
 have hn1 := hd.n1
 have hn2 := hd.n2
 simp only at hn1 hn2
 have hz1 := Int.tmod_add_mul_tdiv n 8
 have hz2 : -8 < n.tmod 8 := Int.lt_tmod_of_pos n (by omega)
 have hz3 : n.tmod 8 < 8 := Int.tmod_lt_of_pos n (by omega)
 have hz4 : -1152921504606846977 ≤ n.tdiv 8 ∧ n.tdiv 8 ≤ 1152921504606846977 := by omega
 clear hz1 hz2 hz3
 have gq : IntKind.i64.wrap (n.tdiv 8) = n.tdiv 8 := IntWalk.i64_in _ (by omega)
 have hsz := readR_bytes hp0.both.sr jN
 obtain ⟨F0, hR0, _, _, _⟩ := hp0.both.right
 have hsi := rlive_size jN hR0 (by omega)
 obtain ⟨N, hN⟩ : ∃ N, (readR d jN).1.length = N := ⟨_, rfl⟩
 obtain ⟨ec, hec⟩ : ∃ ec, (readR d jN).2 = ec := ⟨_, rfl⟩
 rw [hN, hec] at hsi
 rw [hN] at hsz
 obtain ⟨_, hN16⟩ := hsz
 have hg1 := fun W => bringG_any (n.tdiv 8) N (by omega) (by omega) (by omega) W
 have hg2 := fun W => bring_any n 8 (by omega) (by omega) hn1 hn2 W
 have hr1 := brg_range (n.tdiv 8) N (by omega)
 have hr2 := Int.emod_nonneg n (b := 8) (by omega)
 have hr3 := Int.emod_lt_of_pos n (b := 8) (by omega)
 obtain ⟨ta, hta⟩ : ∃ ta, brg (n.tdiv 8) N = ta := ⟨_, rfl⟩
 obtain ⟨tb, htb⟩ : ∃ tb, n % 8 = tb := ⟨_, rfl⟩
 rw [hta] at hg1 hr1
 rw [htb] at hg2 hr2 hr3
 clear hR0 hN hec hta htb hd
 have hap := al.turn jN ta tb
 obtain ⟨⟨s1, c⟩, hq⟩ : ∃ q, s.turn jN ta tb = q := ⟨_, rfl⟩
 obtain ⟨⟨d1, c'⟩, hr⟩ : ∃ q, d.turn jN ta tb = q := ⟨_, rfl⟩
 rw [hq, hr] at hap
 obtain ⟨hcc, hal⟩ := hap
 simp only at hcc hal
 subst hcc
 have hcs : (c == c) = true := by simp
 have e0 : Hid (∀ w1, StC P pd pu w0.heap.size m (two s s1 0) (two d d1 1) jv mv (fun g => K g ∨ g = w.heap.size) W 0 w1 → Calls Tryz.prog 70 #[ofBlock pd, .string jN, .int .i64 ta, .int .i64 tb] w1 fun e w' => e = .returned (.int .i64 c) ∧ Kept (fun g => K g ∨ g = w.heap.size) w0.heap.size w1 w' ∧ StC P pd pu w0.heap.size m (two s s1 0) (two d d1 1) jv mv (fun g => K g ∨ g = w.heap.size) W 1 w') := fun w1 hst =>
  (hst.pv.callL (s' := s1) (m' := m + 2 * 1) (X := .returned (.int .i64 c)) (by omega) (fun F hl => by
   have := live_turn jN ta tb hl (by omega) (by omega) (by omega) (by omega)
   rw [show (two s s1 0 0) = s from rfl, hq] at this
   exact this.mono (fun e w' h => ⟨h.1, h.2.1.mono (by omega), h.2.2⟩))).mono (fun e w' h => ⟨h.1, h.2.2, h.2.1, hst.kept.trans h.2.2⟩)
 have e1 : Hid (∀ w1, StC P pd pu w0.heap.size m (two s s1 0) (two d d1 1) jv mv (fun g => K g ∨ g = w.heap.size) W 1 w1 → Calls Tryz.prog 71 #[ofBlock pu, .string jN, .int .i64 ta, .int .i64 tb] w1 fun e w' => e = .returned (.int .i64 c) ∧ Kept (fun g => K g ∨ g = w.heap.size) w0.heap.size w1 w' ∧ StC P pd pu w0.heap.size m (two s s1 0) (two d d1 1) jv mv (fun g => K g ∨ g = w.heap.size) W 2 w') := fun w1 hst =>
  (hst.pv.callR (d' := d1) (m' := m + 2 * 2) (X := .returned (.int .i64 c)) (by omega) (fun F hl => by
   have := rlive_turn jN ta tb hl (by omega) (by omega) (by omega) (by omega) (by omega)
   rw [show (two d d1 1 1) = d from rfl, hr] at this
   exact this.mono (fun e w' h => ⟨h.1, h.2.1.mono (by omega), h.2.2⟩))).mono (fun e w' h => ⟨h.1, h.2.2, h.2.1, hst.kept.trans h.2.2⟩)
 clear hq hr
 obtain ⟨x0, x1, x2, x3, x4⟩ := cells5p hxW
 obtain ⟨y0, y1, y2, y3, y4⟩ := cells5p hp0.cell
 replace hxW : Hid _ := hxW
 replace hback : Hid _ := hback
 replace hal : Hid _ := hal
 replace hde : Hid _ := hde
 replace al : Hid _ := al
 replace hg1 : Hid _ := hg1
 replace hg2 : Hid _ := hg2
 have hst0 : StC P pd pu w0.heap.size m (two s s1 0) (two d d1 1) jv mv (fun g => K g ∨ g = w.heap.size) W 0 W := ⟨hp0, Kept.refl _ _ _⟩
 replace hst0 : Hid _ := hst0
 replace hp0 : Hid _ := hp0
 unfold jN at hsi
 rcases and_bit n with hnb | hnb
 all_goals
  unfold ofBlock at *
  go_enter Tryz.func27, Tryz.ntmps27
  go_wp2_with (first
   |(go_at_call 17; refine (hbr8.out _).mono ?_; rintro e w6 ⟨rfl, hw6⟩; subst hw6)
   |(go_at_call 69; rw [hW'.out]; refine hsi.mono ?_; clear hsi; rintro e w7 ⟨rfl, hb7⟩; have hst1 := (hst0.out.below hb7).2; replace hst1 : Hid _ := hst1))
  refine Staged.staged_then 36 [18, 31] (StC P pd pu w0.heap.size m (two s s1 0) (two d d1 1) jv mv (fun g => K g ∨ g = w.heap.size) W) (fun z1 z2 => Kept (fun g => K g ∨ g = w.heap.size) w0.heap.size z1 z2) (by kernel_rfl) (by kernel_rfl) (by kernel_rfl) (by kernel_rfl) (hst1.out.below (Below.refl _ _).drew).2 ?_
  apply Exists.intro
  simp only [List.take_succ_cons, List.take_zero]
  iterate 4
   apply Staged.walk_det
   ·exact fun τ z1 z2 h hb => StC.below h hb
   ·rfl
   ·rfl
   ·intro τ w2 hC hF
    simp only [upon]
    go_simp
    exact ⟨Below.refl _ _, rfl⟩
   simp only [put_lit, List.set_cons_succ, List.set_cons_zero]
  apply Staged.walk_det
  ·exact fun τ z1 z2 h hb => StC.below h hb
  ·rfl
  ·rfl
  ·intro τ w2 hC hF
   obtain ⟨y0, y1, y2, y3, y4⟩ := cells5p hC.pv.cell
   unfold ofBlock at y0 y2
   have z1 := (hC.kept.cell (q := ⟨w.heap.size, 1, none⟩) (.inr rfl)).trans x1
   simp only [upon]
   go_simp
   exact ⟨Below.refl _ _, rfl⟩
  simp only [put_lit, List.set_cons_succ, List.set_cons_zero]
  iterate 4
   apply Staged.walk_det
   ·exact fun τ z1 z2 h hb => StC.below h hb
   ·rfl
   ·rfl
   ·intro τ w2 hC hF
    simp only [upon]
    go_simp
    exact ⟨Below.refl _ _, rfl⟩
   simp only [put_lit, List.set_cons_succ, List.set_cons_zero]
  apply Staged.walk_det
  ·exact fun τ z1 z2 h hb => StC.below h hb
  ·rfl
  ·rfl
  ·intro τ w2 hC hF
   obtain ⟨y0, y1, y2, y3, y4⟩ := cells5p hC.pv.cell
   unfold ofBlock at y0 y2
   have z1 := (hC.kept.cell (q := ⟨w.heap.size, 1, none⟩) (.inr rfl)).trans x1
   simp only [upon]
   go_simp
   exact ⟨Below.refl _ _, rfl⟩
  simp only [put_lit, List.set_cons_succ, List.set_cons_zero]
  apply Staged.walk_det
  ·exact fun τ z1 z2 h hb => StC.below h hb
  ·rfl
  ·rfl
  ·intro τ w2 hC hF
   simp only [upon]
   go_simp
   exact ⟨Below.refl _ _, rfl⟩
  simp only [put_lit, List.set_cons_succ, List.set_cons_zero]
  apply Staged.walk_det
  ·exact fun τ z1 z2 h hb => StC.below h hb
  ·rfl
  ·rfl
  ·intro τ w2 hC hF
   obtain ⟨y0, y1, y2, y3, y4⟩ := cells5p hC.pv.cell
   unfold ofBlock at y0 y2
   have z1 := (hC.kept.cell (q := ⟨w.heap.size, 1, none⟩) (.inr rfl)).trans x1
   simp only [upon]
   go_simp
   exact ⟨Below.refl _ _, rfl⟩
  simp only [put_lit, List.set_cons_succ, List.set_cons_zero]
  iterate 2
   apply Staged.walk_det
   ·exact fun τ z1 z2 h hb => StC.below h hb
   ·rfl
   ·rfl
   ·intro τ w2 hC hF
    simp only [upon]
    go_simp
    exact ⟨Below.refl _ _, rfl⟩
   simp only [put_lit, List.set_cons_succ, List.set_cons_zero]
  apply Staged.walk_det
  ·exact fun τ z1 z2 h hb => StC.below h hb
  ·rfl
  ·rfl
  ·intro τ w2 hC hF
   simp only [upon]
   go_simp
   exact still_call (hg1.out w2)
  simp only [put_lit, List.set_cons_succ, List.set_cons_zero]
  apply Staged.walk_det
  ·exact fun τ z1 z2 h hb => StC.below h hb
  ·rfl
  ·rfl
  ·intro τ w2 hC hF
   simp only [upon]
   go_simp
   exact ⟨Below.refl _ _, rfl⟩
  simp only [put_lit, List.set_cons_succ, List.set_cons_zero]
  apply Staged.walk_det
  ·exact fun τ z1 z2 h hb => StC.below h hb
  ·rfl
  ·rfl
  ·intro τ w2 hC hF
   obtain ⟨y0, y1, y2, y3, y4⟩ := cells5p hC.pv.cell
   unfold ofBlock at y0 y2
   have z1 := (hC.kept.cell (q := ⟨w.heap.size, 1, none⟩) (.inr rfl)).trans x1
   simp only [upon]
   go_simp
   exact ⟨Below.refl _ _, rfl⟩
  simp only [put_lit, List.set_cons_succ, List.set_cons_zero]
  apply Staged.walk_det
  ·exact fun τ z1 z2 h hb => StC.below h hb
  ·rfl
  ·rfl
  ·intro τ w2 hC hF
   simp only [upon]
   go_simp
   exact still_call (hg2.out w2)
  simp only [put_lit, List.set_cons_succ, List.set_cons_zero]
  apply Staged.walk_turn
  ·rfl
  ·rfl
  ·intro w2 hC hF
   simp only [upon]
   go_simp
   exact (e0.out w2 hC).mono (fun e w3 h => ⟨h.1, ⟨h.2.1, h.2.2⟩⟩)
  simp only [put_lit, List.set_cons_succ, List.set_cons_zero]
  iterate 3
   apply Staged.walk_det
   ·exact fun τ z1 z2 h hb => StC.below h hb
   ·rfl
   ·rfl
   ·intro τ w2 hC hF
    simp only [upon]
    go_simp
    exact ⟨Below.refl _ _, rfl⟩
   simp only [put_lit, List.set_cons_succ, List.set_cons_zero]
  apply Staged.walk_det
  ·exact fun τ z1 z2 h hb => StC.below h hb
  ·rfl
  ·rfl
  ·intro τ w2 hC hF
   obtain ⟨y0, y1, y2, y3, y4⟩ := cells5p hC.pv.cell
   unfold ofBlock at y0 y2
   have z1 := (hC.kept.cell (q := ⟨w.heap.size, 1, none⟩) (.inr rfl)).trans x1
   simp only [upon]
   go_simp
   exact ⟨Below.refl _ _, rfl⟩
  simp only [put_lit, List.set_cons_succ, List.set_cons_zero]
  apply Staged.walk_det
  ·exact fun τ z1 z2 h hb => StC.below h hb
  ·rfl
  ·rfl
  ·intro τ w2 hC hF
   simp only [upon]
   go_simp
   exact ⟨Below.refl _ _, rfl⟩
  simp only [put_lit, List.set_cons_succ, List.set_cons_zero]
  apply Staged.walk_det
  ·exact fun τ z1 z2 h hb => StC.below h hb
  ·rfl
  ·rfl
  ·intro τ w2 hC hF
   obtain ⟨y0, y1, y2, y3, y4⟩ := cells5p hC.pv.cell
   unfold ofBlock at y0 y2
   have z1 := (hC.kept.cell (q := ⟨w.heap.size, 1, none⟩) (.inr rfl)).trans x1
   simp only [upon]
   go_simp
   exact ⟨Below.refl _ _, rfl⟩
  simp only [put_lit, List.set_cons_succ, List.set_cons_zero]
  iterate 2
   apply Staged.walk_det
   ·exact fun τ z1 z2 h hb => StC.below h hb
   ·rfl
   ·rfl
   ·intro τ w2 hC hF
    simp only [upon]
    go_simp
    exact ⟨Below.refl _ _, rfl⟩
   simp only [put_lit, List.set_cons_succ, List.set_cons_zero]
  apply Staged.walk_det
  ·exact fun τ z1 z2 h hb => StC.below h hb
  ·rfl
  ·rfl
  ·intro τ w2 hC hF
   simp only [upon]
   go_simp
   exact still_call (hg1.out w2)
  simp only [put_lit, List.set_cons_succ, List.set_cons_zero]
  apply Staged.walk_det
  ·exact fun τ z1 z2 h hb => StC.below h hb
  ·rfl
  ·rfl
  ·intro τ w2 hC hF
   simp only [upon]
   go_simp
   exact ⟨Below.refl _ _, rfl⟩
  simp only [put_lit, List.set_cons_succ, List.set_cons_zero]
  apply Staged.walk_det
  ·exact fun τ z1 z2 h hb => StC.below h hb
  ·rfl
  ·rfl
  ·intro τ w2 hC hF
   obtain ⟨y0, y1, y2, y3, y4⟩ := cells5p hC.pv.cell
   unfold ofBlock at y0 y2
   have z1 := (hC.kept.cell (q := ⟨w.heap.size, 1, none⟩) (.inr rfl)).trans x1
   simp only [upon]
   go_simp
   exact ⟨Below.refl _ _, rfl⟩
  simp only [put_lit, List.set_cons_succ, List.set_cons_zero]
  apply Staged.walk_det
  ·exact fun τ z1 z2 h hb => StC.below h hb
  ·rfl
  ·rfl
  ·intro τ w2 hC hF
   simp only [upon]
   go_simp
   exact still_call (hg2.out w2)
  simp only [put_lit, List.set_cons_succ, List.set_cons_zero]
  apply Staged.walk_turn
  ·rfl
  ·rfl
  ·intro w2 hC hF
   simp only [upon]
   go_simp
   exact (e1.out w2 hC).mono (fun e w3 h => ⟨h.1, ⟨h.2.1, h.2.2⟩⟩)
  simp only [put_lit, List.set_cons_succ, List.set_cons_zero]
  iterate 4
   apply Staged.walk_det
   ·exact fun τ z1 z2 h hb => StC.below h hb
   ·rfl
   ·rfl
   ·intro τ w2 hC hF
    simp only [upon]
    go_simp
    exact ⟨Below.refl _ _, rfl⟩
   simp only [put_lit, List.set_cons_succ, List.set_cons_zero]
  apply Staged.walk_nil
  intro a0 ha0 _
  simp only [List.drop_succ_cons, List.drop_zero]
  clear y0 y1 y2 y3 y4
  obtain ⟨y0, y1, y2, y3, y4⟩ := cells5p ha0.pv.cell
  have yf := free_of ha0.pv.cell 4
  replace ha0 : Hid _ := ha0
  go_wp2_with fail
  go_returns
  have hps := ha0.out.pv.stored
  exact ⟨rfl, (hback.out _ _ _ (m + 4) (hps.1.sub hK0P (fun g hg => .inl hg)) (hk0.trans ((ha0.out.kept.trans hps.2).sub (fun g hg => .inl hg))) (hal.out.mono (by omega)) (by omega)).mono (by omega), hBW.trans (ha0.out.kept.trans hps.2).below⟩
set_option maxRecDepth 100000 in
set_option maxHeartbeats 16000000 in
theorem stepn0_any (w0 : World) (x : De) (bv lv kv : Value) (hd : DeIn w0 x bv lv kv) (hk : x.kind % 8 = 0) (h : PClosed w P pd pu w0.heap.size m s d) (hB : Below w0.heap.size w0 w) :
  Calls Tryz.prog 27 #[ofBlock P, .agg #[.int .i64 x.kind, .int .i64 x.n, bv, lv, kv]] w fun e w' => StepOk w0 w' P pd pu m e := by
 obtain ⟨kind, n, b, l, keep⟩ := x
 have hbr8 := fun W => bring_any kind 8 (by omega) (by omega) hd.kind1 hd.kind2 W
 simp only at hk
 rw [hk] at hbr8
 replace hbr8 : Hid _ := hbr8
 obtain ⟨bq, bcap, rfl⟩ : ∃ bq bcap, bv = .slice bq b.length bcap := by
  obtain ⟨_, q, c, e, _⟩ := hd.b
  exact ⟨q, c, e⟩
 obtain ⟨lq, lcap, rfl⟩ : ∃ lq lcap, lv = .slice lq l.length lcap := by
  obtain ⟨_, ⟨q, c, e, _⟩, _⟩ := hd.l
  exact ⟨q, c, e⟩
 obtain ⟨kq, kcap, rfl⟩ : ∃ kq kcap, kv = .slice kq keep.length kcap := by
  rcases hd.keep.2.2 with ⟨rfl, e⟩ | ⟨a, c, rfl, e⟩ | ⟨a, o, c, rfl, _⟩
  ·exact ⟨none, 0, by rw [show keep = [] from e]; rfl⟩
  ·exact ⟨some a, c, by rw [show keep = [] from e]; rfl⟩
  ·exact ⟨_, c, rfl⟩
 obtain ⟨W, hW⟩ : ∃ W, (w.alloc (.cells #[.int .i64 kind, .int .i64 n, .slice bq b.length bcap, .slice lq l.length lcap, .slice kq keep.length kcap] 46)).alloc (.cells #[.string jN, .string jM] 9) = W := ⟨_, rfl⟩
 have hA := stepMem_ahead ⟨kind, n, b, l, keep⟩ (.slice bq b.length bcap) (.slice lq l.length lcap) (.slice kq keep.length kcap) w
 rw [show stepMem ⟨kind, n, b, l, keep⟩ (.slice bq b.length bcap) (.slice lq l.length lcap) (.slice kq keep.length kcap) w = W from hW] at hA
 obtain ⟨hbW, hxW, hlW⟩ := hA
 have hW' : Hid ((w.alloc (.cells #[.int .i64 kind, .int .i64 n, .slice bq b.length bcap, .slice lq l.length lcap, .slice kq keep.length kcap] 46)).alloc (.cells #[.string ⟨#[106, 111, 117, 114, 110, 97, 108]⟩, .string ⟨#[106, 111, 117, 114, 110, 97, 108, 46, 110, 101, 119]⟩] 9) = W) := hW
 clear hW
 have hBW := hB.trans (hbW.mono hB.size)
 have hpi : PairIn W P pd pu w0.heap.size m := PairIn.below (.inl ⟨s, d, h⟩) hbW
 obtain ⟨p0, p1, p2, p3, p4⟩ := cells5p h.pv.cell
 have hPw := h.pv.both.lt P h.pv.kp
 clear h hd hxW
 replace hpi : Hid _ := hpi
 rcases and_bit n with hnb | hnb
 all_goals
  unfold ofBlock at *
  go_enter Tryz.func27, Tryz.ntmps27
  go_wp2_with (first
   |(go_at_call 17; refine (hbr8.out _).mono ?_; rintro e w6 ⟨rfl, hw6⟩; subst hw6))
  try (rw [hW'.out]; go_wp2_with fail)
  go_returns
  try rw [hW'.out]
  exact ⟨rfl, PairIn.mono hpi.out (by omega), hBW⟩
set_option maxRecDepth 100000 in
set_option maxHeartbeats 16000000 in
theorem stepn1_any (w0 : World) (x : De) (bv lv kv : Value) (hd : DeIn w0 x bv lv kv) (hk : x.kind % 8 = 1) (h : PClosed w P pd pu w0.heap.size m s d) (hB : Below w0.heap.size w0 w) :
  Calls Tryz.prog 27 #[ofBlock P, .agg #[.int .i64 x.kind, .int .i64 x.n, bv, lv, kv]] w fun e w' => StepOk w0 w' P pd pu m e := by
 obtain ⟨kind, n, b, l, keep⟩ := x
 have hbr8 := fun W => bring_any kind 8 (by omega) (by omega) hd.kind1 hd.kind2 W
 simp only at hk
 rw [hk] at hbr8
 replace hbr8 : Hid _ := hbr8
 obtain ⟨bq, bcap, rfl⟩ : ∃ bq bcap, bv = .slice bq b.length bcap := by
  obtain ⟨_, q, c, e, _⟩ := hd.b
  exact ⟨q, c, e⟩
 obtain ⟨lq, lcap, rfl⟩ : ∃ lq lcap, lv = .slice lq l.length lcap := by
  obtain ⟨_, ⟨q, c, e, _⟩, _⟩ := hd.l
  exact ⟨q, c, e⟩
 obtain ⟨kq, kcap, rfl⟩ : ∃ kq kcap, kv = .slice kq keep.length kcap := by
  rcases hd.keep.2.2 with ⟨rfl, e⟩ | ⟨a, c, rfl, e⟩ | ⟨a, o, c, rfl, _⟩
  ·exact ⟨none, 0, by rw [show keep = [] from e]; rfl⟩
  ·exact ⟨some a, c, by rw [show keep = [] from e]; rfl⟩
  ·exact ⟨_, c, rfl⟩
 obtain ⟨W, hW⟩ : ∃ W, (w.alloc (.cells #[.int .i64 kind, .int .i64 n, .slice bq b.length bcap, .slice lq l.length lcap, .slice kq keep.length kcap] 46)).alloc (.cells #[.string jN, .string jM] 9) = W := ⟨_, rfl⟩
 have hA := stepMem_ahead ⟨kind, n, b, l, keep⟩ (.slice bq b.length bcap) (.slice lq l.length lcap) (.slice kq keep.length kcap) w
 rw [show stepMem ⟨kind, n, b, l, keep⟩ (.slice bq b.length bcap) (.slice lq l.length lcap) (.slice kq keep.length kcap) w = W from hW] at hA
 obtain ⟨hbW, hxW, hlW⟩ := hA
 have hW' : Hid ((w.alloc (.cells #[.int .i64 kind, .int .i64 n, .slice bq b.length bcap, .slice lq l.length lcap, .slice kq keep.length kcap] 46)).alloc (.cells #[.string ⟨#[106, 111, 117, 114, 110, 97, 108]⟩, .string ⟨#[106, 111, 117, 114, 110, 97, 108, 46, 110, 101, 119]⟩] 9) = W) := hW
 clear hW
 have hBW := hB.trans (hbW.mono hB.size)
 have hpi : PairIn W P pd pu w0.heap.size m := PairIn.below (.inl ⟨s, d, h⟩) hbW
 obtain ⟨p0, p1, p2, p3, p4⟩ := cells5p h.pv.cell
 have hPw := h.pv.both.lt P h.pv.kp
 clear h hd hxW
 replace hpi : Hid _ := hpi
 rcases and_bit n with hnb | hnb
 all_goals
  unfold ofBlock at *
  go_enter Tryz.func27, Tryz.ntmps27
  go_wp2_with (first
   |(go_at_call 17; refine (hbr8.out _).mono ?_; rintro e w6 ⟨rfl, hw6⟩; subst hw6))
  try (rw [hW'.out]; go_wp2_with fail)
  go_returns
  try rw [hW'.out]
  exact ⟨rfl, PairIn.mono hpi.out (by omega), hBW⟩
set_option maxRecDepth 100000 in
set_option maxHeartbeats 16000000 in
theorem stepn2_any (w0 : World) (x : De) (bv lv kv : Value) (hd : DeIn w0 x bv lv kv) (hk : x.kind % 8 = 2) (h : PClosed w P pd pu w0.heap.size m s d) (hB : Below w0.heap.size w0 w) :
  Calls Tryz.prog 27 #[ofBlock P, .agg #[.int .i64 x.kind, .int .i64 x.n, bv, lv, kv]] w fun e w' => StepOk w0 w' P pd pu m e := by
 obtain ⟨kind, n, b, l, keep⟩ := x
 have hbr8 := fun W => bring_any kind 8 (by omega) (by omega) hd.kind1 hd.kind2 W
 simp only at hk
 rw [hk] at hbr8
 replace hbr8 : Hid _ := hbr8
 obtain ⟨bq, bcap, rfl⟩ : ∃ bq bcap, bv = .slice bq b.length bcap := by
  obtain ⟨_, q, c, e, _⟩ := hd.b
  exact ⟨q, c, e⟩
 obtain ⟨lq, lcap, rfl⟩ : ∃ lq lcap, lv = .slice lq l.length lcap := by
  obtain ⟨_, ⟨q, c, e, _⟩, _⟩ := hd.l
  exact ⟨q, c, e⟩
 obtain ⟨kq, kcap, rfl⟩ : ∃ kq kcap, kv = .slice kq keep.length kcap := by
  rcases hd.keep.2.2 with ⟨rfl, e⟩ | ⟨a, c, rfl, e⟩ | ⟨a, o, c, rfl, _⟩
  ·exact ⟨none, 0, by rw [show keep = [] from e]; rfl⟩
  ·exact ⟨some a, c, by rw [show keep = [] from e]; rfl⟩
  ·exact ⟨_, c, rfl⟩
 obtain ⟨W, hW⟩ : ∃ W, (w.alloc (.cells #[.int .i64 kind, .int .i64 n, .slice bq b.length bcap, .slice lq l.length lcap, .slice kq keep.length kcap] 46)).alloc (.cells #[.string jN, .string jM] 9) = W := ⟨_, rfl⟩
 have hA := stepMem_ahead ⟨kind, n, b, l, keep⟩ (.slice bq b.length bcap) (.slice lq l.length lcap) (.slice kq keep.length kcap) w
 rw [show stepMem ⟨kind, n, b, l, keep⟩ (.slice bq b.length bcap) (.slice lq l.length lcap) (.slice kq keep.length kcap) w = W from hW] at hA
 obtain ⟨hbW, hxW, hlW⟩ := hA
 have hW' : Hid ((w.alloc (.cells #[.int .i64 kind, .int .i64 n, .slice bq b.length bcap, .slice lq l.length lcap, .slice kq keep.length kcap] 46)).alloc (.cells #[.string ⟨#[106, 111, 117, 114, 110, 97, 108]⟩, .string ⟨#[106, 111, 117, 114, 110, 97, 108, 46, 110, 101, 119]⟩] 9) = W) := hW
 clear hW
 have hBW := hB.trans (hbW.mono hB.size)
 have hpi : PairIn W P pd pu w0.heap.size m := PairIn.below (.inl ⟨s, d, h⟩) hbW
 obtain ⟨p0, p1, p2, p3, p4⟩ := cells5p h.pv.cell
 have hPw := h.pv.both.lt P h.pv.kp
 clear h hd hxW
 replace hpi : Hid _ := hpi
 rcases and_bit n with hnb | hnb
 all_goals
  unfold ofBlock at *
  go_enter Tryz.func27, Tryz.ntmps27
  go_wp2_with (first
   |(go_at_call 17; refine (hbr8.out _).mono ?_; rintro e w6 ⟨rfl, hw6⟩; subst hw6))
  try (rw [hW'.out]; go_wp2_with fail)
  go_returns
  try rw [hW'.out]
  exact ⟨rfl, PairIn.mono hpi.out (by omega), hBW⟩
set_option maxRecDepth 100000 in
set_option maxHeartbeats 16000000 in
theorem step0_any (w0 : World) (x : De) (bv lv kv : Value) (hd : DeIn w0 x bv lv kv) (hk : x.kind % 8 = 0) (h : POpen w P pd pu J M w0.heap.size m j r) (hB : Below w0.heap.size w0 w) (hm : m < 50000000) :
  Calls Tryz.prog 27 #[ofBlock P, .agg #[.int .i64 x.kind, .int .i64 x.n, bv, lv, kv]] w fun e w' => StepOk w0 w' P pd pu m e := by
 obtain ⟨kind, n, b, l, keep⟩ := x
 have hbr8 := fun W => bring_any kind 8 (by omega) (by omega) hd.kind1 hd.kind2 W
 simp only at hk
 rw [hk] at hbr8
 replace hbr8 : Hid _ := hbr8
 obtain ⟨bq, bcap, rfl⟩ : ∃ bq bcap, bv = .slice bq b.length bcap := by
  obtain ⟨_, q, c, e, _⟩ := hd.b
  exact ⟨q, c, e⟩
 obtain ⟨lq, lcap, rfl⟩ : ∃ lq lcap, lv = .slice lq l.length lcap := by
  obtain ⟨_, ⟨q, c, e, _⟩, _⟩ := hd.l
  exact ⟨q, c, e⟩
 obtain ⟨kq, kcap, rfl⟩ : ∃ kq kcap, kv = .slice kq keep.length kcap := by
  rcases hd.keep.2.2 with ⟨rfl, e⟩ | ⟨a, c, rfl, e⟩ | ⟨a, o, c, rfl, _⟩
  ·exact ⟨none, 0, by rw [show keep = [] from e]; rfl⟩
  ·exact ⟨some a, c, by rw [show keep = [] from e]; rfl⟩
  ·exact ⟨_, c, rfl⟩
 obtain ⟨W, hW⟩ : ∃ W, (w.alloc (.cells #[.int .i64 kind, .int .i64 n, .slice bq b.length bcap, .slice lq l.length lcap, .slice kq keep.length kcap] 46)).alloc (.cells #[.string jN, .string jM] 9) = W := ⟨_, rfl⟩
 have hA := stepMem_ahead ⟨kind, n, b, l, keep⟩ (.slice bq b.length bcap) (.slice lq l.length lcap) (.slice kq keep.length kcap) w
 rw [show stepMem ⟨kind, n, b, l, keep⟩ (.slice bq b.length bcap) (.slice lq l.length lcap) (.slice kq keep.length kcap) w = W from hW] at hA
 obtain ⟨hbW, hxW, hlW⟩ := hA
 have hW' : Hid ((w.alloc (.cells #[.int .i64 kind, .int .i64 n, .slice bq b.length bcap, .slice lq l.length lcap, .slice kq keep.length kcap] 46)).alloc (.cells #[.string ⟨#[106, 111, 117, 114, 110, 97, 108]⟩, .string ⟨#[106, 111, 117, 114, 110, 97, 108, 46, 110, 101, 119]⟩] 9) = W) := hW
 clear hW
 have hBW := hB.trans (hbW.mono hB.size)
 have hPw : P < w.heap.size := h.pj.both.lt P (.inl rfl)
 obtain ⟨p0, p1, p2, p3, p4⟩ := cells5p h.pj.cell
 have hp0 : PJ W P pd pu J M w0.heap.size m j r (fun g => g = P ∨ g = w.heap.size) := h.pj.more hbW (.inl rfl) (fun g hg => hg.imp id (fun e => ⟨by omega, by omega⟩))
 have hde : ∀ w', Kept (fun g => g = P ∨ g = w.heap.size) w0.heap.size W w' → DeIn w' ⟨kind, n, b, l, keep⟩ (.slice bq b.length bcap) (.slice lq l.length lcap) (.slice kq keep.length kcap) := fun w' hk => hd.below (hBW.trans hk.below)
 have hbl := hd.blen
 have hll := hd.llen
 have hmany := h.many
 have hmany2 := h.al.many
 simp only at hbl hll
 have hap := h.al.append (by omega) b hd.b.1.1 (by have := hd.blen; exact this)
 obtain ⟨⟨j1, c⟩, hq⟩ : ∃ q, j.append b = q := ⟨_, rfl⟩
 obtain ⟨⟨r1, c'⟩, hr⟩ : ∃ q, r.append b = q := ⟨_, rfl⟩
 have hm1 : j1.many ≤ 16777216 + (m + 8) := by have := Jn.append_many (j := j) b; rw [hq] at this; have e : j1.many ≤ j.many + 1 := this; omega
 rw [hq, hr] at hap
 obtain ⟨hcc, hal⟩ := hap
 simp only at hcc hal
 subst hcc
 have hcs : (c == c) = true := by simp
 have e0 : Hid (∀ w1, StJ P pd pu J M w0.heap.size m (two j j1 0) (two r r1 1) (fun g => g = P ∨ g = w.heap.size) W 0 w1 → Calls Tryz.prog 11 #[ofBlock J, .slice bq b.length bcap] w1 fun e w' => e = .returned (.int .i64 c) ∧ Kept (fun g => g = P ∨ g = w.heap.size) w0.heap.size w1 w' ∧ StJ P pd pu J M w0.heap.size m (two j j1 0) (two r r1 1) (fun g => g = P ∨ g = w.heap.size) W 1 w') := fun w1 hst =>
  (hst.pj.callL (j' := j1) (m' := m + 3 * 1) (X := .returned (.int .i64 c)) (by omega) (fun F hl => by
   have := jappend_any (.slice bq b.length bcap) b hl (by omega) (by show j.many ≤ _; omega) (hde w1 hst.kept).b.1 hbl
   rw [show (two j j1 0 0) = j from rfl, hq] at this
   exact this.mono (fun e w' h => ⟨h.1, h.2.1.mono (by omega), h.2.2⟩))).mono (fun e w' h => ⟨h.1, h.2.2, h.2.1, hst.kept.trans h.2.2⟩)
 have e1 : Hid (∀ w1, StJ P pd pu J M w0.heap.size m (two j j1 0) (two r r1 1) (fun g => g = P ∨ g = w.heap.size) W 1 w1 → Calls Tryz.prog 72 #[ofBlock M, .slice bq b.length bcap] w1 fun e w' => e = .returned (.int .i64 c) ∧ Kept (fun g => g = P ∨ g = w.heap.size) w0.heap.size w1 w' ∧ StJ P pd pu J M w0.heap.size m (two j j1 0) (two r r1 1) (fun g => g = P ∨ g = w.heap.size) W 2 w') := fun w1 hst =>
  (hst.pj.callR (r' := r1) (m' := m + 3 * 2) (X := .returned (.int .i64 c)) (by omega) (fun F hl => by
   have := rjappend_any (.slice bq b.length bcap) b hl (by omega) (by show r.many ≤ _; omega) (hde w1 hst.kept).b.1 hbl
   rw [show (two r r1 1 1) = r from rfl, hr] at this
   exact this.mono (fun e w' h => ⟨h.1, h.2.1.mono (by omega), h.2.2⟩))).mono (fun e w' h => ⟨h.1, h.2.2, h.2.1, hst.kept.trans h.2.2⟩)
 clear hq hr
 obtain ⟨x0, x1, x2, x3, x4⟩ := cells5p hxW
 obtain ⟨y0, y1, y2, y3, y4⟩ := cells5p hp0.cell
 have hst0 : StJ P pd pu J M w0.heap.size m (two j j1 0) (two r r1 1) (fun g => g = P ∨ g = w.heap.size) W 0 W := ⟨hp0, Kept.refl _ _ _⟩
 clear hp0 hd h hll
 replace hxW : Hid _ := hxW
 replace hal : Hid _ := hal
 replace hde : Hid _ := hde
 replace hst0 : Hid _ := hst0
 rcases and_bit n with hnb | hnb
 all_goals
  unfold ofBlock at *
  go_enter Tryz.func27, Tryz.ntmps27
  go_wp2_with (first
   |(go_at_call 17; refine (hbr8.out _).mono ?_; rintro e w6 ⟨rfl, hw6⟩; subst hw6))
  try rw [hW'.out]
  go_wp2_with fail
  refine Staged.staged_then 24 [12, 19] (StJ P pd pu J M w0.heap.size m (two j j1 0) (two r r1 1) (fun g => g = P ∨ g = w.heap.size) W) (fun z1 z2 => Kept (fun g => g = P ∨ g = w.heap.size) w0.heap.size z1 z2) (by kernel_rfl) (by kernel_rfl) (by kernel_rfl) (by kernel_rfl) (hst0.out.below (Below.refl _ _).drew).2 ?_
  apply Exists.intro
  simp only [List.take_succ_cons, List.take_zero]
  iterate 4
   apply Staged.walk_det
   ·exact fun τ z1 z2 h hb => StJ.below h hb
   ·rfl
   ·rfl
   ·intro τ w2 hC hF
    simp only [upon]
    go_simp
    exact ⟨Below.refl _ _, rfl⟩
   simp only [put_lit, List.set_cons_succ, List.set_cons_zero]
  apply Staged.walk_det
  ·exact fun τ z1 z2 h hb => StJ.below h hb
  ·rfl
  ·rfl
  ·intro τ w2 hC hF
   obtain ⟨y0, y1, y2, y3, y4⟩ := cells5p hC.pj.cell
   unfold ofBlock at y0 y1 y2 y3
   have z2 := (hC.kept.cell (q := ⟨w.heap.size, 2, none⟩) (.inr rfl)).trans x2
   have z3 := (hC.kept.cell (q := ⟨w.heap.size, 3, none⟩) (.inr rfl)).trans x3
   simp only [upon]
   go_simp
   exact ⟨Below.refl _ _, rfl⟩
  simp only [put_lit, List.set_cons_succ, List.set_cons_zero]
  iterate 4
   apply Staged.walk_det
   ·exact fun τ z1 z2 h hb => StJ.below h hb
   ·rfl
   ·rfl
   ·intro τ w2 hC hF
    simp only [upon]
    go_simp
    exact ⟨Below.refl _ _, rfl⟩
   simp only [put_lit, List.set_cons_succ, List.set_cons_zero]
  apply Staged.walk_det
  ·exact fun τ z1 z2 h hb => StJ.below h hb
  ·rfl
  ·rfl
  ·intro τ w2 hC hF
   obtain ⟨y0, y1, y2, y3, y4⟩ := cells5p hC.pj.cell
   unfold ofBlock at y0 y1 y2 y3
   have z2 := (hC.kept.cell (q := ⟨w.heap.size, 2, none⟩) (.inr rfl)).trans x2
   have z3 := (hC.kept.cell (q := ⟨w.heap.size, 3, none⟩) (.inr rfl)).trans x3
   simp only [upon]
   go_simp
   exact ⟨Below.refl _ _, rfl⟩
  simp only [put_lit, List.set_cons_succ, List.set_cons_zero]
  apply Staged.walk_det
  ·exact fun τ z1 z2 h hb => StJ.below h hb
  ·rfl
  ·rfl
  ·intro τ w2 hC hF
   simp only [upon]
   go_simp
   exact ⟨Below.refl _ _, rfl⟩
  simp only [put_lit, List.set_cons_succ, List.set_cons_zero]
  apply Staged.walk_det
  ·exact fun τ z1 z2 h hb => StJ.below h hb
  ·rfl
  ·rfl
  ·intro τ w2 hC hF
   obtain ⟨y0, y1, y2, y3, y4⟩ := cells5p hC.pj.cell
   unfold ofBlock at y0 y1 y2 y3
   have z2 := (hC.kept.cell (q := ⟨w.heap.size, 2, none⟩) (.inr rfl)).trans x2
   have z3 := (hC.kept.cell (q := ⟨w.heap.size, 3, none⟩) (.inr rfl)).trans x3
   simp only [upon]
   go_simp
   exact ⟨Below.refl _ _, rfl⟩
  simp only [put_lit, List.set_cons_succ, List.set_cons_zero]
  apply Staged.walk_turn
  ·rfl
  ·rfl
  ·intro w2 hC hF
   simp only [upon]
   go_simp
   exact (e0.out w2 hC).mono (fun e w3 h => ⟨h.1, ⟨h.2.1, h.2.2⟩⟩)
  simp only [put_lit, List.set_cons_succ, List.set_cons_zero]
  iterate 3
   apply Staged.walk_det
   ·exact fun τ z1 z2 h hb => StJ.below h hb
   ·rfl
   ·rfl
   ·intro τ w2 hC hF
    simp only [upon]
    go_simp
    exact ⟨Below.refl _ _, rfl⟩
   simp only [put_lit, List.set_cons_succ, List.set_cons_zero]
  apply Staged.walk_det
  ·exact fun τ z1 z2 h hb => StJ.below h hb
  ·rfl
  ·rfl
  ·intro τ w2 hC hF
   obtain ⟨y0, y1, y2, y3, y4⟩ := cells5p hC.pj.cell
   unfold ofBlock at y0 y1 y2 y3
   have z2 := (hC.kept.cell (q := ⟨w.heap.size, 2, none⟩) (.inr rfl)).trans x2
   have z3 := (hC.kept.cell (q := ⟨w.heap.size, 3, none⟩) (.inr rfl)).trans x3
   simp only [upon]
   go_simp
   exact ⟨Below.refl _ _, rfl⟩
  simp only [put_lit, List.set_cons_succ, List.set_cons_zero]
  apply Staged.walk_det
  ·exact fun τ z1 z2 h hb => StJ.below h hb
  ·rfl
  ·rfl
  ·intro τ w2 hC hF
   simp only [upon]
   go_simp
   exact ⟨Below.refl _ _, rfl⟩
  simp only [put_lit, List.set_cons_succ, List.set_cons_zero]
  apply Staged.walk_det
  ·exact fun τ z1 z2 h hb => StJ.below h hb
  ·rfl
  ·rfl
  ·intro τ w2 hC hF
   obtain ⟨y0, y1, y2, y3, y4⟩ := cells5p hC.pj.cell
   unfold ofBlock at y0 y1 y2 y3
   have z2 := (hC.kept.cell (q := ⟨w.heap.size, 2, none⟩) (.inr rfl)).trans x2
   have z3 := (hC.kept.cell (q := ⟨w.heap.size, 3, none⟩) (.inr rfl)).trans x3
   simp only [upon]
   go_simp
   exact ⟨Below.refl _ _, rfl⟩
  simp only [put_lit, List.set_cons_succ, List.set_cons_zero]
  apply Staged.walk_turn
  ·rfl
  ·rfl
  ·intro w2 hC hF
   simp only [upon]
   go_simp
   exact (e1.out w2 hC).mono (fun e w3 h => ⟨h.1, ⟨h.2.1, h.2.2⟩⟩)
  simp only [put_lit, List.set_cons_succ, List.set_cons_zero]
  iterate 4
   apply Staged.walk_det
   ·exact fun τ z1 z2 h hb => StJ.below h hb
   ·rfl
   ·rfl
   ·intro τ w2 hC hF
    simp only [upon]
    go_simp
    exact ⟨Below.refl _ _, rfl⟩
   simp only [put_lit, List.set_cons_succ, List.set_cons_zero]
  apply Staged.walk_nil
  intro a0 ha0 _
  simp only [List.drop_succ_cons, List.drop_zero]
  clear y0 y1 y2 y3 y4
  obtain ⟨y0, y1, y2, y3, y4⟩ := cells5p ha0.pj.cell
  have yf := free_of ha0.pj.cell 4
  replace ha0 : Hid _ := ha0
  go_wp2_with fail
  go_returns
  have hps := ha0.out.pj.stored
  exact ⟨rfl, .inr ⟨J, M, j1, r1, PJ.mono (m := m + 3 * 2) (hps.1.sub (K' := fun g => g = P) rfl (fun g hg => .inl hg)) (by omega), hal.out.mono (by omega), hm1⟩, hBW.trans (ha0.out.kept.trans hps.2).below⟩
set_option maxRecDepth 100000 in
set_option maxHeartbeats 16000000 in
theorem step1_any (w0 : World) (x : De) (bv lv kv : Value) (hd : DeIn w0 x bv lv kv) (hk : x.kind % 8 = 1) (h : POpen w P pd pu J M w0.heap.size m j r) (hB : Below w0.heap.size w0 w) (hm : m < 50000000) :
  Calls Tryz.prog 27 #[ofBlock P, .agg #[.int .i64 x.kind, .int .i64 x.n, bv, lv, kv]] w fun e w' => StepOk w0 w' P pd pu m e := by
 obtain ⟨kind, n, b, l, keep⟩ := x
 have hbr8 := fun W => bring_any kind 8 (by omega) (by omega) hd.kind1 hd.kind2 W
 simp only at hk
 rw [hk] at hbr8
 replace hbr8 : Hid _ := hbr8
 obtain ⟨bq, bcap, rfl⟩ : ∃ bq bcap, bv = .slice bq b.length bcap := by
  obtain ⟨_, q, c, e, _⟩ := hd.b
  exact ⟨q, c, e⟩
 obtain ⟨lq, lcap, rfl⟩ : ∃ lq lcap, lv = .slice lq l.length lcap := by
  obtain ⟨_, ⟨q, c, e, _⟩, _⟩ := hd.l
  exact ⟨q, c, e⟩
 obtain ⟨kq, kcap, rfl⟩ : ∃ kq kcap, kv = .slice kq keep.length kcap := by
  rcases hd.keep.2.2 with ⟨rfl, e⟩ | ⟨a, c, rfl, e⟩ | ⟨a, o, c, rfl, _⟩
  ·exact ⟨none, 0, by rw [show keep = [] from e]; rfl⟩
  ·exact ⟨some a, c, by rw [show keep = [] from e]; rfl⟩
  ·exact ⟨_, c, rfl⟩
 obtain ⟨W, hW⟩ : ∃ W, (w.alloc (.cells #[.int .i64 kind, .int .i64 n, .slice bq b.length bcap, .slice lq l.length lcap, .slice kq keep.length kcap] 46)).alloc (.cells #[.string jN, .string jM] 9) = W := ⟨_, rfl⟩
 have hA := stepMem_ahead ⟨kind, n, b, l, keep⟩ (.slice bq b.length bcap) (.slice lq l.length lcap) (.slice kq keep.length kcap) w
 rw [show stepMem ⟨kind, n, b, l, keep⟩ (.slice bq b.length bcap) (.slice lq l.length lcap) (.slice kq keep.length kcap) w = W from hW] at hA
 obtain ⟨hbW, hxW, hlW⟩ := hA
 have hW' : Hid ((w.alloc (.cells #[.int .i64 kind, .int .i64 n, .slice bq b.length bcap, .slice lq l.length lcap, .slice kq keep.length kcap] 46)).alloc (.cells #[.string ⟨#[106, 111, 117, 114, 110, 97, 108]⟩, .string ⟨#[106, 111, 117, 114, 110, 97, 108, 46, 110, 101, 119]⟩] 9) = W) := hW
 clear hW
 have hBW := hB.trans (hbW.mono hB.size)
 have hPw : P < w.heap.size := h.pj.both.lt P (.inl rfl)
 obtain ⟨p0, p1, p2, p3, p4⟩ := cells5p h.pj.cell
 have hp0 : PJ W P pd pu J M w0.heap.size m j r (fun g => g = P ∨ g = w.heap.size) := h.pj.more hbW (.inl rfl) (fun g hg => hg.imp id (fun e => ⟨by omega, by omega⟩))
 have hde : ∀ w', Kept (fun g => g = P ∨ g = w.heap.size) w0.heap.size W w' → DeIn w' ⟨kind, n, b, l, keep⟩ (.slice bq b.length bcap) (.slice lq l.length lcap) (.slice kq keep.length kcap) := fun w' hk => hd.below (hBW.trans hk.below)
 have hbl := hd.blen
 have hll := hd.llen
 have hmany := h.many
 have hmany2 := h.al.many
 simp only at hbl hll
 have hap := h.al.sync
 obtain ⟨⟨j1, c⟩, hq⟩ : ∃ q, j.sync = q := ⟨_, rfl⟩
 obtain ⟨⟨r1, c'⟩, hr⟩ : ∃ q, r.sync = q := ⟨_, rfl⟩
 have hm1 : j1.many ≤ 16777216 + (m + 8) := by have := Jn.sync_many (j := j); rw [hq] at this; have e : j1.many ≤ j.many := this; omega
 rw [hq, hr] at hap
 obtain ⟨hcc, hal⟩ := hap
 simp only at hcc hal
 subst hcc
 have hcs : (c == c) = true := by simp
 have e0 : Hid (∀ w1, StJ P pd pu J M w0.heap.size m (two j j1 0) (two r r1 1) (fun g => g = P ∨ g = w.heap.size) W 0 w1 → Calls Tryz.prog 29 #[ofBlock J] w1 fun e w' => e = .returned (.int .i64 c) ∧ Kept (fun g => g = P ∨ g = w.heap.size) w0.heap.size w1 w' ∧ StJ P pd pu J M w0.heap.size m (two j j1 0) (two r r1 1) (fun g => g = P ∨ g = w.heap.size) W 1 w') := fun w1 hst =>
  (hst.pj.callL (j' := j1) (m' := m + 3 * 1) (X := .returned (.int .i64 c)) (by omega) (fun F hl => by
   have := jsync_any hl (by omega)
   rw [show (two j j1 0 0) = j from rfl, hq] at this
   exact this.mono (fun e w' h => ⟨h.1, h.2.1.mono (by omega), h.2.2⟩))).mono (fun e w' h => ⟨h.1, h.2.2, h.2.1, hst.kept.trans h.2.2⟩)
 have e1 : Hid (∀ w1, StJ P pd pu J M w0.heap.size m (two j j1 0) (two r r1 1) (fun g => g = P ∨ g = w.heap.size) W 1 w1 → Calls Tryz.prog 73 #[ofBlock M] w1 fun e w' => e = .returned (.int .i64 c) ∧ Kept (fun g => g = P ∨ g = w.heap.size) w0.heap.size w1 w' ∧ StJ P pd pu J M w0.heap.size m (two j j1 0) (two r r1 1) (fun g => g = P ∨ g = w.heap.size) W 2 w') := fun w1 hst =>
  (hst.pj.callR (r' := r1) (m' := m + 3 * 2) (X := .returned (.int .i64 c)) (by omega) (fun F hl => by
   have := rjsync_any hl (by omega)
   rw [show (two r r1 1 1) = r from rfl, hr] at this
   exact this.mono (fun e w' h => ⟨h.1, h.2.1.mono (by omega), h.2.2⟩))).mono (fun e w' h => ⟨h.1, h.2.2, h.2.1, hst.kept.trans h.2.2⟩)
 clear hq hr
 obtain ⟨x0, x1, x2, x3, x4⟩ := cells5p hxW
 obtain ⟨y0, y1, y2, y3, y4⟩ := cells5p hp0.cell
 have hst0 : StJ P pd pu J M w0.heap.size m (two j j1 0) (two r r1 1) (fun g => g = P ∨ g = w.heap.size) W 0 W := ⟨hp0, Kept.refl _ _ _⟩
 clear hp0 hd h hll
 replace hxW : Hid _ := hxW
 replace hal : Hid _ := hal
 replace hde : Hid _ := hde
 replace hst0 : Hid _ := hst0
 rcases and_bit n with hnb | hnb
 all_goals
  unfold ofBlock at *
  go_enter Tryz.func27, Tryz.ntmps27
  go_wp2_with (first
   |(go_at_call 17; refine (hbr8.out _).mono ?_; rintro e w6 ⟨rfl, hw6⟩; subst hw6))
  try rw [hW'.out]
  go_wp2_with fail
  refine Staged.staged_then 20 [10, 15] (StJ P pd pu J M w0.heap.size m (two j j1 0) (two r r1 1) (fun g => g = P ∨ g = w.heap.size) W) (fun z1 z2 => Kept (fun g => g = P ∨ g = w.heap.size) w0.heap.size z1 z2) (by kernel_rfl) (by kernel_rfl) (by kernel_rfl) (by kernel_rfl) (hst0.out.below (Below.refl _ _).drew).2 ?_
  apply Exists.intro
  simp only [List.take_succ_cons, List.take_zero]
  iterate 4
   apply Staged.walk_det
   ·exact fun τ z1 z2 h hb => StJ.below h hb
   ·rfl
   ·rfl
   ·intro τ w2 hC hF
    simp only [upon]
    go_simp
    exact ⟨Below.refl _ _, rfl⟩
   simp only [put_lit, List.set_cons_succ, List.set_cons_zero]
  apply Staged.walk_det
  ·exact fun τ z1 z2 h hb => StJ.below h hb
  ·rfl
  ·rfl
  ·intro τ w2 hC hF
   obtain ⟨y0, y1, y2, y3, y4⟩ := cells5p hC.pj.cell
   unfold ofBlock at y0 y1 y2 y3
   have z2 := (hC.kept.cell (q := ⟨w.heap.size, 2, none⟩) (.inr rfl)).trans x2
   have z3 := (hC.kept.cell (q := ⟨w.heap.size, 3, none⟩) (.inr rfl)).trans x3
   simp only [upon]
   go_simp
   exact ⟨Below.refl _ _, rfl⟩
  simp only [put_lit, List.set_cons_succ, List.set_cons_zero]
  iterate 4
   apply Staged.walk_det
   ·exact fun τ z1 z2 h hb => StJ.below h hb
   ·rfl
   ·rfl
   ·intro τ w2 hC hF
    simp only [upon]
    go_simp
    exact ⟨Below.refl _ _, rfl⟩
   simp only [put_lit, List.set_cons_succ, List.set_cons_zero]
  apply Staged.walk_det
  ·exact fun τ z1 z2 h hb => StJ.below h hb
  ·rfl
  ·rfl
  ·intro τ w2 hC hF
   obtain ⟨y0, y1, y2, y3, y4⟩ := cells5p hC.pj.cell
   unfold ofBlock at y0 y1 y2 y3
   have z2 := (hC.kept.cell (q := ⟨w.heap.size, 2, none⟩) (.inr rfl)).trans x2
   have z3 := (hC.kept.cell (q := ⟨w.heap.size, 3, none⟩) (.inr rfl)).trans x3
   simp only [upon]
   go_simp
   exact ⟨Below.refl _ _, rfl⟩
  simp only [put_lit, List.set_cons_succ, List.set_cons_zero]
  apply Staged.walk_turn
  ·rfl
  ·rfl
  ·intro w2 hC hF
   simp only [upon]
   go_simp
   exact (e0.out w2 hC).mono (fun e w3 h => ⟨h.1, ⟨h.2.1, h.2.2⟩⟩)
  simp only [put_lit, List.set_cons_succ, List.set_cons_zero]
  iterate 3
   apply Staged.walk_det
   ·exact fun τ z1 z2 h hb => StJ.below h hb
   ·rfl
   ·rfl
   ·intro τ w2 hC hF
    simp only [upon]
    go_simp
    exact ⟨Below.refl _ _, rfl⟩
   simp only [put_lit, List.set_cons_succ, List.set_cons_zero]
  apply Staged.walk_det
  ·exact fun τ z1 z2 h hb => StJ.below h hb
  ·rfl
  ·rfl
  ·intro τ w2 hC hF
   obtain ⟨y0, y1, y2, y3, y4⟩ := cells5p hC.pj.cell
   unfold ofBlock at y0 y1 y2 y3
   have z2 := (hC.kept.cell (q := ⟨w.heap.size, 2, none⟩) (.inr rfl)).trans x2
   have z3 := (hC.kept.cell (q := ⟨w.heap.size, 3, none⟩) (.inr rfl)).trans x3
   simp only [upon]
   go_simp
   exact ⟨Below.refl _ _, rfl⟩
  simp only [put_lit, List.set_cons_succ, List.set_cons_zero]
  apply Staged.walk_turn
  ·rfl
  ·rfl
  ·intro w2 hC hF
   simp only [upon]
   go_simp
   exact (e1.out w2 hC).mono (fun e w3 h => ⟨h.1, ⟨h.2.1, h.2.2⟩⟩)
  simp only [put_lit, List.set_cons_succ, List.set_cons_zero]
  iterate 4
   apply Staged.walk_det
   ·exact fun τ z1 z2 h hb => StJ.below h hb
   ·rfl
   ·rfl
   ·intro τ w2 hC hF
    simp only [upon]
    go_simp
    exact ⟨Below.refl _ _, rfl⟩
   simp only [put_lit, List.set_cons_succ, List.set_cons_zero]
  apply Staged.walk_nil
  intro a0 ha0 _
  simp only [List.drop_succ_cons, List.drop_zero]
  clear y0 y1 y2 y3 y4
  obtain ⟨y0, y1, y2, y3, y4⟩ := cells5p ha0.pj.cell
  have yf := free_of ha0.pj.cell 4
  replace ha0 : Hid _ := ha0
  go_wp2_with fail
  go_returns
  have hps := ha0.out.pj.stored
  exact ⟨rfl, .inr ⟨J, M, j1, r1, PJ.mono (m := m + 3 * 2) (hps.1.sub (K' := fun g => g = P) rfl (fun g hg => .inl hg)) (by omega), hal.out.mono (by omega), hm1⟩, hBW.trans (ha0.out.kept.trans hps.2).below⟩
set_option maxRecDepth 100000 in
set_option maxHeartbeats 16000000 in
theorem step2_any (w0 : World) (x : De) (bv lv kv : Value) (hd : DeIn w0 x bv lv kv) (hk : x.kind % 8 = 2) (h : POpen w P pd pu J M w0.heap.size m j r) (hB : Below w0.heap.size w0 w) (hm : m < 50000000) :
  Calls Tryz.prog 27 #[ofBlock P, .agg #[.int .i64 x.kind, .int .i64 x.n, bv, lv, kv]] w fun e w' => StepOk w0 w' P pd pu m e := by
 obtain ⟨kind, n, b, l, keep⟩ := x
 have hbr8 := fun W => bring_any kind 8 (by omega) (by omega) hd.kind1 hd.kind2 W
 simp only at hk
 rw [hk] at hbr8
 replace hbr8 : Hid _ := hbr8
 obtain ⟨bq, bcap, rfl⟩ : ∃ bq bcap, bv = .slice bq b.length bcap := by
  obtain ⟨_, q, c, e, _⟩ := hd.b
  exact ⟨q, c, e⟩
 obtain ⟨lq, lcap, rfl⟩ : ∃ lq lcap, lv = .slice lq l.length lcap := by
  obtain ⟨_, ⟨q, c, e, _⟩, _⟩ := hd.l
  exact ⟨q, c, e⟩
 obtain ⟨kq, kcap, rfl⟩ : ∃ kq kcap, kv = .slice kq keep.length kcap := by
  rcases hd.keep.2.2 with ⟨rfl, e⟩ | ⟨a, c, rfl, e⟩ | ⟨a, o, c, rfl, _⟩
  ·exact ⟨none, 0, by rw [show keep = [] from e]; rfl⟩
  ·exact ⟨some a, c, by rw [show keep = [] from e]; rfl⟩
  ·exact ⟨_, c, rfl⟩
 obtain ⟨W, hW⟩ : ∃ W, (w.alloc (.cells #[.int .i64 kind, .int .i64 n, .slice bq b.length bcap, .slice lq l.length lcap, .slice kq keep.length kcap] 46)).alloc (.cells #[.string jN, .string jM] 9) = W := ⟨_, rfl⟩
 have hA := stepMem_ahead ⟨kind, n, b, l, keep⟩ (.slice bq b.length bcap) (.slice lq l.length lcap) (.slice kq keep.length kcap) w
 rw [show stepMem ⟨kind, n, b, l, keep⟩ (.slice bq b.length bcap) (.slice lq l.length lcap) (.slice kq keep.length kcap) w = W from hW] at hA
 obtain ⟨hbW, hxW, hlW⟩ := hA
 have hW' : Hid ((w.alloc (.cells #[.int .i64 kind, .int .i64 n, .slice bq b.length bcap, .slice lq l.length lcap, .slice kq keep.length kcap] 46)).alloc (.cells #[.string ⟨#[106, 111, 117, 114, 110, 97, 108]⟩, .string ⟨#[106, 111, 117, 114, 110, 97, 108, 46, 110, 101, 119]⟩] 9) = W) := hW
 clear hW
 have hBW := hB.trans (hbW.mono hB.size)
 have hPw : P < w.heap.size := h.pj.both.lt P (.inl rfl)
 obtain ⟨p0, p1, p2, p3, p4⟩ := cells5p h.pj.cell
 have hp0 : PJ W P pd pu J M w0.heap.size m j r (fun g => g = P ∨ g = w.heap.size) := h.pj.more hbW (.inl rfl) (fun g hg => hg.imp id (fun e => ⟨by omega, by omega⟩))
 have hde : ∀ w', Kept (fun g => g = P ∨ g = w.heap.size) w0.heap.size W w' → DeIn w' ⟨kind, n, b, l, keep⟩ (.slice bq b.length bcap) (.slice lq l.length lcap) (.slice kq keep.length kcap) := fun w' hk => hd.below (hBW.trans hk.below)
 have hbl := hd.blen
 have hll := hd.llen
 have hmany := h.many
 have hmany2 := h.al.many
 simp only at hbl hll
 have hap := h.al.checkpoint (by omega) (l.map (·.2)) (fun y hy => by obtain ⟨q, hq, rfl⟩ := List.mem_map.1 hy; exact (hd.l.2.2 q hq).1.1)
 obtain ⟨⟨j1, c⟩, hq⟩ : ∃ q, j.checkpoint (l.map (·.2)) = q := ⟨_, rfl⟩
 obtain ⟨⟨r1, c'⟩, hr⟩ : ∃ q, r.checkpoint (l.map (·.2)) = q := ⟨_, rfl⟩
 have hm1 : j1.many ≤ 16777216 + (m + 8) := by have := Jn.checkpoint_many (j := j) (l.map (·.2)) (k := 16777216 + m) hmany (by omega); rw [hq] at this; have e : j1.many ≤ 16777216 + m := this; omega
 rw [hq, hr] at hap
 obtain ⟨hcc, hal⟩ := hap
 simp only at hcc hal
 subst hcc
 have hcs : (c == c) = true := by simp
 have e0 : Hid (∀ w1, StJ P pd pu J M w0.heap.size m (two j j1 0) (two r r1 1) (fun g => g = P ∨ g = w.heap.size) W 0 w1 → Calls Tryz.prog 12 #[ofBlock J, .slice lq l.length lcap] w1 fun e w' => e = .returned (.int .i64 c) ∧ Kept (fun g => g = P ∨ g = w.heap.size) w0.heap.size w1 w' ∧ StJ P pd pu J M w0.heap.size m (two j j1 0) (two r r1 1) (fun g => g = P ∨ g = w.heap.size) W 1 w') := fun w1 hst =>
  (hst.pj.callL (j' := j1) (m' := m + 3 * 1) (X := .returned (.int .i64 c)) (by omega) (fun F hl => by
   have := jcheckpoint_any (.slice lq l.length lcap) l hl (by omega) (argR_list (hde w1 hst.kept).l) hll
   rw [show (two j j1 0 0) = j from rfl, hq] at this
   exact this.mono (fun e w' h => ⟨h.1, h.2.1.mono (by omega), h.2.2⟩))).mono (fun e w' h => ⟨h.1, h.2.2, h.2.1, hst.kept.trans h.2.2⟩)
 have e1 : Hid (∀ w1, StJ P pd pu J M w0.heap.size m (two j j1 0) (two r r1 1) (fun g => g = P ∨ g = w.heap.size) W 1 w1 → Calls Tryz.prog 74 #[ofBlock M, .slice lq l.length lcap] w1 fun e w' => e = .returned (.int .i64 c) ∧ Kept (fun g => g = P ∨ g = w.heap.size) w0.heap.size w1 w' ∧ StJ P pd pu J M w0.heap.size m (two j j1 0) (two r r1 1) (fun g => g = P ∨ g = w.heap.size) W 2 w') := fun w1 hst =>
  (hst.pj.callR (r' := r1) (m' := m + 3 * 2) (X := .returned (.int .i64 c)) (by omega) (fun F hl => by
   have := rjcheckpoint_any (.slice lq l.length lcap) l hl (by omega) (argR_list (hde w1 hst.kept).l) hll
   rw [show (two r r1 1 1) = r from rfl, hr] at this
   exact this.mono (fun e w' h => ⟨h.1, h.2.1.mono (by omega), h.2.2⟩))).mono (fun e w' h => ⟨h.1, h.2.2, h.2.1, hst.kept.trans h.2.2⟩)
 clear hq hr
 obtain ⟨x0, x1, x2, x3, x4⟩ := cells5p hxW
 obtain ⟨y0, y1, y2, y3, y4⟩ := cells5p hp0.cell
 have hst0 : StJ P pd pu J M w0.heap.size m (two j j1 0) (two r r1 1) (fun g => g = P ∨ g = w.heap.size) W 0 W := ⟨hp0, Kept.refl _ _ _⟩
 clear hp0 hd h hll
 replace hxW : Hid _ := hxW
 replace hal : Hid _ := hal
 replace hde : Hid _ := hde
 replace hst0 : Hid _ := hst0
 rcases and_bit n with hnb | hnb
 all_goals
  unfold ofBlock at *
  go_enter Tryz.func27, Tryz.ntmps27
  go_wp2_with (first
   |(go_at_call 17; refine (hbr8.out _).mono ?_; rintro e w6 ⟨rfl, hw6⟩; subst hw6))
  try rw [hW'.out]
  go_wp2_with fail
  refine Staged.staged_then 24 [12, 19] (StJ P pd pu J M w0.heap.size m (two j j1 0) (two r r1 1) (fun g => g = P ∨ g = w.heap.size) W) (fun z1 z2 => Kept (fun g => g = P ∨ g = w.heap.size) w0.heap.size z1 z2) (by kernel_rfl) (by kernel_rfl) (by kernel_rfl) (by kernel_rfl) (hst0.out.below (Below.refl _ _).drew).2 ?_
  apply Exists.intro
  simp only [List.take_succ_cons, List.take_zero]
  iterate 4
   apply Staged.walk_det
   ·exact fun τ z1 z2 h hb => StJ.below h hb
   ·rfl
   ·rfl
   ·intro τ w2 hC hF
    simp only [upon]
    go_simp
    exact ⟨Below.refl _ _, rfl⟩
   simp only [put_lit, List.set_cons_succ, List.set_cons_zero]
  apply Staged.walk_det
  ·exact fun τ z1 z2 h hb => StJ.below h hb
  ·rfl
  ·rfl
  ·intro τ w2 hC hF
   obtain ⟨y0, y1, y2, y3, y4⟩ := cells5p hC.pj.cell
   unfold ofBlock at y0 y1 y2 y3
   have z2 := (hC.kept.cell (q := ⟨w.heap.size, 2, none⟩) (.inr rfl)).trans x2
   have z3 := (hC.kept.cell (q := ⟨w.heap.size, 3, none⟩) (.inr rfl)).trans x3
   simp only [upon]
   go_simp
   exact ⟨Below.refl _ _, rfl⟩
  simp only [put_lit, List.set_cons_succ, List.set_cons_zero]
  iterate 4
   apply Staged.walk_det
   ·exact fun τ z1 z2 h hb => StJ.below h hb
   ·rfl
   ·rfl
   ·intro τ w2 hC hF
    simp only [upon]
    go_simp
    exact ⟨Below.refl _ _, rfl⟩
   simp only [put_lit, List.set_cons_succ, List.set_cons_zero]
  apply Staged.walk_det
  ·exact fun τ z1 z2 h hb => StJ.below h hb
  ·rfl
  ·rfl
  ·intro τ w2 hC hF
   obtain ⟨y0, y1, y2, y3, y4⟩ := cells5p hC.pj.cell
   unfold ofBlock at y0 y1 y2 y3
   have z2 := (hC.kept.cell (q := ⟨w.heap.size, 2, none⟩) (.inr rfl)).trans x2
   have z3 := (hC.kept.cell (q := ⟨w.heap.size, 3, none⟩) (.inr rfl)).trans x3
   simp only [upon]
   go_simp
   exact ⟨Below.refl _ _, rfl⟩
  simp only [put_lit, List.set_cons_succ, List.set_cons_zero]
  apply Staged.walk_det
  ·exact fun τ z1 z2 h hb => StJ.below h hb
  ·rfl
  ·rfl
  ·intro τ w2 hC hF
   simp only [upon]
   go_simp
   exact ⟨Below.refl _ _, rfl⟩
  simp only [put_lit, List.set_cons_succ, List.set_cons_zero]
  apply Staged.walk_det
  ·exact fun τ z1 z2 h hb => StJ.below h hb
  ·rfl
  ·rfl
  ·intro τ w2 hC hF
   obtain ⟨y0, y1, y2, y3, y4⟩ := cells5p hC.pj.cell
   unfold ofBlock at y0 y1 y2 y3
   have z2 := (hC.kept.cell (q := ⟨w.heap.size, 2, none⟩) (.inr rfl)).trans x2
   have z3 := (hC.kept.cell (q := ⟨w.heap.size, 3, none⟩) (.inr rfl)).trans x3
   simp only [upon]
   go_simp
   exact ⟨Below.refl _ _, rfl⟩
  simp only [put_lit, List.set_cons_succ, List.set_cons_zero]
  apply Staged.walk_turn
  ·rfl
  ·rfl
  ·intro w2 hC hF
   simp only [upon]
   go_simp
   exact (e0.out w2 hC).mono (fun e w3 h => ⟨h.1, ⟨h.2.1, h.2.2⟩⟩)
  simp only [put_lit, List.set_cons_succ, List.set_cons_zero]
  iterate 3
   apply Staged.walk_det
   ·exact fun τ z1 z2 h hb => StJ.below h hb
   ·rfl
   ·rfl
   ·intro τ w2 hC hF
    simp only [upon]
    go_simp
    exact ⟨Below.refl _ _, rfl⟩
   simp only [put_lit, List.set_cons_succ, List.set_cons_zero]
  apply Staged.walk_det
  ·exact fun τ z1 z2 h hb => StJ.below h hb
  ·rfl
  ·rfl
  ·intro τ w2 hC hF
   obtain ⟨y0, y1, y2, y3, y4⟩ := cells5p hC.pj.cell
   unfold ofBlock at y0 y1 y2 y3
   have z2 := (hC.kept.cell (q := ⟨w.heap.size, 2, none⟩) (.inr rfl)).trans x2
   have z3 := (hC.kept.cell (q := ⟨w.heap.size, 3, none⟩) (.inr rfl)).trans x3
   simp only [upon]
   go_simp
   exact ⟨Below.refl _ _, rfl⟩
  simp only [put_lit, List.set_cons_succ, List.set_cons_zero]
  apply Staged.walk_det
  ·exact fun τ z1 z2 h hb => StJ.below h hb
  ·rfl
  ·rfl
  ·intro τ w2 hC hF
   simp only [upon]
   go_simp
   exact ⟨Below.refl _ _, rfl⟩
  simp only [put_lit, List.set_cons_succ, List.set_cons_zero]
  apply Staged.walk_det
  ·exact fun τ z1 z2 h hb => StJ.below h hb
  ·rfl
  ·rfl
  ·intro τ w2 hC hF
   obtain ⟨y0, y1, y2, y3, y4⟩ := cells5p hC.pj.cell
   unfold ofBlock at y0 y1 y2 y3
   have z2 := (hC.kept.cell (q := ⟨w.heap.size, 2, none⟩) (.inr rfl)).trans x2
   have z3 := (hC.kept.cell (q := ⟨w.heap.size, 3, none⟩) (.inr rfl)).trans x3
   simp only [upon]
   go_simp
   exact ⟨Below.refl _ _, rfl⟩
  simp only [put_lit, List.set_cons_succ, List.set_cons_zero]
  apply Staged.walk_turn
  ·rfl
  ·rfl
  ·intro w2 hC hF
   simp only [upon]
   go_simp
   exact (e1.out w2 hC).mono (fun e w3 h => ⟨h.1, ⟨h.2.1, h.2.2⟩⟩)
  simp only [put_lit, List.set_cons_succ, List.set_cons_zero]
  iterate 4
   apply Staged.walk_det
   ·exact fun τ z1 z2 h hb => StJ.below h hb
   ·rfl
   ·rfl
   ·intro τ w2 hC hF
    simp only [upon]
    go_simp
    exact ⟨Below.refl _ _, rfl⟩
   simp only [put_lit, List.set_cons_succ, List.set_cons_zero]
  apply Staged.walk_nil
  intro a0 ha0 _
  simp only [List.drop_succ_cons, List.drop_zero]
  clear y0 y1 y2 y3 y4
  obtain ⟨y0, y1, y2, y3, y4⟩ := cells5p ha0.pj.cell
  have yf := free_of ha0.pj.cell 4
  replace ha0 : Hid _ := ha0
  go_wp2_with fail
  go_returns
  have hps := ha0.out.pj.stored
  exact ⟨rfl, .inr ⟨J, M, j1, r1, PJ.mono (m := m + 3 * 2) (hps.1.sub (K' := fun g => g = P) rfl (fun g hg => .inl hg)) (by omega), hal.out.mono (by omega), hm1⟩, hBW.trans (ha0.out.kept.trans hps.2).below⟩
end Go.Proofs.YtmcmagplaflegaaGreatDoor
