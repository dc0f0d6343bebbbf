/-
  DiskPlain. Conditions: those of each theorem.
-/
import Derived.Test.YtbkkcbdbdogloaaPb
import Derived.Test.YtbkkcbdbdogloaaPc
import Derived.Test.YtbkkcbdbdogloaaSt
namespace Go.Proofs.Ytbkkcbdbdogloaa
open Go Go.RowKit Go.MapL Go.Poised
variable {p n₀ : Nat} {r : Rep} {s : DS}

set_option maxRecDepth 100000 in
set_option maxHeartbeats 16000000 in
theorem plain_law (v0 : Value) (l : List Dd) (w : World) (h0 : DdsIn w v0 l) :
    Calls Try.prog 5 #[v0] w fun e w' => e = .returned (.bool true) ∧ Below w.heap.size w w' := by
  have hll := h0.1
  have hby := dds_bytes h0
  obtain ⟨q, cap, rfl, hc⟩ := dds_parts h0
  have hnew := new_at 1048576 (by omega) w
  have hN : ∀ k, k ≤ 80 → k ≤ l.length → Near k (actsN (DS.new 1048576) (l.take k)) := fun k hk hkl => by
    have := nearsN (l.take k) (DS.new 1048576) 0 near_new (fun d hd => hby d (List.mem_of_mem_take hd)) (by have := List.length_take_le' k l; simp; omega)
    rw [List.length_take, Nat.min_eq_left hkl, Nat.zero_add] at this
    exact this
  unfold ofBlock at *
  go_enter Try.func5, Try.ntmps5
  go_wp2_with (go_at_call 8; refine hnew.mono ?_; rintro e w1 ⟨rfl, hb1, hs1, r1, hL1⟩)
  clear hnew h0
  replace hs1 : Hid _ := hs1
  replace hby : Hid _ := hby
  replace hN : Hid _ := hN
  replace hc : Hid _ := hc
  go_loopw [7] (fun i wr => ∃ (k : Nat) (rk : Rep) (F : Nat → List Nat) (I : Nat → Bool) (V : Nat → Value), k ≤ l.length ∧ k ≤ 80 ∧ i = .int .i64 k ∧ Lies wr (w.heap.size + 2) w.heap.size rk (actsN (DS.new 1048576) (l.take k)) ∧ Below w.heap.size w wr ∧ Plain (actsN (DS.new 1048576) (l.take k)) F I ∧ (∀ c, (F c).length ≤ 30 * k) ∧ Arr wr (w.heap.size + 2) w.heap.size rk (actsN (DS.new 1048576) (l.take k)) (w.heap.size + 3) (w.heap.size + 3 + 1) F I V) (fun i _ => l.length - (intOf i).toNat)
  case atStart => exact ⟨0, r1, fun _ => [], fun _ => false, fun _ => .slice none 0 0, by omega, by omega, rfl, (hL1.alloc _).alloc _, (hb1.alloc hb1.size _).alloc (by simp; exact Nat.le_succ_of_le hb1.size) _, plain_new _, fun _ => by simp, by have := Arr.new hL1 hb1.size; rw [hs1.out] at this; exact this⟩
  case round =>
    obtain ⟨k, rk, F, I, V, hkl, hk60, rfl, hLk, hBk, hPk, hFk, hAk⟩ := hrel
    have hNk := hN.out k hk60 hkl
    by_cases hgo : k < l.length ∧ k < 80
    · obtain ⟨hlt, hlt6⟩ := hgo
      obtain ⟨d, hde⟩ : ∃ d, l[k] = d := ⟨_, rfl⟩
      obtain ⟨b, off, bq, bcap, kq2, kl2, kc2', rfl, hbd, hcap, hd1, hd2, c0, c1, c2, c3, c4, c5, c6⟩ := dds_at hBk k hlt d hde hc.out
      have hst : actsN (DS.new 1048576) (l.take (k + 1)) = (actN (actsN (DS.new 1048576) (l.take k)) d).1 := by
        rw [List.take_succ_eq_append_getElem hlt, actsN_snoc, hde]
      have hnr := near_any d bq bcap kq2 kl2 kc2' hd1 hd2 wr (hbd.below hBk) hcap
      have hlt' : (k : Int) < l.length := by omega
      have hlt6' : (k : Int) < 80 := by omega
      replace hde : Hid _ := hde
      generalize hSd : actsN (DS.new 1048576) (l.take k) = S at hLk hNk hPk hAk hst
      replace hSd : Hid _ := hSd
      replace hst : Hid _ := hst
      replace hNk : Hid _ := hNk
      unfold ddV at hnr
      go_wp2_with (first | (go_at_call 9; refine hnr.mono ?_; clear hnr; rintro e w4 ⟨rfl, hb4, hy4⟩))
      have hal := hb4.alloc hb4.size (.cells #[.int .i64 d.near.kind, .string d.near.name, .string d.near.to, .slice bq (min d.b.length 30) bcap, .int .i64 d.near.n, .int .i64 d.near.bit, .slice kq2 kl2 kc2'] 30)
      have hx0 := heap_new w4 (.cells #[.int .i64 d.near.kind, .string d.near.name, .string d.near.to, .slice bq (min d.b.length 30) bcap, .int .i64 d.near.n, .int .i64 d.near.bit, .slice kq2 kl2 kc2'] 30)
      generalize hw5 : w4.alloc (.cells #[.int .i64 d.near.kind, .string d.near.name, .string d.near.to, .slice bq (min d.b.length 30) bcap, .int .i64 d.near.n, .int .i64 d.near.bit, .slice kq2 kl2 kc2'] 30) = w5 at hal hx0 ⊢
      replace hw5 : Hid _ := hw5
      obtain ⟨e0, e1, e2, e3, e4, e5, e6⟩ := cells7 hx0
      have hA5 := hAk.below hal
      have hL5 := hLk.below hal
      have hB5 := hBk.trans (hal.mono hBk.size)
      obtain ⟨a, ha⟩ : ∃ a, d.name.size % 3 = a := ⟨_, rfl⟩
      obtain ⟨bb, hbb⟩ : ∃ a, d.to.size % 3 = a := ⟨_, rfl⟩
      obtain ⟨hy1, hy2, hy3, hy5, ha3⟩ := nm_byte ha
      obtain ⟨hz1, hz2, hz3, hz5, hb3⟩ := nm_byte hbb
      replace ha : Hid _ := ha
      replace hbb : Hid _ := hbb
      change d.near.name.size = 1 at hy1
      change d.near.to.size = 1 at hz1
      change ∀ h, (d.near.name[0]'h).toNat = 97 + a at hy2
      change ∀ h, (d.near.to[0]'h).toNat = 97 + bb at hz2
      go_quiet (fail)
      go_wp2_with fail
      have hb6 := below_drewK (Below.refl w5.heap.size w5) nq
      have hdeed := deedN (n₀ := w.heap.size) (p := w.heap.size + 2) d bq bcap (.slice kq2 kl2 kc2') hbd (hBk.trans ((hal.trans (hb6.mono hal.size)).mono hBk.size)) rfl (hL5.below hb6) hNk.out (by omega)
      unfold ddV ofBlock at hdeed
      refine hdeed.mono ?_
      rintro e w7 ⟨rfl, ht⟩
      clear hdeed
      have hx6 := (hb6.block _ (Array.getElem?_eq_some_iff.1 hx0).1).trans hx0
      have hxs : Beside (w5.drewN nq) (w.heap.size + 2) rk S (fun g => g = w4.heap.size) := (hLk.below hb4).beside (fun g hg => by subst hg; exact ⟨Nat.le_refl _, (Array.getElem?_eq_some_iff.1 hx6).1⟩)
      have hB6 := hB5.trans (hb6.mono hB5.size)
      obtain ⟨r7, hL7, hs7, hsame7, hb7⟩ := turn_live (hL5.below hb6) hB6.size ((hA5.below hb6).side.or hxs) ht
      have hA7 := (hA5.below hb6).same (fun g hg => hsame7 g (.inl hg)) (hs7.mono (fun g hg => .inl hg))
      have hx7 := (hsame7 _ (.inr rfl)).trans hx6
      have hB7 := hB6.trans hb7
      have hN7 := nearN hNk.out (by omega) d (hby.out d (by rw [← hde.out]; exact List.getElem_mem hlt))
      have hBy7 := near_bytes (hbd.below hB7)
      have hnl := near_len d
      have hkind : d.near.kind = 0 ∨ d.near.kind = 1 ∨ d.near.kind = 2 ∨ d.near.kind = 3 ∨ d.near.kind = 4 := by show d.kind % 5 = 0 ∨ d.kind % 5 = 1 ∨ d.kind % 5 = 2 ∨ d.kind % 5 = 3 ∨ d.kind % 5 = 4; omega
      have hact : actN S d = act S (d.near.kind % 10).toNat (nm a) (nm bb) d.near.b := by unfold actN; rw [(near_name d).1, (near_name d).2, ha.out, hbb.out]
      clear e0 e1 e2 e3 e4 e5 e6 hs7 hsame7 hb6 hA5 hx0 hxs hB5 hB6 hx6 hL5 hal hAk hLk hBk hbd hy1 hy2 hy3 hy5 hz1 hz2 hz3 hz5 hy4 c0 c1 c2 c3 c4 c5 c6 hb7
      obtain ⟨e0, e1, e2, e3, e4, e5, e6⟩ := cells7 hx7
      obtain ⟨f0, f1⟩ := hA7.cellF ha3
      obtain ⟨f2, f3⟩ := hA7.cellF hb3
      obtain ⟨i0, i1⟩ := hA7.cellI ha3
      obtain ⟨i2, i3⟩ := hA7.cellI hb3
      have ha3' : (a : Int) < 3 := by omega
      have hb3' : (bb : Int) < 3 := by omega
      obtain ⟨aq, acap, hVa⟩ := own_shape (hA7.rows a ha3)
      obtain ⟨bbq, bbcap, hVb⟩ := own_shape (hA7.rows bb hb3)
      replace hact : Hid _ := hact
      replace hN7 : Hid _ := hN7
      replace hBy7 : Hid _ := hBy7
      replace hPk : Hid _ := hPk
      have hVa0 : Hid _ := hVa
      rw [hVa] at f0
      rw [hVb] at f2
      clear hVa hVb
      rcases hkind with hk | hk | hk | hk | hk
      · have hP := plain_append hNk.out (by omega) hPk.out ha3 (nm bb) d.near.b hnl
        rw [show act S 0 (nm a) (nm bb) d.near.b = actN S d from (by rw [hact.out, hk]; rfl)] at hP
        obtain ⟨hcd, hP8⟩ := hP
        have hFa := hFk a
        have rowa : w7.drew.ownsRow w.heap.size 5 1 (.slice aq (F a).length acap) (F a).length (encB (F a)) := by rw [← hVa0.out]; exact row_same (hA7.rows a ha3) (fun _ _ => rfl)
        have hByd := BytesIn.below (w' := w7.drew) hBy7.out (below_drewK (Below.refl w7.heap.size w7) 1)
        have f0d : w7.drew.cell? ⟨w.heap.size + 3, a, none⟩ = some (.slice aq (F a).length acap) := f0
        have i0d : w7.drew.cell? ⟨w.heap.size + 3 + 1, a, none⟩ = some (.bool (I a)) := i0
        have f1d : w7.drew.frozen? ⟨w.heap.size + 3, a, none⟩ = false := f1
        have i1d : w7.drew.frozen? ⟨w.heap.size + 3 + 1, a, none⟩ = false := i1
        have hneF : some (w.heap.size + 3) ≠ (Value.slice aq (F a).length acap).ownBlock := fun e => (hA7.rowF ha3 (g := w.heap.size + 3) (by show (V a).ownBlock = _; rw [hVa0.out]; exact e.symm)).1 rfl
        have hneI : some (w.heap.size + 3 + 1) ≠ (Value.slice aq (F a).length acap).ownBlock := fun e => (hA7.rowF ha3 (g := w.heap.size + 3 + 1) (by show (V a).ownBlock = _; rw [hVa0.out]; exact e.symm)).2 rfl
        have hltF : w.heap.size + 3 < w7.drew.heap.size := hA7.lt (.inl rfl)
        have hltI : w.heap.size + 3 + 1 < w7.drew.heap.size := hA7.lt (.inr (.inl rfl))
        have hsz7 : w.heap.size ≤ w7.drew.heap.size := hB7.size
        rw [hcd]
        clear hcd
        go_wp2_with fail
        go_region_law (refine step_append_bytes rfl (.tmp 59) (.tmp 61) rfl w.heap.size (.slice aq (F a).length acap) (.slice bq (min d.b.length 30) bcap) (F a) d.near.b (by simp [Act.eval]) (by simp [Act.eval]) rowa hByd (by omega) hsz7 ?_; intro v' w8 hown hgrow hwhere; obtain ⟨aq', acap', hv'⟩ := own_shape hown; generalize (F a ++ d.near.b).length = ln at hv'; subst hv'; have k0 := hgrow.cell f0d hneF; have k1 := (World.frozen?_of_block (a := ⟨w.heap.size + 3, a, none⟩) (hgrow.block _ hltF hneF)).trans f1d; have k2 := hgrow.cell i0d hneI; have k3 := (World.frozen?_of_block (a := ⟨w.heap.size + 3 + 1, a, none⟩) (hgrow.block _ hltI hneI)).trans i1d)
        all_goals
          go_wp2_with fail
          obtain ⟨hL8, hA8⟩ := Arr.appended hA7.drew hL7.drew ha3 hown (by rw [hVa0.out]; exact hgrow) (by rw [hVa0.out]; exact hwhere)
          have hB8 : Below w.heap.size w ((w8.setCell ⟨w.heap.size + 3, a, none⟩ (.slice aq' ln acap')).setCell ⟨w.heap.size + 3 + 1, a, none⟩ (.bool true)) := ((((below_drewK hB7 1).trans (below_grown rowa hsz7 hgrow))).setCell (p := ⟨w.heap.size + 3, a, none⟩) (by show _ ≤ w.heap.size + 3; omega) _).setCell (p := ⟨w.heap.size + 3 + 1, a, none⟩) (by show _ ≤ w.heap.size + 3 + 1; omega) _
          have hF8 : ∀ c, (upd F a (F a ++ d.near.b) c).length ≤ 30 * (k + 1) := fun c => by
            by_cases hca : c = a
            · subst hca; rw [upd_same, List.length_append]; omega
            · rw [upd_other _ _ hca]; have := hFk c; omega
          clear k0 k1 k2 k3 hown hgrow hwhere f0d i0d f1d i1d rowa hByd hneF hneI hltF hltI
          have hlive := hN7.out.live
          have hwf := hN7.out.sound.wf
          obtain ⟨F8, hF8e⟩ : ∃ F8, upd F a (F a ++ d.near.b) = F8 := ⟨_, rfl⟩
          obtain ⟨I8, hI8e⟩ : ∃ I8, upd I a true = I8 := ⟨_, rfl⟩
          obtain ⟨V8, hV8e⟩ : ∃ V8, upd V a (.slice aq' ln acap') = V8 := ⟨_, rfl⟩
          rw [hF8e, hI8e, hV8e] at hA8
          rw [hF8e, hI8e] at hP8
          rw [hF8e] at hF8
          clear hF8e hI8e hV8e
          replace hlive : Hid _ := hlive
          replace hwf : Hid _ := hwf
          replace hP8 : Hid _ := hP8
          replace hF8 : Hid _ := hF8
          clear f0 f1 f2 f3 i0 i1 i2 i3 e0 e1 e2 e3 e4 e5 e6 hVa0 hx7 hA7
          go_loopw [13] (fun i wr => ∃ c : Nat, c ≤ 3 ∧ i = .int .i64 c ∧ Lies wr (w.heap.size + 2) w.heap.size r7 (actN S d).1 ∧ Arr wr (w.heap.size + 2) w.heap.size r7 (actN S d).1 (w.heap.size + 3) (w.heap.size + 3 + 1) F8 I8 V8 ∧ Below w.heap.size w wr) (fun i _ => 3 - (intOf i).toNat)
          case atStart => exact ⟨0, by omega, rfl, hL8, hA8, hB8⟩
          case round =>
            clear hL8 hA8 hB8
            obtain ⟨c, hc3, rfl, hLc, hAc, hBc⟩ := hrel
            by_cases hlc : c < 3
            · have hlc' : (c : Int) < 3 := by omega
              have hlen : (F8 c).length ≤ 16777216 := by have := hF8.out c; omega
              have hrow := hAc.rows c hlc
              have hbyte : ∀ x ∈ F8 c, x < 256 := fun x hx => by
                have e1 := plain_read hP8.out hlive.out hlc
                have e2 := readRes_bytes hwf.out (nm c)
                rw [e1] at e2
                exact e2.1 x hx
              obtain ⟨j0, j1⟩ := hAc.cellF hlc
              obtain ⟨j2, j3⟩ := hAc.cellI hlc
              obtain ⟨jq, jcap, hVc⟩ := own_shape hrow
              rw [hVc] at j0 hrow
              have hre := fun W (hW : Below wr.heap.size wr W) => read_at (nm c) W (hLc.below hW) hwf.out
              rw [plain_read hP8.out hlive.out hlc] at hre
              have u1 : IntKind.i64.wrap (97 + (c : Int)) = 97 + (c : Int) := IntWalk.i64_in _ (by omega)
              have u2 : IntKind.u8.wrap (97 + (c : Int)) = 97 + (c : Int) := by have : IntKind.u8.wrap (97 + (c : Int)) = (97 + (c : Int)) % 256 := rfl; rw [this]; omega
              have hcv := run_name hlc
              replace hbyte : Hid _ := hbyte
              replace hVc : Hid _ := hVc
              have hLc0 := hLc
              have hAc0 := hAc
              unfold ofBlock at hre
              clear hLc hAc
              cases hIc : I8 c
              all_goals
                rw [hIc] at j2 hre
                replace hIc : Hid _ := hIc
                simp only [if_true, if_false, Bool.false_eq_true] at hre
                go_wp2_with (first
                  | (go_at_call 14; refine (hre _ ((Below.refl _ _).alloc (Nat.le_refl _) _)).mono ?_; clear hre; rintro e w9 ⟨v, rfl, hrow9, hb9⟩; obtain ⟨vq, vcap, rfl⟩ := own_shape hrow9; have hb9' := ((Below.refl wr.heap.size wr).alloc (Nat.le_refl _) (.cells #[.int .u8 (97 + (c : Int))] 5)).trans (hb9.mono (by simp)); have j4 := (hb9'.cell (p := ⟨_, c, none⟩) (lt_of_cell j0)).trans j0; have j5 := (hb9'.cell (p := ⟨_, c, none⟩) (lt_of_cell j2)).trans j2; have heq := eqBytes_any _ _ (F8 c) (F8 c) w9 (row_bytes hrow9 hbyte.out hlen) (row_bytes (own_kept hrow hb9') hbyte.out hlen); rw [decide_eq_true rfl] at heq)
                  | (go_at_call 17; refine heq.mono ?_; clear heq; rintro e w10 ⟨rfl, hb10⟩))
                go_roundw
                case rel =>
                  have hb := hb9'.trans (hb10.mono hb9'.size)
                  exact ⟨c + 1, by omega, by go_num, hLc0.below hb, hAc0.below hb, hBc.trans (hb.mono hBc.size)⟩
                case measure => simp [intOf]; omega
            · obtain rfl : c = 3 := by omega
              go_wp2_with fail
              go_roundw
              case rel => exact ⟨k + 1, r7, F8, I8, V8, by omega, by omega, by go_num, by rw [hst.out]; exact hLc, hBc, by rw [hst.out]; exact hP8.out, hF8.out, by rw [hst.out]; exact hAc⟩
              case measure => simp [intOf]; omega
      · have hP := plain_sync hPk.out hNk.out.live ha3 (nm bb) d.near.b
        rw [show act S 1 (nm a) (nm bb) d.near.b = actN S d from (by rw [hact.out, hk]; rfl)] at hP
        obtain ⟨hcd, hP8⟩ := hP
        have hL8 := hL7
        have hA8 := hA7
        have hB8 := hB7
        have hF8 : ∀ c, (F c).length ≤ 30 * (k + 1) := fun c => by have := hFk c; omega
        generalize hcde : (actN S d).2 = cd at hcd ⊢
        clear hcde
        cases hI : I a
        all_goals
          rw [hI] at i0 hcd
          simp only [if_true, if_false, Bool.false_eq_true] at hcd
          subst hcd
          replace hI : Hid _ := hI
          go_wp2_with fail
          have hlive := hN7.out.live
          have hwf := hN7.out.sound.wf
          obtain ⟨F8, hF8e⟩ : ∃ F8, F = F8 := ⟨_, rfl⟩
          obtain ⟨I8, hI8e⟩ : ∃ I8, I = I8 := ⟨_, rfl⟩
          obtain ⟨V8, hV8e⟩ : ∃ V8, V = V8 := ⟨_, rfl⟩
          rw [hF8e, hI8e, hV8e] at hA8
          rw [hF8e, hI8e] at hP8
          rw [hF8e] at hF8
          clear hF8e hI8e hV8e
          replace hlive : Hid _ := hlive
          replace hwf : Hid _ := hwf
          replace hP8 : Hid _ := hP8
          replace hF8 : Hid _ := hF8
          clear f0 f1 f2 f3 i0 i1 i2 i3 e0 e1 e2 e3 e4 e5 e6 hVa0 hx7 hA7
          go_loopw [13] (fun i wr => ∃ c : Nat, c ≤ 3 ∧ i = .int .i64 c ∧ Lies wr (w.heap.size + 2) w.heap.size r7 (actN S d).1 ∧ Arr wr (w.heap.size + 2) w.heap.size r7 (actN S d).1 (w.heap.size + 3) (w.heap.size + 3 + 1) F8 I8 V8 ∧ Below w.heap.size w wr) (fun i _ => 3 - (intOf i).toNat)
          case atStart => exact ⟨0, by omega, rfl, hL8, hA8, hB8⟩
          case round =>
            clear hL8 hA8 hB8
            obtain ⟨c, hc3, rfl, hLc, hAc, hBc⟩ := hrel
            by_cases hlc : c < 3
            · have hlc' : (c : Int) < 3 := by omega
              have hlen : (F8 c).length ≤ 16777216 := by have := hF8.out c; omega
              have hrow := hAc.rows c hlc
              have hbyte : ∀ x ∈ F8 c, x < 256 := fun x hx => by
                have e1 := plain_read hP8.out hlive.out hlc
                have e2 := readRes_bytes hwf.out (nm c)
                rw [e1] at e2
                exact e2.1 x hx
              obtain ⟨j0, j1⟩ := hAc.cellF hlc
              obtain ⟨j2, j3⟩ := hAc.cellI hlc
              obtain ⟨jq, jcap, hVc⟩ := own_shape hrow
              rw [hVc] at j0 hrow
              have hre := fun W (hW : Below wr.heap.size wr W) => read_at (nm c) W (hLc.below hW) hwf.out
              rw [plain_read hP8.out hlive.out hlc] at hre
              have u1 : IntKind.i64.wrap (97 + (c : Int)) = 97 + (c : Int) := IntWalk.i64_in _ (by omega)
              have u2 : IntKind.u8.wrap (97 + (c : Int)) = 97 + (c : Int) := by have : IntKind.u8.wrap (97 + (c : Int)) = (97 + (c : Int)) % 256 := rfl; rw [this]; omega
              have hcv := run_name hlc
              replace hbyte : Hid _ := hbyte
              replace hVc : Hid _ := hVc
              have hLc0 := hLc
              have hAc0 := hAc
              unfold ofBlock at hre
              clear hLc hAc
              cases hIc : I8 c
              all_goals
                rw [hIc] at j2 hre
                replace hIc : Hid _ := hIc
                simp only [if_true, if_false, Bool.false_eq_true] at hre
                go_wp2_with (first
                  | (go_at_call 14; refine (hre _ ((Below.refl _ _).alloc (Nat.le_refl _) _)).mono ?_; clear hre; rintro e w9 ⟨v, rfl, hrow9, hb9⟩; obtain ⟨vq, vcap, rfl⟩ := own_shape hrow9; have hb9' := ((Below.refl wr.heap.size wr).alloc (Nat.le_refl _) (.cells #[.int .u8 (97 + (c : Int))] 5)).trans (hb9.mono (by simp)); have j4 := (hb9'.cell (p := ⟨_, c, none⟩) (lt_of_cell j0)).trans j0; have j5 := (hb9'.cell (p := ⟨_, c, none⟩) (lt_of_cell j2)).trans j2; have heq := eqBytes_any _ _ (F8 c) (F8 c) w9 (row_bytes hrow9 hbyte.out hlen) (row_bytes (own_kept hrow hb9') hbyte.out hlen); rw [decide_eq_true rfl] at heq)
                  | (go_at_call 17; refine heq.mono ?_; clear heq; rintro e w10 ⟨rfl, hb10⟩))
                go_roundw
                case rel =>
                  have hb := hb9'.trans (hb10.mono hb9'.size)
                  exact ⟨c + 1, by omega, by go_num, hLc0.below hb, hAc0.below hb, hBc.trans (hb.mono hBc.size)⟩
                case measure => simp [intOf]; omega
            · obtain rfl : c = 3 := by omega
              go_wp2_with fail
              go_roundw
              case rel => exact ⟨k + 1, r7, F8, I8, V8, by omega, by omega, by go_num, by rw [hst.out]; exact hLc, hBc, by rw [hst.out]; exact hP8.out, hF8.out, by rw [hst.out]; exact hAc⟩
              case measure => simp [intOf]; omega
      · have hP := plain_rename hNk.out hPk.out ha3 hb3 d.near.b
        rw [show act S 2 (nm a) (nm bb) d.near.b = actN S d from (by rw [hact.out, hk]; rfl)] at hP
        rcases hP with ⟨hI, hcd, hP8⟩ | ⟨hI, hab, hcd, hP8⟩ | ⟨hI, hab, hcd, hP8⟩
        · rw [hcd]
          clear hcd
          rw [hI] at i0
          replace hI : Hid _ := hI
          have hL8 := hL7
          have hA8 := hA7
          have hB8 := hB7
          have hF8 : ∀ c, (F c).length ≤ 30 * (k + 1) := fun c => by have := hFk c; omega
          go_wp2_with fail
          have hlive := hN7.out.live
          have hwf := hN7.out.sound.wf
          obtain ⟨F8, hF8e⟩ : ∃ F8, F = F8 := ⟨_, rfl⟩
          obtain ⟨I8, hI8e⟩ : ∃ I8, I = I8 := ⟨_, rfl⟩
          obtain ⟨V8, hV8e⟩ : ∃ V8, V = V8 := ⟨_, rfl⟩
          rw [hF8e, hI8e, hV8e] at hA8
          rw [hF8e, hI8e] at hP8
          rw [hF8e] at hF8
          clear hF8e hI8e hV8e
          replace hlive : Hid _ := hlive
          replace hwf : Hid _ := hwf
          replace hP8 : Hid _ := hP8
          replace hF8 : Hid _ := hF8
          clear f0 f1 f2 f3 i0 i1 i2 i3 e0 e1 e2 e3 e4 e5 e6 hVa0 hx7 hA7
          go_loopw [13] (fun i wr => ∃ c : Nat, c ≤ 3 ∧ i = .int .i64 c ∧ Lies wr (w.heap.size + 2) w.heap.size r7 (actN S d).1 ∧ Arr wr (w.heap.size + 2) w.heap.size r7 (actN S d).1 (w.heap.size + 3) (w.heap.size + 3 + 1) F8 I8 V8 ∧ Below w.heap.size w wr) (fun i _ => 3 - (intOf i).toNat)
          case atStart => exact ⟨0, by omega, rfl, hL8, hA8, hB8⟩
          case round =>
            clear hL8 hA8 hB8
            obtain ⟨c, hc3, rfl, hLc, hAc, hBc⟩ := hrel
            by_cases hlc : c < 3
            · have hlc' : (c : Int) < 3 := by omega
              have hlen : (F8 c).length ≤ 16777216 := by have := hF8.out c; omega
              have hrow := hAc.rows c hlc
              have hbyte : ∀ x ∈ F8 c, x < 256 := fun x hx => by
                have e1 := plain_read hP8.out hlive.out hlc
                have e2 := readRes_bytes hwf.out (nm c)
                rw [e1] at e2
                exact e2.1 x hx
              obtain ⟨j0, j1⟩ := hAc.cellF hlc
              obtain ⟨j2, j3⟩ := hAc.cellI hlc
              obtain ⟨jq, jcap, hVc⟩ := own_shape hrow
              rw [hVc] at j0 hrow
              have hre := fun W (hW : Below wr.heap.size wr W) => read_at (nm c) W (hLc.below hW) hwf.out
              rw [plain_read hP8.out hlive.out hlc] at hre
              have u1 : IntKind.i64.wrap (97 + (c : Int)) = 97 + (c : Int) := IntWalk.i64_in _ (by omega)
              have u2 : IntKind.u8.wrap (97 + (c : Int)) = 97 + (c : Int) := by have : IntKind.u8.wrap (97 + (c : Int)) = (97 + (c : Int)) % 256 := rfl; rw [this]; omega
              have hcv := run_name hlc
              replace hbyte : Hid _ := hbyte
              replace hVc : Hid _ := hVc
              have hLc0 := hLc
              have hAc0 := hAc
              unfold ofBlock at hre
              clear hLc hAc
              cases hIc : I8 c
              all_goals
                rw [hIc] at j2 hre
                replace hIc : Hid _ := hIc
                simp only [if_true, if_false, Bool.false_eq_true] at hre
                go_wp2_with (first
                  | (go_at_call 14; refine (hre _ ((Below.refl _ _).alloc (Nat.le_refl _) _)).mono ?_; clear hre; rintro e w9 ⟨v, rfl, hrow9, hb9⟩; obtain ⟨vq, vcap, rfl⟩ := own_shape hrow9; have hb9' := ((Below.refl wr.heap.size wr).alloc (Nat.le_refl _) (.cells #[.int .u8 (97 + (c : Int))] 5)).trans (hb9.mono (by simp)); have j4 := (hb9'.cell (p := ⟨_, c, none⟩) (lt_of_cell j0)).trans j0; have j5 := (hb9'.cell (p := ⟨_, c, none⟩) (lt_of_cell j2)).trans j2; have heq := eqBytes_any _ _ (F8 c) (F8 c) w9 (row_bytes hrow9 hbyte.out hlen) (row_bytes (own_kept hrow hb9') hbyte.out hlen); rw [decide_eq_true rfl] at heq)
                  | (go_at_call 17; refine heq.mono ?_; clear heq; rintro e w10 ⟨rfl, hb10⟩))
                go_roundw
                case rel =>
                  have hb := hb9'.trans (hb10.mono hb9'.size)
                  exact ⟨c + 1, by omega, by go_num, hLc0.below hb, hAc0.below hb, hBc.trans (hb.mono hBc.size)⟩
                case measure => simp [intOf]; omega
            · obtain rfl : c = 3 := by omega
              go_wp2_with fail
              go_roundw
              case rel => exact ⟨k + 1, r7, F8, I8, V8, by omega, by omega, by go_num, by rw [hst.out]; exact hLc, hBc, by rw [hst.out]; exact hP8.out, hF8.out, by rw [hst.out]; exact hAc⟩
              case measure => simp [intOf]; omega
        · rw [hcd]
          clear hcd
          rw [hI] at i0
          replace hI : Hid _ := hI
          have hneq : ((a : Int) != (bb : Int)) = false := by simp [hab]
          replace hab : Hid _ := hab
          have hL8 := hL7
          have hA8 := hA7
          have hB8 := hB7
          have hF8 : ∀ c, (F c).length ≤ 30 * (k + 1) := fun c => by have := hFk c; omega
          go_wp2_with fail
          have hlive := hN7.out.live
          have hwf := hN7.out.sound.wf
          obtain ⟨F8, hF8e⟩ : ∃ F8, F = F8 := ⟨_, rfl⟩
          obtain ⟨I8, hI8e⟩ : ∃ I8, I = I8 := ⟨_, rfl⟩
          obtain ⟨V8, hV8e⟩ : ∃ V8, V = V8 := ⟨_, rfl⟩
          rw [hF8e, hI8e, hV8e] at hA8
          rw [hF8e, hI8e] at hP8
          rw [hF8e] at hF8
          clear hF8e hI8e hV8e
          replace hlive : Hid _ := hlive
          replace hwf : Hid _ := hwf
          replace hP8 : Hid _ := hP8
          replace hF8 : Hid _ := hF8
          clear f0 f1 f2 f3 i0 i1 i2 i3 e0 e1 e2 e3 e4 e5 e6 hVa0 hx7 hA7
          go_loopw [13] (fun i wr => ∃ c : Nat, c ≤ 3 ∧ i = .int .i64 c ∧ Lies wr (w.heap.size + 2) w.heap.size r7 (actN S d).1 ∧ Arr wr (w.heap.size + 2) w.heap.size r7 (actN S d).1 (w.heap.size + 3) (w.heap.size + 3 + 1) F8 I8 V8 ∧ Below w.heap.size w wr) (fun i _ => 3 - (intOf i).toNat)
          case atStart => exact ⟨0, by omega, rfl, hL8, hA8, hB8⟩
          case round =>
            clear hL8 hA8 hB8
            obtain ⟨c, hc3, rfl, hLc, hAc, hBc⟩ := hrel
            by_cases hlc : c < 3
            · have hlc' : (c : Int) < 3 := by omega
              have hlen : (F8 c).length ≤ 16777216 := by have := hF8.out c; omega
              have hrow := hAc.rows c hlc
              have hbyte : ∀ x ∈ F8 c, x < 256 := fun x hx => by
                have e1 := plain_read hP8.out hlive.out hlc
                have e2 := readRes_bytes hwf.out (nm c)
                rw [e1] at e2
                exact e2.1 x hx
              obtain ⟨j0, j1⟩ := hAc.cellF hlc
              obtain ⟨j2, j3⟩ := hAc.cellI hlc
              obtain ⟨jq, jcap, hVc⟩ := own_shape hrow
              rw [hVc] at j0 hrow
              have hre := fun W (hW : Below wr.heap.size wr W) => read_at (nm c) W (hLc.below hW) hwf.out
              rw [plain_read hP8.out hlive.out hlc] at hre
              have u1 : IntKind.i64.wrap (97 + (c : Int)) = 97 + (c : Int) := IntWalk.i64_in _ (by omega)
              have u2 : IntKind.u8.wrap (97 + (c : Int)) = 97 + (c : Int) := by have : IntKind.u8.wrap (97 + (c : Int)) = (97 + (c : Int)) % 256 := rfl; rw [this]; omega
              have hcv := run_name hlc
              replace hbyte : Hid _ := hbyte
              replace hVc : Hid _ := hVc
              have hLc0 := hLc
              have hAc0 := hAc
              unfold ofBlock at hre
              clear hLc hAc
              cases hIc : I8 c
              all_goals
                rw [hIc] at j2 hre
                replace hIc : Hid _ := hIc
                simp only [if_true, if_false, Bool.false_eq_true] at hre
                go_wp2_with (first
                  | (go_at_call 14; refine (hre _ ((Below.refl _ _).alloc (Nat.le_refl _) _)).mono ?_; clear hre; rintro e w9 ⟨v, rfl, hrow9, hb9⟩; obtain ⟨vq, vcap, rfl⟩ := own_shape hrow9; have hb9' := ((Below.refl wr.heap.size wr).alloc (Nat.le_refl _) (.cells #[.int .u8 (97 + (c : Int))] 5)).trans (hb9.mono (by simp)); have j4 := (hb9'.cell (p := ⟨_, c, none⟩) (lt_of_cell j0)).trans j0; have j5 := (hb9'.cell (p := ⟨_, c, none⟩) (lt_of_cell j2)).trans j2; have heq := eqBytes_any _ _ (F8 c) (F8 c) w9 (row_bytes hrow9 hbyte.out hlen) (row_bytes (own_kept hrow hb9') hbyte.out hlen); rw [decide_eq_true rfl] at heq)
                  | (go_at_call 17; refine heq.mono ?_; clear heq; rintro e w10 ⟨rfl, hb10⟩))
                go_roundw
                case rel =>
                  have hb := hb9'.trans (hb10.mono hb9'.size)
                  exact ⟨c + 1, by omega, by go_num, hLc0.below hb, hAc0.below hb, hBc.trans (hb.mono hBc.size)⟩
                case measure => simp [intOf]; omega
            · obtain rfl : c = 3 := by omega
              go_wp2_with fail
              go_roundw
              case rel => exact ⟨k + 1, r7, F8, I8, V8, by omega, by omega, by go_num, by rw [hst.out]; exact hLc, hBc, by rw [hst.out]; exact hP8.out, hF8.out, by rw [hst.out]; exact hAc⟩
              case measure => simp [intOf]; omega
        · rw [hcd]
          clear hcd
          rw [hI] at i0
          replace hI : Hid _ := hI
          have hneq : ((a : Int) != (bb : Int)) = true := by simp; omega
          have hab' : ¬ bb = a := fun e => hab e.symm
          obtain ⟨hL8, hA8⟩ := Arr.moved hA7 hL7 ha3 hb3 hab
          rw [hVa0.out] at hL8 hA8
          have hB8 := (((hB7.setCell (p := ⟨w.heap.size + 3, bb, none⟩) (by show _ ≤ w.heap.size + 3; omega) (.slice aq (F a).length acap)).setCell (p := ⟨w.heap.size + 3 + 1, bb, none⟩) (by show _ ≤ w.heap.size + 3 + 1; omega) (.bool true)).setCell (p := ⟨w.heap.size + 3, a, none⟩) (by show _ ≤ w.heap.size + 3; omega) (.slice none 0 0)).setCell (p := ⟨w.heap.size + 3 + 1, a, none⟩) (by show _ ≤ w.heap.size + 3 + 1; omega) (.bool false)
          have hF8 : ∀ c, (upd (upd F bb (F a)) a [] c).length ≤ 30 * (k + 1) := fun c => by
            by_cases hca : c = a
            · subst hca; rw [upd_same]; simp
            · rw [upd_other _ _ hca]
              by_cases hcb : c = bb
              · subst hcb; rw [upd_same]; have := hFk a; omega
              · rw [upd_other _ _ hcb]; have := hFk c; omega
          go_wp2_with fail
          replace hab : Hid _ := hab
          replace hab' : Hid _ := hab'
          have hlive := hN7.out.live
          have hwf := hN7.out.sound.wf
          obtain ⟨F8, hF8e⟩ : ∃ F8, upd (upd F bb (F a)) a [] = F8 := ⟨_, rfl⟩
          obtain ⟨I8, hI8e⟩ : ∃ I8, upd (upd I bb true) a false = I8 := ⟨_, rfl⟩
          obtain ⟨V8, hV8e⟩ : ∃ V8, upd (upd V bb (.slice aq (F a).length acap)) a (.slice none 0 0) = V8 := ⟨_, rfl⟩
          rw [hF8e, hI8e, hV8e] at hA8
          rw [hF8e, hI8e] at hP8
          rw [hF8e] at hF8
          clear hF8e hI8e hV8e
          replace hlive : Hid _ := hlive
          replace hwf : Hid _ := hwf
          replace hP8 : Hid _ := hP8
          replace hF8 : Hid _ := hF8
          clear f0 f1 f2 f3 i0 i1 i2 i3 e0 e1 e2 e3 e4 e5 e6 hVa0 hx7 hA7
          go_loopw [13] (fun i wr => ∃ c : Nat, c ≤ 3 ∧ i = .int .i64 c ∧ Lies wr (w.heap.size + 2) w.heap.size r7 (actN S d).1 ∧ Arr wr (w.heap.size + 2) w.heap.size r7 (actN S d).1 (w.heap.size + 3) (w.heap.size + 3 + 1) F8 I8 V8 ∧ Below w.heap.size w wr) (fun i _ => 3 - (intOf i).toNat)
          case atStart => exact ⟨0, by omega, rfl, hL8, hA8, hB8⟩
          case round =>
            clear hL8 hA8 hB8
            obtain ⟨c, hc3, rfl, hLc, hAc, hBc⟩ := hrel
            by_cases hlc : c < 3
            · have hlc' : (c : Int) < 3 := by omega
              have hlen : (F8 c).length ≤ 16777216 := by have := hF8.out c; omega
              have hrow := hAc.rows c hlc
              have hbyte : ∀ x ∈ F8 c, x < 256 := fun x hx => by
                have e1 := plain_read hP8.out hlive.out hlc
                have e2 := readRes_bytes hwf.out (nm c)
                rw [e1] at e2
                exact e2.1 x hx
              obtain ⟨j0, j1⟩ := hAc.cellF hlc
              obtain ⟨j2, j3⟩ := hAc.cellI hlc
              obtain ⟨jq, jcap, hVc⟩ := own_shape hrow
              rw [hVc] at j0 hrow
              have hre := fun W (hW : Below wr.heap.size wr W) => read_at (nm c) W (hLc.below hW) hwf.out
              rw [plain_read hP8.out hlive.out hlc] at hre
              have u1 : IntKind.i64.wrap (97 + (c : Int)) = 97 + (c : Int) := IntWalk.i64_in _ (by omega)
              have u2 : IntKind.u8.wrap (97 + (c : Int)) = 97 + (c : Int) := by have : IntKind.u8.wrap (97 + (c : Int)) = (97 + (c : Int)) % 256 := rfl; rw [this]; omega
              have hcv := run_name hlc
              replace hbyte : Hid _ := hbyte
              replace hVc : Hid _ := hVc
              have hLc0 := hLc
              have hAc0 := hAc
              unfold ofBlock at hre
              clear hLc hAc
              cases hIc : I8 c
              all_goals
                rw [hIc] at j2 hre
                replace hIc : Hid _ := hIc
                simp only [if_true, if_false, Bool.false_eq_true] at hre
                go_wp2_with (first
                  | (go_at_call 14; refine (hre _ ((Below.refl _ _).alloc (Nat.le_refl _) _)).mono ?_; clear hre; rintro e w9 ⟨v, rfl, hrow9, hb9⟩; obtain ⟨vq, vcap, rfl⟩ := own_shape hrow9; have hb9' := ((Below.refl wr.heap.size wr).alloc (Nat.le_refl _) (.cells #[.int .u8 (97 + (c : Int))] 5)).trans (hb9.mono (by simp)); have j4 := (hb9'.cell (p := ⟨_, c, none⟩) (lt_of_cell j0)).trans j0; have j5 := (hb9'.cell (p := ⟨_, c, none⟩) (lt_of_cell j2)).trans j2; have heq := eqBytes_any _ _ (F8 c) (F8 c) w9 (row_bytes hrow9 hbyte.out hlen) (row_bytes (own_kept hrow hb9') hbyte.out hlen); rw [decide_eq_true rfl] at heq)
                  | (go_at_call 17; refine heq.mono ?_; clear heq; rintro e w10 ⟨rfl, hb10⟩))
                go_roundw
                case rel =>
                  have hb := hb9'.trans (hb10.mono hb9'.size)
                  exact ⟨c + 1, by omega, by go_num, hLc0.below hb, hAc0.below hb, hBc.trans (hb.mono hBc.size)⟩
                case measure => simp [intOf]; omega
            · obtain rfl : c = 3 := by omega
              go_wp2_with fail
              go_roundw
              case rel => exact ⟨k + 1, r7, F8, I8, V8, by omega, by omega, by go_num, by rw [hst.out]; exact hLc, hBc, by rw [hst.out]; exact hP8.out, hF8.out, by rw [hst.out]; exact hAc⟩
              case measure => simp [intOf]; omega
      · have hP := plain_remove hNk.out hPk.out ha3 (nm bb) d.near.b
        rw [show act S 3 (nm a) (nm bb) d.near.b = actN S d from (by rw [hact.out, hk]; rfl)] at hP
        obtain ⟨hcd, hP8⟩ := hP
        generalize hcde : (actN S d).2 = cd at hcd ⊢
        clear hcde
        obtain ⟨hL8, hA8⟩ := Arr.gone hA7 hL7 ha3
        have hB8 := (hB7.setCell (p := ⟨w.heap.size + 3, a, none⟩) (by show _ ≤ w.heap.size + 3; omega) (.slice none 0 0)).setCell (p := ⟨w.heap.size + 3 + 1, a, none⟩) (by show _ ≤ w.heap.size + 3 + 1; omega) (.bool false)
        have hF8 : ∀ c, (upd F a [] c).length ≤ 30 * (k + 1) := fun c => by
          by_cases hca : c = a
          · subst hca; rw [upd_same]; simp
          · rw [upd_other _ _ hca]; have := hFk c; omega
        cases hI : I a
        all_goals
          rw [hI] at i0 hcd
          simp only [if_true, if_false, Bool.false_eq_true] at hcd
          subst hcd
          replace hI : Hid _ := hI
          go_wp2_with fail
          have hlive := hN7.out.live
          have hwf := hN7.out.sound.wf
          obtain ⟨F8, hF8e⟩ : ∃ F8, upd F a [] = F8 := ⟨_, rfl⟩
          obtain ⟨I8, hI8e⟩ : ∃ I8, upd I a false = I8 := ⟨_, rfl⟩
          obtain ⟨V8, hV8e⟩ : ∃ V8, upd V a (.slice none 0 0) = V8 := ⟨_, rfl⟩
          rw [hF8e, hI8e, hV8e] at hA8
          rw [hF8e, hI8e] at hP8
          rw [hF8e] at hF8
          clear hF8e hI8e hV8e
          replace hlive : Hid _ := hlive
          replace hwf : Hid _ := hwf
          replace hP8 : Hid _ := hP8
          replace hF8 : Hid _ := hF8
          clear f0 f1 f2 f3 i0 i1 i2 i3 e0 e1 e2 e3 e4 e5 e6 hVa0 hx7 hA7
          go_loopw [13] (fun i wr => ∃ c : Nat, c ≤ 3 ∧ i = .int .i64 c ∧ Lies wr (w.heap.size + 2) w.heap.size r7 (actN S d).1 ∧ Arr wr (w.heap.size + 2) w.heap.size r7 (actN S d).1 (w.heap.size + 3) (w.heap.size + 3 + 1) F8 I8 V8 ∧ Below w.heap.size w wr) (fun i _ => 3 - (intOf i).toNat)
          case atStart => exact ⟨0, by omega, rfl, hL8, hA8, hB8⟩
          case round =>
            clear hL8 hA8 hB8
            obtain ⟨c, hc3, rfl, hLc, hAc, hBc⟩ := hrel
            by_cases hlc : c < 3
            · have hlc' : (c : Int) < 3 := by omega
              have hlen : (F8 c).length ≤ 16777216 := by have := hF8.out c; omega
              have hrow := hAc.rows c hlc
              have hbyte : ∀ x ∈ F8 c, x < 256 := fun x hx => by
                have e1 := plain_read hP8.out hlive.out hlc
                have e2 := readRes_bytes hwf.out (nm c)
                rw [e1] at e2
                exact e2.1 x hx
              obtain ⟨j0, j1⟩ := hAc.cellF hlc
              obtain ⟨j2, j3⟩ := hAc.cellI hlc
              obtain ⟨jq, jcap, hVc⟩ := own_shape hrow
              rw [hVc] at j0 hrow
              have hre := fun W (hW : Below wr.heap.size wr W) => read_at (nm c) W (hLc.below hW) hwf.out
              rw [plain_read hP8.out hlive.out hlc] at hre
              have u1 : IntKind.i64.wrap (97 + (c : Int)) = 97 + (c : Int) := IntWalk.i64_in _ (by omega)
              have u2 : IntKind.u8.wrap (97 + (c : Int)) = 97 + (c : Int) := by have : IntKind.u8.wrap (97 + (c : Int)) = (97 + (c : Int)) % 256 := rfl; rw [this]; omega
              have hcv := run_name hlc
              replace hbyte : Hid _ := hbyte
              replace hVc : Hid _ := hVc
              have hLc0 := hLc
              have hAc0 := hAc
              unfold ofBlock at hre
              clear hLc hAc
              cases hIc : I8 c
              all_goals
                rw [hIc] at j2 hre
                replace hIc : Hid _ := hIc
                simp only [if_true, if_false, Bool.false_eq_true] at hre
                go_wp2_with (first
                  | (go_at_call 14; refine (hre _ ((Below.refl _ _).alloc (Nat.le_refl _) _)).mono ?_; clear hre; rintro e w9 ⟨v, rfl, hrow9, hb9⟩; obtain ⟨vq, vcap, rfl⟩ := own_shape hrow9; have hb9' := ((Below.refl wr.heap.size wr).alloc (Nat.le_refl _) (.cells #[.int .u8 (97 + (c : Int))] 5)).trans (hb9.mono (by simp)); have j4 := (hb9'.cell (p := ⟨_, c, none⟩) (lt_of_cell j0)).trans j0; have j5 := (hb9'.cell (p := ⟨_, c, none⟩) (lt_of_cell j2)).trans j2; have heq := eqBytes_any _ _ (F8 c) (F8 c) w9 (row_bytes hrow9 hbyte.out hlen) (row_bytes (own_kept hrow hb9') hbyte.out hlen); rw [decide_eq_true rfl] at heq)
                  | (go_at_call 17; refine heq.mono ?_; clear heq; rintro e w10 ⟨rfl, hb10⟩))
                go_roundw
                case rel =>
                  have hb := hb9'.trans (hb10.mono hb9'.size)
                  exact ⟨c + 1, by omega, by go_num, hLc0.below hb, hAc0.below hb, hBc.trans (hb.mono hBc.size)⟩
                case measure => simp [intOf]; omega
            · obtain rfl : c = 3 := by omega
              go_wp2_with fail
              go_roundw
              case rel => exact ⟨k + 1, r7, F8, I8, V8, by omega, by omega, by go_num, by rw [hst.out]; exact hLc, hBc, by rw [hst.out]; exact hP8.out, hF8.out, by rw [hst.out]; exact hAc⟩
              case measure => simp [intOf]; omega
      · have hP := plain_names hPk.out hNk.out.live (nm a) (nm bb) d.near.b
        rw [show act S 4 (nm a) (nm bb) d.near.b = actN S d from (by rw [hact.out, hk]; rfl)] at hP
        obtain ⟨hcd, hP8⟩ := hP
        rw [hcd]
        clear hcd
        have hL8 := hL7
        have hA8 := hA7
        have hB8 := hB7
        have hF8 : ∀ c, (F c).length ≤ 30 * (k + 1) := fun c => by have := hFk c; omega
        go_wp2_with fail
        have hlive := hN7.out.live
        have hwf := hN7.out.sound.wf
        obtain ⟨F8, hF8e⟩ : ∃ F8, F = F8 := ⟨_, rfl⟩
        obtain ⟨I8, hI8e⟩ : ∃ I8, I = I8 := ⟨_, rfl⟩
        obtain ⟨V8, hV8e⟩ : ∃ V8, V = V8 := ⟨_, rfl⟩
        rw [hF8e, hI8e, hV8e] at hA8
        rw [hF8e, hI8e] at hP8
        rw [hF8e] at hF8
        clear hF8e hI8e hV8e
        replace hlive : Hid _ := hlive
        replace hwf : Hid _ := hwf
        replace hP8 : Hid _ := hP8
        replace hF8 : Hid _ := hF8
        clear f0 f1 f2 f3 i0 i1 i2 i3 e0 e1 e2 e3 e4 e5 e6 hVa0 hx7 hA7
        go_loopw [13] (fun i wr => ∃ c : Nat, c ≤ 3 ∧ i = .int .i64 c ∧ Lies wr (w.heap.size + 2) w.heap.size r7 (actN S d).1 ∧ Arr wr (w.heap.size + 2) w.heap.size r7 (actN S d).1 (w.heap.size + 3) (w.heap.size + 3 + 1) F8 I8 V8 ∧ Below w.heap.size w wr) (fun i _ => 3 - (intOf i).toNat)
        case atStart => exact ⟨0, by omega, rfl, hL8, hA8, hB8⟩
        case round =>
          clear hL8 hA8 hB8
          obtain ⟨c, hc3, rfl, hLc, hAc, hBc⟩ := hrel
          by_cases hlc : c < 3
          · have hlc' : (c : Int) < 3 := by omega
            have hlen : (F8 c).length ≤ 16777216 := by have := hF8.out c; omega
            have hrow := hAc.rows c hlc
            have hbyte : ∀ x ∈ F8 c, x < 256 := fun x hx => by
              have e1 := plain_read hP8.out hlive.out hlc
              have e2 := readRes_bytes hwf.out (nm c)
              rw [e1] at e2
              exact e2.1 x hx
            obtain ⟨j0, j1⟩ := hAc.cellF hlc
            obtain ⟨j2, j3⟩ := hAc.cellI hlc
            obtain ⟨jq, jcap, hVc⟩ := own_shape hrow
            rw [hVc] at j0 hrow
            have hre := fun W (hW : Below wr.heap.size wr W) => read_at (nm c) W (hLc.below hW) hwf.out
            rw [plain_read hP8.out hlive.out hlc] at hre
            have u1 : IntKind.i64.wrap (97 + (c : Int)) = 97 + (c : Int) := IntWalk.i64_in _ (by omega)
            have u2 : IntKind.u8.wrap (97 + (c : Int)) = 97 + (c : Int) := by have : IntKind.u8.wrap (97 + (c : Int)) = (97 + (c : Int)) % 256 := rfl; rw [this]; omega
            have hcv := run_name hlc
            replace hbyte : Hid _ := hbyte
            replace hVc : Hid _ := hVc
            have hLc0 := hLc
            have hAc0 := hAc
            unfold ofBlock at hre
            clear hLc hAc
            cases hIc : I8 c
            all_goals
              rw [hIc] at j2 hre
              replace hIc : Hid _ := hIc
              simp only [if_true, if_false, Bool.false_eq_true] at hre
              go_wp2_with (first
                | (go_at_call 14; refine (hre _ ((Below.refl _ _).alloc (Nat.le_refl _) _)).mono ?_; clear hre; rintro e w9 ⟨v, rfl, hrow9, hb9⟩; obtain ⟨vq, vcap, rfl⟩ := own_shape hrow9; have hb9' := ((Below.refl wr.heap.size wr).alloc (Nat.le_refl _) (.cells #[.int .u8 (97 + (c : Int))] 5)).trans (hb9.mono (by simp)); have j4 := (hb9'.cell (p := ⟨_, c, none⟩) (lt_of_cell j0)).trans j0; have j5 := (hb9'.cell (p := ⟨_, c, none⟩) (lt_of_cell j2)).trans j2; have heq := eqBytes_any _ _ (F8 c) (F8 c) w9 (row_bytes hrow9 hbyte.out hlen) (row_bytes (own_kept hrow hb9') hbyte.out hlen); rw [decide_eq_true rfl] at heq)
                | (go_at_call 17; refine heq.mono ?_; clear heq; rintro e w10 ⟨rfl, hb10⟩))
              go_roundw
              case rel =>
                have hb := hb9'.trans (hb10.mono hb9'.size)
                exact ⟨c + 1, by omega, by go_num, hLc0.below hb, hAc0.below hb, hBc.trans (hb.mono hBc.size)⟩
              case measure => simp [intOf]; omega
          · obtain rfl : c = 3 := by omega
            go_wp2_with fail
            go_roundw
            case rel => exact ⟨k + 1, r7, F8, I8, V8, by omega, by omega, by go_num, by rw [hst.out]; exact hLc, hBc, by rw [hst.out]; exact hP8.out, hF8.out, by rw [hst.out]; exact hAc⟩
            case measure => simp [intOf]; omega
    · have hend : (k = l.length) ∨ (k < l.length ∧ k = 80) := by omega
      rcases hend with hend | hend
      all_goals
        first | (subst hend) | (obtain ⟨hlt6, rfl⟩ := hend)
        go_wp2_with (first | (go_at_call 18; refine (awake_any _).mono ?_; rintro e w10 ⟨rfl, hb10⟩))
        go_returns
        exact ⟨rfl, hBk.trans (hb10.mono hBk.size)⟩
end Go.Proofs.Ytbkkcbdbdogloaa
