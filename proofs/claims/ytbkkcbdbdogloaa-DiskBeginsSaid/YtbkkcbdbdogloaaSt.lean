/-
  DiskStays. Conditions: those of each theorem.
-/
import Derived.Test.YtbkkcbdbdogloaaSn
import Derived.Test.YtbkkcbdbdogloaaRl
import Derived.Test.YtbkkcbdbdogloaaFa
import Derived.Test.YtbkkcbdbdogloaaKe
namespace Go.Proofs.Ytbkkcbdbdogloaa
open Go Go.RowKit Go.MapL Go.Poised
variable {p n₀ : Nat} {r : Rep} {s : DS}

theorem readRes_bytes (hwf : WF s) (x : ByteArray) : (∀ z ∈ (readRes s x).1, z < 256) ∧ (readRes s x).1.length ≤ 16777216 := by
  unfold readRes
  split
  · exact ⟨by simp, by simp⟩
  · split
    · exact ⟨by simp, by simp⟩
    · exact ⟨hwf.bytes _, hwf.len _⟩
set_option maxRecDepth 100000 in
set_option maxHeartbeats 16000000 in
theorem stays_law (v0 v1 v2 : Value) (l : List Dd) (keep more : List Int) (w : World) (h0 : DdsIn w v0 l) (h1 : IntsIn w v1 keep) (h2 : IntsIn w v2 more) :
    Calls Try.prog 7 #[v0, v1, v2] w fun e w' => e = .returned (.bool true) ∧ Below w.heap.size w w' := by
  have hll := h0.1
  have hby := dds_bytes h0
  obtain ⟨q, cap, rfl, hc⟩ := dds_parts h0
  obtain ⟨kq, kl, kcap, rfl⟩ := ints_slice h1
  obtain ⟨mq, ml, mcap, rfl⟩ := ints_slice h2
  have hnew := new_at 1048576 (by omega) w
  have hN : ∀ k, k ≤ 60 → k ≤ l.length → Near k (actsN (DS.new 1048576) (l.take k)) := fun k hk hkl => by
    have := nearsN (l.take k) (DS.new 1048576) 0 near_new (fun d hd => hby d (List.mem_of_mem_take hd)) (by have := List.length_take_le' k l; simp; omega)
    rw [List.length_take, Nat.min_eq_left hkl, Nat.zero_add] at this
    exact this
  obtain ⟨i28, hi28, hz28, hs28, hb28⟩ := info_parts info28
  unfold ofBlock at *
  go_enter Try.func7, Try.ntmps7
  go_wp2_with (go_at_call 8; refine hnew.mono ?_; rintro e w1 ⟨rfl, hb1, hs1, r1, hL1⟩)
  clear hnew h0
  replace hs1 : Hid _ := hs1
  replace hby : Hid _ := hby
  replace hN : Hid _ := hN
  replace hc : Hid _ := hc
  replace h1 : Hid _ := h1
  replace h2 : Hid _ := h2
  replace hz28 : Hid _ := hz28
  replace hs28 : Hid _ := hs28
  replace hb28 : Hid _ := hb28
  go_loopw [9] (fun i wr => ∃ (k : Nat) (rk : Rep), k ≤ l.length ∧ k ≤ 60 ∧ i = .int .i64 k ∧ Lies wr (w.heap.size + 2) w.heap.size rk (actsN (DS.new 1048576) (l.take k)) ∧ Below w.heap.size w wr) (fun i _ => l.length - (intOf i).toNat)
  case atStart => exact ⟨0, r1, by omega, by omega, rfl, hL1, hb1⟩
  case round =>
    obtain ⟨k, rk, hkl, hk60, rfl, hLk, hBk⟩ := hrel
    have hNk := hN.out k hk60 hkl
    by_cases hgo : k < l.length ∧ k < 60
    · obtain ⟨hlt, hlt6⟩ := hgo
      obtain ⟨d, hde⟩ : ∃ d, l[k] = d := ⟨_, rfl⟩
      obtain ⟨b, off, bq, bcap, kq2, kl2, kc2', rfl, hbd, hcap, hd1, hd2, c0, c1, c2, c3, c4, c5, c6⟩ := dds_at hBk k hlt d hde hc.out
      have hst : actsN (DS.new 1048576) (l.take (k + 1)) = (actN (actsN (DS.new 1048576) (l.take k)) d).1 := by
        rw [List.take_succ_eq_append_getElem hlt, actsN_snoc, hde]
      have hnr := near_any d bq bcap kq2 kl2 kc2' hd1 hd2 wr (hbd.below hBk) hcap
      have hdeed := fun W (hW : Below wr.heap.size wr W) => deedN (n₀ := w.heap.size) (p := w.heap.size + 2) d bq bcap (.slice kq2 kl2 kc2') hbd (hBk.trans (hW.mono hBk.size)) rfl (hLk.below hW) hNk (by omega)
      have hLk0 := hLk
      have hlt' : (k : Int) < l.length := by omega
      have hlt6' : (k : Int) < 60 := by omega
      replace hst : Hid _ := hst
      replace hde : Hid _ := hde
      replace hNk : Hid _ := hNk
      clear hbd
      unfold ofBlock at hdeed
      unfold ddV at hnr
      go_wp2_with (first | (go_at_call 9; refine hnr.mono ?_; clear hnr; rintro e w4 ⟨rfl, hb4, _⟩) | (go_at_call 10; refine (hdeed _ hb4).mono ?_; rintro e w5 ⟨rfl, ht⟩))
      go_roundw
      case rel =>
        have hB4 := hBk.trans (hb4.mono hBk.size)
        have hbt := ht.below (hLk0.below hb4) hB4.size
        obtain ⟨r5, hL5, _⟩ := ht
        exact ⟨k + 1, r5, by omega, by omega, by go_num, by rw [hst.out]; exact hL5, hB4.trans hbt⟩
      case measure => simp [intOf]; omega
    · have hend : (k = l.length) ∨ (k < l.length ∧ k = 60) := by omega
      have hS := hNk.sound
      have hcr := crash_at (.slice kq kl kcap) keep wr hLk hS.wf (by have := hS.nk; omega) hBk.size (fun w' hw' => IntsIn.below h1.out (hBk.trans (hw'.below hBk.size (fun k hk => (hLk.foot_lt k hk).2))))
      have hSc := sound_boot (sound_crash hS (by omega) keep)
      have hF := fallen_crash hS.wf hNk.live keep
      have hlive := live_boot (s := actsN (DS.new 1048576) (l.take k)) keep
      generalize hs1e : ((actsN (DS.new 1048576) (l.take k)).crash keep).boot = s1 at hSc hF hlive
      replace hs1e : Hid _ := hs1e
      replace hSc : Hid _ := hSc
      replace hF : Hid _ := hF
      replace hlive : Hid _ := hlive
      obtain ⟨L, hLn⟩ : ∃ L, namesOf s1 = L := ⟨_, rfl⟩
      have hLL : L.length ≤ 240 := by have := names_len hSc.out; rw [hLn] at this; omega
      have hcode : ∀ x ∈ L, (readRes s1 x).2 = 0 := fun x hx => names_read hlive.out (by rw [hLn]; exact hx)
      have hLk0 := hLk
      clear hS hNk hN hLk hc
      replace hcode : Hid _ := hcode
      replace hLn : Hid _ := hLn
      unfold ofBlock at hcr
      rcases hend with hend | hend
      all_goals
        first | (subst hend) | (obtain ⟨hlt6, rfl⟩ := hend)
        go_wp2_with (first
          | (go_at_call 15; refine hcr.mono ?_; clear hcr; rintro e w6 ⟨rfl, ht⟩; have hb6 := ht.below hLk0 hBk.size; obtain ⟨r6, hL6, _⟩ := ht; have hB6 := hBk.trans hb6; have hbo := boot_at w6 hL6; unfold ofBlock at hbo)
          | (go_at_call 16; refine hbo.mono ?_; clear hbo; rintro e w7 ⟨rfl, hL7', hg7⟩; have hB7 := hB6.trans (hg7.below hB6.size (fun k hk => by omega)); have hL7 : Lies w7 (w.heap.size + 2) w.heap.size r6 s1 := (by rw [← hs1e.out]; exact hL7'); have hna := names_at w7 hL7 hSc.out.tn (by have := hSc.out.nn; omega); rw [hLn.out] at hna; unfold ofBlock at hna)
          | (go_at_call 19; refine hna.mono ?_; clear hna; rintro e w8 ⟨vn, rfl, hrn, hb8⟩; obtain ⟨nq, ncap, rfl⟩ := own_shape hrn))
        have hL8 := hL7.below hb8
        have hsn := own_beside hL7 hrn (Nat.le_refl _)
        replace hrn := own_base' hrn hB7.size
        have hB8 := hB7.trans (hb8.mono hB7.size)
        clear hL1 hb1 hL6 hb6 hB6 hg7 hL7' hL7 hB7 hb8 hLk0 hBk
        go_loopw [12, 11] (fun i u wr => ∃ (j : Nat) (vs : List (Value × List Nat)), j ≤ L.length ∧ i = .int .i64 j ∧ Lies wr (w.heap.size + 2) w.heap.size r6 s1 ∧ Below w.heap.size w wr ∧ wr.ownsRow w.heap.size 9 1 (.slice nq L.length ncap) L.length (L.map Value.string) ∧ Beside wr (w.heap.size + 2) r6 s1 (rowK (.slice nq L.length ncap)) ∧ RowsAt wr w.heap.size u vs ∧ Beside wr (w.heap.size + 2) r6 s1 (rowsK u vs) ∧ vs.map (·.2) = (L.take j).map (fun x => (readRes s1 x).1)) (fun i _ _ => L.length - (intOf i).toNat)
        case atStart => exact ⟨0, [], by omega, rfl, hL8, hB8, hrn, hsn, RowsAt.nil _ _, fun g hg => absurd hg rowsK_nil, rfl⟩
        case round =>
          clear hL8 hB8 hrn hsn
          obtain ⟨j, vs, hjl, rfl, hLj, hBj, hrn, hsn, hru, hsu, hvs⟩ := hrel
          have hvl : vs.length = j := by have := congrArg List.length hvs; simpa [Nat.min_eq_left hjl] using this
          by_cases hlt : j < L.length
          · obtain ⟨g, ncap', e1, hcell⟩ := texts_cell hrn j hlt
            cases e1
            obtain ⟨x, hx⟩ : ∃ x, L[j] = x := ⟨_, rfl⟩
            rw [hx] at hcell
            have hre := read_at x wr hLj hSc.out.wf
            rw [hcode.out x (by rw [← hx]; exact List.getElem_mem hlt)] at hre
            have hlt' : (j : Int) < L.length := by omega
            have hLj0 := hLj
            have hvs0 : Hid _ := hvs
            replace hx : Hid _ := hx
            have hvl0 : Hid _ := hvl
            obtain ⟨uq, ucap, rfl⟩ := own_shape hru.row
            unfold ofBlock at hre
            clear hvs hvl
            go_wp2_with (first
              | (go_at_call 14; refine hre.mono ?_; clear hre; rintro e w5 ⟨v, rfl, hrow, hb5⟩; obtain ⟨vq, vcap, rfl⟩ := own_shape hrow; have hru5 := hru.below (hb5.trans ((Below.refl _ _).alloc hb5.size (.cells #[.slice vq (readRes s1 x).1.length vcap] 28))))
              | (at_builtin; refine wpList_append_one _ rfl _ _ 42 28 i28 (.slice none 0 0) 24 rfl Try.underlying42 hi28 hz28.out hs28.out hb28.out rfl (by decide) w.heap.size (.slice uq vs.length ucap) (.slice vq (readRes s1 x).1.length vcap) vs.length (vs.map (·.1)) w5.heap.size rfl rfl hru5.row (cell_new1 _ _ _) (by simp [Value.oneCell']) (by have := hvl0.out; omega) (by have := hBj.size; have := hb5.size; simp; omega) ?_; intro u' w6 hown' hgrow hwhere))
            go_roundw
            case rel =>
              have hal := (Below.refl w5.heap.size w5).alloc (Nat.le_refl _) (.cells #[.slice vq (readRes s1 x).1.length vcap] 28)
              have hb6 := hb5.trans (hal.mono hb5.size)
              have hL6 := hLj0.below hb6
              have hsu6 := hsu.below hb6
              have hB6 := hBj.trans (hb6.mono hBj.size)
              have hrow6 := own_base' (own_kept hrow hal) hBj.size
              have hrn6 := own_kept hrn hb6
              refine ⟨j + 1, vs ++ [(.slice vq (readRes s1 x).1.length vcap, (readRes s1 x).1)], by omega, by go_num, hL6.grown hgrow (hsu6.mono (fun g hg => .inl hg)), hB6.trans (below_grown hru5.row hB6.size hgrow), ?_, (hsn.below hb6).grown hgrow, RowsAt.push hru5 hrow6 hown' hgrow, beside_push hL6 hsu6 ((own_beside hLj0 hrow (Nat.le_refl _)).below hal) hown' hgrow hwhere, ?_⟩
              · exact row_same hrn6 (fun g hg => hgrow.block g (hrn6.lt g hg).2 (fun e => by have e1 := sort_row hrn6 hg; have e2 := sort_row hru5.row e.symm; omega))
              · rw [List.map_append, hvs0.out, List.take_succ_eq_append_getElem hlt, List.map_append, hx.out]; rfl
            case measure => simp [intOf]; omega
          · obtain rfl : j = L.length := by omega
            rw [List.take_length] at hvs
            obtain ⟨uq, ucap, rfl⟩ := own_shape hru.row
            have hcr := crash_at (.slice mq ml mcap) more wr hLj hSc.out.wf (by have := hSc.out.nk; omega) hBj.size (fun w' hw' => IntsIn.below h2.out (hBj.trans (hw'.below hBj.size (fun k hk => (hLj.foot_lt k hk).2))))
            have hSd := sound_crash hSc.out (by omega) more
            have hnd := names_fallen hF.out hlive.out more
            have hbf := boot_fallen hF.out hlive.out more
            have hdd : (s1.crash more).dead = true := by rw [crash_fallen hF.out hlive.out]
            have hvs0 : Hid _ := hvs
            have hvl0 : Hid _ := hvl
            have hLj0 := hLj
            have hcell : ∀ i (hi : i < L.length), ∃ v b, vs[i]? = some (v, b) ∧ b = (readRes s1 L[i]).1 := fun i hi => by
              have e := congrArg (fun z => z[i]?) hvs
              simp only [List.getElem?_map, List.getElem?_eq_getElem hi, List.getElem?_eq_getElem (show i < vs.length by omega), Option.map_some, Option.some.injEq] at e
              exact ⟨_, _, List.getElem?_eq_getElem (by omega), e⟩
            unfold ofBlock at hcr
            replace hbf : Hid _ := hbf
            replace hnd : Hid _ := hnd
            replace hdd : Hid _ := hdd
            replace hcell : Hid _ := hcell
            clear hvs hvl hLj
            go_wp2_with (first
              | (go_at_call 15; refine hcr.mono ?_; clear hcr; rintro e w6 ⟨rfl, ht⟩; obtain ⟨r9, hL9, hs9, hsame, hb9⟩ := turn_live hLj0 hBj.size (hsn.or hsu) ht; have hrn9 := row_same hrn (fun g hg => hsame g (.inl hg)); have hru9 := hru.same (fun g hg => hsame g (.inr hg)); have hB9 := hBj.trans hb9; have hde := dead_at w6 hL9; rw [hdd.out] at hde; have hna := names_at w6 hL9 hSd.tn (by have := hSd.nn; omega); rw [hnd.out] at hna; have hna1 := hna; unfold ofBlock at hde hna1)
              | (go_at_call 23; refine hde.mono ?_; clear hde; rintro e w7 ⟨rfl, hw7⟩; obtain rfl := hw7.symm)
              | (go_at_call 19; refine hna1.mono ?_; clear hna1; rintro e w8 ⟨ve, rfl, hre, hb8⟩; obtain ⟨eq, ecap, rfl⟩ := own_shape hre; have hL10 := hL9.below hb8; have hs10 := hs9.below hb8; have hrn10 := own_kept hrn9 hb8; have hru10 := hru9.below hb8; have hB10 := hB9.trans (hb8.mono hB9.size); have hle := left_at w8 hL10 hSd.wf; rw [hdd.out] at hle; unfold ofBlock at hle)
              | (go_at_call 21; refine hle.mono ?_; clear hle; rintro e w9 ⟨rfl, hb11⟩; have hL11 := hL10.below hb11; have hs11 := hs10.below hb11; have hrn11 := own_kept hrn10 hb11; have hru11 := hru10.below hb11; have hB11 := hB10.trans (hb11.mono hB10.size); have hbo := boot_at w9 hL11; unfold ofBlock at hbo)
              | (go_at_call 16; refine hbo.mono ?_; clear hbo; rintro e w12 ⟨rfl, hL12', hg12⟩; have hB12 := hB11.trans (hg12.below hB11.size (fun k hk => by omega)); have hL12 : Lies w12 (w.heap.size + 2) w.heap.size r9 s1 := (by have e1 := hbf.out; unfold DS.boot at e1; rw [e1] at hL12'; exact hL12'); have hrn12 := row_same hrn11 (fun g hg => hg12.block g (hs11 g (.inl hg)).1 (fun e => (hs11 g (.inl hg)).2 (.inl e))); have hru12 := hru11.same (fun g hg => hg12.block g (hs11 g (.inr hg)).1 (fun e => (hs11 g (.inr hg)).2 (.inl e))); have hna2 := names_at w12 hL12 hSc.out.tn (by have := hSc.out.nn; omega); rw [hLn.out] at hna2; unfold ofBlock at hna2)
              | (go_at_call 19; refine hna2.mono ?_; clear hna2; rintro e w13 ⟨v13, rfl, hr13, hb13⟩; obtain ⟨q13, cap13, rfl⟩ := own_shape hr13; have hL13 := hL12.below hb13; have hrn13 := own_kept hrn12 hb13; have hru13 := hru12.below hb13; have hB13 := hB12.trans (hb13.mono hB12.size); have hsm := sameNames_any _ _ L w13 w.heap.size (by omega) hrn13 (own_base' hr13 hB12.size))
              | (go_at_call 24; refine hsm.mono ?_; clear hsm; rintro e w14 ⟨rfl, hb14⟩; have hL14 := hL13.below hb14; have hrn14 := own_kept hrn13 hb14; have hru14 := hru13.below hb14; have hB14 := hB13.trans (hb14.mono hB13.size); have hde2 := dead_at w14 hL14; rw [hlive.out] at hde2; unfold ofBlock at hde2)
              | (go_at_call 23; refine hde2.mono ?_; clear hde2; rintro e w15 ⟨rfl, hw15⟩; obtain rfl := hw15.symm))
            clear hrn hsn hru hsu hLj0 hBj hL9 hs9 hsame hb9 hrn9 hru9 hB9 hL10 hs10 hrn10 hru10 hB10 hL11 hs11 hrn11 hru11 hB11 hL12' hg12 hL12 hB12 hrn12 hru12 hb13 hL13 hrn13 hru13 hB13 hb14 hr13 hre hb8 hb11 hna
            go_loopw [15] (fun i wr => ∃ (j : Nat), j ≤ L.length ∧ i = .int .i64 j ∧ Lies wr (w.heap.size + 2) w.heap.size r9 s1 ∧ Below w.heap.size w wr ∧ wr.ownsRow w.heap.size 9 1 (.slice nq L.length ncap) L.length (L.map Value.string) ∧ RowsAt wr w.heap.size (.slice uq vs.length ucap) vs) (fun i _ => L.length - (intOf i).toNat)
            case atStart => exact ⟨0, by omega, rfl, hL14, hB14, hrn14, hru14⟩
            case round =>
              clear hL14 hB14 hrn14 hru14
              obtain ⟨j, hjl, rfl, hLj, hBj, hrn, hru⟩ := hrel
              by_cases hlt : j < L.length
              · obtain ⟨g, ncap', e1, hcell1⟩ := texts_cell hrn j hlt
                cases e1
                obtain ⟨vj, bj, hvj, hbj⟩ := hcell.out j hlt
                obtain ⟨x, hx⟩ : ∃ x, L[j] = x := ⟨_, rfl⟩
                rw [hx] at hcell1 hbj
                have hrl := hru.row
                obtain ⟨gu, ucap', e2, hcell2⟩ := own_cell (xs := vs.map (·.1)) (by rw [List.length_map]; exact hrl) j vj (by rw [List.getElem?_map, hvj]; rfl)
                rw [List.length_map] at e2
                cases e2
                have hrj := hru.each _ (List.mem_of_getElem? hvj)
                simp only at hrj
                subst hbj
                have hbytes := readRes_bytes hSc.out.wf x
                have hre := read_at x wr hLj hSc.out.wf
                rw [hcode.out x (by rw [← hx]; exact List.getElem_mem hlt)] at hre
                have hlt' : (j : Int) < L.length := by omega
                have hltv : (j : Int) < vs.length := by have := hvl0.out; omega
                have hLj0 := hLj
                replace hx : Hid _ := hx
                replace hbytes : Hid _ := hbytes
                obtain ⟨jq, jcap, rfl⟩ := own_shape hrj
                unfold ofBlock at hre
                go_wp2_with (first
                  | (go_at_call 14; refine hre.mono ?_; clear hre; rintro e w5 ⟨v, rfl, hrow, hb5⟩; have hcell3 := (hb5.cell (p := ⟨gu, j, none⟩) (lt_of_cell hcell2)).trans hcell2; have heq := eqBytes_any _ _ (readRes s1 x).1 (readRes s1 x).1 w5 (row_bytes hrow hbytes.out.1 hbytes.out.2) (row_bytes (own_kept hrj hb5) hbytes.out.1 hbytes.out.2); rw [decide_eq_true rfl] at heq)
                  | (go_at_call 17; refine heq.mono ?_; clear heq; rintro e w6 ⟨rfl, hb6⟩))
                go_roundw
                case rel =>
                  have hb := hb5.trans (hb6.mono hb5.size)
                  exact ⟨j + 1, by omega, by go_num, hLj0.below hb, hBj.trans (hb.mono hBj.size), own_kept hrn hb, hru.below hb⟩
                case measure => simp [intOf]; omega
              · obtain rfl : j = L.length := by omega
                go_wp2_with (first | (go_at_call 18; refine (awake_any _).mono ?_; rintro e w10 ⟨rfl, hb10⟩))
                go_returns
                exact ⟨rfl, hBj.trans (hb10.mono hBj.size)⟩
end Go.Proofs.Ytbkkcbdbdogloaa
