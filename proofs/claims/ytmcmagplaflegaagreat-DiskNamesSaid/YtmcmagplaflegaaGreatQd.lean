/-
  WHAT BOTH TELL. Conditions: those of each theorem.
-/
import Derived.Test.YtmcmagplaflegaaGreatQc
namespace Go.Proofs.YtmcmagplaflegaaGreat
open Go Go.RowKit Go.MapL Go.Poised

variable {pd pu n₀ m : Nat} {s : DS} {d : RD} {w w' : World} {K : Nat → Prop}
/-- Names that lie there. -/
def NamesV (n : Nat) (S : List ByteArray) (v : Value) (w : World) : Prop := ∃ q cap, v = .slice q S.length cap ∧ w.ownsRow n 9 1 (.slice q S.length cap) S.length (S.map Value.string)
theorem NamesV.last {n : Nat} {S : List ByteArray} {v : Value} (hb : Below w.heap.size w w') (h : NamesV n S v w) : NamesV n S v w' := by
  obtain ⟨q, cap, h1, h2⟩ := h
  exact ⟨q, cap, h1, own_kept h2 hb⟩
set_option maxRecDepth 100000 in
set_option maxHeartbeats 16000000 in
theorem tells_any (x : ByteArray) (h : Both w pd pu n₀ m s d K) (ha : Alike m s d) (hm : m < 536870000) :
    Calls Tryz.prog 68 #[ofBlock pd, ofBlock pu, .string x] w fun e w' => e = .returned (.bool true) ∧ Below w.heap.size w w' := by
  obtain ⟨FL, hL, _⟩ := h.left
  obtain ⟨FR, hR, _⟩ := h.right
  have hby := fun y => readR_bytes h.sr y
  have hnl := names_len ha.sound
  have hSu := rlive_names hR (by omega)
  rw [← ha.names] at hSu
  have hSl := fun w1 (hb : Below w.heap.size w w1) => live_names (hL.below hb) (by omega)
  have hrL := fun w1 (hb : Below w.heap.size w w1) y => live_read y (hL.below hb)
  have hsL := fun w1 (hb : Below w.heap.size w w1) y => live_size y (hL.below hb)
  simp only [ha.read] at hrL hsL
  have hrR := fun w1 (hb : Below w.heap.size w w1) y => rlive_read y (hR.below hb) (by omega)
  have hsR := fun w1 (hb : Below w.heap.size w w1) y => rlive_size y (hR.below hb) (by omega)
  have hlL : Hid (∀ w1, Below w.heap.size w w1 → Calls Tryz.prog 20 #[ofBlock pd] w1 fun e w' => e = .returned (.int .i64 (if d.dead then 0 else (d.room : Int) - d.used)) ∧ Below w1.heap.size w1 w') := fun w1 hb => by
    obtain ⟨r, hl, _⟩ := (hL.below hb).ex
    have := left_at w1 hl ha.sound.wf
    rw [ha.left] at this
    exact this
  have hlR : Hid (∀ w1, Below w.heap.size w w1 → Calls Tryz.prog 116 #[ofBlock pu] w1 fun e w' => e = .returned (.int .i64 (if d.dead then 0 else (d.room : Int) - d.used)) ∧ Below w1.heap.size w1 w') := fun w1 hb => by
    obtain ⟨r, hl, _⟩ := (hR.below hb).ex
    exact leftR_any w1 hl (hR.sound.wf (by omega))
  have hdL := fun w1 (hb : Below w.heap.size w w1) => live_dead (hL.below hb)
  rw [show s.dead = d.dead from ha.dead.symm] at hdL
  have hdR : w.cell? ⟨pu, 5, none⟩ = some (.bool d.dead) := hR.top.2.2.2
  have hpu := hR.top.1
  obtain ⟨S, hS⟩ : ∃ S, namesOf s = S := ⟨_, rfl⟩
  simp only [hS] at hSu hSl hnl
  obtain ⟨Lf, hLf⟩ : ∃ Lf : Int, (if d.dead then 0 else (d.room : Int) - d.used) = Lf := ⟨_, rfl⟩
  rw [hLf] at hlL hlR
  generalize d.dead = dd at hdL hdR
  have hll : (Lf != Lf) = false := by simp
  have hddn : (dd != dd) = false := by simp
  clear hLf hS
  replace h : Hid _ := h
  replace ha : Hid (Alike m s d) := ha
  replace hL : Hid (Live w pd n₀ m s _) := hL
  replace hR : Hid (RLive w pu n₀ m d _) := hR
  replace hby : Hid _ := hby
  replace hSl : Hid _ := hSl
  replace hrL : Hid _ := hrL
  replace hsL : Hid _ := hsL
  replace hrR : Hid _ := hrR
  replace hsR : Hid _ := hsR
  replace hdL : Hid _ := hdL
  obtain ⟨i, hi, hi2⟩ := Option.map_eq_some_iff.1 info9
  simp only [Prod.mk.injEq] at hi2
  obtain ⟨hz0, hz1, hz2⟩ := hi2
  replace hz0 : Hid _ := hz0
  replace hz1 : Hid _ := hz1
  replace hz2 : Hid _ := hz2
  unfold ofBlock at *
  go_enter Tryz.func68, Tryz.ntmps68
  go_wp2_with (go_at_call 114; refine hSu.mono ?_; clear hSu; rintro e w1 ⟨lv, rfl, hrow1, hb1⟩; obtain ⟨lq, lcap, rfl⟩ := own_shape hrow1)
  refine poised_whole (fun x => Below w1.heap.size w1 x) (fun x y => Below x.heap.size x y) (by kernel_rfl) (by kernel_rfl) (by kernel_rfl) (fun _ _ h k => h.trans (k.mono h.size)) ((Below.refl _ _).drew) ?_
  apply Exists.intro
  apply walk_det
  · rfl
  · intro w2 hC hF
    simp only [upon]
    go_simp
    exact ⟨Below.refl _ _, rfl⟩
  simp only [put_lit, List.set_cons_succ, List.set_cons_zero]
  apply walk_free (fun v w' => NamesV w1.heap.size S v w') (fun _ _ _ _ hR h => NamesV.last hR h)
  · rfl
  · intro w2 hC hF
    simp only [upon]
    go_simp
    refine (hSl.out w2 (hb1.trans (hC.mono hb1.size))).mono ?_
    rintro e w' ⟨v, rfl, h2, h3⟩
    obtain ⟨q, cap, rfl⟩ := own_shape h2
    exact ⟨_, rfl, h3, q, cap, rfl, own_base' h2 hC.size⟩
  intro v1
  simp only [put_lit, List.set_cons_succ, List.set_cons_zero]
  apply walk_det
  · rfl
  · intro w2 hC hF
    simp only [upon]
    go_simp
    exact ⟨Below.refl _ _, rfl⟩
  simp only [put_lit, List.set_cons_succ, List.set_cons_zero]
  apply walk_det
  · rfl
  · intro w2 hC hF
    obtain ⟨q, cap, he, hrow⟩ : NamesV w1.heap.size S v1 w2 := hF 1 (by kernel_rfl)
    subst he
    simp only [upon]
    go_simp
    exact sameNames_any _ _ S w2 _ _ (by omega) hrow (own_kept hrow1 hC)
  simp only [put_lit, List.set_cons_succ, List.set_cons_zero]
  iterate 3
    apply walk_det
    · rfl
    · intro w2 hC hF
      simp only [upon]
      go_simp
      exact ⟨Below.refl _ _, rfl⟩
    simp only [put_lit, List.set_cons_succ, List.set_cons_zero]
  apply walk_det
  · rfl
  · intro w2 hC hF
    simp only [upon]
    go_simp
    exact hlL.out w2 (hb1.trans (hC.mono hb1.size))
  simp only [put_lit, List.set_cons_succ, List.set_cons_zero]
  apply walk_det
  · rfl
  · intro w2 hC hF
    simp only [upon]
    go_simp
    exact ⟨Below.refl _ _, rfl⟩
  simp only [put_lit, List.set_cons_succ, List.set_cons_zero]
  apply walk_det
  · rfl
  · intro w2 hC hF
    simp only [upon]
    go_simp
    exact hlR.out w2 (hb1.trans (hC.mono hb1.size))
  simp only [put_lit, List.set_cons_succ, List.set_cons_zero]
  iterate 4
    apply walk_det
    · rfl
    · intro w2 hC hF
      simp only [upon]
      go_simp
      exact ⟨Below.refl _ _, rfl⟩
    simp only [put_lit, List.set_cons_succ, List.set_cons_zero]
  apply walk_det
  · rfl
  · intro w2 hC hF
    simp only [upon]
    go_simp
    exact still_call (hdL.out w2 (hb1.trans (hC.mono hb1.size)))
  simp only [put_lit, List.set_cons_succ, List.set_cons_zero]
  iterate 3
    apply walk_det
    · rfl
    · intro w2 hC hF
      simp only [upon]
      go_simp
      exact ⟨Below.refl _ _, rfl⟩
    simp only [put_lit, List.set_cons_succ, List.set_cons_zero]
  apply walk_det
  · rfl
  · intro w2 hC hF
    have q5 := ((hb1.trans (hC.mono hb1.size)).cell (p := ⟨pu, 5, none⟩) hpu).trans hdR
    simp only [upon]
    go_simp
    exact ⟨Below.refl _ _, rfl⟩
  simp only [put_lit, List.set_cons_succ, List.set_cons_zero]
  iterate 2
    apply walk_det
    · rfl
    · intro w2 hC hF
      simp only [upon]
      go_simp
      exact ⟨Below.refl _ _, rfl⟩
    simp only [put_lit, List.set_cons_succ, List.set_cons_zero]
  apply walk_nil
  intro a1 ha1 hFa1
  clear hFa1 hSl hlL hlR hdL
  have hB1 := hb1.trans (ha1.mono hb1.size)
  have hrowA := own_kept hrow1 ha1
  clear hrow1
  replace hrowA : Hid (a1.ownsRow w.heap.size 9 1 (.slice lq S.length lcap) S.length (S.map Value.string)) := hrowA
  go_wp2_with (at_builtin; refine wpList_append_own _ rfl _ _ 37 rfl w.heap.size 9 i (.string ⟨#[]⟩) 1 16 Tryz.underlying37 hi hz0.out hz1.out hz2.out rfl (by decide) _ S.length _ rfl (own_kept hrowA.out ((Below.refl _ _).alloc (Nat.le_refl _) _)) ⟨a1.heap.size, 0, none⟩ 1 1 [.string x] rfl rfl (cell_one_new _ _ _) (by simp [Value.oneCell']) (by unfold maxLen; omega) (by omega) (by have := hB1.size; simp; omega) ?_; intro lv2 w3 hown3 hgrow3 _)
  have hB3 : Below w.heap.size w w3 := (hB1.alloc hB1.size _).grown hgrow3 (by simp; have := hB1.size; omega) (fun k hk => (hrowA.out.lt k hk).1)
  have hT : Hid (S.map Value.string ++ [Value.string x] = (S ++ [x]).map Value.string) := by show _ = _; simp
  obtain ⟨T, hTe⟩ : ∃ T, S ++ [x] = T := ⟨_, rfl⟩
  have hTl : S.length + 1 = T.length := by rw [← hTe]; simp
  replace hTl : Hid _ := hTl
  rw [hT.out, hTe, hTl.out] at hown3
  obtain ⟨tq, tcap, rfl⟩ := own_shape hown3
  have hTn : T.length ≤ 536870000 := by have := hTl.out; omega
  clear hT hTe hrowA hgrow3 hB1 ha1 hb1
  go_wp2_with fail
  go_loopw [8] (fun i wr => ∃ k : Nat, k ≤ T.length ∧ i = .int .i64 k ∧ wr.ownsRow w.heap.size 9 1 (.slice tq T.length tcap) T.length (T.map Value.string) ∧ Below w.heap.size w wr) (fun i _ => T.length - (intOf i).toNat)
  case atStart => exact ⟨0, Nat.zero_le _, rfl, hown3, hB3⟩
  case round =>
    clear hown3 hB3
    obtain ⟨k, hk, rfl, hrow, hB⟩ := hrel
    rename World => w0
    by_cases hlt : k < T.length
    · have hltI : (k : Int) < (T.length : Int) := by omega
      have hltJ : (0 : Int) ≤ (k : Int) := by omega
      obtain ⟨lg, lc, le, hcell⟩ := texts_cell hrow k hlt
      cases le
      have hgl := lt_of_cell hcell
      have hbyx := hby.out T[k]
      have hr1 := hrL.out w0 hB T[k]
      have hr2 := fun w1 hb => hrR.out w1 hb T[k]
      have hs1 := fun w1 hb => hsL.out w1 hb T[k]
      have hs2 := fun w1 hb => hsR.out w1 hb T[k]
      generalize T[k] = y at *
      generalize (readR d y).1 = b at *
      generalize (readR d y).2 = c at *
      obtain ⟨hbx, hbl⟩ := hbyx
      have hcs : (c != c) = false := by simp
      have hnn : ((b.length : Int) != (b.length : Int)) = false := by simp
      replace hr2 : Hid _ := hr2
      replace hs1 : Hid _ := hs1
      replace hs2 : Hid _ := hs2
      replace hbx : Hid _ := hbx
      replace hrow : Hid (w0.ownsRow w.heap.size 9 1 (.slice (some ⟨lg, 0, none⟩) T.length tcap) T.length (T.map Value.string)) := hrow
      go_wp2_with (first
        | (go_at_call 7; refine hr1.mono ?_; clear hr1; rintro e w4 ⟨av, rfl, hra, hb4⟩; obtain ⟨aq, acap, rfl⟩ := own_shape hra
           have hB4 := hB.trans (hb4.mono hB.size)
           have hcell4 := (hb4.cell (p := ⟨lg, k, none⟩) hgl).trans hcell
           have hgl4 := lt_of_cell hcell4)
        | (go_at_call 117; refine (hr2.out _ hB4).mono ?_; rintro e w5 ⟨bv, rfl, hrb, hb5⟩; obtain ⟨bq, bcap, rfl⟩ := own_shape hrb
           have hB5 := hB4.trans (hb5.mono hB4.size)
           have hcell5 := (hb5.cell (p := ⟨lg, k, none⟩) hgl4).trans hcell4
           have hgl5 := lt_of_cell hcell5)
        | (go_at_call 8; refine (hs1.out _ hB5).mono ?_; rintro e w6 ⟨rfl, hb6⟩
           have hB6 := hB5.trans (hb6.mono hB5.size)
           have hcell6 := (hb6.cell (p := ⟨lg, k, none⟩) hgl5).trans hcell5
           have hgl6 := lt_of_cell hcell6)
        | (go_at_call 118; refine (hs2.out _ hB6).mono ?_; rintro e w7 ⟨rfl, hb7⟩
           have hra7 := own_kept hra (hb5.trans ((hb6.trans (hb7.mono hb6.size)).mono hb5.size))
           have hrb7 := own_kept hrb (hb6.trans (hb7.mono hb6.size))
           have heq := eqBytes_any _ _ b b w7 (row_bytes hra7 hbx.out (by omega)) (row_bytes hrb7 hbx.out (by omega))
           rw [decide_eq_true rfl] at heq)
        | (go_at_call 30; refine heq.mono ?_; clear heq; rintro e w8 ⟨rfl, hb8⟩
           have hra8 := own_kept hra7 hb8
           have hB48 : Below w4.heap.size w4 w8 := hb5.trans (((hb6.trans (hb7.mono hb6.size)).trans (hb8.mono (Nat.le_trans hb6.size hb7.size))).mono hb5.size)
           have hBr8 : Below w0.heap.size w0 w8 := hb4.trans (hB48.mono hb4.size)))
      clear hb5 hb6 hb7 hb8 hrb hrb7 hra hra7 hcell4 hcell5 hcell6 hgl4 hgl5 hgl6 hB4 hB5 hB6 hB48 hb4 hs1 hs2 hr2
      go_loopw [17] (fun j wx => ∃ n : Nat, n ≤ b.length ∧ j = .int .i64 n ∧ Below w0.heap.size w0 wx ∧ ∃ ys : List Nat, ys.length = b.length ∧ (∀ y ∈ ys, y < 256) ∧ wx.ownsRow w0.heap.size 5 1 (.slice aq b.length acap) ys.length (encB ys)) (fun j _ => b.length - (intOf j).toNat)
      case atStart => exact ⟨0, Nat.zero_le _, rfl, hBr8, b, rfl, hbx.out, hra8⟩
      case round =>
        clear hBr8 hra8
        obtain ⟨n, hn, rfl, hBx, ys, hy1, hy2, hy3⟩ := hrel
        by_cases hlt2 : n < b.length
        · have hmt' : (n : Int) < (b.length : Int) := by omega
          have m0 : (0 : Int) ≤ (n : Int) := by omega
          obtain ⟨G, hG⟩ : ∃ G, aq = some ⟨G, 0, none⟩ := by
            rcases hy3.2 with ⟨_, h0⟩ | ⟨G, c, cu, e, _⟩
            · omega
            · injection e with e1; exact ⟨G, e1⟩
          subst hG
          have hdell : wr.cell? ⟨G, n, none⟩ = some (.int .u8 (ys.getD n 0 : Nat)) := by
            have := hy3.cells (g := G) rfl n _ (encB_get ys n (by omega))
            rw [Addr.add_lit, Nat.zero_add] at this
            exact this
          obtain ⟨zs, hz1', hz2', hz3'⟩ := store_row (g := G) (k := n) (x := 0) (by omega) hy3 hy2
          have hf : ∃ cu, wr.heap[G]? = some (.cells cu 5) := by
            rcases hy3.2 with ⟨e, h0⟩ | ⟨G2, c, cu, e, _, h4, _⟩
            · omega
            · injection e with e1; injection e1 with e1; injection e1 with e1; subst e1; exact ⟨cu, h4⟩
          obtain ⟨cu, hcu⟩ := hf
          have hfz := free_of hcu n
          have hGb : w0.heap.size ≤ G := (hy3.lt G rfl).1
          replace hy1 : Hid _ := hy1
          clear hcu hy2 hy3
          go_wp2_with fail
          go_roundw
          case rel => exact ⟨n + 1, by omega, by go_num, hBx.setCell (p := ⟨G, n, none⟩) hGb _, zs, by rw [hz1']; exact hy1.out, hz2', hz3'⟩
          case measure => simp [intOf]; omega
        · obtain rfl : n = b.length := by omega
          clear hy3
          replace hy1 : Hid _ := hy1
          go_wp2_with fail
          go_roundw
          case rel => exact ⟨k + 1, by omega, by go_num, own_kept hrow.out hBx, hB.trans (hBx.mono hB.size)⟩
          case measure => simp [intOf]; omega
    · go_wp2_with fail
      go_returns
      exact ⟨rfl, hB⟩
end Go.Proofs.YtmcmagplaflegaaGreat
