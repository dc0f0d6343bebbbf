/-
  THE DOCUMENT'S DISK: cut and turn, walked. Conditions: those of each theorem.
-/
import Derived.Test.YtmcmagplaflegaaGreatRt
namespace Go.Proofs.YtmcmagplaflegaaGreat
open Go Go.RowKit Go.MapL Go.Poised
variable {w w' : World} {p n₀ : Nat} {r : RRep} {d : RD}

/-- An append, as an operation of a region walked in the text's order. -/
theorem upon_append {P : Program} {R : World → World → Prop} {D : Value → World → Prop} {o : Oper} {a : Act} {W W' : World} {v u v' : Value} (s x : Operand) (t : TypeId)
    (ho : o.op = .call { callee := .builtin .append, args := #[s, x], argTypes := #[t, t] }) (hs : a.eval s = v) (hx : a.eval x = u) (hr : (Builtin.append_ #[t, t] o.type #[v, u]).run P W = .ok v' W') (h : R W W' ∧ D v' W') :
    upon P R W D ((execOp a.eval o).run P W) := by
  unfold execOp
  simp only [ho, resolve, invoke, builtin, Sem.run_bind, Sem.run_pure, Result.andThen_ok, List.map_toArray, List.map_cons, List.map_nil, hs, hx, hr]
  exact h

set_option maxRecDepth 100000 in
set_option maxHeartbeats 16000000 in
theorem cutR_any (x : ByteArray) (n : Int) (hn1 : -9223372036854775808 ≤ n) (hn2 : n ≤ 9223372036854775807) (w : World) (h : RLies w p n₀ r d) (hw : RWF d) (hn : n₀ ≤ w.heap.size) :
    Calls Tryz.prog 113 #[ofBlock p, .string x, .int .i64 n] w fun e w' => e = .returned (.int .i64 (d.cut x n).2) ∧ RTurns w w' p n₀ r d (d.cut x n).1 := by
  have hcs := h.cells
  by_cases hd : d.dead = true
  · have he : d.cut x n = (d, 51) := by unfold RD.cut; rw [if_pos hd]
    rw [he]
    rw [hd] at hcs
    obtain ⟨c0, c1, c2, c3, c4, c5, c6, c7⟩ := hcs
    unfold ofBlock
    replace h : Hid _ := h
    clear he hw hd
    go_enter Tryz.func113, Tryz.ntmps113
    go_wp2_with fail
    go_returns
    exact ⟨rfl, .none h.out (Below.refl _ _)⟩
  have hd' : d.dead = false := by simpa using hd
  have hfi := find_any r.nv d.now x n₀ w h.now (by have := hw.now; omega)
  rw [hd'] at hcs
  obtain ⟨c0, c1, c2, c3, c4, c5, c6, c7⟩ := hcs
  cases hf : fileR d x with
  | none =>
    have he : d.cut x n = (d, 50) := by unfold RD.cut; rw [if_neg hd, hf]
    rw [he]
    rw [idxOf_none hf] at hfi
    unfold ofBlock
    replace h : Hid _ := h
    clear he hw hd hd' hf
    go_enter Tryz.func113, Tryz.ntmps113
    go_wp2_with (go_at_call 140; refine hfi.mono ?_; clear hfi; rintro e w2 ⟨rfl, hw2⟩; obtain rfl := hw2.symm)
    go_returns
    exact ⟨rfl, .none h.out (Below.refl _ _)⟩
  | some i =>
    rw [idxOf_some hf] at hfi
    have hi := hw.look hf

    obtain ⟨g0, cap0, e0, hg0, z0, z1⟩ := h.fileCells hi
    obtain ⟨bq0, bc0, hbe0⟩ := own_shape (h.data i hi)
    rw [e0] at c1
    rw [hbe0] at z0
    have hilt0 : (i : Int) < (d.files.length : Int) := by omega
    by_cases hbad : n < 0 ∨ ((fileD d i).b.length : Int) < n
    · have he : d.cut x n = (d, 9) := by unfold RD.cut; rw [if_neg hd, hf]; simp only; rw [if_pos hbad]
      rw [he]
      have two : ∀ P : Prop, (n < 0 → P) → (¬ n < 0 → ((fileD d i).b.length : Int) < n → P) → P := by
        intro P a1 a2
        by_cases b1 : n < 0
        · exact a1 b1
        · exact a2 b1 (by omega)
      unfold ofBlock at *
      replace h : Hid _ := h
      clear he hw hd hd' hf hbad e0 hbe0
      apply two
      all_goals
        intros
        go_enter Tryz.func113, Tryz.ntmps113
        go_wp2_with (go_at_call 140; refine hfi.mono ?_; clear hfi; rintro e w2 ⟨rfl, hw2⟩; obtain rfl := hw2.symm)
        go_returns
        exact ⟨rfl, .none h.out (Below.refl _ _)⟩
    have m1 : ¬ n < 0 := by omega
    have m2 : ¬ ((fileD d i).b.length : Int) < n := by omega
    by_cases h0 : d.fails = 0
    · have he : d.cut x n = (d.crash d.keep, 51) := by unfold RD.cut; rw [if_neg hd, hf]; simp only; rw [if_neg hbad, if_pos h0]
      rw [he]
      have hdi := diesR_0 w h hw hn h0
      unfold ofBlock at *
      clear he hw hd hd' hf h hbad e0 hbe0
      go_enter Tryz.func113, Tryz.ntmps113
      go_wp2_with (first
        | (go_at_call 140; refine hfi.mono ?_; clear hfi; rintro e w2 ⟨rfl, hw2⟩; obtain rfl := hw2.symm)
        | (go_at_call 139; refine hdi.mono ?_; clear hdi; rintro e w3 ⟨rfl, h3⟩; replace h3 : Hid _ := h3))
      go_returns
      exact ⟨rfl, h3.out⟩
    · obtain ⟨k, rfl⟩ : ∃ k : Nat, n = k := ⟨n.toNat, by omega⟩
      have hkl : k ≤ (fileD d i).b.length := by omega
      have he : d.cut x k = (d.tick.setf i ⟨(fileD d i).b.take k, min (fileD d i).mark k⟩, 0) := by unfold RD.cut; rw [if_neg hd, hf]; simp only; rw [if_neg hbad, if_neg h0]; rfl
      rw [he]
      have hdi := diesR_1 w h h0 hw.fails
      have hwt := rwf_tick hw
      have hft : d.tick.files.length = d.files.length := rfl
      have hfd : fileD d.tick i = fileD d i := rfl
      unfold ofBlock at *
      replace h : Hid _ := h
      clear he hd hd' hf h0 hbad e0 hbe0
      go_enter Tryz.func113, Tryz.ntmps113
      go_wp2_with (first
        | (go_at_call 140; refine hfi.mono ?_; clear hfi; rintro e w2 ⟨rfl, hw2⟩; obtain rfl := hw2.symm)
        | (go_at_call 139; refine hdi.mono ?_; clear hdi; rintro e w3 ⟨rfl, h3, hG3, hz3⟩
           obtain ⟨d0, d1, d2, d3, d4, d5, d6, d7⟩ := h3.cells
           have hpl := (Array.getElem?_eq_some_iff.1 h3.top).1
           obtain ⟨g, cap, e, hg, b0, b1⟩ := h3.fileCells hi
           obtain ⟨bq, bc, hbe, hbl⟩ := own_cap (h3.data i hi)
           have hlen := hwt.len _ (hwt.mem hi)
           rw [e] at d1
           rw [hbe] at b0
           have hilt : (i : Int) < (d.tick.files.length : Int) := by rw [hft]; omega
           have hfr := fun W (hW : Below w3.heap.size w3 W) j => free_row (h3.files) e hW j
           replace h3 : Hid _ := h3
           replace e : Hid _ := e
           replace hbe : Hid _ := hbe
           replace hG3 : Hid _ := hG3
           clear c0 c1 c2 c3 c4 c5 c6 c7 d0 d2 d3 d4 d5 d6 d7))
      have hdi3 := h3.out.dataIn hwt hi
      rw [hbe.out] at hdi3
      obtain ⟨T, hT⟩ : ∃ T, (fileD d i).b.take k = T := ⟨_, rfl⟩
      have hTl : T.length = k := by rw [← hT, List.length_take]; omega
      have hsl0 : BytesIn w3 (.slice bq k bc) T := by
        obtain ⟨_, _, _, e9, h10, _⟩ := hdi3.take k (by rw [hfd]; exact hkl)
        cases e9
        rw [hfd, hT] at h10
        exact h10
      rw [hfd] at b0 b1 hbl hlen hbe
      have hkc : (k : Int) ≤ (bc : Int) := by omega
      have hk0 : (0 : Int) ≤ (k : Int) := by omega
      have hkb : (k : Int) ≤ ((fileD d i).b.length : Int) := by omega
      clear hdi3
      replace hT : Hid ((fileD d i).b.take k = T) := hT
      replace hTl : Hid (T.length = k) := hTl
      replace hsl0 : Hid (BytesIn w3 (.slice bq k bc) T) := hsl0
      replace hw : Hid _ := hw
      replace hwt : Hid _ := hwt
      refine poised_then 19 (fun x => Below w3.heap.size w3 x) (fun x y => Below x.heap.size x y) (by kernel_rfl) (by kernel_rfl) (by kernel_rfl) (fun _ _ h k => h.trans (k.mono h.size)) ((Below.refl _ _).drew) ?_
      apply Exists.intro
      simp only [List.take_succ_cons, List.take_zero]
      iterate 3
        apply walk_det
        · rfl
        · intro w2 hC hF
          simp only [upon]
          go_simp
          exact ⟨Below.refl _ _, rfl⟩
        simp only [put_lit, List.set_cons_succ, List.set_cons_zero]
      apply walk_det
      · rfl
      · intro w2 hC hF
        have y1 := (hC.cell (p := ⟨p, 1, none⟩) hpl).trans d1
        have y2 := (hC.cell (p := ⟨g, i * 2, none⟩) hg).trans b0
        simp only [upon]
        go_simp
        exact ⟨Below.refl _ _, rfl⟩
      simp only [put_lit, List.set_cons_succ, List.set_cons_zero]
      iterate 5
        apply walk_det
        · rfl
        · intro w2 hC hF
          simp only [upon]
          go_simp
          exact ⟨Below.refl _ _, rfl⟩
        simp only [put_lit, List.set_cons_succ, List.set_cons_zero]
      apply walk_det
      · rfl
      · intro w2 hC hF
        have y1 := (hC.cell (p := ⟨p, 1, none⟩) hpl).trans d1
        have y2 := (hC.cell (p := ⟨g, i * 2, none⟩) hg).trans b0
        simp only [upon]
        go_simp
        exact ⟨Below.refl _ _, rfl⟩
      simp only [put_lit, List.set_cons_succ, List.set_cons_zero]
      iterate 3
        apply walk_det
        · rfl
        · intro w2 hC hF
          simp only [upon]
          go_simp
          exact ⟨Below.refl _ _, rfl⟩
        simp only [put_lit, List.set_cons_succ, List.set_cons_zero]
      apply walk_det
      · rfl
      · intro w2 hC hF
        have y1 := (hC.cell (p := ⟨p, 1, none⟩) hpl).trans d1
        have y2 := (hC.cell (p := ⟨g, i * 2, none⟩) hg).trans b0
        simp only [upon]
        go_simp
        exact ⟨Below.refl _ _, rfl⟩
      simp only [put_lit, List.set_cons_succ, List.set_cons_zero]
      iterate 2
        apply walk_det
        · rfl
        · intro w2 hC hF
          simp only [upon]
          go_simp
          exact ⟨Below.refl _ _, rfl⟩
        simp only [put_lit, List.set_cons_succ, List.set_cons_zero]
      apply walk_free (fun v w' => CopyV w3.heap.size T v w') (fun _ _ _ _ hR h => CopyV.last hR h)
      · rfl
      · intro w2 hC hF
        obtain ⟨v', w', hr, g2, g3, g4⟩ := run_append_bytes w2 w3.heap.size 32 (.slice none 0 0) (.slice bq k bc) [] T (World.ownsRow_nil _ _ _ _) (hsl0.out.below hC) (by have := hTl.out; simp; omega) hC.size
        refine upon_append (.tmp 43) (.tmp 53) 23 rfl rfl rfl hr ?_
        exact ⟨(Below.refl _ _).grown g3 (Nat.le_refl _) (fun k hk => by simp [Value.ownBlock] at hk), g2⟩
      intro v16
      simp only [put_lit, List.set_cons_succ, List.set_cons_zero]
      iterate 2
        apply walk_det
        · rfl
        · intro w2 hC hF
          simp only [upon]
          go_simp
          exact ⟨Below.refl _ _, rfl⟩
        simp only [put_lit, List.set_cons_succ, List.set_cons_zero]
      apply walk_nil
      intro w7 hC7 hF7
      simp only [List.drop_succ_cons, List.drop_zero]
      obtain ⟨q7, c7, hq7⟩ := own_shape (show w7.ownsRow w3.heap.size 5 1 v16 T.length (encB T) from hF7 16)
      subst hq7
      have hcv : w7.ownsRow w3.heap.size 5 1 (.slice q7 T.length c7) T.length (encB T) := hF7 16
      have hn3 : n₀ ≤ w3.heap.size := by omega
      have fr7 := hfr w7 hC7 (i * 2)
      have b07 := (hC7.cell (p := ⟨g, i * 2, none⟩) hg).trans b0
      have hrow7 := (h3.out.below hC7).files
      rw [e.out] at hrow7
      obtain ⟨hst, hgr⟩ := World.ownsRow.stored hrow7 (i * 2) (.slice q7 T.length c7)
      have hea := encF_at r.bv d.tick.files hi
      have hse := h3.out.setF hi (w' := w7.setCell ⟨g, i * 2, none⟩ (.slice q7 T.length c7)) (x := .slice q7 T.length c7) (f := ⟨T, (fileD d i).mark⟩)
        (by rw [set_same (k := i * 2 + 1) (by rw [List.getElem?_set_ne (by omega)]; exact hea.2), e.out]; exact hst)
        (own_base' (World.ownsRow.kept hcv hgr (rows_ne hcv hrow7 (by decide))) hn3)
        (fun k hk => .inr (hcv.lt k hk).1) (fun k hk h1 _ => (hgr.block k (Nat.lt_of_lt_of_le hk hC7.size) (fun e2 => h1 (by rw [e.out, e2]; rfl))).trans (hC7.block k hk))
      have hGA : Grown (ownR p r d) w (w7.setCell ⟨g, i * 2, none⟩ (.slice q7 T.length c7)) := ((hG3.out.mono (fun k hk => .inl hk)).step hC7).setCell (p := ⟨g, i * 2, none⟩) (.inl (.inr (.inl (by rw [e.out]; rfl)))) _
      replace hse : Hid _ := hse
      replace hcv : Hid _ := hcv
      clear hF7 hrow7 hst hgr hea
      go_wp2_with fail
      obtain ⟨wA, hwA⟩ : ∃ wA, w7.setCell ⟨g, i * 2, none⟩ (.slice q7 T.length c7) = wA := ⟨_, rfl⟩
      have hseA := hse.out
      rw [hwA] at hseA hGA ⊢
      clear hse
      obtain ⟨hA, hoA⟩ := hseA
      obtain ⟨r1, hr1⟩ : ∃ r1 : RRep, { r with bv := upd r.bv i (.slice q7 T.length c7) } = r1 := ⟨_, rfl⟩
      have e1 : r1.fv = .slice (some ⟨g, 0, none⟩) d.tick.files.length cap := by rw [← hr1]; exact e.out
      have x1 : r1.bv i = .slice q7 T.length c7 := by rw [← hr1]; exact upd_same _ _ _
      rw [hr1] at hA hoA
      obtain ⟨dq, hd1⟩ : ∃ dq, d.tick.setf i ⟨T, (fileD d i).mark⟩ = dq := ⟨_, rfl⟩
      have hl1 : dq.files.length = d.tick.files.length := by rw [← hd1]; exact List.length_set
      have hf1 : fileD dq i = ⟨T, (fileD d i).mark⟩ := by
        rw [← hd1]; unfold fileD RD.setf
        have : i < d.tick.files.length := hi
        simp [List.getD_eq_getElem?_getD, this]
      rw [hd1] at hA hoA
      have hi1 : i < dq.files.length := by rw [hl1]; exact hi
      obtain ⟨dd0, dd1, dd2, dd3, dd4, dd5, dd6, dd7⟩ := hA.cells
      have hplA := (Array.getElem?_eq_some_iff.1 hA.top).1
      obtain ⟨gA, capA, eA, hgA, bA0, bA1⟩ := hA.fileCells hi1
      have eAg : gA = g ∧ capA = cap := by rw [e1, hl1] at eA; cases eA; exact ⟨rfl, rfl⟩
      obtain ⟨rfl, rfl⟩ := eAg
      rw [eA] at dd1
      rw [hf1] at bA1
      simp only at bA1
      have hilt1 : (i : Int) < (dq.files.length : Int) := by omega
      have hfrA := fun W (hW : Below wA.heap.size wA W) => free_row hA.files eA hW (i * 2 + 1)
      obtain ⟨mn, hmn⟩ : ∃ mn, min (fileD d i).mark k = mn := ⟨_, rfl⟩
      have hmi : min ((fileD d i).mark : Int) (k : Int) = (mn : Int) := by omega
      replace hmn : Hid (min (fileD d i).mark k = mn) := hmn
      replace hA : Hid _ := hA
      replace hoA : Hid _ := hoA
      replace hGA : Hid _ := hGA
      replace eA : Hid _ := eA
      replace hr1 : Hid _ := hr1
      replace hd1 : Hid (d.tick.setf i ⟨T, (fileD d i).mark⟩ = dq) := hd1
      replace hf1 : Hid _ := hf1
      replace e1 : Hid _ := e1
      replace x1 : Hid _ := x1
      clear dd0 dd2 dd3 dd4 dd5 dd6 dd7 hwA
      refine poised_then 17 (fun x => Below wA.heap.size wA x) (fun x y => Below wA.heap.size x y) (by kernel_rfl) (by kernel_rfl) (by kernel_rfl) (fun _ _ h k => h.trans k) ((Below.refl _ _).drew) ?_
      apply Exists.intro
      simp only [List.take_succ_cons, List.take_zero]
      iterate 3
        apply walk_det
        · rfl
        · intro w2 hC hF
          simp only [upon]
          go_simp
          exact ⟨Below.refl _ _, rfl⟩
        simp only [put_lit, List.set_cons_succ, List.set_cons_zero]
      apply walk_det
      · rfl
      · intro w2 hC hF
        have y1 := (hC.cell (p := ⟨p, 1, none⟩) hplA).trans dd1
        have y2 := (hC.cell (p := ⟨gA, i * 2 + 1, none⟩) hgA).trans bA1
        simp only [upon]
        go_simp
        exact ⟨Below.refl _ _, rfl⟩
      simp only [put_lit, List.set_cons_succ, List.set_cons_zero]
      iterate 4
        apply walk_det
        · rfl
        · intro w2 hC hF
          simp only [upon]
          go_simp
          exact ⟨Below.refl _ _, rfl⟩
        simp only [put_lit, List.set_cons_succ, List.set_cons_zero]
      apply walk_det
      · rfl
      · intro w2 hC hF
        have y1 := (hC.cell (p := ⟨p, 1, none⟩) hplA).trans dd1
        have y2 := (hC.cell (p := ⟨gA, i * 2 + 1, none⟩) hgA).trans bA1
        simp only [upon]
        go_simp
        exact ⟨Below.refl _ _, rfl⟩
      simp only [put_lit, List.set_cons_succ, List.set_cons_zero]
      iterate 3
        apply walk_det
        · rfl
        · intro w2 hC hF
          simp only [upon]
          go_simp
          exact ⟨Below.refl _ _, rfl⟩
        simp only [put_lit, List.set_cons_succ, List.set_cons_zero]
      apply walk_det
      · rfl
      · intro w2 hC hF
        have y1 := (hC.cell (p := ⟨p, 1, none⟩) hplA).trans dd1
        have y2 := (hC.cell (p := ⟨gA, i * 2 + 1, none⟩) hgA).trans bA1
        simp only [upon]
        go_simp
        exact ⟨Below.refl _ _, rfl⟩
      simp only [put_lit, List.set_cons_succ, List.set_cons_zero]
      iterate 4
        apply walk_det
        · rfl
        · intro w2 hC hF
          simp only [upon]
          go_simp
          exact ⟨Below.refl _ _, rfl⟩
        simp only [put_lit, List.set_cons_succ, List.set_cons_zero]
      apply walk_nil
      intro w8 hC8 hF8
      simp only [List.drop_succ_cons, List.drop_zero]
      have frA := hfrA w8 hC8
      have bA1' := (hC8.cell (p := ⟨gA, i * 2 + 1, none⟩) hgA).trans bA1
      go_wp2_with fail
      go_returns
      have h8 := hA.out.below hC8
      have hrow8 := h8.files
      rw [eA.out] at hrow8
      obtain ⟨hst, hgr⟩ := World.ownsRow.stored hrow8 (i * 2 + 1) (.int .i64 (mn : Nat))
      have hx8 := h8.data i hi1
      have hea := encF_at r1.bv dq.files hi1
      have hf8 : (fileD dq i).b = T := by rw [hf1.out]
      rw [hf8] at hx8
      have hse := h8.setF hi1 (w' := w8.setCell ⟨gA, i * 2 + 1, none⟩ (.int .i64 (mn : Nat))) (x := r1.bv i) (f := ⟨T, mn⟩)
        (by rw [set_same hea.1, eA.out]; exact hst)
        (World.ownsRow.kept hx8 hgr (rows_ne hx8 hrow8 (by decide)))
        (fun k hk => .inl hk) (fun k hk h1 _ => hgr.block k hk (fun e2 => h1 (by rw [eA.out, e2]; rfl)))
      have hdd : dq.setf i ⟨T, mn⟩ = d.tick.setf i ⟨T, mn⟩ := by rw [← hd1.out]; unfold RD.setf; simp [List.set_set]
      rw [hdd] at hse
      rw [hT.out, hmn.out]
      refine ⟨rfl, .of hse.1 ?_ ?_⟩
      · exact (hGA.out.step hC8).setCell (p := ⟨gA, i * 2 + 1, none⟩) (.inl (.inr (.inl (by rw [e.out]; rfl)))) _
      · intro k hk
        rcases hse.2 k hk with h1 | h1
        · rcases hoA.out k h1 with h2 | h2
          · exact .inl h2
          · exact .inr (by omega)
        · have a1 := hC8.size
          have a2 := hGA.out.size
          exact .inr (by omega)

set_option maxRecDepth 100000 in
set_option maxHeartbeats 16000000 in
theorem turnR_any (x : ByteArray) (n bit : Int) (hlo : -9223372036854775808 ≤ n) (hhi : n ≤ 9223372036854775807) (hblo : -9223372036854775808 ≤ bit) (hbhi : bit ≤ 9223372036854775807) (w : World) (h : RLies w p n₀ r d) (hw : RWF d) (_ : n₀ ≤ w.heap.size) :
    Calls Tryz.prog 112 #[ofBlock p, .string x, .int .i64 n, .int .i64 bit] w fun e w' => e = .returned (.int .i64 (d.turn x n bit).2) ∧ RTurns w w' p n₀ r d (d.turn x n bit).1 := by
  have hcs := h.cells
  by_cases hd : d.dead = true
  · have he : d.turn x n bit = (d, 51) := by unfold RD.turn; rw [if_pos hd]
    rw [he]
    rw [hd] at hcs
    obtain ⟨c0, c1, c2, c3, c4, c5, c6, c7⟩ := hcs
    unfold ofBlock
    replace h : Hid _ := h
    clear he hw hd
    go_enter Tryz.func112, Tryz.ntmps112
    go_wp2_with fail
    go_returns
    exact ⟨rfl, .none h.out (Below.refl _ _)⟩
  have hd' : d.dead = false := by simpa using hd
  have hfi := find_any r.nv d.now x n₀ w h.now (by have := hw.now; omega)
  rw [hd'] at hcs
  obtain ⟨c0, c1, c2, c3, c4, c5, c6, c7⟩ := hcs
  cases hf : fileR d x with
  | none =>
    have he : d.turn x n bit = (d, 50) := by unfold RD.turn; rw [if_neg hd, hf]
    rw [he]
    rw [idxOf_none hf] at hfi
    unfold ofBlock
    replace h : Hid _ := h
    clear he hw hd hd' hf
    go_enter Tryz.func112, Tryz.ntmps112
    go_wp2_with (go_at_call 140; refine hfi.mono ?_; clear hfi; rintro e w2 ⟨rfl, hw2⟩; obtain rfl := hw2.symm)
    go_returns
    exact ⟨rfl, .none h.out (Below.refl _ _)⟩
  | some i =>
    rw [idxOf_some hf] at hfi
    have hi := hw.look hf

    obtain ⟨g, cap, e, hg, b0, b1⟩ := h.fileCells hi
    obtain ⟨bq, bc, hbe⟩ := own_shape (h.data i hi)
    have hlen := hw.len _ (hw.mem hi)
    have hpl := (Array.getElem?_eq_some_iff.1 h.top).1
    rw [e] at c1
    rw [hbe] at b0
    have hilt : (i : Int) < (d.files.length : Int) := by omega
    by_cases hbad : n < 0 ∨ ((fileD d i).b.length : Int) ≤ n ∨ bit < 0 ∨ 7 < bit
    · have he : d.turn x n bit = (d, 9) := by unfold RD.turn; rw [if_neg hd, hf]; simp only; rw [if_pos hbad]
      rw [he]
      have four : ∀ P : Prop, (n < 0 → P) → (¬ n < 0 → ((fileD d i).b.length : Int) ≤ n → P) → (¬ n < 0 → ¬ ((fileD d i).b.length : Int) ≤ n → bit < 0 → P) → (¬ n < 0 → ¬ ((fileD d i).b.length : Int) ≤ n → ¬ bit < 0 → 7 < bit → P) → P := by
        intro P a1 a2 a3 a4
        by_cases b1 : n < 0
        · exact a1 b1
        · by_cases b2 : ((fileD d i).b.length : Int) ≤ n
          · exact a2 b1 b2
          · by_cases b3 : bit < 0
            · exact a3 b1 b2 b3
            · exact a4 b1 b2 b3 (by omega)
      unfold ofBlock at *
      replace h : Hid _ := h
      replace hhi : Hid _ := hhi
      replace hbhi : Hid _ := hbhi
      clear he hw hd hd' hf hbad
      apply four
      all_goals
        intros
        go_enter Tryz.func112, Tryz.ntmps112
        go_wp2_with (go_at_call 140; refine hfi.mono ?_; clear hfi; rintro e w2 ⟨rfl, hw2⟩; obtain rfl := hw2.symm)
        go_returns
        exact ⟨rfl, .none h.out (Below.refl _ _)⟩
    obtain ⟨k, rfl⟩ : ∃ k : Nat, n = k := ⟨n.toNat, by omega⟩
    obtain ⟨bt, rfl⟩ : ∃ bt : Nat, bit = bt := ⟨bit.toNat, by omega⟩
    have hk : k < (fileD d i).b.length := by omega
    have hbt : bt ≤ 7 := by omega
    have m1 : ¬ (k : Int) < 0 := by omega
    have m2 : ¬ ((fileD d i).b.length : Int) ≤ (k : Int) := by omega
    have m3 : ¬ (bt : Int) < 0 := by omega
    have m4 : ¬ (7 : Int) < (bt : Int) := by omega
    have he : d.turn x k bt = (d.setf i ⟨(fileD d i).b.set k ((fileD d i).b.getD k 0 ^^^ 2 ^ bt), (fileD d i).mark⟩, 0) := by unfold RD.turn; rw [if_neg hd, hf]; simp only; rw [if_neg hbad]; simp only [Int.toNat_natCast]
    rw [he]
    obtain ⟨gb, hq⟩ : ∃ gb, bq = some ⟨gb, 0, none⟩ := by
      rcases (h.data i hi).2 with ⟨e, h0⟩ | ⟨g, c, cu, e, _⟩
      · omega
      · rw [hbe] at e; cases e; exact ⟨g, rfl⟩
    subst hq
    have hgo : (r.bv i).ownBlock = some gb := by rw [hbe]; rfl
    have hgl := ((h.data i hi).lt gb hgo).2
    have hcell : w.cell? ⟨gb, k, none⟩ = some (.int .u8 ((fileD d i).b.getD k 0 : Nat)) := by
      have := (h.data i hi).cells (g := gb) hgo k _ (encB_get _ k hk)
      rw [Addr.add_lit, Nat.zero_add] at this
      exact this
    have hyl : (fileD d i).b.getD k 0 < 256 := by rw [List.getD_eq_getElem?_getD, List.getElem?_eq_getElem hk]; exact hw.bytes _ (hw.mem hi) _ (List.getElem_mem hk)
    have hpw : 2 ^ bt < 256 := Nat.pow_lt_pow_right (n := 8) (by omega) (by omega)
    obtain ⟨y, hy⟩ : ∃ y, (fileD d i).b.getD k 0 = y := ⟨_, rfl⟩
    obtain ⟨pb, hpb⟩ : ∃ pb, 2 ^ bt = pb := ⟨_, rfl⟩
    rw [hy] at hcell hyl ⊢
    rw [hpb] at hpw ⊢
    have gx := xor8 y pb hyl hpw
    have gs : IntKind.u8.wrap (1 * 2 ^ bt) = (pb : Int) := by
      have : ((2 : Int) ^ bt) = ((2 ^ bt : Nat) : Int) := by simp
      rw [Int.one_mul, this, hpb]
      exact IntWalk.u8_in _ (by omega)
    have gs2 : IntKind.u8.wrap (2 ^ bt) = (pb : Int) := by rw [Int.one_mul] at gs; exact gs
    have hK0 : (0 : Int) ≤ (k : Int) := by omega
    have hK1 : (k : Int) < ((fileD d i).b.length : Int) := by omega
    have hfr := fun W (hW : Below w.heap.size w W) => free_row (h.data i hi) hbe hW k
    unfold ofBlock at *
    replace hpb : Hid _ := hpb
    replace hy : Hid _ := hy
    replace h : Hid _ := h
    replace hw : Hid _ := hw
    replace hgo : Hid _ := hgo
    clear c0 c3 c4 c6 c7 he hd hd' hf hbad
    go_enter Tryz.func112, Tryz.ntmps112
    go_wp2_with (go_at_call 140; refine hfi.mono ?_; clear hfi; rintro e w2 ⟨rfl, hw2⟩; obtain rfl := hw2.symm)
    refine poised_then 24 (fun x => Below w.heap.size w x) (fun x y => Below w.heap.size x y) (by kernel_rfl) (by kernel_rfl) (by kernel_rfl) (fun _ _ h k => h.trans k) ((Below.refl _ _).drew) ?_
    apply Exists.intro
    simp only [List.take_succ_cons, List.take_zero]
    iterate 3
      apply walk_det
      · rfl
      · intro w2 hC hF
        simp only [upon]
        go_simp
        exact ⟨Below.refl _ _, rfl⟩
      simp only [put_lit, List.set_cons_succ, List.set_cons_zero]
    apply walk_det
    · rfl
    · intro w2 hC hF
      have y1 := (hC.cell (p := ⟨p, 1, none⟩) hpl).trans c1
      have y2 := (hC.cell (p := ⟨g, i * 2, none⟩) hg).trans b0
      have y3 := (hC.cell (p := ⟨gb, k, none⟩) hgl).trans hcell
      simp only [upon]
      go_simp
      exact ⟨Below.refl _ _, rfl⟩
    simp only [put_lit, List.set_cons_succ, List.set_cons_zero]
    iterate 3
      apply walk_det
      · rfl
      · intro w2 hC hF
        simp only [upon]
        go_simp
        exact ⟨Below.refl _ _, rfl⟩
      simp only [put_lit, List.set_cons_succ, List.set_cons_zero]
    apply walk_det
    · rfl
    · intro w2 hC hF
      have y1 := (hC.cell (p := ⟨p, 1, none⟩) hpl).trans c1
      have y2 := (hC.cell (p := ⟨g, i * 2, none⟩) hg).trans b0
      have y3 := (hC.cell (p := ⟨gb, k, none⟩) hgl).trans hcell
      simp only [upon]
      go_simp
      exact ⟨Below.refl _ _, rfl⟩
    simp only [put_lit, List.set_cons_succ, List.set_cons_zero]
    iterate 4
      apply walk_det
      · rfl
      · intro w2 hC hF
        simp only [upon]
        go_simp
        exact ⟨Below.refl _ _, rfl⟩
      simp only [put_lit, List.set_cons_succ, List.set_cons_zero]
    apply walk_det
    · rfl
    · intro w2 hC hF
      have y1 := (hC.cell (p := ⟨p, 1, none⟩) hpl).trans c1
      have y2 := (hC.cell (p := ⟨g, i * 2, none⟩) hg).trans b0
      have y3 := (hC.cell (p := ⟨gb, k, none⟩) hgl).trans hcell
      simp only [upon]
      go_simp
      exact ⟨Below.refl _ _, rfl⟩
    simp only [put_lit, List.set_cons_succ, List.set_cons_zero]
    iterate 3
      apply walk_det
      · rfl
      · intro w2 hC hF
        simp only [upon]
        go_simp
        exact ⟨Below.refl _ _, rfl⟩
      simp only [put_lit, List.set_cons_succ, List.set_cons_zero]
    apply walk_det
    · rfl
    · intro w2 hC hF
      have y1 := (hC.cell (p := ⟨p, 1, none⟩) hpl).trans c1
      have y2 := (hC.cell (p := ⟨g, i * 2, none⟩) hg).trans b0
      have y3 := (hC.cell (p := ⟨gb, k, none⟩) hgl).trans hcell
      simp only [upon]
      go_simp
      exact ⟨Below.refl _ _, rfl⟩
    simp only [put_lit, List.set_cons_succ, List.set_cons_zero]
    iterate 2
      apply walk_det
      · rfl
      · intro w2 hC hF
        simp only [upon]
        go_simp
        exact ⟨Below.refl _ _, rfl⟩
      simp only [put_lit, List.set_cons_succ, List.set_cons_zero]
    apply walk_det
    · rfl
    · intro w2 hC hF
      have y1 := (hC.cell (p := ⟨p, 1, none⟩) hpl).trans c1
      have y2 := (hC.cell (p := ⟨g, i * 2, none⟩) hg).trans b0
      have y3 := (hC.cell (p := ⟨gb, k, none⟩) hgl).trans hcell
      simp only [upon]
      go_simp
      exact ⟨Below.refl _ _, rfl⟩
    simp only [put_lit, List.set_cons_succ, List.set_cons_zero]
    iterate 4
      apply walk_det
      · rfl
      · intro w2 hC hF
        simp only [upon]
        go_simp
        exact ⟨Below.refl _ _, rfl⟩
      simp only [put_lit, List.set_cons_succ, List.set_cons_zero]
    apply walk_nil
    intro w8 hC8 hF8
    simp only [List.drop_succ_cons, List.drop_zero]
    have fr8 := hfr w8 hC8
    have hc8 := (hC8.cell (p := ⟨gb, k, none⟩) hgl).trans hcell
    go_wp2_with fail
    go_returns
    have h8 := h.out.below hC8
    have hx8 := h8.data i hi
    have hrow8 := h8.files
    have hxs := row_set (x := y ^^^ pb) hx8 hk hgo.out
    have hne : ∀ g', r.fv.ownBlock = some g' → g' ≠ gb := fun g' hg' e2 => by
      have s1 := h8.sF hg'; have s2 := h8.sB hi hgo.out; rw [e2] at s1; omega
    have hea := encF_at r.bv d.files hi
    have hse := h8.setF hi (w' := w8.setCell ⟨gb, k, none⟩ (.int .u8 ((y ^^^ pb : Nat) : Int))) (x := r.bv i) (f := ⟨(fileD d i).b.set k (y ^^^ pb), (fileD d i).mark⟩)
      (by
        have e3 : (encF r.bv d.files).set (i * 2 + 1) (.int .i64 ((fileD d i).mark : Nat)) = encF r.bv d.files := set_same hea.2
        show (w8.setCell ⟨gb, k, none⟩ (.int .u8 ((y ^^^ pb : Nat) : Int))).ownsRow n₀ 175 2 r.fv d.files.length (((encF r.bv d.files).set (i * 2) (r.bv i)).set (i * 2 + 1) (.int .i64 ((fileD d i).mark : Nat)))
        rw [set_same hea.1, e3]
        exact row_same hrow8 (fun g' hg' => Below.heap_setCell _ _ _ _ (hne g' hg')))
      hxs (fun k hk => .inl hk) (fun k' hk' _ h2 => Below.heap_setCell _ _ _ _ (fun e2 => h2 (by rw [hgo.out]; exact congrArg some e2.symm)))
    refine ⟨rfl, .of hse.1 ?_ ?_⟩
    · exact (Grown.of_below hC8).setCell (p := ⟨gb, k, none⟩) (.inl (.inr (.inr (.inl ⟨i, hi, hgo.out⟩)))) _
    · intro k' hk'
      rcases hse.2 k' hk' with h1 | h1
      · exact .inl h1
      · exact .inr (Nat.le_trans hC8.size h1)
end Go.Proofs.YtmcmagplaflegaaGreat
