/-
  THE DOCUMENT'S DISK: does the power go; sync, cut, turn: walked. Conditions: those of each theorem.
-/
import Derived.Test.YtmcmagplaflegaaGreatRv
namespace Go.Proofs.YtmcmagplaflegaaGreat
open Go Go.RowKit Go.MapL Go.Poised
variable {w w' : World} {p n₀ : Nat} {r : RRep} {d : RD}

set_option maxRecDepth 100000 in
set_option maxHeartbeats 4000000 in
theorem diesR_0 (w : World) (h : RLies w p n₀ r d) (hw : RWF d) (hn : n₀ ≤ w.heap.size) (hf : d.fails = 0) : Calls Tryz.prog 139 #[ofBlock p] w fun e w' => e = .returned (.bool true) ∧ RTurns w w' p n₀ r d (d.crash d.keep) := by
  have hcr := crashR_any r.pv d.keep w h hw hn (intsIn_of_own h.keep hw.keepB (by have := hw.keepL; omega))
  obtain ⟨c0, c1, c2, c3, c4, c5, c6, c7⟩ := h.cells
  rw [hf] at c6
  obtain ⟨vq, vc, hve⟩ := own_shape h.keep
  rw [hve] at c7 hcr
  clear h hw hf hve
  unfold ofBlock at *
  go_enter Tryz.func139, Tryz.ntmps139
  go_wp2_with (go_at_call 109; refine hcr.mono ?_; clear hcr; rintro e w2 ⟨rfl, h2⟩; replace h2 : Hid _ := h2)
  go_returns
  exact ⟨rfl, h2.out⟩
theorem RLies.tickTo (h : RLies w p n₀ r d) {x : Int} : RLies (w.setCell ⟨p, 6, none⟩ (.int .i64 x)) p n₀ r { d with fails := x } :=
  have hs : ∀ k, k ≠ p → (w.setCell ⟨p, 6, none⟩ (.int .i64 x)).heap[k]? = w.heap[k]? := fun _ hk => Below.heap_setCell _ _ _ _ hk
  h.setTop (d' := { d with fails := x }) (nv := r.nv) (kv := r.kv) (wv := r.wv) (pv := r.pv) (setCell_heap (i := 6) h.top) (fun k _ hk => hs k hk) rfl (h.nowTo (fun k _ hk => hs k hk)) (h.keptTo (fun k _ hk => hs k hk)) (h.worksTo (fun k _ hk => hs k hk)) (h.keepTo (fun k _ hk => hs k hk))
set_option maxRecDepth 100000 in
set_option maxHeartbeats 4000000 in
theorem diesR_1 (w : World) (h : RLies w p n₀ r d) (hf : d.fails ≠ 0) (hf1 : -1 ≤ d.fails ∧ d.fails ≤ 9223372036854775807) : Calls Tryz.prog 139 #[ofBlock p] w fun e w' => e = .returned (.bool false) ∧ RLies w' p n₀ r d.tick ∧ Grown (fun k => k = p) w w' ∧ w'.heap.size = w.heap.size := by
  obtain ⟨c0, c1, c2, c3, c4, c5, c6, c7⟩ := h.cells
  have f6 := h.free 6
  have hf0 : (d.fails == 0) = false := by simpa using hf
  by_cases hp : 0 < d.fails
  · have he : d.tick = { d with fails := d.fails - 1 } := by unfold RD.tick; rw [if_pos hp]
    have hw1 : IntKind.i64.wrap (d.fails - 1) = d.fails - 1 := IntWalk.i64_in _ (by omega)
    rw [he]
    have ht := h.tickTo (x := d.fails - 1)
    replace ht : Hid _ := ht
    unfold ofBlock
    clear he h
    generalize d.fails = fl at *
    go_enter Tryz.func139, Tryz.ntmps139
    go_wp2_with fail
    go_returns
    exact ⟨rfl, ht.out, (Grown.refl (fun k => k = p) w).setCell (p := ⟨p, 6, none⟩) (.inl rfl) _, by simp⟩
  · have he : d.tick = d := by unfold RD.tick; rw [if_neg hp]
    rw [he]
    unfold ofBlock
    have hp' : ¬ d.fails > 0 := hp
    replace h : Hid _ := h
    clear he
    go_enter Tryz.func139, Tryz.ntmps139
    go_wp2_with fail
    go_returns
    exact ⟨rfl, h.out, Grown.refl _ _, rfl⟩
/-! ### a file is another -/
theorem set_same {α : Type} {l : List α} {k : Nat} {x : α} (h : l[k]? = some x) : l.set k x = l := by
  obtain ⟨hk, e⟩ := List.getElem?_eq_some_iff.1 h
  rw [← e]; exact List.set_getElem_self hk
theorem encF_at (bv : Nat → Value) (l : List FileS) {i : Nat} (hi : i < l.length) : (encF bv l)[i * 2]? = some (bv i) ∧ (encF bv l)[i * 2 + 1]? = some (.int .i64 ((l.getD i ⟨[], 0⟩).mark : Nat)) := by
  have h0 := flat_get (enc := encF1 bv l) (z := 2) (fun _ => rfl) (List.range l.length) i (by rw [List.length_range]; exact hi) 0 (by omega)
  have h1 := flat_get (enc := encF1 bv l) (z := 2) (fun _ => rfl) (List.range l.length) i (by rw [List.length_range]; exact hi) 1 (by omega)
  rw [List.getElem_range] at h0 h1
  exact ⟨h0, h1⟩
theorem encF_len (bv : Nat → Value) (l : List FileS) : (encF bv l).length = l.length * 2 := by
  unfold encF
  have : ∀ m : List Nat, (m.flatMap (encF1 bv l)).length = m.length * 2 := by
    intro m
    induction m with
    | nil => rfl
    | cons x m ih => rw [List.flatMap_cons, List.length_append, ih, List.length_cons]; show 2 + _ = _; omega
  rw [this, List.length_range]
theorem encF_set (bv : Nat → Value) (l : List FileS) {i : Nat} (hi : i < l.length) (x : Value) (f : FileS) : encF (upd bv i x) (l.set i f) = ((encF bv l).set (i * 2) x).set (i * 2 + 1) (.int .i64 (f.mark : Nat)) := by
  refine List.ext_getElem? (fun k => ?_)
  have hl := encF_len bv l
  have hl' := encF_len (upd bv i x) (l.set i f)
  rw [List.length_set] at hl'
  by_cases hk : k < l.length * 2
  · obtain ⟨j, b, hb, rfl⟩ : ∃ j b, b < 2 ∧ k = j * 2 + b := ⟨k / 2, k % 2, by omega, by omega⟩
    have hj : j < l.length := by omega
    obtain ⟨a0, a1⟩ := encF_at bv l hj
    obtain ⟨b0, b1⟩ := encF_at (upd bv i x) (l.set i f) (i := j) (by rw [List.length_set]; exact hj)
    rw [List.getElem?_set, List.getElem?_set]
    by_cases e : j = i
    · subst e
      have eg : (l.set j f).getD j ⟨[], 0⟩ = f := by simp [List.getD_eq_getElem?_getD, hj]
      rw [eg] at b1
      rw [upd_same] at b0
      obtain rfl | rfl : b = 0 ∨ b = 1 := by omega
      · rw [Nat.add_zero, b0, if_neg (by omega), if_pos rfl, if_pos (by omega)]
      · rw [b1, if_pos rfl, if_pos (by rw [List.length_set]; omega)]
    · have eg : (l.set i f).getD j ⟨[], 0⟩ = l.getD j ⟨[], 0⟩ := by
        rw [List.getD_eq_getElem?_getD, List.getD_eq_getElem?_getD, List.getElem?_set_ne (fun h => e h.symm)]
      rw [eg] at b1
      rw [upd_other _ _ e] at b0
      obtain rfl | rfl : b = 0 ∨ b = 1 := by omega
      · rw [Nat.add_zero, b0, if_neg (by omega), if_neg (by omega), a0]
      · rw [b1, if_neg (by omega), if_neg (by omega), a1]
  · rw [List.getElem?_eq_none (by omega), List.getElem?_eq_none (by rw [List.length_set, List.length_set]; omega)]
theorem RLies.setF (h : RLies w p n₀ r d) {i : Nat} (hi : i < d.files.length) {x : Value} {f : FileS}
    (hrow : w'.ownsRow n₀ 175 2 r.fv d.files.length (((encF r.bv d.files).set (i * 2) x).set (i * 2 + 1) (.int .i64 (f.mark : Nat))))
    (hx : w'.ownsRow n₀ 5 1 x f.b.length (encB f.b)) (hxn : ∀ k, x.ownBlock = some k → (r.bv i).ownBlock = some k ∨ w.heap.size ≤ k)
    (hs : ∀ k, k < w.heap.size → r.fv.ownBlock ≠ some k → (r.bv i).ownBlock ≠ some k → w'.heap[k]? = w.heap[k]?) :
    RLies w' p n₀ { r with bv := upd r.bv i x } (d.setf i f) ∧ ∀ k, ownR p { r with bv := upd r.bv i x } (d.setf i f) k → ownR p r d k ∨ w.heap.size ≤ k := by
  have hl : (d.setf i f).files.length = d.files.length := List.length_set
  have other : ∀ k, k < w.heap.size → sort w k ≠ 176 → sort w k ≠ 6 → w'.heap[k]? = w.heap[k]? := fun k hk h1 h2 => hs k hk (fun e => h1 (h.sF e)) (fun e => h2 (h.sB hi e))
  have hpl := (Array.getElem?_eq_some_iff.1 h.top).1
  refine ⟨{ top := ?_, files := ?_, data := fun j hj => ?_, rowInj := fun j k hj hk hjk => ?_, now := ?_, kept := ?_, works := ?_, keep := ?_, base := h.base }, fun k hk => ?_⟩
  · exact (other p hpl (by rw [h.sP]; omega) (by rw [h.sP]; omega)).trans h.top
  · show w'.ownsRow n₀ 175 2 r.fv (d.files.set i f).length (encF (upd r.bv i x) (d.files.set i f))
    rw [encF_set _ _ hi, List.length_set]; exact hrow
  · rw [hl] at hj
    show w'.ownsRow n₀ 5 1 (upd r.bv i x j) ((d.files.set i f).getD j ⟨[], 0⟩).b.length (encB ((d.files.set i f).getD j ⟨[], 0⟩).b)
    by_cases e : j = i
    · subst e
      have eg : (d.files.set j f).getD j ⟨[], 0⟩ = f := by simp [List.getD_eq_getElem?_getD, hi]
      rw [eg, upd_same]; exact hx
    · have eg : (d.files.set i f).getD j ⟨[], 0⟩ = fileD d j := by
        unfold fileD
        rw [List.getD_eq_getElem?_getD, List.getD_eq_getElem?_getD, List.getElem?_set_ne (fun h => e h.symm)]
      rw [eg, upd_other _ _ e]
      refine row_same (h.data j hj) (fun g hg => hs g ((h.data j hj).lt g hg).2 (fun e2 => ?_) (fun e2 => ?_))
      · have h1 := h.sF e2; have h2 := h.sB hj hg; omega
      · exact h.rowInj j i hj hi e (by rw [hg]; simp) (by rw [hg, e2])
  · rw [hl] at hj hk
    show (upd r.bv i x j).ownBlock ≠ none → (upd r.bv i x j).ownBlock ≠ (upd r.bv i x k).ownBlock
    by_cases e : j = i
    · subst e
      rw [upd_same, upd_other _ _ (fun e => hjk e.symm)]
      intro hn e2
      cases hb : x.ownBlock with
      | none => exact hn hb
      | some g =>
        rw [hb] at e2
        rcases hxn g hb with h3 | h3
        · exact h.rowInj j k hj hk hjk (by rw [h3]; simp) (by rw [h3, e2])
        · have := ((h.data k hk).lt g e2.symm).2; omega
    · rw [upd_other _ _ e]
      by_cases e3 : k = i
      · subst e3
        rw [upd_same]
        intro hn e2
        cases hb : (r.bv j).ownBlock with
        | none => exact hn hb
        | some g =>
          rw [hb] at e2
          rcases hxn g e2.symm with h3 | h3
          · exact h.rowInj j k hj hk hjk (by rw [hb]; simp) (by rw [hb, h3])
          · have := ((h.data j hj).lt g hb).2; omega
      · rw [upd_other _ _ e3]; exact h.rowInj j k hj hk hjk
  · exact row_same h.now (fun g hg => other g (World.ownsRow.lt h.now g hg).2 (by rw [h.sN hg]; omega) (by rw [h.sN hg]; omega))
  · exact row_same h.kept (fun g hg => other g (World.ownsRow.lt h.kept g hg).2 (by rw [h.sK hg]; omega) (by rw [h.sK hg]; omega))
  · exact row_same h.works (fun g hg => other g (h.works.lt g hg).2 (by rw [h.sW hg]; omega) (by rw [h.sW hg]; omega))
  · exact row_same h.keep (fun g hg => other g (h.keep.lt g hg).2 (by rw [h.sV hg]; omega) (by rw [h.sV hg]; omega))
  · rcases hk with hk | hk | ⟨j, hj, hk⟩ | hk | hk | hk | hk
    · exact .inl (.inl hk)
    · exact .inl (.inr (.inl hk))
    · rw [hl] at hj
      have hk : (upd r.bv i x j).ownBlock = some k := hk
      by_cases e : j = i
      · subst e
        rw [upd_same] at hk
        exact (hxn k hk).imp (fun h => .inr (.inr (.inl ⟨j, hj, h⟩))) id
      · rw [upd_other _ _ e] at hk
        exact .inl (.inr (.inr (.inl ⟨j, hj, hk⟩)))
    · exact .inl (.inr (.inr (.inr (.inl hk))))
    · exact .inl (.inr (.inr (.inr (.inr (.inl hk)))))
    · exact .inl (.inr (.inr (.inr (.inr (.inr (.inl hk))))))
    · exact .inl (.inr (.inr (.inr (.inr (.inr (.inr hk))))))
theorem rwf_tick (hw : RWF d) : RWF d.tick := { hw with fails := by have := hw.fails; unfold RD.tick; simp only; split <;> omega }
theorem RTurns.of {w0 : World} {d0 : RD} {r0 : RRep} {r' : RRep} {d' : RD} (h : RLies w' p n₀ r' d') (hG : Grown (ownR p r0 d0) w0 w') (ho : ∀ k, ownR p r' d' k → ownR p r0 d0 k ∨ w0.heap.size ≤ k) : RTurns w0 w' p n₀ r0 d0 d' := ⟨r', h, hG, ho⟩
theorem free_row {w W : World} {n e z k : Nat} {v : Value} {xs : List Value} (h : w.ownsRow n e z v k xs) {g cap : Nat} (hv : v = .slice (some ⟨g, 0, none⟩) k cap) (hW : Below w.heap.size w W) (j : Nat) : W.frozen? ⟨g, j, none⟩ = false := by
  subst hv
  exact World.ownsRow.frozenAt (own_kept h hW) j

set_option maxRecDepth 100000 in
set_option maxHeartbeats 8000000 in
theorem syncR_any (x : ByteArray) (w : World) (h : RLies w p n₀ r d) (hw : RWF d) (hn : n₀ ≤ w.heap.size) :
    Calls Tryz.prog 105 #[ofBlock p, .string x] w fun e w' => e = .returned (.int .i64 (d.sync x).2) ∧ RTurns w w' p n₀ r d (d.sync x).1 := by
  have hcs := h.cells
  by_cases hd : d.dead = true
  · have he : d.sync x = (d, 51) := by unfold RD.sync RD.work ofResR; rw [if_pos hd]
    rw [he]
    rw [hd] at hcs
    obtain ⟨c0, c1, c2, c3, c4, c5, c6, c7⟩ := hcs
    unfold ofBlock
    replace h : Hid _ := h
    clear he hw hd
    go_enter Tryz.func105, Tryz.ntmps105
    go_wp2_with fail
    go_returns
    exact ⟨rfl, .none h.out (Below.refl _ _)⟩
  have hd' : d.dead = false := by simpa using hd
  have hfi := find_any r.nv d.now x n₀ w h.now (by have := hw.now; omega)
  rw [hd'] at hcs
  obtain ⟨c0, c1, c2, c3, c4, c5, c6, c7⟩ := hcs
  cases hf : fileR d x with
  | none =>
    have he : d.sync x = (d, 50) := by unfold RD.sync RD.work ofResR; rw [if_neg hd, hf]
    rw [he]
    rw [idxOf_none hf] at hfi
    unfold ofBlock
    replace h : Hid _ := h
    clear he hw hd hd' hf
    go_enter Tryz.func105, Tryz.ntmps105
    go_wp2_with (go_at_call 140; refine hfi.mono ?_; clear hfi; rintro e w2 ⟨rfl, hw2⟩; obtain rfl := hw2.symm)
    go_returns
    exact ⟨rfl, .none h.out (Below.refl _ _)⟩
  | some i =>
    rw [idxOf_some hf] at hfi
    have hi := hw.look hf
    by_cases h0 : d.fails = 0
    · have he : d.sync x = (d.crash d.keep, 51) := by unfold RD.sync RD.work ofResR; rw [if_neg hd, hf]; simp only [if_true]; rw [if_pos h0]
      rw [he]
      have hdi := diesR_0 w h hw hn h0
      unfold ofBlock at *
      clear he hw hd hd' hf h
      go_enter Tryz.func105, Tryz.ntmps105
      go_wp2_with (first
        | (go_at_call 140; refine hfi.mono ?_; clear hfi; rintro e w2 ⟨rfl, hw2⟩; obtain rfl := hw2.symm)
        | (go_at_call 139; refine hdi.mono ?_; clear hdi; rintro e w3 ⟨rfl, h3⟩; replace h3 : Hid _ := h3))
      go_returns
      exact ⟨rfl, h3.out⟩
    · have he : d.sync x = (d.tick.setf i ⟨(fileD d i).b, (fileD d i).b.length⟩, 0) := by unfold RD.sync RD.work ofResR; rw [if_neg hd, hf]; simp only [if_true]; rw [if_neg h0]; rfl
      rw [he]
      have hdi := diesR_1 w h h0 hw.fails
      have hwt := rwf_tick hw
      have hft : d.tick.files.length = d.files.length := rfl
      unfold ofBlock at *
      replace h : Hid _ := h
      clear he hd hd' hf h0
      go_enter Tryz.func105, Tryz.ntmps105
      go_wp2_with (first
        | (go_at_call 140; refine hfi.mono ?_; clear hfi; rintro e w2 ⟨rfl, hw2⟩; obtain rfl := hw2.symm)
        | (go_at_call 139; refine hdi.mono ?_; clear hdi; rintro e w3 ⟨rfl, h3, hG3, hz3⟩
           obtain ⟨d0, d1, d2, d3, d4, d5, d6, d7⟩ := h3.cells
           have hpl := (Array.getElem?_eq_some_iff.1 h3.top).1
           obtain ⟨g, cap, e, hg, b0, b1⟩ := h3.fileCells hi
           obtain ⟨bq, bc, hbe⟩ := own_shape (h3.data i hi)
           have hlen := hwt.len _ (hwt.mem hi)
           rw [e] at d1
           rw [hbe] at b0
           have hilt : (i : Int) < (d.tick.files.length : Int) := by rw [hft]; omega
           have hfr := fun W (hW : Below w3.heap.size w3 W) => free_row (h3.files) e hW (i * 2 + 1)
           replace h3 : Hid _ := h3
           replace e : Hid _ := e
           replace hbe : Hid _ := hbe
           replace hG3 : Hid _ := hG3
           clear c0 c1 c2 c3 c4 c5 c6 c7 d0 d2 d3 d4 d5 d6 d7))
      refine poised_then 16 (fun x => Below w3.heap.size w3 x) (fun x y => Below w3.heap.size x y) (by kernel_rfl) (by kernel_rfl) (by kernel_rfl) (fun _ _ h k => h.trans k) ((Below.refl _ _).drew) ?_
      apply Exists.intro
      simp only [List.take_succ_cons, List.take_zero]
      iterate 3
        apply walk_det
        · rfl
        · intro w2 hC hF
          simp only [upon]
          go_simp
          exact ⟨Below.refl _ _, rfl⟩
        simp only [put_lit, List.set_cons_succ, List.set_cons_zero]
      apply walk_det
      · rfl
      · intro w2 hC hF
        have y1 := (hC.cell (p := ⟨p, 1, none⟩) hpl).trans d1
        have y2 := (hC.cell (p := ⟨g, i * 2, none⟩) hg).trans b0
        simp only [upon]
        go_simp
        exact ⟨Below.refl _ _, rfl⟩
      simp only [put_lit, List.set_cons_succ, List.set_cons_zero]
      iterate 4
        apply walk_det
        · rfl
        · intro w2 hC hF
          simp only [upon]
          go_simp
          exact ⟨Below.refl _ _, rfl⟩
        simp only [put_lit, List.set_cons_succ, List.set_cons_zero]
      apply walk_det
      · rfl
      · intro w2 hC hF
        have y1 := (hC.cell (p := ⟨p, 1, none⟩) hpl).trans d1
        have y2 := (hC.cell (p := ⟨g, i * 2, none⟩) hg).trans b0
        simp only [upon]
        go_simp
        exact ⟨Below.refl _ _, rfl⟩
      simp only [put_lit, List.set_cons_succ, List.set_cons_zero]
      iterate 3
        apply walk_det
        · rfl
        · intro w2 hC hF
          simp only [upon]
          go_simp
          exact ⟨Below.refl _ _, rfl⟩
        simp only [put_lit, List.set_cons_succ, List.set_cons_zero]
      apply walk_det
      · rfl
      · intro w2 hC hF
        have y1 := (hC.cell (p := ⟨p, 1, none⟩) hpl).trans d1
        have y2 := (hC.cell (p := ⟨g, i * 2, none⟩) hg).trans b0
        simp only [upon]
        go_simp
        exact ⟨Below.refl _ _, rfl⟩
      simp only [put_lit, List.set_cons_succ, List.set_cons_zero]
      iterate 3
        apply walk_det
        · rfl
        · intro w2 hC hF
          simp only [upon]
          go_simp
          exact ⟨Below.refl _ _, rfl⟩
        simp only [put_lit, List.set_cons_succ, List.set_cons_zero]
      apply walk_nil
      intro w7 hC7 _
      simp only [List.drop_succ_cons, List.drop_zero]
      have fr7 := hfr w7 hC7
      have b07 := (hC7.cell (p := ⟨g, i * 2, none⟩) hg).trans b0
      have b17 := (hC7.cell (p := ⟨g, i * 2 + 1, none⟩) hg).trans b1
      go_wp2_with fail
      go_returns
      have h7 := h3.out.below hC7
      have hrow7 := h7.files
      rw [e.out] at hrow7
      obtain ⟨hst, hgr⟩ := World.ownsRow.stored hrow7 (i * 2 + 1) (.int .i64 ((fileD d.tick i).b.length : Nat))
      have hx7 := h7.data i hi
      have hse := h7.setF hi (w' := w7.setCell ⟨g, i * 2 + 1, none⟩ (.int .i64 ((fileD d.tick i).b.length : Nat))) (x := r.bv i) (f := ⟨(fileD d.tick i).b, (fileD d.tick i).b.length⟩)
        (by rw [set_same (encF_at r.bv d.tick.files hi).1, e.out]; exact hst)
        (World.ownsRow.kept hx7 hgr (by
          have := rows_ne hx7 hrow7 (by decide)
          exact this))
        (fun k hk => .inl hk) (fun k hk h1 _ => hgr.block k hk (fun e2 => h1 (by rw [e.out, e2]; rfl)))
      refine ⟨rfl, .of hse.1 ?_ ?_⟩
      · have hG7 : Grown (ownR p r d) w w7 := (hG3.out.mono (fun k hk => .inl hk)).step hC7
        exact hG7.setCell (p := ⟨g, i * 2 + 1, none⟩) (.inl (.inr (.inl (by rw [e.out]; rfl)))) _
      · intro k hk
        rcases hse.2 k hk with h1 | h1
        · exact .inl h1
        · exact .inr (by have := hC7.size; omega)
end Go.Proofs.YtmcmagplaflegaaGreat
