/-
  THE DOCUMENT'S DISK: works on names, walked. Conditions: those of each theorem.
-/
import Derived.Test.YtmcmagplaflegaaGreatRs
namespace Go.Proofs.YtmcmagplaflegaaGreat
open Go Go.RowKit Go.MapL Go.Poised
variable {w w' : World} {p n₀ : Nat} {r : RRep} {d : RD}

set_option maxRecDepth 100000 in
set_option maxHeartbeats 8000000 in
theorem syncNamesR_any (w : World) (h : RLies w p n₀ r d) (hw : RWF d) (hn : n₀ ≤ w.heap.size) :
    Calls Tryz.prog 108 #[ofBlock p] w fun e w' => e = .returned (.int .i64 (d.syncNames).2) ∧ RTurns w w' p n₀ r d (d.syncNames).1 := by
  have hcs := h.cells
  by_cases hd : d.dead = true
  · have he : d.syncNames = (d, 51) := by unfold RD.syncNames; rw [if_pos hd]
    rw [he]
    rw [hd] at hcs
    obtain ⟨c0, c1, c2, c3, c4, c5, c6, c7⟩ := hcs
    unfold ofBlock
    replace h : Hid _ := h
    clear he hw hd
    go_enter Tryz.func108, Tryz.ntmps108
    go_wp2_with fail
    go_returns
    exact ⟨rfl, .none h.out (Below.refl _ _)⟩
  have hd' : d.dead = false := by simpa using hd
  rw [hd'] at hcs
  obtain ⟨c0, c1, c2, c3, c4, c5, c6, c7⟩ := hcs
  by_cases h0 : d.fails = 0
  · have he : d.syncNames = (d.crash d.keep, 51) := by unfold RD.syncNames; rw [if_neg hd, if_pos h0]
    rw [he]
    have hdi := diesR_0 w h hw hn h0
    unfold ofBlock at *
    clear he hw hd hd' h
    go_enter Tryz.func108, Tryz.ntmps108
    go_wp2_with (go_at_call 139; refine hdi.mono ?_; clear hdi; rintro e w3 ⟨rfl, h3⟩; replace h3 : Hid _ := h3)
    go_returns
    exact ⟨rfl, h3.out⟩
  · have he : d.syncNames = ({ d.tick with kept := d.now, works := [] }, 0) := by unfold RD.syncNames; rw [if_neg hd, if_neg h0]
    rw [he]
    have hdi := diesR_1 w h h0 hw.fails
    unfold ofBlock at *
    clear he hd hd' h0 c0 c1 c2 c3 c4 c6 c7
    replace h : Hid _ := h
    replace hw : Hid _ := hw
    go_enter Tryz.func108, Tryz.ntmps108
    go_wp2_with (first
      | (go_at_call 139; refine hdi.mono ?_; clear hdi; rintro e w3 ⟨rfl, h3, hG3, hz3⟩
         obtain ⟨q, c, hq⟩ := own_shape h3.now
         have t0 : w3.heap[p]? = some (.cells #[.int .i64 d.room, r.fv, .slice q d.now.length c, r.kv, r.wv, .bool d.tick.dead, .int .i64 d.tick.fails, r.pv] 154) := by
           have := h3.top
           unfold topR at this
           rw [hq] at this
           exact this
         obtain ⟨d0, d1, d2, d3, d4, d5, d6, d7⟩ := cells8 t0
         have f3 := free_of t0 3
         have u1 := setCell_heap (i := 3) (v := .slice q d.now.length c) t0
         have f4 := free_of u1 4
         have u2 := setCell_heap (i := 4) (v := .slice none 0 0) u1
         replace h3 : Hid _ := h3
         replace hq : Hid _ := hq
         replace u2 : Hid _ := u2
         replace hG3 : Hid _ := hG3
         clear u1 t0))
    go_returns
    have hs : ∀ k, k ≠ p → ((w3.setCell ⟨p, 3, none⟩ (.slice q d.now.length c)).setCell ⟨p, 4, none⟩ (.slice none 0 0)).heap[k]? = w3.heap[k]? := fun k hk => (Below.heap_setCell _ _ _ _ hk).trans (Below.heap_setCell _ _ _ _ hk)
    have hN := h3.out.nowTo (w' := (w3.setCell ⟨p, 3, none⟩ (.slice q d.now.length c)).setCell ⟨p, 4, none⟩ (.slice none 0 0)) (fun k _ hk => hs k hk)
    have hN2 := hN
    rw [hq.out] at hN2
    refine ⟨rfl, .of (h3.out.setTop (d' := { d.tick with kept := d.now, works := [] }) (nv := r.nv) (kv := .slice q d.now.length c) (wv := .slice none 0 0) (pv := r.pv) (by rw [u2.out]; unfold topR; rw [hq.out]; rfl) (fun k _ hk => hs k hk) rfl hN hN2 (World.ownsRow_nil _ _ _ _) (h3.out.keepTo (fun k _ hk => hs k hk))) ?_ (fun k hk => ?_)⟩
    · exact ((hG3.out.mono (fun k hk => .inl hk)).setCell (p := ⟨p, 3, none⟩) (.inl (.inl rfl)) _).setCell (p := ⟨p, 4, none⟩) (.inl (.inl rfl)) _
    · left
      rcases hk with hk | hk | hk | hk | hk | hk | hk
      · exact .inl hk
      · exact .inr (.inl hk)
      · exact .inr (.inr (.inl hk))
      · exact .inr (.inr (.inr (.inl hk)))
      · exact .inr (.inr (.inr (.inl (by rw [hq.out]; exact hk))))
      · cases hk
      · exact .inr (.inr (.inr (.inr (.inr (.inr hk)))))
/-- The names and the works are others; the works' row has grown. -/
theorem RLies.renamedTo (h : RLies w p n₀ r d) {nv wv : Value} (a b : ByteArray) (f : Option Nat) (ht : w'.heap[p]? = some (topR (d.renamed a b f) { r with nv := nv, wv := wv })) (hs : ∀ k, k < w.heap.size → k ≠ p → r.wv.ownBlock ≠ some k → w'.heap[k]? = w.heap[k]?)
    (hn : NamesAt w' n₀ nv (doesR d.now (a, b, f))) (hw : w'.ownsRow n₀ 178 3 wv (d.works.length + 1) (d.works.flatMap encWR ++ encWR (a, b, f))) : RLies w' p n₀ { r with nv := nv, wv := wv } (d.renamed a b f) where
  top := ht
  files := row_same h.files (fun g hg => hs g (h.files.lt g hg).2 (fun e => by have h1 := h.sF hg; have h2 := h.sP; rw [e] at h1; omega) (fun e => by have h1 := h.sF hg; have h2 := h.sW e; omega))
  data := fun i hi => row_same (h.data i hi) (fun g hg => hs g ((h.data i hi).lt g hg).2 (fun e => by have h1 := h.sB hi hg; have h2 := h.sP; rw [e] at h1; omega) (fun e => by have h1 := h.sB hi hg; have h2 := h.sW e; omega))
  rowInj := h.rowInj
  now := hn
  kept := row_same h.kept (fun g hg => hs g (World.ownsRow.lt h.kept g hg).2 (fun e => by have h1 := h.sK hg; have h2 := h.sP; rw [e] at h1; omega) (fun e => by have h1 := h.sK hg; have h2 := h.sW e; omega))
  works := by
    show w'.ownsRow n₀ 178 3 wv (d.works ++ [(a, b, f)]).length ((d.works ++ [(a, b, f)]).flatMap encWR)
    rw [List.length_append, List.flatMap_append, List.flatMap_cons, List.flatMap_nil, List.append_nil]
    exact hw
  keep := row_same h.keep (fun g hg => hs g (h.keep.lt g hg).2 (fun e => by have h1 := h.sV hg; have h2 := h.sP; rw [e] at h1; omega) (fun e => by have h1 := h.sV hg; have h2 := h.sW e; omega))
  base := h.base
theorem info178 : (Tryz.prog.info? 178).map (fun i => (i.zero, i.size, i.bytes)) = some (some (.agg #[.string ⟨#[]⟩, .string ⟨#[]⟩, .int .i64 0]), 3, 40) := by kernel_rfl
theorem one3 (x y : ByteArray) (i : Int) : ∀ u ∈ [Value.string x, .string y, .int .i64 i], u.oneCell' = true := by
  intro u hu
  rcases List.mem_cons.1 hu with rfl | hu
  · rfl
  · rcases List.mem_cons.1 hu with rfl | hu
    · rfl
    · rw [List.mem_singleton] at hu; subst hu; rfl
/-- What is known behind 'now' was written, ahead of the works. -/
theorem renamed_end (h : RLies w p n₀ r d) {w1 w2 w3 : World} {q q' : Option Addr} {c c' m : Nat} (a b : ByteArray) (f : Option Nat) (h1 : Below w.heap.size w w1)
    (hnv : NamesAt w1 n₀ (.slice q m c) (doesR d.now (a, b, f))) (hnvo : ∀ g, (Value.slice q m c).ownBlock = some g → r.nv.ownBlock = some g ∨ w.heap.size ≤ g)
    (h2 : Below w1.heap.size (w1.setCell ⟨p, 2, none⟩ (.slice q m c)) w2) (hgrow : w2.grownBy w3 r.wv.ownBlock)
    (hw : w3.ownsRow n₀ 178 3 (.slice q' (d.works.length + 1) c') (d.works.length + 1) (d.works.flatMap encWR ++ encWR (a, b, f)))
    (hwn : ∀ k, (Value.slice q' (d.works.length + 1) c').ownBlock = some k → r.wv.ownBlock = some k ∨ w.heap.size ≤ k) :
    RLies (w3.setCell ⟨p, 4, none⟩ (.slice q' (d.works.length + 1) c')) p n₀ { r with nv := .slice q m c, wv := .slice q' (d.works.length + 1) c' } (d.renamed a b f) ∧
      Grown (ownR p r d) w (w3.setCell ⟨p, 4, none⟩ (.slice q' (d.works.length + 1) c')) ∧
      (∀ k, ownR p { r with nv := .slice q m c, wv := .slice q' (d.works.length + 1) c' } (d.renamed a b f) k → ownR p r d k ∨ w.heap.size ≤ k) ∧ w.heap.size ≤ w3.heap.size := by
  have hpl := (Array.getElem?_eq_some_iff.1 h.top).1
  have hz1 := h1.size
  have hz2 := h2.size
  have hz3 := hgrow.size
  have hss : (w1.setCell ⟨p, 2, none⟩ (.slice q m c)).heap.size = w1.heap.size := by simp
  have hpw : r.wv.ownBlock ≠ some p := fun e => by have h1 := h.sW e; have h2 := h.sP; omega
  have t1 := (h1.block p hpl).trans h.top
  have t2 := setCell_heap (i := 2) (v := .slice q m c) t1
  have t3 := (h2.block p (by omega)).trans t2
  have t4 := (hgrow.block p (by omega) (fun e => hpw e.symm)).trans t3
  have t5 := setCell_heap (i := 4) (v := .slice q' (d.works.length + 1) c') t4
  have hG1 : Grown (ownR p r d) w (w1.setCell ⟨p, 2, none⟩ (.slice q m c)) := (Grown.of_below h1).setCell (p := ⟨p, 2, none⟩) (.inl (.inl rfl)) _
  have hG2 : Grown (ownR p r d) w w2 := hG1.trans (T := ownR p r d) (Grown.of_below (hss ▸ h2)) (fun _ hx => .inl hx)
  have hG3 : Grown (ownR p r d) w w3 := hG2.trans (T := ownR p r d) (Grown.of_grownBy hgrow (fun k hk => .inl (.inr (.inr (.inr (.inr (.inr (.inl hk)))))))) (fun _ hx => .inl hx)
  have hs : ∀ k, k < w.heap.size → k ≠ p → r.wv.ownBlock ≠ some k → (w3.setCell ⟨p, 4, none⟩ (.slice q' (d.works.length + 1) c')).heap[k]? = w.heap[k]? := fun k hk hkp hkw =>
    (Below.heap_setCell _ _ _ _ hkp).trans ((hgrow.block k (by omega) (fun e => hkw e.symm)).trans ((h2.block k (by omega)).trans ((Below.heap_setCell _ _ _ _ hkp).trans (h1.block k hk))))
  have hnwp : ∀ g, (Value.slice q m c).ownBlock = some g → g ≠ p := fun g hg e => by
    rcases hnvo g hg with h3 | h3
    · have s1 := h.sN h3; have s2 := h.sP; rw [e] at s1; omega
    · omega
  have hnw2 : NamesAt w2 n₀ (.slice q m c) (doesR d.now (a, b, f)) := own_kept (row_same hnv (fun g hg => Below.heap_setCell _ _ _ _ (hnwp g hg))) (hss ▸ h2)
  have hwv2 : w2.ownsRow n₀ 178 3 r.wv d.works.length (d.works.flatMap encWR) := row_same h.works (fun g hg => (h2.block g (by have := (h.works.lt g hg).2; omega)).trans ((Below.heap_setCell _ _ _ _ (fun e => hpw (by have e2 : g = p := e; rw [← e2]; exact hg))).trans (h1.block g (h.works.lt g hg).2)))
  have hnw3 : NamesAt w3 n₀ (.slice q m c) (doesR d.now (a, b, f)) := World.ownsRow.kept hnw2 hgrow (rows_ne hnw2 hwv2 (by decide))
  have hwn3 : ∀ g, (Value.slice q' (d.works.length + 1) c').ownBlock = some g → g ≠ p := fun g hg e => by
    rcases hwn g hg with h1 | h1
    · exact hpw (by rw [← e]; exact h1)
    · omega
  refine ⟨h.renamedTo a b f t5 hs ?_ ?_, hG3.setCell (p := ⟨p, 4, none⟩) (.inl (.inl rfl)) _, fun k hk => ?_, by omega⟩
  · exact row_same hnw3 (fun g hg => Below.heap_setCell _ _ _ _ (hnwp g hg))
  · exact row_same hw (fun g hg => Below.heap_setCell _ _ _ _ (hwn3 g hg))
  · rcases hk with hk | hk | hk | hk | hk | hk | hk
    · exact .inl (.inl hk)
    · exact .inl (.inr (.inl hk))
    · exact .inl (.inr (.inr (.inl hk)))
    · exact (hnvo k hk).imp (fun h => .inr (.inr (.inr (.inl h)))) id
    · exact .inl (.inr (.inr (.inr (.inr (.inl hk)))))
    · exact (hwn k hk).imp (fun h => .inr (.inr (.inr (.inr (.inr (.inl h)))))) id
    · exact .inl (.inr (.inr (.inr (.inr (.inr (.inr hk))))))

set_option maxRecDepth 100000 in
set_option maxHeartbeats 16000000 in
theorem removeR_any (x : ByteArray) (w : World) (h : RLies w p n₀ r d) (hw : RWF d) (hn : n₀ ≤ w.heap.size) :
    Calls Tryz.prog 107 #[ofBlock p, .string x] w fun e w' => e = .returned (.int .i64 (d.remove x).2) ∧ RTurns w w' p n₀ r d (d.remove x).1 := by
  have hcs := h.cells
  by_cases hd : d.dead = true
  · have he : d.remove x = (d, 51) := by unfold RD.remove RD.work ofResR; rw [if_pos hd]
    rw [he]
    rw [hd] at hcs
    obtain ⟨c0, c1, c2, c3, c4, c5, c6, c7⟩ := hcs
    unfold ofBlock
    replace h : Hid _ := h
    clear he hw hd
    go_enter Tryz.func107, Tryz.ntmps107
    go_wp2_with fail
    go_returns
    exact ⟨rfl, .none h.out (Below.refl _ _)⟩
  have hd' : d.dead = false := by simpa using hd
  have hfi := find_any r.nv d.now x n₀ w h.now (by have := hw.now; omega)
  rw [hd'] at hcs
  obtain ⟨c0, c1, c2, c3, c4, c5, c6, c7⟩ := hcs
  cases hf : fileR d x with
  | none =>
    have he : d.remove x = (d, 50) := by unfold RD.remove RD.work ofResR; rw [if_neg hd, hf]
    rw [he]
    rw [idxOf_none hf] at hfi
    unfold ofBlock
    replace h : Hid _ := h
    clear he hw hd hd' hf
    go_enter Tryz.func107, Tryz.ntmps107
    go_wp2_with (go_at_call 140; refine hfi.mono ?_; clear hfi; rintro e w2 ⟨rfl, hw2⟩; obtain rfl := hw2.symm)
    go_returns
    exact ⟨rfl, .none h.out (Below.refl _ _)⟩
  | some i =>
    rw [idxOf_some hf] at hfi
    have hi := hw.look hf

    by_cases h0 : d.fails = 0
    · have he : d.remove x = (d.crash d.keep, 51) := by unfold RD.remove RD.work ofResR; rw [if_neg hd, hf]; simp only [if_true]; rw [if_pos h0]
      rw [he]
      have hdi := diesR_0 w h hw hn h0
      unfold ofBlock at *
      clear he hw hd hd' hf h
      go_enter Tryz.func107, Tryz.ntmps107
      go_wp2_with (first
        | (go_at_call 140; refine hfi.mono ?_; clear hfi; rintro e w2 ⟨rfl, hw2⟩; obtain rfl := hw2.symm)
        | (go_at_call 139; refine hdi.mono ?_; clear hdi; rintro e w3 ⟨rfl, h3⟩; replace h3 : Hid _ := h3))
      go_returns
      exact ⟨rfl, h3.out⟩
    · have he : d.remove x = (d.tick.renamed x ⟨#[]⟩ none, 0) := by unfold RD.remove RD.work ofResR; rw [if_neg hd, hf]; simp only [if_true]; rw [if_neg h0]
      rw [he]
      have hdi := diesR_1 w h h0 hw.fails
      unfold ofBlock at *
      replace h : Hid _ := h
      clear he hd hd' hf h0
      go_enter Tryz.func107, Tryz.ntmps107
      go_wp2_with (first
        | (go_at_call 140; refine hfi.mono ?_; clear hfi; rintro e w2 ⟨rfl, hw2⟩; obtain rfl := hw2.symm)
        | (go_at_call 139; refine hdi.mono ?_; clear hdi; rintro e w3 ⟨rfl, h3, hG3, hz3⟩
           obtain ⟨nq, nc, hne⟩ := own_shape h3.now
           obtain ⟨wq, wc, hwe⟩ := own_shape h3.works
           obtain ⟨d0, d1, d2, d3, d4, d5, d6, d7⟩ := h3.cells
           have hpl := (Array.getElem?_eq_some_iff.1 h3.top).1
           rw [hne] at d2
           rw [hwe] at d4
           have hwl := hw.works
           have hnl := hw.now
           have hz := cells3 (heap_new w3 (.cells #[.string x, .string ⟨#[]⟩, .int .i64 (-1)] 178))
           have hal := (Below.refl w3.heap.size w3).alloc (Nat.le_refl _) (.cells #[.string x, .string ⟨#[]⟩, .int .i64 (-1)] 178)
           have hzl : w3.heap.size < (w3.alloc (.cells #[.string x, .string ⟨#[]⟩, .int .i64 (-1)] 178)).heap.size := by simp
           have hnow := h3.now
           rw [hne] at hnow
           have hn3 : n₀ ≤ w3.heap.size := by omega
           have hdo := fun W (hW : Below (w3.alloc (.cells #[.string x, .string ⟨#[]⟩, .int .i64 (-1)] 178)).heap.size (w3.alloc (.cells #[.string x, .string ⟨#[]⟩, .int .i64 (-1)] 178)) W) => doesR_any (.slice nq d.tick.now.length nc) d.tick.now x ⟨#[]⟩ none n₀ W ((hnow.below hal).below hW) (by have := hW.size; simp at this; omega) (by show d.now.length ≤ _; omega)
           replace h3 : Hid _ := h3
           replace hne : Hid _ := hne
           replace hwe : Hid _ := hwe
           replace hG3 : Hid _ := hG3
           replace hal : Hid _ := hal
           replace hz3 : Hid (w3.heap.size = w.heap.size) := hz3
           clear c0 c1 c2 c3 c4 c5 c6 c7 d0 d1 d3 d5 d6 d7 hnow))
      replace hw : Hid _ := hw
      refine poised_then 9 (fun wz => Below (w3.alloc (.cells #[.string x, .string ⟨#[]⟩, .int .i64 (-1)] 178)).heap.size (w3.alloc (.cells #[.string x, .string ⟨#[]⟩, .int .i64 (-1)] 178)) wz) (fun wy wz => Below wy.heap.size wy wz) (by kernel_rfl) (by kernel_rfl) (by kernel_rfl) (fun _ _ h k => h.trans (k.mono h.size)) ((Below.refl _ _).drew) ?_
      apply Exists.intro
      simp only [List.take_succ_cons, List.take_zero]
      iterate 4
        apply walk_det
        · rfl
        · intro w2 hC hF
          simp only [upon]
          go_simp
          exact ⟨Below.refl _ _, rfl⟩
        simp only [put_lit, List.set_cons_succ, List.set_cons_zero]
      iterate 2
        apply walk_det
        · rfl
        · intro w2 hC hF
          have y2 := ((hal.out.trans (hC.mono (by simp))).cell (p := ⟨p, 2, none⟩) hpl).trans d2
          have y0 := (hC.cell (p := ⟨w3.heap.size, 0, none⟩) hzl).trans hz.1
          have y1 := (hC.cell (p := ⟨w3.heap.size, 1, none⟩) hzl).trans hz.2.1
          have y3 := (hC.cell (p := ⟨w3.heap.size, 2, none⟩) hzl).trans hz.2.2
          simp only [upon]
          go_simp
          exact ⟨Below.refl _ _, rfl⟩
        simp only [put_lit, List.set_cons_succ, List.set_cons_zero]
      apply walk_free (fun v w' => NamesAt w' n₀ v (doesR d.tick.now (x, ⟨#[]⟩, none)) ∧ ∀ g, v.ownBlock = some g → (Value.slice nq d.tick.now.length nc).ownBlock = some g ∨ w3.heap.size ≤ g) (fun _ _ _ _ hR h => ⟨own_kept h.1 hR, h.2⟩)
      · rfl
      · intro w2 hC hF
        simp only [upon]
        go_simp
        exact (hdo w2 hC).mono (fun e w' hh => by obtain ⟨v', he, hr', hb', ho'⟩ := hh; exact ⟨v', he, hb', hr', fun g hg => (ho' g hg).imp id (fun h => Nat.le_trans (Nat.le_trans (Nat.le_of_lt hzl) hC.size) h)⟩)
      intro v6
      simp only [put_lit, List.set_cons_succ, List.set_cons_zero]
      iterate 2
        apply walk_det
        · rfl
        · intro w2 hC hF
          simp only [upon]
          go_simp
          exact ⟨Below.refl _ _, rfl⟩
        simp only [put_lit, List.set_cons_succ, List.set_cons_zero]
      apply walk_nil
      intro w7 hC7 hF7
      simp only [List.drop_succ_cons, List.drop_zero]
      obtain ⟨hnv, hnvo⟩ : NamesAt w7 n₀ v6 (doesR d.tick.now (x, ⟨#[]⟩, none)) ∧ ∀ g, v6.ownBlock = some g → (Value.slice nq d.tick.now.length nc).ownBlock = some g ∨ w3.heap.size ≤ g := hF7 6
      obtain ⟨q7, c7, hq7⟩ := own_shape hnv
      subst hq7
      have hB7 : Below w3.heap.size w3 w7 := hal.out.trans (hC7.mono (by simp))
      have t7 := (hB7.block p hpl).trans h3.out.top
      have f7 := free_of t7 2
      have y7 := (hB7.cell (p := ⟨p, 2, none⟩) hpl).trans d2
      have u7 := setCell_heap (i := 2) (v := .slice q7 (doesR d.tick.now (x, ⟨#[]⟩, none)).length c7) t7
      replace hnv : Hid _ := hnv
      replace hnvo : Hid _ := hnvo
      replace u7 : Hid _ := u7
      clear hF7 t7
      go_wp2_with fail
      obtain ⟨wA, hwA⟩ : ∃ wA, w7.setCell ⟨p, 2, none⟩ (.slice q7 (doesR d.tick.now (x, ⟨#[]⟩, none)).length c7) = wA := ⟨_, rfl⟩
      rw [hwA] at u7 ⊢
      have hpA : ∀ k, k ≠ p → wA.heap[k]? = w7.heap[k]? := fun k hk => by rw [← hwA]; exact Below.heap_setCell _ _ _ _ hk
      have hzA : wA.heap.size = w7.heap.size := by rw [← hwA]; simp
      have hz7 := hC7.size
      obtain ⟨dd0, dd1, dd2, dd3, dd4, dd5, dd6, dd7⟩ := cells8 (show wA.heap[p]? = some (.cells #[_, _, _, _, _, _, _, _] 154) from u7.out)
      rw [hwe.out] at dd4
      have zA := cells3 ((hpA w3.heap.size (by omega)).trans ((hC7.block w3.heap.size hzl).trans (heap_new w3 (.cells #[.string x, .string ⟨#[]⟩, .int .i64 (-1)] 178))))
      obtain ⟨zA0, zA1, zA2⟩ := zA
      have hwsort : ∀ g, r.wv.ownBlock = some g → g ≠ p := fun g hg e2 => by have s1 := h3.out.sW hg; have s2 := h3.out.sP; rw [e2] at s1; omega
      have hwr : wA.ownsRow n₀ 178 3 r.wv d.tick.works.length (d.tick.works.flatMap encWR) := row_same h3.out.works (fun g hg => (hpA g (hwsort g hg)).trans (hB7.block g (h3.out.works.lt g hg).2))
      rw [hwe.out] at hwr
      obtain ⟨i0, hi0, hz0', hz1', hz2'⟩ := info_parts info178
      have h4 : (wA.alloc (.cells #[.string x, .string ⟨#[]⟩, .int .i64 (-1)] 178)).drew.ownsRow n₀ 178 3 (.slice wq d.tick.works.length wc) d.tick.works.length (d.tick.works.flatMap encWR) := (hwr.alloc _).drew
      have h4b : (wA.alloc (.cells #[.string x, .string ⟨#[]⟩, .int .i64 (-1)] 178)).ownsRow n₀ 178 3 (.slice wq d.tick.works.length wc) d.tick.works.length (d.tick.works.flatMap encWR) := hwr.alloc _
      have hpl7 : p < wA.heap.size := (Array.getElem?_eq_some_iff.1 u7.out).1
      have hne4 : some p ≠ (Value.slice wq d.tick.works.length wc).ownBlock := fun e2 => hwsort p (by rw [hwe.out]; exact e2.symm) rfl
      have fA := free_of u7.out 4
      have yA : ∀ W, (wA.alloc (.cells #[.string x, .string ⟨#[]⟩, .int .i64 (-1)] 178)).drew.grownBy W (Value.slice wq d.tick.works.length wc).ownBlock → W.cell? ⟨p, 4, none⟩ = some (.slice wq d.tick.works.length wc) ∧ W.frozen? ⟨p, 4, none⟩ = false := fun W hW => by
        have e3 := (hW.block p (by show p < (wA.alloc (.cells #[.string x, .string ⟨#[]⟩, .int .i64 (-1)] 178)).heap.size; simp; omega) hne4).trans ((Below.heap_alloc _ _ _ hpl7).trans u7.out)
        exact ⟨by rw [← hwe.out]; exact (cells8 (show W.heap[p]? = some (.cells #[_, _, _, _, _, _, _, _] 154) from e3)).2.2.2.2.1, free_of e3 4⟩
      have hwl' : d.tick.works.length ≤ 1073741824 := hwl
      have hnA : n₀ ≤ wA.heap.size := by omega
      replace hwA : Hid _ := hwA
      replace hzA : Hid (wA.heap.size = w7.heap.size) := hzA
      replace yA : Hid _ := yA
      replace hwr : Hid _ := hwr
      replace h4 : Hid ((wA.alloc (.cells #[.string x, .string ⟨#[]⟩, .int .i64 (-1)] 178)).drew.ownsRow n₀ 178 3 (.slice wq d.tick.works.length wc) d.tick.works.length (d.tick.works.flatMap encWR)) := h4
      replace h4b : Hid ((wA.alloc (.cells #[.string x, .string ⟨#[]⟩, .int .i64 (-1)] 178)).ownsRow n₀ 178 3 (.slice wq d.tick.works.length wc) d.tick.works.length (d.tick.works.flatMap encWR)) := h4b
      replace hwsort : Hid _ := hwsort
      replace hpA : Hid _ := hpA
      clear dd0 dd1 dd2 dd3 dd5 dd6 dd7 hdo d2 d4 hz y7 f7
      go_region_law (refine step_append_own rfl (.tmp 34) (.tmp 36) 152 rfl n₀ 178 i0 (.agg #[.string ⟨#[]⟩, .string ⟨#[]⟩, .int .i64 0]) 3 40 Tryz.underlying152 hi0 hz0' hz1' hz2' rfl (by decide) (.slice wq d.tick.works.length wc) d.tick.works.length _ (by simp [Act.eval]) h4.out ⟨wA.heap.size, 0, none⟩ 1 1 [.string x, .string ⟨#[]⟩, .int .i64 (-1)] (by simp [Act.eval]) rfl (cells_new3 wA _ _ _ 178) (one3 _ _ _) (by unfold maxLen; omega) (by omega) (by simp; omega) ?_; intro v' w9 ho hg9 hwhere; obtain ⟨g9, cap9, rfl⟩ := ownsRow_succ' ho; have k1 := (yA.out w9 hg9).1; have k2 := (yA.out w9 hg9).2)
      all_goals
        go_wp2
        go_returns
        have hE := renamed_end h3.out (x) (⟨#[]⟩) (none) hB7 hnv.out (fun g hg => by rw [hne.out]; exact hnvo.out g hg)
          (show Below w7.heap.size (w7.setCell ⟨p, 2, none⟩ (.slice q7 (doesR d.tick.now (x, ⟨#[]⟩, none)).length c7)) (wA.alloc (.cells #[.string x, .string ⟨#[]⟩, .int .i64 (-1)] 178)).drew by
            rw [hwA.out]
            exact ((Below.refl w7.heap.size wA).alloc (Nat.le_of_eq hzA.out.symm) _).trans ⟨rfl, rfl, rfl, Nat.le_refl _, fun _ _ => rfl⟩)
          (by rw [hwe.out]; exact hg9) ho
          (fun k hk => by
            rw [hwe.out]
            rcases hwhere k hk with h9 | h9
            · exact .inl h9
            · right
              have h9 : (wA.alloc (.cells #[.string x, .string ⟨#[]⟩, .int .i64 (-1)] 178)).heap.size ≤ k := h9
              have a1 := hB7.size; have a2 := hzA.out
              simp at h9; omega)
        exact ⟨rfl, .of hE.1 ((hG3.out.mono (fun k hk => .inl hk)).trans hE.2.1 (fun k hk => .inl hk)) (fun k hk => (hE.2.2.1 k hk).imp id (fun h => by have := hz3.out; omega))⟩

set_option maxRecDepth 100000 in
set_option maxHeartbeats 16000000 in
theorem renameR_any (x y : ByteArray) (hy : y.size ≤ 9223372036854775807) (w : World) (h : RLies w p n₀ r d) (hw : RWF d) (hn : n₀ ≤ w.heap.size) :
    Calls Tryz.prog 106 #[ofBlock p, .string x, .string y] w fun e w' => e = .returned (.int .i64 (d.rename x y).2) ∧ RTurns w w' p n₀ r d (d.rename x y).1 := by
  have hcs := h.cells
  by_cases hd : d.dead = true
  · have he : d.rename x y = (d, 51) := by unfold RD.rename RD.work ofResR; rw [if_pos hd]
    rw [he]
    rw [hd] at hcs
    obtain ⟨c0, c1, c2, c3, c4, c5, c6, c7⟩ := hcs
    unfold ofBlock
    replace h : Hid _ := h
    clear he hw hd
    go_enter Tryz.func106, Tryz.ntmps106
    go_wp2_with fail
    go_returns
    exact ⟨rfl, .none h.out (Below.refl _ _)⟩
  have hd' : d.dead = false := by simpa using hd
  have hfi := find_any r.nv d.now x n₀ w h.now (by have := hw.now; omega)
  rw [hd'] at hcs
  obtain ⟨c0, c1, c2, c3, c4, c5, c6, c7⟩ := hcs
  cases hf : fileR d x with
  | none =>
    have he : d.rename x y = (d, 50) := by unfold RD.rename RD.work ofResR; rw [if_neg hd, hf]
    rw [he]
    rw [idxOf_none hf] at hfi
    unfold ofBlock
    replace h : Hid _ := h
    clear he hw hd hd' hf
    go_enter Tryz.func106, Tryz.ntmps106
    go_wp2_with (go_at_call 140; refine hfi.mono ?_; clear hfi; rintro e w2 ⟨rfl, hw2⟩; obtain rfl := hw2.symm)
    go_returns
    exact ⟨rfl, .none h.out (Below.refl _ _)⟩
  | some i =>
    rw [idxOf_some hf] at hfi
    have hi := hw.look hf

    have hnm := isNameR_any y hy
    have hok : okName y = (decide (1 ≤ y.size) && decide (y.size ≤ 40)) := rfl
    rw [← hok] at hnm
    by_cases ho : okName y = true
    case neg =>
      have ho' : okName y = false := by simpa using ho
      have he : d.rename x y = (d, 50) := by unfold RD.rename RD.work ofResR; rw [if_neg hd, hf]; simp only; rw [if_neg ho]
      rw [he]
      rw [ho'] at hnm
      unfold ofBlock at *
      replace h : Hid _ := h
      clear he hw hd hd' hf hok ho ho'
      go_enter Tryz.func106, Tryz.ntmps106
      go_wp2_with (first
        | (go_at_call 140; refine hfi.mono ?_; clear hfi; rintro e w2 ⟨rfl, hw2⟩; obtain rfl := hw2.symm)
        | (go_at_call 137; refine (hnm _).mono ?_; rintro e w3 ⟨rfl, hw3⟩; obtain rfl := hw3.symm))
      go_returns
      exact ⟨rfl, .none h.out (Below.refl _ _)⟩
    rw [ho] at hnm
    by_cases h0 : d.fails = 0
    · have he : d.rename x y = (d.crash d.keep, 51) := by unfold RD.rename RD.work ofResR; rw [if_neg hd, hf]; simp only; rw [if_pos ho]; simp only; rw [if_pos h0]
      rw [he]
      have hdi := diesR_0 w h hw hn h0
      unfold ofBlock at *
      clear he hw hd hd' hf h hok ho
      go_enter Tryz.func106, Tryz.ntmps106
      go_wp2_with (first
        | (go_at_call 140; refine hfi.mono ?_; clear hfi; rintro e w2 ⟨rfl, hw2⟩; obtain rfl := hw2.symm)
        | (go_at_call 137; refine (hnm _).mono ?_; rintro e w3 ⟨rfl, hw3⟩; obtain rfl := hw3.symm)
        | (go_at_call 139; refine hdi.mono ?_; clear hdi; rintro e w3 ⟨rfl, h3⟩; replace h3 : Hid _ := h3))
      go_returns
      exact ⟨rfl, h3.out⟩
    have hdi := diesR_1 w h h0 hw.fails
    by_cases hxy : x = y
    · have he : d.rename x y = (d.tick, 0) := by unfold RD.rename RD.work ofResR; rw [if_neg hd, hf]; simp only; rw [if_pos ho]; simp only; rw [if_neg h0, if_pos hxy]
      rw [he]
      have hb : (x.toList == y.toList) = true := by rw [text_eqD, decide_eq_true hxy]
      unfold ofBlock at *
      replace h : Hid _ := h
      clear he hw hd hd' hf hok ho h0 hxy
      go_enter Tryz.func106, Tryz.ntmps106
      go_wp2_with (first
        | (go_at_call 140; refine hfi.mono ?_; clear hfi; rintro e w2 ⟨rfl, hw2⟩; obtain rfl := hw2.symm)
        | (go_at_call 137; refine (hnm _).mono ?_; rintro e w3 ⟨rfl, hw3⟩; obtain rfl := hw3.symm)
        | (go_at_call 139; refine hdi.mono ?_; clear hdi; rintro e w3 ⟨rfl, h3, hG3, hz3⟩; replace h3 : Hid _ := h3; replace hG3 : Hid _ := hG3))
      go_returns
      exact ⟨rfl, r, h3.out, hG3.out.mono (fun k hk => .inl hk), fun k hk => .inl hk⟩
    · have he : d.rename x y = (d.tick.renamed x y (some i), 0) := by unfold RD.rename RD.work ofResR; rw [if_neg hd, hf]; simp only; rw [if_pos ho]; simp only; rw [if_neg h0, if_neg hxy]
      rw [he]
      have hb : (x.toList == y.toList) = false := by rw [text_eqD, decide_eq_false hxy]
      unfold ofBlock at *
      replace h : Hid _ := h
      clear he hd hd' hf hok ho h0 hxy
      go_enter Tryz.func106, Tryz.ntmps106
      go_wp2_with (first
        | (go_at_call 140; refine hfi.mono ?_; clear hfi; rintro e w2 ⟨rfl, hw2⟩; obtain rfl := hw2.symm)
        | (go_at_call 137; refine (hnm _).mono ?_; rintro e w3 ⟨rfl, hw3⟩; obtain rfl := hw3.symm)
        | (go_at_call 139; refine hdi.mono ?_; clear hdi; rintro e w3 ⟨rfl, h3, hG3, hz3⟩
           obtain ⟨nq, nc, hne⟩ := own_shape h3.now
           obtain ⟨wq, wc, hwe⟩ := own_shape h3.works
           obtain ⟨d0, d1, d2, d3, d4, d5, d6, d7⟩ := h3.cells
           have hpl := (Array.getElem?_eq_some_iff.1 h3.top).1
           rw [hne] at d2
           rw [hwe] at d4
           have hwl := hw.works
           have hnl := hw.now
           have hz := cells3 (heap_new w3 (.cells #[.string x, .string y, .int .i64 (i : Nat)] 178))
           have hal := (Below.refl w3.heap.size w3).alloc (Nat.le_refl _) (.cells #[.string x, .string y, .int .i64 (i : Nat)] 178)
           have hzl : w3.heap.size < (w3.alloc (.cells #[.string x, .string y, .int .i64 (i : Nat)] 178)).heap.size := by simp
           have hnow := h3.now
           rw [hne] at hnow
           have hn3 : n₀ ≤ w3.heap.size := by omega
           have hdo := fun W (hW : Below (w3.alloc (.cells #[.string x, .string y, .int .i64 (i : Nat)] 178)).heap.size (w3.alloc (.cells #[.string x, .string y, .int .i64 (i : Nat)] 178)) W) => doesR_any (.slice nq d.tick.now.length nc) d.tick.now x y (some i) n₀ W ((hnow.below hal).below hW) (by have := hW.size; simp at this; omega) (by show d.now.length ≤ _; omega)
           replace h3 : Hid _ := h3
           replace hne : Hid _ := hne
           replace hwe : Hid _ := hwe
           replace hG3 : Hid _ := hG3
           replace hal : Hid _ := hal
           replace hz3 : Hid (w3.heap.size = w.heap.size) := hz3
           clear c0 c1 c2 c3 c4 c5 c6 c7 d0 d1 d3 d5 d6 d7 hnow))
      replace hw : Hid _ := hw
      refine poised_then 9 (fun wz => Below (w3.alloc (.cells #[.string x, .string y, .int .i64 (i : Nat)] 178)).heap.size (w3.alloc (.cells #[.string x, .string y, .int .i64 (i : Nat)] 178)) wz) (fun wy wz => Below wy.heap.size wy wz) (by kernel_rfl) (by kernel_rfl) (by kernel_rfl) (fun _ _ h k => h.trans (k.mono h.size)) ((Below.refl _ _).drew) ?_
      apply Exists.intro
      simp only [List.take_succ_cons, List.take_zero]
      iterate 4
        apply walk_det
        · rfl
        · intro w2 hC hF
          simp only [upon]
          go_simp
          exact ⟨Below.refl _ _, rfl⟩
        simp only [put_lit, List.set_cons_succ, List.set_cons_zero]
      iterate 2
        apply walk_det
        · rfl
        · intro w2 hC hF
          have y2 := ((hal.out.trans (hC.mono (by simp))).cell (p := ⟨p, 2, none⟩) hpl).trans d2
          have y0 := (hC.cell (p := ⟨w3.heap.size, 0, none⟩) hzl).trans hz.1
          have y1 := (hC.cell (p := ⟨w3.heap.size, 1, none⟩) hzl).trans hz.2.1
          have y3 := (hC.cell (p := ⟨w3.heap.size, 2, none⟩) hzl).trans hz.2.2
          simp only [upon]
          go_simp
          exact ⟨Below.refl _ _, rfl⟩
        simp only [put_lit, List.set_cons_succ, List.set_cons_zero]
      apply walk_free (fun v w' => NamesAt w' n₀ v (doesR d.tick.now (x, y, (some i))) ∧ ∀ g, v.ownBlock = some g → (Value.slice nq d.tick.now.length nc).ownBlock = some g ∨ w3.heap.size ≤ g) (fun _ _ _ _ hR h => ⟨own_kept h.1 hR, h.2⟩)
      · rfl
      · intro w2 hC hF
        simp only [upon]
        go_simp
        exact (hdo w2 hC).mono (fun e w' hh => by obtain ⟨v', he, hr', hb', ho'⟩ := hh; exact ⟨v', he, hb', hr', fun g hg => (ho' g hg).imp id (fun h => Nat.le_trans (Nat.le_trans (Nat.le_of_lt hzl) hC.size) h)⟩)
      intro v6
      simp only [put_lit, List.set_cons_succ, List.set_cons_zero]
      iterate 2
        apply walk_det
        · rfl
        · intro w2 hC hF
          simp only [upon]
          go_simp
          exact ⟨Below.refl _ _, rfl⟩
        simp only [put_lit, List.set_cons_succ, List.set_cons_zero]
      apply walk_nil
      intro w7 hC7 hF7
      simp only [List.drop_succ_cons, List.drop_zero]
      obtain ⟨hnv, hnvo⟩ : NamesAt w7 n₀ v6 (doesR d.tick.now (x, y, (some i))) ∧ ∀ g, v6.ownBlock = some g → (Value.slice nq d.tick.now.length nc).ownBlock = some g ∨ w3.heap.size ≤ g := hF7 6
      obtain ⟨q7, c7, hq7⟩ := own_shape hnv
      subst hq7
      have hB7 : Below w3.heap.size w3 w7 := hal.out.trans (hC7.mono (by simp))
      have t7 := (hB7.block p hpl).trans h3.out.top
      have f7 := free_of t7 2
      have y7 := (hB7.cell (p := ⟨p, 2, none⟩) hpl).trans d2
      have u7 := setCell_heap (i := 2) (v := .slice q7 (doesR d.tick.now (x, y, (some i))).length c7) t7
      replace hnv : Hid _ := hnv
      replace hnvo : Hid _ := hnvo
      replace u7 : Hid _ := u7
      clear hF7 t7
      go_wp2_with fail
      obtain ⟨wA, hwA⟩ : ∃ wA, w7.setCell ⟨p, 2, none⟩ (.slice q7 (doesR d.tick.now (x, y, (some i))).length c7) = wA := ⟨_, rfl⟩
      rw [hwA] at u7 ⊢
      have hpA : ∀ k, k ≠ p → wA.heap[k]? = w7.heap[k]? := fun k hk => by rw [← hwA]; exact Below.heap_setCell _ _ _ _ hk
      have hzA : wA.heap.size = w7.heap.size := by rw [← hwA]; simp
      have hz7 := hC7.size
      obtain ⟨dd0, dd1, dd2, dd3, dd4, dd5, dd6, dd7⟩ := cells8 (show wA.heap[p]? = some (.cells #[_, _, _, _, _, _, _, _] 154) from u7.out)
      rw [hwe.out] at dd4
      have zA := cells3 ((hpA w3.heap.size (by omega)).trans ((hC7.block w3.heap.size hzl).trans (heap_new w3 (.cells #[.string x, .string y, .int .i64 (i : Nat)] 178))))
      obtain ⟨zA0, zA1, zA2⟩ := zA
      have hwsort : ∀ g, r.wv.ownBlock = some g → g ≠ p := fun g hg e2 => by have s1 := h3.out.sW hg; have s2 := h3.out.sP; rw [e2] at s1; omega
      have hwr : wA.ownsRow n₀ 178 3 r.wv d.tick.works.length (d.tick.works.flatMap encWR) := row_same h3.out.works (fun g hg => (hpA g (hwsort g hg)).trans (hB7.block g (h3.out.works.lt g hg).2))
      rw [hwe.out] at hwr
      obtain ⟨i0, hi0, hz0', hz1', hz2'⟩ := info_parts info178
      have h4 : (wA.alloc (.cells #[.string x, .string y, .int .i64 (i : Nat)] 178)).drew.ownsRow n₀ 178 3 (.slice wq d.tick.works.length wc) d.tick.works.length (d.tick.works.flatMap encWR) := (hwr.alloc _).drew
      have h4b : (wA.alloc (.cells #[.string x, .string y, .int .i64 (i : Nat)] 178)).ownsRow n₀ 178 3 (.slice wq d.tick.works.length wc) d.tick.works.length (d.tick.works.flatMap encWR) := hwr.alloc _
      have hpl7 : p < wA.heap.size := (Array.getElem?_eq_some_iff.1 u7.out).1
      have hne4 : some p ≠ (Value.slice wq d.tick.works.length wc).ownBlock := fun e2 => hwsort p (by rw [hwe.out]; exact e2.symm) rfl
      have fA := free_of u7.out 4
      have yA : ∀ W, (wA.alloc (.cells #[.string x, .string y, .int .i64 (i : Nat)] 178)).drew.grownBy W (Value.slice wq d.tick.works.length wc).ownBlock → W.cell? ⟨p, 4, none⟩ = some (.slice wq d.tick.works.length wc) ∧ W.frozen? ⟨p, 4, none⟩ = false := fun W hW => by
        have e3 := (hW.block p (by show p < (wA.alloc (.cells #[.string x, .string y, .int .i64 (i : Nat)] 178)).heap.size; simp; omega) hne4).trans ((Below.heap_alloc _ _ _ hpl7).trans u7.out)
        exact ⟨by rw [← hwe.out]; exact (cells8 (show W.heap[p]? = some (.cells #[_, _, _, _, _, _, _, _] 154) from e3)).2.2.2.2.1, free_of e3 4⟩
      have hwl' : d.tick.works.length ≤ 1073741824 := hwl
      have hnA : n₀ ≤ wA.heap.size := by omega
      replace hwA : Hid _ := hwA
      replace hzA : Hid (wA.heap.size = w7.heap.size) := hzA
      replace yA : Hid _ := yA
      replace hwr : Hid _ := hwr
      replace h4 : Hid ((wA.alloc (.cells #[.string x, .string y, .int .i64 (i : Nat)] 178)).drew.ownsRow n₀ 178 3 (.slice wq d.tick.works.length wc) d.tick.works.length (d.tick.works.flatMap encWR)) := h4
      replace h4b : Hid ((wA.alloc (.cells #[.string x, .string y, .int .i64 (i : Nat)] 178)).ownsRow n₀ 178 3 (.slice wq d.tick.works.length wc) d.tick.works.length (d.tick.works.flatMap encWR)) := h4b
      replace hwsort : Hid _ := hwsort
      replace hpA : Hid _ := hpA
      clear dd0 dd1 dd2 dd3 dd5 dd6 dd7 hdo d2 d4 hz y7 f7
      go_region_law (refine step_append_own rfl (.tmp 48) (.tmp 50) 152 rfl n₀ 178 i0 (.agg #[.string ⟨#[]⟩, .string ⟨#[]⟩, .int .i64 0]) 3 40 Tryz.underlying152 hi0 hz0' hz1' hz2' rfl (by decide) (.slice wq d.tick.works.length wc) d.tick.works.length _ (by simp [Act.eval]) h4.out ⟨wA.heap.size, 0, none⟩ 1 1 [.string x, .string y, .int .i64 (i : Nat)] (by simp [Act.eval]) rfl (cells_new3 wA _ _ _ 178) (one3 _ _ _) (by unfold maxLen; omega) (by omega) (by simp; omega) ?_; intro v' w9 ho hg9 hwhere; obtain ⟨g9, cap9, rfl⟩ := ownsRow_succ' ho; have k1 := (yA.out w9 hg9).1; have k2 := (yA.out w9 hg9).2)
      all_goals
        go_wp2
        go_returns
        have hE := renamed_end h3.out (x) (y) ((some i)) hB7 hnv.out (fun g hg => by rw [hne.out]; exact hnvo.out g hg)
          (show Below w7.heap.size (w7.setCell ⟨p, 2, none⟩ (.slice q7 (doesR d.tick.now (x, y, (some i))).length c7)) (wA.alloc (.cells #[.string x, .string y, .int .i64 (i : Nat)] 178)).drew by
            rw [hwA.out]
            exact ((Below.refl w7.heap.size wA).alloc (Nat.le_of_eq hzA.out.symm) _).trans ⟨rfl, rfl, rfl, Nat.le_refl _, fun _ _ => rfl⟩)
          (by rw [hwe.out]; exact hg9) ho
          (fun k hk => by
            rw [hwe.out]
            rcases hwhere k hk with h9 | h9
            · exact .inl h9
            · right
              have h9 : (wA.alloc (.cells #[.string x, .string y, .int .i64 (i : Nat)] 178)).heap.size ≤ k := h9
              have a1 := hB7.size; have a2 := hzA.out
              simp at h9; omega)
        exact ⟨rfl, .of hE.1 ((hG3.out.mono (fun k hk => .inl hk)).trans hE.2.1 (fun k hk => .inl hk)) (fun k hk => (hE.2.2.1 k hk).imp id (fun h => by have := hz3.out; omega))⟩
end Go.Proofs.YtmcmagplaflegaaGreat
