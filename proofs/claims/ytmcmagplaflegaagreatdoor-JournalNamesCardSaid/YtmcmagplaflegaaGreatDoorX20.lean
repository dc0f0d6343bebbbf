/-
 THE DOCUMENT'S DISK: works on names, walked. Conditions: those of each theorem.
 THE DOCUMENT'S DISK: a new one; append: walked. Conditions: those of each theorem.
 THE DOCUMENT'S DISK, AND WHAT LIES BESIDE IT. Conditions: those of each theorem.
 TWO DISKS SIDE BY SIDE: the program's and the document's. Conditions: those of each theorem.
 THE DOCUMENT'S JOURNAL, in plain Lean, and that it is alike to the program's, call by call. Conditions: those of each theorem.
-/
import Derived.Test.YtmcmagplaflegaaGreatDoorX19
import Derived.Test.YtmcmagplaflegaaGreatDoorX18
import Derived.Test.YtmcmagplaflegaaGreatDoorX13

namespace Go.Proofs.YtmcmagplaflegaaGreatDoor
open Go Go.RowKit Go.MapL Go.Poised
variable {w w' : World} {p n₀ : Nat} {r : RRep} {d : RD}

set_option maxRecDepth 100000 in
set_option maxHeartbeats 8000000 in
theorem syncNamesR_any (w : World) (h : RLies w p n₀ r d) (hw : RWF d) (hn : n₀ ≤ w.heap.size) :
  Calls Tryz.prog 113 #[ofBlock p] w fun e w' => e = .returned (.int .i64 (d.syncNames).2) ∧ RTurns w w' p n₀ r d (d.syncNames).1 := by
 have hcs := h.cells
 by_cases hd : d.dead = true
 ·have he : d.syncNames = (d, 51) := by unfold RD.syncNames; rw [if_pos hd]
  rw [he]
  rw [hd] at hcs
  obtain ⟨c0, c1, c2, c3, c4, c5, c6, c7⟩ := hcs
  unfold ofBlock
  replace h : Hid _ := h
  clear he hw hd
  go_enter Tryz.func113, Tryz.ntmps113
  go_wp2_with fail
  go_returns
  exact ⟨rfl, .none h.out (Below.refl _ _)⟩
 have hd' : d.dead = false := by simpa using hd
 rw [hd'] at hcs
 obtain ⟨c0, c1, c2, c3, c4, c5, c6, c7⟩ := hcs
 by_cases h0 : d.fails = 0
 ·have he : d.syncNames = (d.crash d.keep, 51) := by unfold RD.syncNames; rw [if_neg hd, if_pos h0]
  rw [he]
  have hdi := diesR_0 w h hw hn h0
  unfold ofBlock at *
  clear he hw hd hd' h
  go_enter Tryz.func113, Tryz.ntmps113
  go_wp2_with (go_at_call 119; refine hdi.mono ?_; clear hdi; rintro e w3 ⟨rfl, h3⟩; replace h3 : Hid _ := h3)
  go_returns
  exact ⟨rfl, h3.out⟩
 ·have he : d.syncNames = ({ d.tick with kept := d.now, works := [] }, 0) := by unfold RD.syncNames; rw [if_neg hd, if_neg h0]
  rw [he]
  have hdi := diesR_1 w h h0 hw.fails
  unfold ofBlock at *
  clear he hd hd' h0 c0 c1 c2 c3 c4 c6 c7
  replace h : Hid _ := h
  replace hw : Hid _ := hw
  go_enter Tryz.func113, Tryz.ntmps113
  go_wp2_with (first
   |(go_at_call 119; refine hdi.mono ?_; clear hdi; rintro e w3 ⟨rfl, h3, hG3, hz3⟩
     obtain ⟨q, c, hq⟩ := own_shape h3.now
     have t0 : w3.heap[p]? = some (.cells #[.int .i64 d.room, r.fv, .slice q d.now.length c, r.kv, r.wv, .bool d.tick.dead, .int .i64 d.tick.fails, r.pv] 107) := by
      have := h3.top
      unfold topR at this
      rw [hq] at this
      exact this
     obtain ⟨d0, d1, d2, d3, d4, d5, d6, d7⟩ := cells8 t0
     have f3 := free_of t0 3
     have u1 := setCell_heap (i := 3) (v := .slice q d.now.length c) t0
     have f4 := free_of u1 4
     have u2 := setCell_heap (i := 4) (v := .slice none 0 0) u1
     replace h3 : Hid _ := h3
     replace hq : Hid _ := hq
     replace u2 : Hid _ := u2
     replace hG3 : Hid _ := hG3
     clear u1 t0))
  go_returns
  have hs : ∀ k, k ≠ p → ((w3.setCell ⟨p, 3, none⟩ (.slice q d.now.length c)).setCell ⟨p, 4, none⟩ (.slice none 0 0)).heap[k]? = w3.heap[k]? := fun k hk => (Below.heap_setCell _ _ _ _ hk).trans (Below.heap_setCell _ _ _ _ hk)
  have hN := h3.out.nowTo (w' := (w3.setCell ⟨p, 3, none⟩ (.slice q d.now.length c)).setCell ⟨p, 4, none⟩ (.slice none 0 0)) (fun k _ hk => hs k hk)
  have hN2 := hN
  rw [hq.out] at hN2
  refine ⟨rfl, .of (h3.out.setTop (d' := { d.tick with kept := d.now, works := [] }) (nv := r.nv) (kv := .slice q d.now.length c) (wv := .slice none 0 0) (pv := r.pv) (by rw [u2.out]; unfold topR; rw [hq.out]; rfl) (fun k _ hk => hs k hk) rfl hN hN2 (World.ownsRow_nil _ _ _ _) (h3.out.keepTo (fun k _ hk => hs k hk))) ?_ (fun k hk => ?_)⟩
  ·exact ((hG3.out.mono (fun k hk => .inl hk)).setCell (p := ⟨p, 3, none⟩) (.inl (.inl rfl)) _).setCell (p := ⟨p, 4, none⟩) (.inl (.inl rfl)) _
  ·left
   rcases hk with hk | hk | hk | hk | hk | hk | hk
   ·exact .inl hk
   ·exact .inr (.inl hk)
   ·exact .inr (.inr (.inl hk))
   ·exact .inr (.inr (.inr (.inl hk)))
   ·exact .inr (.inr (.inr (.inl (by rw [hq.out]; exact hk))))
   ·cases hk
   ·exact .inr (.inr (.inr (.inr (.inr (.inr hk)))))
/-- The names and the works are others; the works' row has grown. -/
theorem RLies.renamedTo (h : RLies w p n₀ r d) {nv wv : Value} (a b : ByteArray) (f : Option Nat) (ht : w'.heap[p]? = some (topR (d.renamed a b f) { r with nv := nv, wv := wv })) (hs : ∀ k, k < w.heap.size → k ≠ p → r.wv.ownBlock ≠ some k → w'.heap[k]? = w.heap[k]?)
  (hn : NamesAt w' n₀ nv (doesR d.now (a, b, f))) (hw : w'.ownsRow n₀ 157 3 wv (d.works.length + 1) (d.works.flatMap encWR ++ encWR (a, b, f))) : RLies w' p n₀ { r with nv := nv, wv := wv } (d.renamed a b f) where
 top := ht
 files := row_same h.files (fun g hg => hs g (h.files.lt g hg).2 (fun e => by have h1 := h.sF hg; have h2 := h.sP; rw [e] at h1; omega) (fun e => by have h1 := h.sF hg; have h2 := h.sW e; omega))
 data := fun i hi => row_same (h.data i hi) (fun g hg => hs g ((h.data i hi).lt g hg).2 (fun e => by have h1 := h.sB hi hg; have h2 := h.sP; rw [e] at h1; omega) (fun e => by have h1 := h.sB hi hg; have h2 := h.sW e; omega))
 rowInj := h.rowInj
 now := hn
 kept := row_same h.kept (fun g hg => hs g (World.ownsRow.lt h.kept g hg).2 (fun e => by have h1 := h.sK hg; have h2 := h.sP; rw [e] at h1; omega) (fun e => by have h1 := h.sK hg; have h2 := h.sW e; omega))
 works := by
  show w'.ownsRow n₀ 157 3 wv (d.works ++ [(a, b, f)]).length ((d.works ++ [(a, b, f)]).flatMap encWR)
  rw [List.length_append, List.flatMap_append, List.flatMap_cons, List.flatMap_nil, List.append_nil]
  exact hw
 keep := row_same h.keep (fun g hg => hs g (h.keep.lt g hg).2 (fun e => by have h1 := h.sV hg; have h2 := h.sP; rw [e] at h1; omega) (fun e => by have h1 := h.sV hg; have h2 := h.sW e; omega))
 base := h.base
theorem info157 : (Tryz.prog.info? 157).map (fun i => (i.zero, i.size, i.bytes)) = some (some (.agg #[.string ⟨#[]⟩, .string ⟨#[]⟩, .int .i64 0]), 3, 40) := by kernel_rfl
theorem one3 (x y : ByteArray) (i : Int) : ∀ u ∈ [Value.string x, .string y, .int .i64 i], u.oneCell' = true := by
 intro u hu
 rcases List.mem_cons.1 hu with rfl | hu
 ·rfl
 ·rcases List.mem_cons.1 hu with rfl | hu
  ·rfl
  ·rw [List.mem_singleton] at hu; subst hu; rfl
/-- What is known behind 'now' was written, ahead of the works. -/
theorem renamed_end (h : RLies w p n₀ r d) {w1 w2 w3 : World} {q q' : Option Addr} {c c' m : Nat} (a b : ByteArray) (f : Option Nat) (h1 : Below w.heap.size w w1)
  (hnv : NamesAt w1 n₀ (.slice q m c) (doesR d.now (a, b, f))) (hnvo : ∀ g, (Value.slice q m c).ownBlock = some g → r.nv.ownBlock = some g ∨ w.heap.size ≤ g)
  (h2 : Below w1.heap.size (w1.setCell ⟨p, 2, none⟩ (.slice q m c)) w2) (hgrow : w2.grownBy w3 r.wv.ownBlock)
  (hw : w3.ownsRow n₀ 157 3 (.slice q' (d.works.length + 1) c') (d.works.length + 1) (d.works.flatMap encWR ++ encWR (a, b, f)))
  (hwn : ∀ k, (Value.slice q' (d.works.length + 1) c').ownBlock = some k → r.wv.ownBlock = some k ∨ w.heap.size ≤ k) :
  RLies (w3.setCell ⟨p, 4, none⟩ (.slice q' (d.works.length + 1) c')) p n₀ { r with nv := .slice q m c, wv := .slice q' (d.works.length + 1) c' } (d.renamed a b f) ∧
   Grown (ownR p r d) w (w3.setCell ⟨p, 4, none⟩ (.slice q' (d.works.length + 1) c')) ∧
   (∀ k, ownR p { r with nv := .slice q m c, wv := .slice q' (d.works.length + 1) c' } (d.renamed a b f) k → ownR p r d k ∨ w.heap.size ≤ k) ∧ w.heap.size ≤ w3.heap.size := by
 have hpl := (Array.getElem?_eq_some_iff.1 h.top).1
 have hz1 := h1.size
 have hz2 := h2.size
 have hz3 := hgrow.size
 have hss : (w1.setCell ⟨p, 2, none⟩ (.slice q m c)).heap.size = w1.heap.size := by simp
 have hpw : r.wv.ownBlock ≠ some p := fun e => by have h1 := h.sW e; have h2 := h.sP; omega
 have t1 := (h1.block p hpl).trans h.top
 have t2 := setCell_heap (i := 2) (v := .slice q m c) t1
 have t3 := (h2.block p (by omega)).trans t2
 have t4 := (hgrow.block p (by omega) (fun e => hpw e.symm)).trans t3
 have t5 := setCell_heap (i := 4) (v := .slice q' (d.works.length + 1) c') t4
 have hG1 : Grown (ownR p r d) w (w1.setCell ⟨p, 2, none⟩ (.slice q m c)) := (Grown.of_below h1).setCell (p := ⟨p, 2, none⟩) (.inl (.inl rfl)) _
 have hG2 : Grown (ownR p r d) w w2 := hG1.trans (T := ownR p r d) (Grown.of_below (hss ▸ h2)) (fun _ hx => .inl hx)
 have hG3 : Grown (ownR p r d) w w3 := hG2.trans (T := ownR p r d) (Grown.of_grownBy hgrow (fun k hk => .inl (.inr (.inr (.inr (.inr (.inr (.inl hk)))))))) (fun _ hx => .inl hx)
 have hs : ∀ k, k < w.heap.size → k ≠ p → r.wv.ownBlock ≠ some k → (w3.setCell ⟨p, 4, none⟩ (.slice q' (d.works.length + 1) c')).heap[k]? = w.heap[k]? := fun k hk hkp hkw =>
  (Below.heap_setCell _ _ _ _ hkp).trans ((hgrow.block k (by omega) (fun e => hkw e.symm)).trans ((h2.block k (by omega)).trans ((Below.heap_setCell _ _ _ _ hkp).trans (h1.block k hk))))
 have hnwp : ∀ g, (Value.slice q m c).ownBlock = some g → g ≠ p := fun g hg e => by
  rcases hnvo g hg with h3 | h3
  ·have s1 := h.sN h3; have s2 := h.sP; rw [e] at s1; omega
  ·omega
 have hnw2 : NamesAt w2 n₀ (.slice q m c) (doesR d.now (a, b, f)) := own_kept (row_same hnv (fun g hg => Below.heap_setCell _ _ _ _ (hnwp g hg))) (hss ▸ h2)
 have hwv2 : w2.ownsRow n₀ 157 3 r.wv d.works.length (d.works.flatMap encWR) := row_same h.works (fun g hg => (h2.block g (by have := (h.works.lt g hg).2; omega)).trans ((Below.heap_setCell _ _ _ _ (fun e => hpw (by have e2 : g = p := e; rw [← e2]; exact hg))).trans (h1.block g (h.works.lt g hg).2)))
 have hnw3 : NamesAt w3 n₀ (.slice q m c) (doesR d.now (a, b, f)) := World.ownsRow.kept hnw2 hgrow (rows_ne hnw2 hwv2 (by decide))
 have hwn3 : ∀ g, (Value.slice q' (d.works.length + 1) c').ownBlock = some g → g ≠ p := fun g hg e => by
  rcases hwn g hg with h1 | h1
  ·exact hpw (by rw [← e]; exact h1)
  ·omega
 refine ⟨h.renamedTo a b f t5 hs ?_ ?_, hG3.setCell (p := ⟨p, 4, none⟩) (.inl (.inl rfl)) _, fun k hk => ?_, by omega⟩
 ·exact row_same hnw3 (fun g hg => Below.heap_setCell _ _ _ _ (hnwp g hg))
 ·exact row_same hw (fun g hg => Below.heap_setCell _ _ _ _ (hwn3 g hg))
 ·rcases hk with hk | hk | hk | hk | hk | hk | hk
  ·exact .inl (.inl hk)
  ·exact .inl (.inr (.inl hk))
  ·exact .inl (.inr (.inr (.inl hk)))
  ·exact (hnvo k hk).imp (fun h => .inr (.inr (.inr (.inl h)))) id
  ·exact .inl (.inr (.inr (.inr (.inr (.inl hk)))))
  ·exact (hwn k hk).imp (fun h => .inr (.inr (.inr (.inr (.inr (.inl h)))))) id
  ·exact .inl (.inr (.inr (.inr (.inr (.inr (.inr hk))))))

set_option maxRecDepth 100000 in
set_option maxHeartbeats 16000000 in
theorem removeR_any (x : ByteArray) (w : World) (h : RLies w p n₀ r d) (hw : RWF d) (hn : n₀ ≤ w.heap.size) :
  Calls Tryz.prog 110 #[ofBlock p, .string x] w fun e w' => e = .returned (.int .i64 (d.remove x).2) ∧ RTurns w w' p n₀ r d (d.remove x).1 := by
 have hcs := h.cells
 by_cases hd : d.dead = true
 ·have he : d.remove x = (d, 51) := by unfold RD.remove RD.work ofResR; rw [if_pos hd]
  rw [he]
  rw [hd] at hcs
  obtain ⟨c0, c1, c2, c3, c4, c5, c6, c7⟩ := hcs
  unfold ofBlock
  replace h : Hid _ := h
  clear he hw hd
  go_enter Tryz.func110, Tryz.ntmps110
  go_wp2_with fail
  go_returns
  exact ⟨rfl, .none h.out (Below.refl _ _)⟩
 have hd' : d.dead = false := by simpa using hd
 have hfi := find_any r.nv d.now x n₀ w h.now (by have := hw.now; omega)
 rw [hd'] at hcs
 obtain ⟨c0, c1, c2, c3, c4, c5, c6, c7⟩ := hcs
 cases hf : fileR d x with
 | none =>
  have he : d.remove x = (d, 50) := by unfold RD.remove RD.work ofResR; rw [if_neg hd, hf]
  rw [he]
  rw [idxOf_none hf] at hfi
  unfold ofBlock
  replace h : Hid _ := h
  clear he hw hd hd' hf
  go_enter Tryz.func110, Tryz.ntmps110
  go_wp2_with (go_at_call 120; refine hfi.mono ?_; clear hfi; rintro e w2 ⟨rfl, hw2⟩; obtain rfl := hw2.symm)
  go_returns
  exact ⟨rfl, .none h.out (Below.refl _ _)⟩
 | some i =>
  rw [idxOf_some hf] at hfi
  have hi := hw.look hf

  by_cases h0 : d.fails = 0
  ·have he : d.remove x = (d.crash d.keep, 51) := by unfold RD.remove RD.work ofResR; rw [if_neg hd, hf]; simp only [if_true]; rw [if_pos h0]
   rw [he]
   have hdi := diesR_0 w h hw hn h0
   unfold ofBlock at *
   clear he hw hd hd' hf h
   go_enter Tryz.func110, Tryz.ntmps110
   go_wp2_with (first
    |(go_at_call 120; refine hfi.mono ?_; clear hfi; rintro e w2 ⟨rfl, hw2⟩; obtain rfl := hw2.symm)
    |(go_at_call 119; refine hdi.mono ?_; clear hdi; rintro e w3 ⟨rfl, h3⟩; replace h3 : Hid _ := h3))
   go_returns
   exact ⟨rfl, h3.out⟩
  ·have he : d.remove x = (d.tick.renamed x ⟨#[]⟩ none, 0) := by unfold RD.remove RD.work ofResR; rw [if_neg hd, hf]; simp only [if_true]; rw [if_neg h0]
   rw [he]
   have hdi := diesR_1 w h h0 hw.fails
   unfold ofBlock at *
   replace h : Hid _ := h
   clear he hd hd' hf h0
   go_enter Tryz.func110, Tryz.ntmps110
   go_wp2_with (first
    |(go_at_call 120; refine hfi.mono ?_; clear hfi; rintro e w2 ⟨rfl, hw2⟩; obtain rfl := hw2.symm)
    |(go_at_call 119; refine hdi.mono ?_; clear hdi; rintro e w3 ⟨rfl, h3, hG3, hz3⟩
      obtain ⟨nq, nc, hne⟩ := own_shape h3.now
      obtain ⟨wq, wc, hwe⟩ := own_shape h3.works
      obtain ⟨d0, d1, d2, d3, d4, d5, d6, d7⟩ := h3.cells
      have hpl := (Array.getElem?_eq_some_iff.1 h3.top).1
      rw [hne] at d2
      rw [hwe] at d4
      have hwl := hw.works
      have hnl := hw.now
      have hz := cells3 (heap_new w3 (.cells #[.string x, .string ⟨#[]⟩, .int .i64 (-1)] 157))
      have hal := (Below.refl w3.heap.size w3).alloc (Nat.le_refl _) (.cells #[.string x, .string ⟨#[]⟩, .int .i64 (-1)] 157)
      have hzl : w3.heap.size < (w3.alloc (.cells #[.string x, .string ⟨#[]⟩, .int .i64 (-1)] 157)).heap.size := by simp
      have hnow := h3.now
      rw [hne] at hnow
      have hn3 : n₀ ≤ w3.heap.size := by omega
      have hdo := fun W (hW : Below (w3.alloc (.cells #[.string x, .string ⟨#[]⟩, .int .i64 (-1)] 157)).heap.size (w3.alloc (.cells #[.string x, .string ⟨#[]⟩, .int .i64 (-1)] 157)) W) => doesR_any (.slice nq d.tick.now.length nc) d.tick.now x ⟨#[]⟩ none n₀ W ((hnow.below hal).below hW) (by have := hW.size; simp at this; omega) (by show d.now.length ≤ _; omega)
      replace h3 : Hid _ := h3
      replace hne : Hid _ := hne
      replace hwe : Hid _ := hwe
      replace hG3 : Hid _ := hG3
      replace hal : Hid _ := hal
      replace hz3 : Hid (w3.heap.size = w.heap.size) := hz3
      clear c0 c1 c2 c3 c4 c5 c6 c7 d0 d1 d3 d5 d6 d7 hnow))
   replace hw : Hid _ := hw
   refine poised_then 9 (fun wz => Below (w3.alloc (.cells #[.string x, .string ⟨#[]⟩, .int .i64 (-1)] 157)).heap.size (w3.alloc (.cells #[.string x, .string ⟨#[]⟩, .int .i64 (-1)] 157)) wz) (fun wy wz => Below wy.heap.size wy wz) (by kernel_rfl) (by kernel_rfl) (by kernel_rfl) (fun _ _ h k => h.trans (k.mono h.size)) ((Below.refl _ _).drew) ?_
   apply Exists.intro
   simp only [List.take_succ_cons, List.take_zero]
   iterate 4
    apply walk_det
    ·rfl
    ·intro w2 hC hF
     simp only [upon]
     go_simp
     exact ⟨Below.refl _ _, rfl⟩
    simp only [put_lit, List.set_cons_succ, List.set_cons_zero]
   iterate 2
    apply walk_det
    ·rfl
    ·intro w2 hC hF
     have y2 := ((hal.out.trans (hC.mono (by simp))).cell (p := ⟨p, 2, none⟩) hpl).trans d2
     have y0 := (hC.cell (p := ⟨w3.heap.size, 0, none⟩) hzl).trans hz.1
     have y1 := (hC.cell (p := ⟨w3.heap.size, 1, none⟩) hzl).trans hz.2.1
     have y3 := (hC.cell (p := ⟨w3.heap.size, 2, none⟩) hzl).trans hz.2.2
     simp only [upon]
     go_simp
     exact ⟨Below.refl _ _, rfl⟩
    simp only [put_lit, List.set_cons_succ, List.set_cons_zero]
   apply walk_free (fun v w' => NamesAt w' n₀ v (doesR d.tick.now (x, ⟨#[]⟩, none)) ∧ ∀ g, v.ownBlock = some g → (Value.slice nq d.tick.now.length nc).ownBlock = some g ∨ w3.heap.size ≤ g) (fun _ _ _ _ hR h => ⟨own_kept h.1 hR, h.2⟩)
   ·rfl
   ·intro w2 hC hF
    simp only [upon]
    go_simp
    exact (hdo w2 hC).mono (fun e w' hh => by obtain ⟨v', he, hr', hb', ho'⟩ := hh; exact ⟨v', he, hb', hr', fun g hg => (ho' g hg).imp id (fun h => Nat.le_trans (Nat.le_trans (Nat.le_of_lt hzl) hC.size) h)⟩)
   intro v6
   simp only [put_lit, List.set_cons_succ, List.set_cons_zero]
   iterate 2
    apply walk_det
    ·rfl
    ·intro w2 hC hF
     simp only [upon]
     go_simp
     exact ⟨Below.refl _ _, rfl⟩
    simp only [put_lit, List.set_cons_succ, List.set_cons_zero]
   apply walk_nil
   intro w7 hC7 hF7
   simp only [List.drop_succ_cons, List.drop_zero]
   obtain ⟨hnv, hnvo⟩ : NamesAt w7 n₀ v6 (doesR d.tick.now (x, ⟨#[]⟩, none)) ∧ ∀ g, v6.ownBlock = some g → (Value.slice nq d.tick.now.length nc).ownBlock = some g ∨ w3.heap.size ≤ g := hF7 6
   obtain ⟨q7, c7, hq7⟩ := own_shape hnv
   subst hq7
   have hB7 : Below w3.heap.size w3 w7 := hal.out.trans (hC7.mono (by simp))
   have t7 := (hB7.block p hpl).trans h3.out.top
   have f7 := free_of t7 2
   have y7 := (hB7.cell (p := ⟨p, 2, none⟩) hpl).trans d2
   have u7 := setCell_heap (i := 2) (v := .slice q7 (doesR d.tick.now (x, ⟨#[]⟩, none)).length c7) t7
   replace hnv : Hid _ := hnv
   replace hnvo : Hid _ := hnvo
   replace u7 : Hid _ := u7
   clear hF7 t7
   go_wp2_with fail
   obtain ⟨wA, hwA⟩ : ∃ wA, w7.setCell ⟨p, 2, none⟩ (.slice q7 (doesR d.tick.now (x, ⟨#[]⟩, none)).length c7) = wA := ⟨_, rfl⟩
   rw [hwA] at u7 ⊢
   have hpA : ∀ k, k ≠ p → wA.heap[k]? = w7.heap[k]? := fun k hk => by rw [← hwA]; exact Below.heap_setCell _ _ _ _ hk
   have hzA : wA.heap.size = w7.heap.size := by rw [← hwA]; simp
   have hz7 := hC7.size
   obtain ⟨dd0, dd1, dd2, dd3, dd4, dd5, dd6, dd7⟩ := cells8 (show wA.heap[p]? = some (.cells #[_, _, _, _, _, _, _, _] 107) from u7.out)
   rw [hwe.out] at dd4
   have zA := cells3 ((hpA w3.heap.size (by omega)).trans ((hC7.block w3.heap.size hzl).trans (heap_new w3 (.cells #[.string x, .string ⟨#[]⟩, .int .i64 (-1)] 157))))
   obtain ⟨zA0, zA1, zA2⟩ := zA
   have hwsort : ∀ g, r.wv.ownBlock = some g → g ≠ p := fun g hg e2 => by have s1 := h3.out.sW hg; have s2 := h3.out.sP; rw [e2] at s1; omega
   have hwr : wA.ownsRow n₀ 157 3 r.wv d.tick.works.length (d.tick.works.flatMap encWR) := row_same h3.out.works (fun g hg => (hpA g (hwsort g hg)).trans (hB7.block g (h3.out.works.lt g hg).2))
   rw [hwe.out] at hwr
   obtain ⟨i0, hi0, hz0', hz1', hz2'⟩ := info_parts info157
   have h4 : (wA.alloc (.cells #[.string x, .string ⟨#[]⟩, .int .i64 (-1)] 157)).drew.ownsRow n₀ 157 3 (.slice wq d.tick.works.length wc) d.tick.works.length (d.tick.works.flatMap encWR) := (hwr.alloc _).drew
   have h4b : (wA.alloc (.cells #[.string x, .string ⟨#[]⟩, .int .i64 (-1)] 157)).ownsRow n₀ 157 3 (.slice wq d.tick.works.length wc) d.tick.works.length (d.tick.works.flatMap encWR) := hwr.alloc _
   have hpl7 : p < wA.heap.size := (Array.getElem?_eq_some_iff.1 u7.out).1
   have hne4 : some p ≠ (Value.slice wq d.tick.works.length wc).ownBlock := fun e2 => hwsort p (by rw [hwe.out]; exact e2.symm) rfl
   have fA := free_of u7.out 4
   have yA : ∀ W, (wA.alloc (.cells #[.string x, .string ⟨#[]⟩, .int .i64 (-1)] 157)).drew.grownBy W (Value.slice wq d.tick.works.length wc).ownBlock → W.cell? ⟨p, 4, none⟩ = some (.slice wq d.tick.works.length wc) ∧ W.frozen? ⟨p, 4, none⟩ = false := fun W hW => by
    have e3 := (hW.block p (by show p < (wA.alloc (.cells #[.string x, .string ⟨#[]⟩, .int .i64 (-1)] 157)).heap.size; simp; omega) hne4).trans ((Below.heap_alloc _ _ _ hpl7).trans u7.out)
    exact ⟨by rw [← hwe.out]; exact (cells8 (show W.heap[p]? = some (.cells #[_, _, _, _, _, _, _, _] 107) from e3)).2.2.2.2.1, free_of e3 4⟩
   have hwl' : d.tick.works.length ≤ 1073741824 := hwl
   have hnA : n₀ ≤ wA.heap.size := by omega
   replace hwA : Hid _ := hwA
   replace hzA : Hid (wA.heap.size = w7.heap.size) := hzA
   replace yA : Hid _ := yA
   replace hwr : Hid _ := hwr
   replace h4 : Hid ((wA.alloc (.cells #[.string x, .string ⟨#[]⟩, .int .i64 (-1)] 157)).drew.ownsRow n₀ 157 3 (.slice wq d.tick.works.length wc) d.tick.works.length (d.tick.works.flatMap encWR)) := h4
   replace h4b : Hid ((wA.alloc (.cells #[.string x, .string ⟨#[]⟩, .int .i64 (-1)] 157)).ownsRow n₀ 157 3 (.slice wq d.tick.works.length wc) d.tick.works.length (d.tick.works.flatMap encWR)) := h4b
   replace hwsort : Hid _ := hwsort
   replace hpA : Hid _ := hpA
   clear dd0 dd1 dd2 dd3 dd5 dd6 dd7 hdo d2 d4 hz y7 f7
   go_region_law (refine step_append_own rfl (.tmp 34) (.tmp 36) 105 rfl n₀ 157 i0 (.agg #[.string ⟨#[]⟩, .string ⟨#[]⟩, .int .i64 0]) 3 40 Tryz.underlying105 hi0 hz0' hz1' hz2' rfl (by decide) (.slice wq d.tick.works.length wc) d.tick.works.length _ (by simp [Act.eval]) h4.out ⟨wA.heap.size, 0, none⟩ 1 1 [.string x, .string ⟨#[]⟩, .int .i64 (-1)] (by simp [Act.eval]) rfl (cells_new3 wA _ _ _ 157) (one3 _ _ _) (by unfold maxLen; omega) (by omega) (by simp; omega) ?_; intro v' w9 ho hg9 hwhere; obtain ⟨g9, cap9, rfl⟩ := ownsRow_succ' ho; have k1 := (yA.out w9 hg9).1; have k2 := (yA.out w9 hg9).2)
   all_goals
    go_wp2
    go_returns
    have hE := renamed_end h3.out (x) (⟨#[]⟩) (none) hB7 hnv.out (fun g hg => by rw [hne.out]; exact hnvo.out g hg)
     (show Below w7.heap.size (w7.setCell ⟨p, 2, none⟩ (.slice q7 (doesR d.tick.now (x, ⟨#[]⟩, none)).length c7)) (wA.alloc (.cells #[.string x, .string ⟨#[]⟩, .int .i64 (-1)] 157)).drew by
      rw [hwA.out]
      exact ((Below.refl w7.heap.size wA).alloc (Nat.le_of_eq hzA.out.symm) _).trans ⟨rfl, rfl, rfl, Nat.le_refl _, fun _ _ => rfl⟩)
     (by rw [hwe.out]; exact hg9) ho
     (fun k hk => by
      rw [hwe.out]
      rcases hwhere k hk with h9 | h9
      ·exact .inl h9
      ·right
       have h9 : (wA.alloc (.cells #[.string x, .string ⟨#[]⟩, .int .i64 (-1)] 157)).heap.size ≤ k := h9
       have a1 := hB7.size; have a2 := hzA.out
       simp at h9; omega)
    exact ⟨rfl, .of hE.1 ((hG3.out.mono (fun k hk => .inl hk)).trans hE.2.1 (fun k hk => .inl hk)) (fun k hk => (hE.2.2.1 k hk).imp id (fun h => by have := hz3.out; omega))⟩

set_option maxRecDepth 100000 in
set_option maxHeartbeats 16000000 in
theorem renameR_any (x y : ByteArray) (hy : y.size ≤ 9223372036854775807) (w : World) (h : RLies w p n₀ r d) (hw : RWF d) (hn : n₀ ≤ w.heap.size) :
  Calls Tryz.prog 140 #[ofBlock p, .string x, .string y] w fun e w' => e = .returned (.int .i64 (d.rename x y).2) ∧ RTurns w w' p n₀ r d (d.rename x y).1 := by
 have hcs := h.cells
 by_cases hd : d.dead = true
 ·have he : d.rename x y = (d, 51) := by unfold RD.rename RD.work ofResR; rw [if_pos hd]
  rw [he]
  rw [hd] at hcs
  obtain ⟨c0, c1, c2, c3, c4, c5, c6, c7⟩ := hcs
  unfold ofBlock
  replace h : Hid _ := h
  clear he hw hd
  go_enter Tryz.func140, Tryz.ntmps140
  go_wp2_with fail
  go_returns
  exact ⟨rfl, .none h.out (Below.refl _ _)⟩
 have hd' : d.dead = false := by simpa using hd
 have hfi := find_any r.nv d.now x n₀ w h.now (by have := hw.now; omega)
 rw [hd'] at hcs
 obtain ⟨c0, c1, c2, c3, c4, c5, c6, c7⟩ := hcs
 cases hf : fileR d x with
 | none =>
  have he : d.rename x y = (d, 50) := by unfold RD.rename RD.work ofResR; rw [if_neg hd, hf]
  rw [he]
  rw [idxOf_none hf] at hfi
  unfold ofBlock
  replace h : Hid _ := h
  clear he hw hd hd' hf
  go_enter Tryz.func140, Tryz.ntmps140
  go_wp2_with (go_at_call 120; refine hfi.mono ?_; clear hfi; rintro e w2 ⟨rfl, hw2⟩; obtain rfl := hw2.symm)
  go_returns
  exact ⟨rfl, .none h.out (Below.refl _ _)⟩
 | some i =>
  rw [idxOf_some hf] at hfi
  have hi := hw.look hf

  have hnm := isNameR_any y hy
  have hok : okName y = (decide (1 ≤ y.size) && decide (y.size ≤ 40)) := rfl
  rw [← hok] at hnm
  by_cases ho : okName y = true
  case neg =>
   have ho' : okName y = false := by simpa using ho
   have he : d.rename x y = (d, 50) := by unfold RD.rename RD.work ofResR; rw [if_neg hd, hf]; simp only; rw [if_neg ho]
   rw [he]
   rw [ho'] at hnm
   unfold ofBlock at *
   replace h : Hid _ := h
   clear he hw hd hd' hf hok ho ho'
   go_enter Tryz.func140, Tryz.ntmps140
   go_wp2_with (first
    |(go_at_call 120; refine hfi.mono ?_; clear hfi; rintro e w2 ⟨rfl, hw2⟩; obtain rfl := hw2.symm)
    |(go_at_call 117; refine (hnm _).mono ?_; rintro e w3 ⟨rfl, hw3⟩; obtain rfl := hw3.symm))
   go_returns
   exact ⟨rfl, .none h.out (Below.refl _ _)⟩
  rw [ho] at hnm
  by_cases h0 : d.fails = 0
  ·have he : d.rename x y = (d.crash d.keep, 51) := by unfold RD.rename RD.work ofResR; rw [if_neg hd, hf]; simp only; rw [if_pos ho]; simp only; rw [if_pos h0]
   rw [he]
   have hdi := diesR_0 w h hw hn h0
   unfold ofBlock at *
   clear he hw hd hd' hf h hok ho
   go_enter Tryz.func140, Tryz.ntmps140
   go_wp2_with (first
    |(go_at_call 120; refine hfi.mono ?_; clear hfi; rintro e w2 ⟨rfl, hw2⟩; obtain rfl := hw2.symm)
    |(go_at_call 117; refine (hnm _).mono ?_; rintro e w3 ⟨rfl, hw3⟩; obtain rfl := hw3.symm)
    |(go_at_call 119; refine hdi.mono ?_; clear hdi; rintro e w3 ⟨rfl, h3⟩; replace h3 : Hid _ := h3))
   go_returns
   exact ⟨rfl, h3.out⟩
  have hdi := diesR_1 w h h0 hw.fails
  by_cases hxy : x = y
  ·have he : d.rename x y = (d.tick, 0) := by unfold RD.rename RD.work ofResR; rw [if_neg hd, hf]; simp only; rw [if_pos ho]; simp only; rw [if_neg h0, if_pos hxy]
   rw [he]
   have hb : (x.toList == y.toList) = true := by rw [text_eqD, decide_eq_true hxy]
   unfold ofBlock at *
   replace h : Hid _ := h
   clear he hw hd hd' hf hok ho h0 hxy
   go_enter Tryz.func140, Tryz.ntmps140
   go_wp2_with (first
    |(go_at_call 120; refine hfi.mono ?_; clear hfi; rintro e w2 ⟨rfl, hw2⟩; obtain rfl := hw2.symm)
    |(go_at_call 117; refine (hnm _).mono ?_; rintro e w3 ⟨rfl, hw3⟩; obtain rfl := hw3.symm)
    |(go_at_call 119; refine hdi.mono ?_; clear hdi; rintro e w3 ⟨rfl, h3, hG3, hz3⟩; replace h3 : Hid _ := h3; replace hG3 : Hid _ := hG3))
   go_returns
   exact ⟨rfl, r, h3.out, hG3.out.mono (fun k hk => .inl hk), fun k hk => .inl hk⟩
  ·have he : d.rename x y = (d.tick.renamed x y (some i), 0) := by unfold RD.rename RD.work ofResR; rw [if_neg hd, hf]; simp only; rw [if_pos ho]; simp only; rw [if_neg h0, if_neg hxy]
   rw [he]
   have hb : (x.toList == y.toList) = false := by rw [text_eqD, decide_eq_false hxy]
   unfold ofBlock at *
   replace h : Hid _ := h
   clear he hd hd' hf hok ho h0 hxy
   go_enter Tryz.func140, Tryz.ntmps140
   go_wp2_with (first
    |(go_at_call 120; refine hfi.mono ?_; clear hfi; rintro e w2 ⟨rfl, hw2⟩; obtain rfl := hw2.symm)
    |(go_at_call 117; refine (hnm _).mono ?_; rintro e w3 ⟨rfl, hw3⟩; obtain rfl := hw3.symm)
    |(go_at_call 119; refine hdi.mono ?_; clear hdi; rintro e w3 ⟨rfl, h3, hG3, hz3⟩
      obtain ⟨nq, nc, hne⟩ := own_shape h3.now
      obtain ⟨wq, wc, hwe⟩ := own_shape h3.works
      obtain ⟨d0, d1, d2, d3, d4, d5, d6, d7⟩ := h3.cells
      have hpl := (Array.getElem?_eq_some_iff.1 h3.top).1
      rw [hne] at d2
      rw [hwe] at d4
      have hwl := hw.works
      have hnl := hw.now
      have hz := cells3 (heap_new w3 (.cells #[.string x, .string y, .int .i64 (i : Nat)] 157))
      have hal := (Below.refl w3.heap.size w3).alloc (Nat.le_refl _) (.cells #[.string x, .string y, .int .i64 (i : Nat)] 157)
      have hzl : w3.heap.size < (w3.alloc (.cells #[.string x, .string y, .int .i64 (i : Nat)] 157)).heap.size := by simp
      have hnow := h3.now
      rw [hne] at hnow
      have hn3 : n₀ ≤ w3.heap.size := by omega
      have hdo := fun W (hW : Below (w3.alloc (.cells #[.string x, .string y, .int .i64 (i : Nat)] 157)).heap.size (w3.alloc (.cells #[.string x, .string y, .int .i64 (i : Nat)] 157)) W) => doesR_any (.slice nq d.tick.now.length nc) d.tick.now x y (some i) n₀ W ((hnow.below hal).below hW) (by have := hW.size; simp at this; omega) (by show d.now.length ≤ _; omega)
      replace h3 : Hid _ := h3
      replace hne : Hid _ := hne
      replace hwe : Hid _ := hwe
      replace hG3 : Hid _ := hG3
      replace hal : Hid _ := hal
      replace hz3 : Hid (w3.heap.size = w.heap.size) := hz3
      clear c0 c1 c2 c3 c4 c5 c6 c7 d0 d1 d3 d5 d6 d7 hnow))
   replace hw : Hid _ := hw
   refine poised_then 9 (fun wz => Below (w3.alloc (.cells #[.string x, .string y, .int .i64 (i : Nat)] 157)).heap.size (w3.alloc (.cells #[.string x, .string y, .int .i64 (i : Nat)] 157)) wz) (fun wy wz => Below wy.heap.size wy wz) (by kernel_rfl) (by kernel_rfl) (by kernel_rfl) (fun _ _ h k => h.trans (k.mono h.size)) ((Below.refl _ _).drew) ?_
   apply Exists.intro
   simp only [List.take_succ_cons, List.take_zero]
   iterate 4
    apply walk_det
    ·rfl
    ·intro w2 hC hF
     simp only [upon]
     go_simp
     exact ⟨Below.refl _ _, rfl⟩
    simp only [put_lit, List.set_cons_succ, List.set_cons_zero]
   iterate 2
    apply walk_det
    ·rfl
    ·intro w2 hC hF
     have y2 := ((hal.out.trans (hC.mono (by simp))).cell (p := ⟨p, 2, none⟩) hpl).trans d2
     have y0 := (hC.cell (p := ⟨w3.heap.size, 0, none⟩) hzl).trans hz.1
     have y1 := (hC.cell (p := ⟨w3.heap.size, 1, none⟩) hzl).trans hz.2.1
     have y3 := (hC.cell (p := ⟨w3.heap.size, 2, none⟩) hzl).trans hz.2.2
     simp only [upon]
     go_simp
     exact ⟨Below.refl _ _, rfl⟩
    simp only [put_lit, List.set_cons_succ, List.set_cons_zero]
   apply walk_free (fun v w' => NamesAt w' n₀ v (doesR d.tick.now (x, y, (some i))) ∧ ∀ g, v.ownBlock = some g → (Value.slice nq d.tick.now.length nc).ownBlock = some g ∨ w3.heap.size ≤ g) (fun _ _ _ _ hR h => ⟨own_kept h.1 hR, h.2⟩)
   ·rfl
   ·intro w2 hC hF
    simp only [upon]
    go_simp
    exact (hdo w2 hC).mono (fun e w' hh => by obtain ⟨v', he, hr', hb', ho'⟩ := hh; exact ⟨v', he, hb', hr', fun g hg => (ho' g hg).imp id (fun h => Nat.le_trans (Nat.le_trans (Nat.le_of_lt hzl) hC.size) h)⟩)
   intro v6
   simp only [put_lit, List.set_cons_succ, List.set_cons_zero]
   iterate 2
    apply walk_det
    ·rfl
    ·intro w2 hC hF
     simp only [upon]
     go_simp
     exact ⟨Below.refl _ _, rfl⟩
    simp only [put_lit, List.set_cons_succ, List.set_cons_zero]
   apply walk_nil
   intro w7 hC7 hF7
   simp only [List.drop_succ_cons, List.drop_zero]
   obtain ⟨hnv, hnvo⟩ : NamesAt w7 n₀ v6 (doesR d.tick.now (x, y, (some i))) ∧ ∀ g, v6.ownBlock = some g → (Value.slice nq d.tick.now.length nc).ownBlock = some g ∨ w3.heap.size ≤ g := hF7 6
   obtain ⟨q7, c7, hq7⟩ := own_shape hnv
   subst hq7
   have hB7 : Below w3.heap.size w3 w7 := hal.out.trans (hC7.mono (by simp))
   have t7 := (hB7.block p hpl).trans h3.out.top
   have f7 := free_of t7 2
   have y7 := (hB7.cell (p := ⟨p, 2, none⟩) hpl).trans d2
   have u7 := setCell_heap (i := 2) (v := .slice q7 (doesR d.tick.now (x, y, (some i))).length c7) t7
   replace hnv : Hid _ := hnv
   replace hnvo : Hid _ := hnvo
   replace u7 : Hid _ := u7
   clear hF7 t7
   go_wp2_with fail
   obtain ⟨wA, hwA⟩ : ∃ wA, w7.setCell ⟨p, 2, none⟩ (.slice q7 (doesR d.tick.now (x, y, (some i))).length c7) = wA := ⟨_, rfl⟩
   rw [hwA] at u7 ⊢
   have hpA : ∀ k, k ≠ p → wA.heap[k]? = w7.heap[k]? := fun k hk => by rw [← hwA]; exact Below.heap_setCell _ _ _ _ hk
   have hzA : wA.heap.size = w7.heap.size := by rw [← hwA]; simp
   have hz7 := hC7.size
   obtain ⟨dd0, dd1, dd2, dd3, dd4, dd5, dd6, dd7⟩ := cells8 (show wA.heap[p]? = some (.cells #[_, _, _, _, _, _, _, _] 107) from u7.out)
   rw [hwe.out] at dd4
   have zA := cells3 ((hpA w3.heap.size (by omega)).trans ((hC7.block w3.heap.size hzl).trans (heap_new w3 (.cells #[.string x, .string y, .int .i64 (i : Nat)] 157))))
   obtain ⟨zA0, zA1, zA2⟩ := zA
   have hwsort : ∀ g, r.wv.ownBlock = some g → g ≠ p := fun g hg e2 => by have s1 := h3.out.sW hg; have s2 := h3.out.sP; rw [e2] at s1; omega
   have hwr : wA.ownsRow n₀ 157 3 r.wv d.tick.works.length (d.tick.works.flatMap encWR) := row_same h3.out.works (fun g hg => (hpA g (hwsort g hg)).trans (hB7.block g (h3.out.works.lt g hg).2))
   rw [hwe.out] at hwr
   obtain ⟨i0, hi0, hz0', hz1', hz2'⟩ := info_parts info157
   have h4 : (wA.alloc (.cells #[.string x, .string y, .int .i64 (i : Nat)] 157)).drew.ownsRow n₀ 157 3 (.slice wq d.tick.works.length wc) d.tick.works.length (d.tick.works.flatMap encWR) := (hwr.alloc _).drew
   have h4b : (wA.alloc (.cells #[.string x, .string y, .int .i64 (i : Nat)] 157)).ownsRow n₀ 157 3 (.slice wq d.tick.works.length wc) d.tick.works.length (d.tick.works.flatMap encWR) := hwr.alloc _
   have hpl7 : p < wA.heap.size := (Array.getElem?_eq_some_iff.1 u7.out).1
   have hne4 : some p ≠ (Value.slice wq d.tick.works.length wc).ownBlock := fun e2 => hwsort p (by rw [hwe.out]; exact e2.symm) rfl
   have fA := free_of u7.out 4
   have yA : ∀ W, (wA.alloc (.cells #[.string x, .string y, .int .i64 (i : Nat)] 157)).drew.grownBy W (Value.slice wq d.tick.works.length wc).ownBlock → W.cell? ⟨p, 4, none⟩ = some (.slice wq d.tick.works.length wc) ∧ W.frozen? ⟨p, 4, none⟩ = false := fun W hW => by
    have e3 := (hW.block p (by show p < (wA.alloc (.cells #[.string x, .string y, .int .i64 (i : Nat)] 157)).heap.size; simp; omega) hne4).trans ((Below.heap_alloc _ _ _ hpl7).trans u7.out)
    exact ⟨by rw [← hwe.out]; exact (cells8 (show W.heap[p]? = some (.cells #[_, _, _, _, _, _, _, _] 107) from e3)).2.2.2.2.1, free_of e3 4⟩
   have hwl' : d.tick.works.length ≤ 1073741824 := hwl
   have hnA : n₀ ≤ wA.heap.size := by omega
   replace hwA : Hid _ := hwA
   replace hzA : Hid (wA.heap.size = w7.heap.size) := hzA
   replace yA : Hid _ := yA
   replace hwr : Hid _ := hwr
   replace h4 : Hid ((wA.alloc (.cells #[.string x, .string y, .int .i64 (i : Nat)] 157)).drew.ownsRow n₀ 157 3 (.slice wq d.tick.works.length wc) d.tick.works.length (d.tick.works.flatMap encWR)) := h4
   replace h4b : Hid ((wA.alloc (.cells #[.string x, .string y, .int .i64 (i : Nat)] 157)).ownsRow n₀ 157 3 (.slice wq d.tick.works.length wc) d.tick.works.length (d.tick.works.flatMap encWR)) := h4b
   replace hwsort : Hid _ := hwsort
   replace hpA : Hid _ := hpA
   clear dd0 dd1 dd2 dd3 dd5 dd6 dd7 hdo d2 d4 hz y7 f7
   go_region_law (refine step_append_own rfl (.tmp 48) (.tmp 50) 105 rfl n₀ 157 i0 (.agg #[.string ⟨#[]⟩, .string ⟨#[]⟩, .int .i64 0]) 3 40 Tryz.underlying105 hi0 hz0' hz1' hz2' rfl (by decide) (.slice wq d.tick.works.length wc) d.tick.works.length _ (by simp [Act.eval]) h4.out ⟨wA.heap.size, 0, none⟩ 1 1 [.string x, .string y, .int .i64 (i : Nat)] (by simp [Act.eval]) rfl (cells_new3 wA _ _ _ 157) (one3 _ _ _) (by unfold maxLen; omega) (by omega) (by simp; omega) ?_; intro v' w9 ho hg9 hwhere; obtain ⟨g9, cap9, rfl⟩ := ownsRow_succ' ho; have k1 := (yA.out w9 hg9).1; have k2 := (yA.out w9 hg9).2)
   all_goals
    go_wp2
    go_returns
    have hE := renamed_end h3.out (x) (y) ((some i)) hB7 hnv.out (fun g hg => by rw [hne.out]; exact hnvo.out g hg)
     (show Below w7.heap.size (w7.setCell ⟨p, 2, none⟩ (.slice q7 (doesR d.tick.now (x, y, (some i))).length c7)) (wA.alloc (.cells #[.string x, .string y, .int .i64 (i : Nat)] 157)).drew by
      rw [hwA.out]
      exact ((Below.refl w7.heap.size wA).alloc (Nat.le_of_eq hzA.out.symm) _).trans ⟨rfl, rfl, rfl, Nat.le_refl _, fun _ _ => rfl⟩)
     (by rw [hwe.out]; exact hg9) ho
     (fun k hk => by
      rw [hwe.out]
      rcases hwhere k hk with h9 | h9
      ·exact .inl h9
      ·right
       have h9 : (wA.alloc (.cells #[.string x, .string y, .int .i64 (i : Nat)] 157)).heap.size ≤ k := h9
       have a1 := hB7.size; have a2 := hzA.out
       simp at h9; omega)
    exact ⟨rfl, .of hE.1 ((hG3.out.mono (fun k hk => .inl hk)).trans hE.2.1 (fun k hk => .inl hk)) (fun k hk => (hE.2.2.1 k hk).imp id (fun h => by have := hz3.out; omega))⟩
end Go.Proofs.YtmcmagplaflegaaGreatDoor

namespace Go.Proofs.YtmcmagplaflegaaGreatDoor
open Go Go.RowKit Go.MapL Go.Poised
variable {w w' : World} {p n₀ : Nat} {r : RRep} {d : RD}

theorem rlies_new (room : Nat) (w : World) : RLies (w.alloc (topR (RD.new room) ⟨.slice none 0 0, fun _ => .slice none 0 0, .slice none 0 0, .slice none 0 0, .slice none 0 0, .slice none 0 0⟩)) w.heap.size w.heap.size ⟨.slice none 0 0, fun _ => .slice none 0 0, .slice none 0 0, .slice none 0 0, .slice none 0 0, .slice none 0 0⟩ (RD.new room) where
 top := heap_new _ _
 files := World.ownsRow_nil _ _ _ _
 data := fun _ hi => absurd hi (Nat.not_lt_zero _)
 rowInj := fun _ _ hi => absurd hi (Nat.not_lt_zero _)
 now := World.ownsRow_nil _ _ _ _
 kept := World.ownsRow_nil _ _ _ _
 works := World.ownsRow_nil _ _ _ _
 keep := World.ownsRow_nil _ _ _ _
 base := Nat.le_refl _
set_option maxRecDepth 100000 in
set_option maxHeartbeats 4000000 in
theorem newR_any (room : Nat) (hroom : room ≤ 16777216) (w : World) :
  Calls Tryz.prog 25 #[.int .i64 room] w fun e w' => e = .returned (.tuple #[ofBlock w.heap.size, .int .i64 0]) ∧ Below w.heap.size w w' ∧ RLies w' w.heap.size w.heap.size ⟨.slice none 0 0, fun _ => .slice none 0 0, .slice none 0 0, .slice none 0 0, .slice none 0 0, .slice none 0 0⟩ (RD.new room) := by
 have h1 : ¬ (room : Int) < 0 := by omega
 have h2 : ¬ (16777216 : Int) < (room : Int) := by omega
 have hl := rlies_new room w
 have hb := (Below.refl w.heap.size w).alloc (Nat.le_refl _) (topR (RD.new room) ⟨.slice none 0 0, fun _ => .slice none 0 0, .slice none 0 0, .slice none 0 0, .slice none 0 0, .slice none 0 0⟩)
 replace hl : Hid _ := hl
 replace hb : Hid _ := hb
 unfold ofBlock
 go_enter Tryz.func25, Tryz.ntmps25
 go_wp2_with fail
 go_returns
 exact ⟨rfl, hb.out, hl.out⟩
/-- An append of bytes, as a step of a region that draws. -/
theorem step_append_bytes {ops : Array Oper} {o : Oper} {a : Act} {w : World} {K : Act → World → Prop} {Q : Exit → Act → World → Prop} {E : Prop}
  (hg : o.guard = none) (s x : Operand) (ho : o.op = .call { callee := .builtin .append, args := #[s, x], argTypes := #[32, 32] })
  (base : Nat) (v u : Value) (l m : List Nat) (hs : a.eval s = v) (hx : a.eval x = u) (hown : w.ownsRow base 5 1 v l.length (encB l)) (hu : BytesIn w u m) (hlen : l.length + m.length ≤ 140737488355328) (hbase : base ≤ w.heap.size)
  (h : ∀ v' w', w'.ownsRow base 5 1 v' (l ++ m).length (encB (l ++ m)) → w.grownBy w' v.ownBlock → (∀ k, v'.ownBlock = some k → v.ownBlock = some k ∨ w.heap.size ≤ k) → K (a.put o.dst v') w') :
  if Region.wanted o (yielded ops a.tmps) = true then Oper.wp Tryz.prog o a w K Q else E := by
 have hw : Region.wanted o (yielded ops a.tmps) = true := by simp [Region.wanted, hg]
 rw [if_pos hw]
 obtain ⟨v', w', hr, h2, h3, h4⟩ := run_append_bytes w base o.type v u l m hown hu hlen hbase
 unfold Oper.wp execOp
 simp only [ho, resolve, invoke, builtin, Sem.run_bind, Sem.run_pure, Result.andThen_ok, List.map_toArray, List.map_cons, List.map_nil, hs, hx, hr]
 exact h v' w' h2 h3 h4
theorem wpList_append_at {P : Program} (w : World) {ops : Array Oper} {rest : List Oper} {o : Oper} {a : Act} {Q : Exit → Act → World → Prop} (hgd : o.guard = none) (s x : Operand) (t : TypeId)
  (ho : o.op = .call { callee := .builtin .append, args := #[s, x], argTypes := #[t, t] })
  (base : Nat) (e : TypeId) (i : TypeInfo) (z : Value) (size bytes : Nat) (ht : P.underlying t = some (.slice e)) (hi : P.info? e = some i) (hz : i.zero = some z)
  (hsize : i.size = size) (hby : i.bytes = bytes) (hzs : z.cells.size = size) (hsz : 0 < size)
  (v : Value) (n : Nat) (xs : List Value) (hs : a.eval s = v) (hown : w.ownsRow base e size v n xs)
  (ad : Addr) (m c : Nat) (news : List Value) (hx : a.eval x = .slice (some ad) m c) (hl : news.length = m * size) (hnews : ∀ j u, news[j]? = some u → w.cell? (ad.add j) = some u) (h1 : ∀ u ∈ news, u.oneCell' = true)
  (h63 : n + m ≤ maxLen) (hbytes : (n + m) * bytes ≤ 140737488355328) (hbase : base ≤ w.heap.size)
  (h : ∀ v' w', w'.ownsRow base e size v' (n + m) (xs ++ news) → w.grownBy w' v.ownBlock → (∀ k, v'.ownBlock = some k → v.ownBlock = some k ∨ w.heap.size ≤ k) → wpList P ops Q rest (a.put o.dst v') w') : wpList P ops Q (o :: rest) a w := by
 refine wpList_plain hgd fun K hK => ?_
 obtain ⟨v', w', hr, h2, h3, h4⟩ := run_append_where (P := P) w base t o.type e i z size bytes ht hi hz hsize hby hzs hsz v n xs hown ad m c news hl hnews h1 h63 hbytes hbase
 unfold Oper.wp execOp
 simp only [ho, resolve, invoke, builtin, Sem.run_bind, Sem.run_pure, Result.andThen_ok, List.map_toArray, List.map_cons, List.map_nil, hs, hx, hr]
 exact hK _ _ (h v' w' h2 h3 h4)
/-- A file more. -/
theorem RLies.bornTo (h : RLies w p n₀ r d) {fv : Value} (ht : w'.heap[p]? = some (topR d.born { r with fv := fv, bv := upd r.bv d.files.length (.slice none 0 0) })) (hs : ∀ k, k < w.heap.size → k ≠ p → r.fv.ownBlock ≠ some k → w'.heap[k]? = w.heap[k]?)
  (hrow : w'.ownsRow n₀ 162 2 fv (d.files.length + 1) (encF r.bv d.files ++ [.slice none 0 0, .int .i64 0])) (hfn : ∀ k, fv.ownBlock = some k → r.fv.ownBlock = some k ∨ w.heap.size ≤ k) :
  RLies w' p n₀ { r with fv := fv, bv := upd r.bv d.files.length (.slice none 0 0) } d.born ∧ ∀ k, ownR p { r with fv := fv, bv := upd r.bv d.files.length (.slice none 0 0) } d.born k → ownR p r d k ∨ w.heap.size ≤ k := by
 have hl : d.born.files.length = d.files.length + 1 := by show (d.files ++ [_]).length = _; simp
 have hold : ∀ i, i < d.files.length → w'.ownsRow n₀ 5 1 (r.bv i) (fileD d i).b.length (encB (fileD d i).b) := fun i hi => row_same (h.data i hi) (fun g hg => hs g ((h.data i hi).lt g hg).2 (fun e => by have h1 := h.sB hi hg; have h2 := h.sP; rw [e] at h1; omega) (fun e => by have h1 := h.sB hi hg; have h2 := h.sF e; omega))
 have hfd : ∀ i, i < d.files.length → fileD d.born i = fileD d i := fun i hi => by
  unfold fileD RD.born
  rw [List.getD_eq_getElem?_getD, List.getD_eq_getElem?_getD, List.getElem?_append_left hi]
 have hfn' : fileD d.born d.files.length = ⟨[], 0⟩ := by unfold fileD RD.born; simp [List.getD_eq_getElem?_getD]
 refine ⟨{ top := ht, files := ?_, data := fun i hi => ?_, rowInj := fun i j hi hj hij => ?_, now := ?_, kept := ?_, works := ?_, keep := ?_, base := h.base }, fun k hk => ?_⟩
 ·show w'.ownsRow n₀ 162 2 fv (d.files ++ ([⟨[], 0⟩] : List FileS)).length (encF (upd r.bv d.files.length (.slice none 0 0)) (d.files ++ ([⟨[], 0⟩] : List FileS)))
  rw [encF_push, List.length_append]; exact hrow
 ·rw [hl] at hi
  show w'.ownsRow n₀ 5 1 (upd r.bv d.files.length (.slice none 0 0) i) _ _
  by_cases e : i = d.files.length
  ·subst e; rw [upd_same, hfn']; exact World.ownsRow_nil _ _ _ _
  ·rw [upd_other _ _ e, hfd i (by omega)]; exact hold i (by omega)
 ·rw [hl] at hi hj
  show (upd r.bv d.files.length (.slice none 0 0) i).ownBlock ≠ none → (upd r.bv d.files.length (.slice none 0 0) i).ownBlock ≠ (upd r.bv d.files.length (.slice none 0 0) j).ownBlock
  by_cases e : i = d.files.length
  ·subst e; rw [upd_same]; intro hn; exact absurd rfl hn
  ·rw [upd_other _ _ e]
   by_cases e2 : j = d.files.length
   ·subst e2; rw [upd_same]; exact id
   ·rw [upd_other _ _ e2]; exact h.rowInj i j (by omega) (by omega) hij
 ·exact row_same h.now (fun g hg => hs g (World.ownsRow.lt h.now g hg).2 (fun e => by have h1 := h.sN hg; have h2 := h.sP; rw [e] at h1; omega) (fun e => by have h1 := h.sN hg; have h2 := h.sF e; omega))
 ·exact row_same h.kept (fun g hg => hs g (World.ownsRow.lt h.kept g hg).2 (fun e => by have h1 := h.sK hg; have h2 := h.sP; rw [e] at h1; omega) (fun e => by have h1 := h.sK hg; have h2 := h.sF e; omega))
 ·exact row_same h.works (fun g hg => hs g (h.works.lt g hg).2 (fun e => by have h1 := h.sW hg; have h2 := h.sP; rw [e] at h1; omega) (fun e => by have h1 := h.sW hg; have h2 := h.sF e; omega))
 ·exact row_same h.keep (fun g hg => hs g (h.keep.lt g hg).2 (fun e => by have h1 := h.sV hg; have h2 := h.sP; rw [e] at h1; omega) (fun e => by have h1 := h.sV hg; have h2 := h.sF e; omega))
 ·rcases hk with hk | hk | ⟨i, hi, hk⟩ | hk | hk | hk | hk
  ·exact .inl (.inl hk)
  ·exact (hfn k hk).imp (fun h => .inr (.inl h)) id
  ·rw [hl] at hi
   have hk : (upd r.bv d.files.length (.slice none 0 0) i).ownBlock = some k := hk
   by_cases e : i = d.files.length
   ·subst e; rw [upd_same] at hk; cases hk
   ·rw [upd_other _ _ e] at hk
    exact .inl (.inr (.inr (.inl ⟨i, by omega, hk⟩)))
  ·exact .inl (.inr (.inr (.inr (.inl hk))))
  ·exact .inl (.inr (.inr (.inr (.inr (.inl hk)))))
  ·exact .inl (.inr (.inr (.inr (.inr (.inr (.inl hk))))))
  ·exact .inl (.inr (.inr (.inr (.inr (.inr (.inr hk))))))

set_option maxRecDepth 100000 in
set_option maxHeartbeats 32000000 in
theorem appendR_any (x : ByteArray) (vv : Value) (l : List Nat) (w : World) (h : RLies w p n₀ r d) (hw : RWF d) (hn : n₀ ≤ w.heap.size) (hx : x.size ≤ 9223372036854775807) (hll : l.length ≤ 4611686018427387904)
  (hBy : ∀ w', Grown (ownR p r d) w w' → BytesIn w' vv l) :
  Calls Tryz.prog 68 #[ofBlock p, .string x, vv] w fun e w' => e = .returned (.int .i64 (d.append x l).2) ∧ RTurns w w' p n₀ r d (d.append x l).1 := by
 have hcs := h.cells
 have hnm := isNameR_any x hx
 obtain ⟨vq, vc, rfl⟩ : ∃ q c, vv = .slice q l.length c := by
  rcases (hBy w (Grown.refl _ _)).2.2 with ⟨rfl, e⟩ | ⟨a, c, rfl, e⟩ | ⟨b, off, c, rfl, _⟩
  ·exact ⟨none, 0, by rw [e]; rfl⟩
  ·exact ⟨some a, c, by rw [e]; rfl⟩
  ·exact ⟨_, c, rfl⟩
 by_cases hd : d.dead = true
 ·have he : d.append x l = (d, 51) := by unfold RD.append; rw [if_pos hd]
  rw [he]
  rw [hd] at hcs
  obtain ⟨c0, c1, c2, c3, c4, c5, c6, c7⟩ := hcs
  unfold ofBlock
  replace h : Hid _ := h
  clear he hw hd hBy
  go_enter Tryz.func68, Tryz.ntmps68
  go_wp2_with fail
  go_returns
  exact ⟨rfl, .none h.out (Below.refl _ _)⟩
 have hd' : d.dead = false := by simpa using hd
 rw [hd'] at hcs
 obtain ⟨c0, c1, c2, c3, c4, c5, c6, c7⟩ := hcs
 by_cases ho : (decide (1 ≤ x.size) && decide (x.size ≤ 40)) = false
 ·have he : d.append x l = (d, 50) := by unfold RD.append; rw [if_neg hd, if_pos ho]
  rw [he]
  rw [ho] at hnm
  unfold ofBlock
  replace h : Hid _ := h
  clear he hw hd hd' hBy ho
  go_enter Tryz.func68, Tryz.ntmps68
  go_wp2_with (go_at_call 117; refine (hnm _).mono ?_; rintro e w3 ⟨rfl, hw3⟩; obtain rfl := hw3.symm)
  go_returns
  exact ⟨rfl, .none h.out (Below.refl _ _)⟩
 have ho' : (decide (1 ≤ x.size) && decide (x.size ≤ 40)) = true := by simpa using ho
 rw [ho'] at hnm
 have hx40 : x.size ≤ 40 := by simp at ho'; exact ho'.2
 have hus := fun W (hW : Below w.heap.size w W) => usedR_any W (h.below hW) hw
 have hul : d.used ≤ 18014398509481984 := by
  have := usedTo_le hw d.files.length (Nat.le_refl _)
  have h2 := hw.files
  show usedTo d d.files.length ≤ _
  omega
 have hpl := (Array.getElem?_eq_some_iff.1 h.top).1
 have g1 : IntKind.i64.wrap ((d.used : Int) + (l.length : Int)) = ((d.used + l.length : Nat) : Int) := by rw [show (d.used : Int) + (l.length : Int) = ((d.used + l.length : Nat) : Int) by omega]; exact IntWalk.i64_in _ (by omega)
 by_cases hr : d.room < d.used + l.length
 ·have he : d.append x l = (d, 52) := by unfold RD.append; rw [if_neg hd, if_neg ho, if_pos hr]
  rw [he]
  have hr' : ((d.room : Nat) : Int) < ((d.used + l.length : Nat) : Int) := by omega
  unfold ofBlock at *
  replace h : Hid _ := h
  replace hr : Hid _ := hr
  clear he hw hd hd' hBy ho ho'
  go_enter Tryz.func68, Tryz.ntmps68
  go_wp2_with (go_at_call 117; refine (hnm _).mono ?_; rintro e w3 ⟨rfl, hw3⟩; obtain rfl := hw3.symm)
  refine poised_whole (fun wz => Below w.heap.size w wz) (fun wy wz => Below w.heap.size wy wz) (by kernel_rfl) (by kernel_rfl) (by kernel_rfl) (fun _ _ h k => h.trans k) ((Below.refl _ _).drew) ?_
  apply Exists.intro
  apply walk_det
  ·rfl
  ·intro w2 hC hF
   simp only [upon]
   go_simp
   exact ⟨Below.refl _ _, rfl⟩
  simp only [put_lit, List.set_cons_succ, List.set_cons_zero]
  apply walk_det
  ·rfl
  ·intro w2 hC hF
   have y0 := (hC.cell (p := ⟨p, 0, none⟩) hpl).trans c0
   simp only [upon]
   go_simp
   exact still_call (hus w2 hC)
  simp only [put_lit, List.set_cons_succ, List.set_cons_zero]
  iterate 6
   apply walk_det
   ·rfl
   ·intro w2 hC hF
    simp only [upon]
    go_simp
    exact ⟨Below.refl _ _, rfl⟩
   simp only [put_lit, List.set_cons_succ, List.set_cons_zero]
  apply walk_det
  ·rfl
  ·intro w2 hC hF
   have y0 := (hC.cell (p := ⟨p, 0, none⟩) hpl).trans c0
   simp only [upon]
   go_simp
   exact ⟨Below.refl _ _, rfl⟩
  simp only [put_lit, List.set_cons_succ, List.set_cons_zero]
  apply walk_det
  ·rfl
  ·intro w2 hC hF
   simp only [upon]
   go_simp
   exact ⟨Below.refl _ _, rfl⟩
  simp only [put_lit, List.set_cons_succ, List.set_cons_zero]
  apply walk_nil
  intro w7 hC7 _
  go_wp2_with fail
  go_returns
  exact ⟨rfl, .none h.out hC7⟩
 have hr' : ¬ ((d.room : Nat) : Int) < ((d.used + l.length : Nat) : Int) := by omega
 have hl24 : l.length ≤ 16777216 := by have := hw.room; omega
 by_cases h0 : d.fails = 0
 ·have he : d.append x l = (d.crash d.keep, 51) := by unfold RD.append; rw [if_neg hd, if_neg ho, if_neg hr, if_pos h0]
  rw [he]
  have hdi := fun W (hW : Below w.heap.size w W) => diesR_0 W (h.below hW) hw (Nat.le_trans hn hW.size) h0
  unfold ofBlock at *
  replace h : Hid _ := h
  clear he hw hd hd' hBy ho ho' hr
  go_enter Tryz.func68, Tryz.ntmps68
  go_wp2_with (go_at_call 117; refine (hnm _).mono ?_; rintro e w3 ⟨rfl, hw3⟩; obtain rfl := hw3.symm)
  refine poised_whole (fun wz => Below w.heap.size w wz) (fun wy wz => Below w.heap.size wy wz) (by kernel_rfl) (by kernel_rfl) (by kernel_rfl) (fun _ _ h k => h.trans k) ((Below.refl _ _).drew) ?_
  apply Exists.intro
  apply walk_det
  ·rfl
  ·intro w2 hC hF
   simp only [upon]
   go_simp
   exact ⟨Below.refl _ _, rfl⟩
  simp only [put_lit, List.set_cons_succ, List.set_cons_zero]
  apply walk_det
  ·rfl
  ·intro w2 hC hF
   have y0 := (hC.cell (p := ⟨p, 0, none⟩) hpl).trans c0
   simp only [upon]
   go_simp
   exact still_call (hus w2 hC)
  simp only [put_lit, List.set_cons_succ, List.set_cons_zero]
  iterate 6
   apply walk_det
   ·rfl
   ·intro w2 hC hF
    simp only [upon]
    go_simp
    exact ⟨Below.refl _ _, rfl⟩
   simp only [put_lit, List.set_cons_succ, List.set_cons_zero]
  apply walk_det
  ·rfl
  ·intro w2 hC hF
   have y0 := (hC.cell (p := ⟨p, 0, none⟩) hpl).trans c0
   simp only [upon]
   go_simp
   exact ⟨Below.refl _ _, rfl⟩
  simp only [put_lit, List.set_cons_succ, List.set_cons_zero]
  apply walk_det
  ·rfl
  ·intro w2 hC hF
   simp only [upon]
   go_simp
   exact ⟨Below.refl _ _, rfl⟩
  simp only [put_lit, List.set_cons_succ, List.set_cons_zero]
  apply walk_nil
  intro w7 hC7 _
  go_wp2_with (go_at_call 119; refine (hdi w7 hC7).mono ?_; clear hdi; rintro e w4 ⟨rfl, h3⟩; replace h3 : Hid _ := h3)
  go_returns
  exact ⟨rfl, RTurns.step (Grown.of_below hC7) (fun k hk => .inl hk) h3.out⟩
 have he : d.append x l = ((d.tick.find x).1.grow (d.tick.find x).2 l, 0) := by unfold RD.append; rw [if_neg hd, if_neg ho, if_neg hr, if_neg h0]
 rw [he]
 have hdi := fun W (hW : Below w.heap.size w W) => diesR_1 W (h.below hW) h0 hw.fails
 have hwt := rwf_tick hw
 have hfi := fun W (hW : Below w.heap.size w W) => find_any r.nv d.now x n₀ W (h.below hW).now (by have := hw.now; omega)
 have hft : d.tick.files.length = d.files.length := rfl
 cases hf : fileR d x with
 | some i =>
  have hi := hw.look hf
  have hfi2 : d.tick.find x = (d.tick, i) := by unfold RD.find; rw [show fileR d.tick x = some i from hf]
  rw [hfi2]
  rw [idxOf_some hf] at hfi
  have hHL : (fileD d.tick i).b.length ≤ 16777216 := hwt.len _ (hwt.mem hi)
  unfold ofBlock at *
  have hidx : idxOf d.tick.now x = ((i : Nat) : Int) := idxOf_some hf
  replace hidx : Hid (idxOf d.tick.now x = ((i : Nat) : Int)) := hidx
  replace h : Hid _ := h
  clear he hd hd' ho ho' hr hf h0 hfi2
  go_enter Tryz.func68, Tryz.ntmps68
  go_wp2_with (go_at_call 117; refine (hnm _).mono ?_; rintro e w3 ⟨rfl, hw3⟩; obtain rfl := hw3.symm)
  refine poised_whole (fun wz => Below w.heap.size w wz) (fun wy wz => Below w.heap.size wy wz) (by kernel_rfl) (by kernel_rfl) (by kernel_rfl) (fun _ _ h k => h.trans k) ((Below.refl _ _).drew) ?_
  apply Exists.intro
  apply walk_det
  ·rfl
  ·intro w2 hC hF
   simp only [upon]
   go_simp
   exact ⟨Below.refl _ _, rfl⟩
  simp only [put_lit, List.set_cons_succ, List.set_cons_zero]
  apply walk_det
  ·rfl
  ·intro w2 hC hF
   have y0 := (hC.cell (p := ⟨p, 0, none⟩) hpl).trans c0
   simp only [upon]
   go_simp
   exact still_call (hus w2 hC)
  simp only [put_lit, List.set_cons_succ, List.set_cons_zero]
  iterate 6
   apply walk_det
   ·rfl
   ·intro w2 hC hF
    simp only [upon]
    go_simp
    exact ⟨Below.refl _ _, rfl⟩
   simp only [put_lit, List.set_cons_succ, List.set_cons_zero]
  apply walk_det
  ·rfl
  ·intro w2 hC hF
   have y0 := (hC.cell (p := ⟨p, 0, none⟩) hpl).trans c0
   simp only [upon]
   go_simp
   exact ⟨Below.refl _ _, rfl⟩
  simp only [put_lit, List.set_cons_succ, List.set_cons_zero]
  apply walk_det
  ·rfl
  ·intro w2 hC hF
   simp only [upon]
   go_simp
   exact ⟨Below.refl _ _, rfl⟩
  simp only [put_lit, List.set_cons_succ, List.set_cons_zero]
  apply walk_nil
  intro w7 hC7 _
  go_wp2_with (first
   |(go_at_call 119; refine (hdi w7 hC7).mono ?_; clear hdi; rintro e w4 ⟨rfl, h4, hG4, hz4⟩
     have c2' := (h4.cells).2.2.1
     have hfw : Calls Tryz.prog 120 #[r.nv, .string x] w4 fun e w' => e = .returned (.int .i64 (i : Nat)) ∧ w' = w4 := by
      have := find_any r.nv d.tick.now x n₀ w4 h4.now (by have := hw.now; show d.now.length ≤ _; omega)
      rw [show idxOf d.tick.now x = ((i : Nat) : Int) from hidx.out] at this
      exact this
     replace h4 : Hid _ := h4
     replace hG4 : Hid _ := hG4
     clear c0 c1 c2 c3 c4 c5 c6 c7)
   |(go_at_call 120; refine hfw.mono ?_; clear hfw; rintro e w5 ⟨rfl, hw5⟩; obtain rfl := hw5.symm))
  have hBw : Hid (RLies w4 p n₀ r d.tick) := h4.out
  obtain ⟨rB, hrB⟩ : ∃ rB : RRep, r = rB := ⟨_, rfl⟩
  obtain ⟨dB, hdB⟩ : ∃ dB : RD, d.tick = dB := ⟨_, rfl⟩
  have hGB : Grown (ownR p r d) w w4 := (Grown.of_below hC7).trans (hG4.out.mono (fun k hk => .inl hk)) (fun k hk => .inl hk)
  have hOB : ∀ k, ownR p rB dB k → ownR p r d k ∨ w.heap.size ≤ k := by rw [← hrB, ← hdB]; exact fun k hk => .inl hk
  have hixB : i < dB.files.length := by rw [← hdB]; exact hi
  have hlB : (fileD dB i).b.length ≤ 16777216 := by rw [← hdB]; exact hHL
  rw [hrB, hdB] at hBw
  have hByB := hBy w4 hGB
  obtain ⟨wB, hwB⟩ : ∃ wB : World, w4 = wB := ⟨_, rfl⟩
  rw [hwB] at hBw hGB hByB ⊢
  obtain ⟨e0, e1, e2, e3, e4, e5, e6, e7⟩ := hBw.out.cells
  have hplB := (Array.getElem?_eq_some_iff.1 hBw.out.top).1
  obtain ⟨gB, capB, eB, hgB, bB0, bB1⟩ := hBw.out.fileCells hixB
  have hdB' := hBw.out.data i hixB
  obtain ⟨bqB, bcB, hbeB⟩ := own_shape hdB'
  have hnB : n₀ ≤ wB.heap.size := Nat.le_trans hBw.out.base (Nat.le_of_lt hplB)
  rw [eB] at e1
  rw [hbeB] at bB0 hdB'
  have hilB : ((i : Nat) : Int) < (dB.files.length : Int) := by omega
  have hneF : ∀ k, (Value.slice bqB (fileD dB i).b.length bcB).ownBlock = some k → k ≠ gB ∧ k ≠ p := fun k hk => by
   have s1 := hBw.out.sB hixB (by rw [hbeB]; exact hk)
   exact ⟨fun e => by have s2 := hBw.out.sF (show rB.fv.ownBlock = some gB by rw [eB]; rfl); rw [e] at s1; omega, fun e => by have s2 := hBw.out.sP; rw [e] at s1; omega⟩
  have yB : ∀ W, wB.drew.grownBy W (Value.slice bqB (fileD dB i).b.length bcB).ownBlock → W.cell? ⟨p, 1, none⟩ = some (.slice (some ⟨gB, 0, none⟩) dB.files.length capB) ∧ W.cell? ⟨gB, i * 2, none⟩ = some (.slice bqB (fileD dB i).b.length bcB) ∧ W.frozen? ⟨gB, i * 2, none⟩ = false := fun W hW => by
   have a1 := hW.block p hplB (fun e => (hneF p e.symm).2 rfl)
   have a2 := hW.block gB hgB (fun e => (hneF gB e.symm).1 rfl)
   refine ⟨?_, ?_, ?_⟩
   ·have := e1; unfold World.cell? at this ⊢; rw [a1]; exact this
   ·have := bB0; unfold World.cell? at this ⊢; rw [a2]; exact this
   ·have := free_row hBw.out.files eB (Below.refl _ _) (i * 2); unfold World.frozen? at this ⊢; rw [a2]; exact this
  have hdD : wB.drew.ownsRow n₀ 5 1 (.slice bqB (fileD dB i).b.length bcB) (fileD dB i).b.length (encB (fileD dB i).b) := hdB'.drew
  replace yB : Hid _ := yB
  replace hneF : Hid _ := hneF
  replace hdD : Hid (wB.drew.ownsRow n₀ 5 1 (.slice bqB (fileD dB i).b.length bcB) (fileD dB i).b.length (encB (fileD dB i).b)) := hdD
  have hByD : BytesIn wB.drew (Value.slice vq l.length vc) l := hByB
  replace hByD : Hid (BytesIn wB.drew (Value.slice vq l.length vc) l) := hByD
  replace hByB : Hid _ := hByB
  replace eB : Hid _ := eB
  replace hbeB : Hid _ := hbeB
  replace hrB : Hid _ := hrB
  replace hdB : Hid _ := hdB
  replace hwB : Hid _ := hwB
  replace hGB : Hid _ := hGB
  replace hOB : Hid _ := hOB
  clear e0 e2 e3 e4 e5 e6 e7 bB1 hdB'
  go_region_law (refine step_append_bytes rfl (.tmp 84) (.tmp 85) rfl n₀ (.slice bqB (fileD dB i).b.length bcB) (Value.slice vq l.length vc) (fileD dB i).b l (by simp [Act.eval]) (by simp [Act.eval]) hdD.out hByD.out (by omega) hnB ?_; intro v9 w9 ho9 hg9 hwh9; obtain ⟨q9, c9, rfl⟩ := own_shape ho9; have k1 := (yB.out w9 hg9).1; have k2 := (yB.out w9 hg9).2.1; have k3 := (yB.out w9 hg9).2.2)
  all_goals
   go_wp2
   go_returns
   have hg9' : wB.grownBy w9 (rB.bv i).ownBlock := by rw [hbeB.out]; exact ⟨hg9.os, hg9.tape, hg9.output, hg9.size, hg9.block⟩
   have hwh9' : ∀ k, (Value.slice q9 ((fileD dB i).b ++ l).length c9).ownBlock = some k → (rB.bv i).ownBlock = some k ∨ wB.heap.size ≤ k := fun k hk => by rw [hbeB.out]; exact hwh9 k hk
   have hrow9 : w9.ownsRow n₀ 162 2 rB.fv dB.files.length (encF rB.bv dB.files) := World.ownsRow.kept hBw.out.files hg9' (rows_ne hBw.out.files (hBw.out.data i hixB) (by decide))
   have hrow9' := hrow9
   rw [eB.out] at hrow9'
   obtain ⟨hst, hgr⟩ := World.ownsRow.stored hrow9' (i * 2) (.slice q9 ((fileD dB i).b ++ l).length c9)
   have hea := encF_at rB.bv dB.files hixB
   have hse := hBw.out.setF hixB (w' := w9.setCell ⟨gB, i * 2, none⟩ (.slice q9 ((fileD dB i).b ++ l).length c9)) (x := .slice q9 ((fileD dB i).b ++ l).length c9) (f := ⟨(fileD dB i).b ++ l, (fileD dB i).mark⟩)
    (by rw [set_same (k := i * 2 + 1) (by rw [List.getElem?_set_ne (by omega)]; exact hea.2), eB.out]; exact hst)
    (World.ownsRow.kept ho9 hgr (rows_ne ho9 hrow9' (by decide))) hwh9'
    (fun k hk h1 h2 => (hgr.block k (Nat.lt_of_lt_of_le hk hg9.size) (fun e2 => h1 (by rw [eB.out, e2]; rfl))).trans (hg9'.block k hk (fun e2 => h2 e2.symm)))
   have hll9 : ((fileD dB i).b ++ l).length = (fileD dB i).b.length + l.length := List.length_append
   rw [hll9] at hse
   rw [hdB.out]
   refine ⟨rfl, .of (d' := dB.grow i l) hse.1 ?_ ?_⟩
   ·exact (hGB.out.trans (T := fun k => (rB.bv i).ownBlock = some k) (Grown.of_grownBy hg9' (fun k hk => .inl hk)) (fun x hx => hOB.out x (.inr (.inr (.inl ⟨i, hixB, hx⟩))))).setCell (p := ⟨gB, i * 2, none⟩) (hOB.out gB (.inr (.inl (by rw [eB.out]; rfl)))) _
   ·intro k hk
    rcases hse.2 k hk with h1 | h1
    ·exact hOB.out k h1
    ·exact .inr (Nat.le_trans hGB.out.size h1)
 | none =>
  have hfi2 : d.tick.find x = (d.tick.born.renamed ⟨#[]⟩ x (some d.tick.files.length), d.tick.files.length) := by unfold RD.find; rw [show fileR d.tick x = none from hf]
  rw [hfi2]
  obtain ⟨i2, hi2, hz20, hz21, hz22⟩ := info_parts info162
  obtain ⟨i3, hi3, hz30, hz31, hz32⟩ := info_parts info157
  have hidx : idxOf d.tick.now x = -1 := idxOf_none hf
  replace hidx : Hid (idxOf d.tick.now x = -1) := hidx
  have hHL : (fileD (d.tick.born.renamed ⟨#[]⟩ x (some d.tick.files.length)) d.tick.files.length).b.length ≤ 16777216 := by
   have : fileD (d.tick.born.renamed ⟨#[]⟩ x (some d.tick.files.length)) d.tick.files.length = ⟨[], 0⟩ := by
    show (d.tick.files ++ ([⟨[], 0⟩] : List FileS)).getD d.tick.files.length ⟨[], 0⟩ = _
    simp [List.getD_eq_getElem?_getD]
   rw [this]; simp
  have hixN : d.tick.files.length < (d.tick.born.renamed ⟨#[]⟩ x (some d.tick.files.length)).files.length := by
   show _ < (d.tick.files ++ ([⟨[], 0⟩] : List FileS)).length
   simp
  have hl1 := hw.files
  have hl2 := hw.now
  have hl3 := hw.works
  unfold ofBlock at *
  replace h : Hid _ := h
  replace hHL : Hid _ := hHL
  replace hixN : Hid _ := hixN
  replace hft : Hid _ := hft
  replace hz20 : Hid _ := hz20
  replace hz21 : Hid _ := hz21
  replace hz22 : Hid _ := hz22
  replace hz30 : Hid _ := hz30
  replace hz31 : Hid _ := hz31
  replace hz32 : Hid _ := hz32
  clear he hd hd' ho ho' hr hf h0 hfi2 hfi
  go_enter Tryz.func68, Tryz.ntmps68
  go_wp2_with (go_at_call 117; refine (hnm _).mono ?_; rintro e w3 ⟨rfl, hw3⟩; obtain rfl := hw3.symm)
  refine poised_whole (fun wz => Below w.heap.size w wz) (fun wy wz => Below w.heap.size wy wz) (by kernel_rfl) (by kernel_rfl) (by kernel_rfl) (fun _ _ h k => h.trans k) ((Below.refl _ _).drew) ?_
  apply Exists.intro
  apply walk_det
  ·rfl
  ·intro w2 hC hF
   simp only [upon]
   go_simp
   exact ⟨Below.refl _ _, rfl⟩
  simp only [put_lit, List.set_cons_succ, List.set_cons_zero]
  apply walk_det
  ·rfl
  ·intro w2 hC hF
   have y0 := (hC.cell (p := ⟨p, 0, none⟩) hpl).trans c0
   simp only [upon]
   go_simp
   exact still_call (hus w2 hC)
  simp only [put_lit, List.set_cons_succ, List.set_cons_zero]
  iterate 6
   apply walk_det
   ·rfl
   ·intro w2 hC hF
    simp only [upon]
    go_simp
    exact ⟨Below.refl _ _, rfl⟩
   simp only [put_lit, List.set_cons_succ, List.set_cons_zero]
  apply walk_det
  ·rfl
  ·intro w2 hC hF
   have y0 := (hC.cell (p := ⟨p, 0, none⟩) hpl).trans c0
   simp only [upon]
   go_simp
   exact ⟨Below.refl _ _, rfl⟩
  simp only [put_lit, List.set_cons_succ, List.set_cons_zero]
  apply walk_det
  ·rfl
  ·intro w2 hC hF
   simp only [upon]
   go_simp
   exact ⟨Below.refl _ _, rfl⟩
  simp only [put_lit, List.set_cons_succ, List.set_cons_zero]
  apply walk_nil
  intro w7 hC7 _
  go_wp2_with (first
   |(go_at_call 119; refine (hdi w7 hC7).mono ?_; clear hdi; rintro e w4 ⟨rfl, h4, hG4, hz4⟩
     obtain ⟨fq, fc, hfe⟩ := own_shape h4.files
     obtain ⟨nq, nc, hne⟩ := own_shape h4.now
     obtain ⟨wq, wc, hwe⟩ := own_shape h4.works
     obtain ⟨b0, b1, b2, b3, b4, b5, b6, b7⟩ := h4.cells
     have hp4 := (Array.getElem?_eq_some_iff.1 h4.top).1
     have hn4 : n₀ ≤ w4.heap.size := Nat.le_trans h4.base (Nat.le_of_lt hp4)
     have hfw : Calls Tryz.prog 120 #[r.nv, .string x] w4 fun e w' => e = .returned (.int .i64 (-1)) ∧ w' = w4 := by
      have := find_any r.nv d.tick.now x n₀ w4 h4.now (by show d.now.length ≤ _; omega)
      rw [hidx.out] at this
      exact this
     rw [hfe] at b1
     rw [hne] at b2 hfw
     have hrow4 := own_kept h4.files ((Below.refl w4.heap.size w4).alloc (Nat.le_refl _) (.cells #[.slice none 0 0, .int .i64 0] 162))
     rw [hfe] at hrow4
     have hpf : (Value.slice fq d.tick.files.length fc).ownBlock ≠ some p := fun e => by have s1 := h4.sF (show r.fv.ownBlock = some p by rw [hfe]; exact e); have s2 := h4.sP; omega
     have hl4 : d.tick.files.length ≤ 1073741824 := hl1
     replace h4 : Hid _ := h4
     replace hG4 : Hid _ := hG4
     replace hfe : Hid _ := hfe
     replace hne : Hid _ := hne
     replace hwe : Hid _ := hwe
     replace hpf : Hid _ := hpf
     replace hrow4 : Hid ((w4.alloc (.cells #[.slice none 0 0, .int .i64 0] 162)).ownsRow n₀ 162 2 (.slice fq d.tick.files.length fc) d.tick.files.length (encF r.bv d.tick.files)) := hrow4
     clear c0 c1 c2 c3 c4 c5 c6 c7 b0 b3 b4 b5 b6 b7
     replace hz4 : Hid _ := hz4
     have k1 : True := trivial)
   |(go_at_call 120; refine hfw.mono ?_; clear hfw; rintro e w5 ⟨rfl, hw5⟩; obtain rfl := hw5.symm)
   |(clear k1; at_builtin; refine wpList_append_at _ rfl _ _ 103 rfl n₀ 162 i2 (.agg #[.slice none 0 0, .int .i64 0]) 2 32 Tryz.underlying103 hi2 hz20.out hz21.out hz22.out rfl (by decide) (.slice fq d.tick.files.length fc) d.tick.files.length (encF r.bv d.tick.files) rfl hrow4.out ⟨w4.heap.size, 0, none⟩ 1 1 [.slice none 0 0, .int .i64 0] rfl rfl (cells_new2 w4 _ _ 162) (one2b none 0 0 0) (by unfold maxLen; omega) (by omega) (by simp; omega) ?_
     intro v5 w5 ho5 hg5 hwh5
     obtain ⟨q5, c5, rfl⟩ := own_shape ho5
     have tA : w5.heap[p]? = some (topR d.tick r) := (hg5.block p (by simp; omega) (fun e => hpf.out e.symm)).trans ((Below.heap_alloc _ _ _ hp4).trans h4.out.top)
     have fA := free_of tA 1
     have yA := (cells8 tA).2.1
     have tB := setCell_heap (i := 1) (v := .slice q5 (d.tick.files.length + 1) c5) tA
     have hs5 : ∀ k, k < w4.heap.size → k ≠ p → r.fv.ownBlock ≠ some k → (w5.setCell ⟨p, 1, none⟩ (.slice q5 (d.tick.files.length + 1) c5)).heap[k]? = w4.heap[k]? := fun k hk hkp hkf =>
      (Below.heap_setCell _ _ _ _ hkp).trans ((hg5.block k (by simp; omega) (fun e => hkf (by rw [hfe.out]; exact e.symm))).trans (Below.heap_alloc _ _ _ hk))
     have hp5 : ∀ g, (Value.slice q5 (d.tick.files.length + 1) c5).ownBlock = some g → g ≠ p := fun g hg e => by
      rcases hwh5 g hg with h1 | h1
      ·exact hpf.out (by rw [← e]; exact h1)
      ·simp at h1; omega
     have hborn := h4.out.bornTo (w' := w5.setCell ⟨p, 1, none⟩ (.slice q5 (d.tick.files.length + 1) c5)) (fv := .slice q5 (d.tick.files.length + 1) c5) tB hs5
      (row_same ho5 (fun g hg => Below.heap_setCell _ _ _ _ (hp5 g hg)))
      (fun k hk => by
       rw [hfe.out]
       rcases hwh5 k hk with h1 | h1
       ·exact .inl h1
       ·right; simp at h1; omega)
     have hGb : Grown (ownR p r d) w (w5.setCell ⟨p, 1, none⟩ (.slice q5 (d.tick.files.length + 1) c5)) :=
      (((((Grown.of_below hC7).trans (T := ownR p r d) (hG4.out.mono (fun k hk => .inl hk)) (fun k hk => .inl hk)).alloc (.cells #[.slice none 0 0, .int .i64 0] 162)).trans (T := ownR p r d) (Grown.of_grownBy hg5 (fun k hk => .inl (.inr (.inl (by rw [hfe.out]; exact hk))))) (fun k hk => .inl hk)).setCell (p := ⟨p, 1, none⟩) (.inl (.inl rfl)) _)
     obtain ⟨w6, hw6⟩ : ∃ w6, w5.setCell ⟨p, 1, none⟩ (.slice q5 (d.tick.files.length + 1) c5) = w6 := ⟨_, rfl⟩
     have hz6 : w4.heap.size ≤ w6.heap.size := by
      rw [← hw6]; have := hg5.size; simp at this ⊢; omega
     rw [hw6] at hborn hGb
     obtain ⟨hbo, hboo⟩ := hborn
     obtain ⟨e0, e1, e2, e3, e4, e5, e6, e7⟩ := hbo.cells
     have hp6 := (Array.getElem?_eq_some_iff.1 hbo.top).1
     have hnow6 := hbo.now
     simp only at e2 e4 hnow6
     rw [hne.out] at e2 hnow6
     have hwi := with_any (.slice nq d.tick.now.length nc) d.tick.now x d.tick.files.length n₀ w6 hnow6 (by show d.now.length ≤ _; omega)
     have y2 := (cells8 tA).2.2.1
     rw [hne.out] at y2
     replace hbo : Hid (RLies w6 p n₀ { r with fv := .slice q5 (d.tick.files.length + 1) c5, bv := upd r.bv d.tick.files.length (.slice none 0 0) } d.tick.born) := hbo
     replace hboo : Hid _ := hboo
     replace hGb : Hid _ := hGb
     replace hw6 : Hid (w5.setCell ⟨p, 1, none⟩ (.slice q5 (d.tick.files.length + 1) c5) = w6) := hw6
     replace hz6 : Hid (w4.heap.size ≤ w6.heap.size) := hz6
     clear e0 e1 e2 e3 e4 e5 e6 e7 tA tB hs5 hp5 hnow6 hg5 hwh5 ho5 b1 b2
     have k2 : True := trivial)
   |(clear k2; rw [hw6.out]; go_at_call 116; refine hwi.mono ?_; clear hwi; rintro e w10 ⟨v10, rfl, h10, hb10⟩
     obtain ⟨q10, c10, rfl⟩ := own_shape h10
     have tC := (hb10.block p hp6).trans hbo.out.top
     have fC := free_of tC 2
     have tC' : w10.heap[p]? = some (.cells #[_, _, _, _, _, _, _, _] 107) := tC
     have x2 := (cells8 tC').2.2.1
     have x4 := (cells8 tC').2.2.2.2.1
     simp only at x4
     rw [hwe.out] at x4
     have tD := setCell_heap (i := 2) (v := .slice q10 (withN x d.tick.files.length d.tick.now).length c10) tC
     obtain ⟨wD, hwD⟩ : ∃ wD, w10.setCell ⟨p, 2, none⟩ (.slice q10 (withN x d.tick.files.length d.tick.now).length c10) = wD := ⟨_, rfl⟩
     have hzD : wD.heap.size = w10.heap.size := by rw [← hwD]; simp
     rw [hwD] at tD
     have tD' : wD.heap[p]? = some (.cells #[_, _, _, _, _, _, _, _] 107) := tD
     have z4 := (cells8 tD').2.2.2.2.1
     simp only at z4
     rw [hwe.out] at z4
     have hwp : ∀ g, r.wv.ownBlock = some g → g ≠ p := fun g hg e => by
      have s1 := hbo.out.sW (show ({ r with fv := .slice q5 (d.tick.files.length + 1) c5, bv := upd r.bv d.tick.files.length (.slice none 0 0) } : RRep).wv.ownBlock = some g from hg); have s2 := hbo.out.sP; rw [e] at s1; omega
     have hwr := own_kept (row_same (own_kept hbo.out.works hb10) (w' := wD) (fun g hg => by rw [← hwD]; exact Below.heap_setCell _ _ _ _ (hwp g hg))) ((Below.refl wD.heap.size wD).alloc (Nat.le_refl _) (.cells #[.string ⟨#[]⟩, .string x, .int .i64 (d.tick.files.length : Nat)] 157))
     simp only at hwr
     rw [hwe.out] at hwr
     have hcn : ∀ j u, [Value.string ⟨#[]⟩, .string x, .int .i64 (d.tick.files.length : Nat)][j]? = some u → (wD.alloc (.cells #[.string ⟨#[]⟩, .string x, .int .i64 (d.tick.files.length : Nat)] 157)).cell? ((⟨w10.heap.size, 0, none⟩ : Addr).add j) = some u := by
      rw [← hzD]; exact cells_new3 wD _ _ _ 157
     have hn10 : n₀ ≤ w10.heap.size := Nat.le_trans hn4 (Nat.le_trans hz6.out hb10.size)
     have hwl4 : d.tick.works.length ≤ 1073741824 := hl3
     have hpD : p < wD.heap.size := (Array.getElem?_eq_some_iff.1 tD).1
     replace h10 : Hid (NamesAt w10 w6.heap.size (.slice q10 (withN x d.tick.files.length d.tick.now).length c10) (withN x d.tick.files.length d.tick.now)) := h10
     replace hwr : Hid ((wD.alloc (.cells #[.string ⟨#[]⟩, .string x, .int .i64 (d.tick.files.length : Nat)] 157)).ownsRow n₀ 157 3 (.slice wq d.tick.works.length wc) d.tick.works.length (d.tick.works.flatMap encWR)) := hwr
     replace hcn : Hid _ := hcn
     replace hwD : Hid (w10.setCell ⟨p, 2, none⟩ (.slice q10 (withN x d.tick.files.length d.tick.now).length c10) = wD) := hwD
     replace hzD : Hid (wD.heap.size = w10.heap.size) := hzD
     replace tD : Hid _ := tD
     replace hwp : Hid _ := hwp
     clear tC tC' tD'
     have k3 : True := trivial)
   |(clear k3; rw [hwD.out]; at_builtin; refine wpList_append_at _ rfl _ _ 105 rfl n₀ 157 i3 (.agg #[.string ⟨#[]⟩, .string ⟨#[]⟩, .int .i64 0]) 3 40 Tryz.underlying105 hi3 hz30.out hz31.out hz32.out rfl (by decide) (.slice wq d.tick.works.length wc) d.tick.works.length (d.tick.works.flatMap encWR) rfl hwr.out ⟨w10.heap.size, 0, none⟩ 1 1 [.string ⟨#[]⟩, .string x, .int .i64 (d.tick.files.length : Nat)] rfl rfl hcn.out (one3 _ _ _) (by unfold maxLen; omega) (by omega) (by have := hzD.out; simp; omega) ?_
     intro v11 w11 ho11 hg11 hwh11
     obtain ⟨q11, c11, rfl⟩ := own_shape ho11
     have tE := (hg11.block p (by simp; omega) (fun e => hwp.out p (by rw [hwe.out]; exact e.symm) rfl)).trans ((Below.heap_alloc _ _ _ hpD).trans tD.out)
     have fE := free_of tE 4
     have tE' : w11.heap[p]? = some (.cells #[_, _, _, _, _, _, _, _] 107) := tE
     have r4 := (cells8 tE').2.2.2.2.1
     clear tE tE'))
  have hE := renamed_end hbo.out (⟨#[]⟩ : ByteArray) x (some d.tick.files.length) (w1 := w10) (w2 := wD.alloc (.cells #[.string ⟨#[]⟩, .string x, .int .i64 (d.tick.files.length : Nat)] 157)) (w3 := w11) (q := q10) (c := c10) (m := (withN x d.tick.files.length d.tick.now).length) (q' := q11) (c' := c11) hb10
   (h10.out.lower (Nat.le_trans hn4 hz6.out)) (fun g hg => .inr (World.ownsRow.lt h10.out g hg).1)
   (by rw [hwD.out]; exact (Below.refl w10.heap.size wD).alloc (Nat.le_of_eq hzD.out.symm) _)
   (by show World.grownBy _ _ r.wv.ownBlock; rw [hwe.out]; exact hg11) ho11
   (fun k hk => by
    show r.wv.ownBlock = some k ∨ _
    rw [hwe.out]
    rcases hwh11 k hk with h9 | h9
    ·exact .inl h9
    ·right
     have a1 := hb10.size; have a2 := hzD.out
     simp at h9; omega)
  obtain ⟨hE1, hE2, hE3, hE4⟩ := hE
  have hown : ∀ k, ownR p { r with fv := .slice q5 (d.tick.files.length + 1) c5, bv := upd r.bv d.tick.files.length (.slice none 0 0) } d.tick.born k → ownR p r d k ∨ w.heap.size ≤ k := fun k hk => (hboo.out k hk).imp id (fun h => by have := hC7.size; have := hz4.out; omega)
  have hGE := hGb.out.trans hE2 hown
  have hOE : ∀ k, ownR p _ (d.tick.born.renamed ⟨#[]⟩ x (some d.tick.files.length)) k → ownR p r d k ∨ w.heap.size ≤ k := fun k hk => (hE3 k hk).elim (hown k) (fun h => by have a1 := hC7.size; have a2 := hz4.out; have a3 := hz6.out; exact .inr (by omega))
  replace hE1 : Hid _ := hE1
  replace hGE : Hid _ := hGE
  replace hOE : Hid _ := hOE
  clear hE2 hE3 hE4 r4 fE hg11 hwh11 ho11 x2 x4 z4 fC
  have hBw : Hid (RLies (w11.setCell ⟨p, 4, none⟩ (.slice q11 (d.tick.works.length + 1) c11)) p n₀ { r with fv := .slice q5 (d.tick.files.length + 1) c5, bv := upd r.bv d.tick.files.length (.slice none 0 0), nv := .slice q10 (withN x d.tick.files.length d.tick.now).length c10, wv := .slice q11 (d.tick.works.length + 1) c11 } (d.tick.born.renamed ⟨#[]⟩ x (some d.tick.files.length))) := hE1.out
  obtain ⟨rB, hrB⟩ : ∃ rB : RRep, { r with fv := .slice q5 (d.tick.files.length + 1) c5, bv := upd r.bv d.tick.files.length (.slice none 0 0), nv := .slice q10 (withN x d.tick.files.length d.tick.now).length c10, wv := .slice q11 (d.tick.works.length + 1) c11 } = rB := ⟨_, rfl⟩
  obtain ⟨dB, hdB⟩ : ∃ dB : RD, (d.tick.born.renamed ⟨#[]⟩ x (some d.tick.files.length)) = dB := ⟨_, rfl⟩
  have hGB : Grown (ownR p r d) w (w11.setCell ⟨p, 4, none⟩ (.slice q11 (d.tick.works.length + 1) c11)) := hGE.out
  have hOB : ∀ k, ownR p rB dB k → ownR p r d k ∨ w.heap.size ≤ k := by rw [← hrB, ← hdB]; exact hOE.out
  have hixB : d.tick.files.length < dB.files.length := by rw [← hdB]; exact hixN.out
  have hlB : (fileD dB d.tick.files.length).b.length ≤ 16777216 := by rw [← hdB]; exact hHL.out
  rw [hrB, hdB] at hBw
  have hByB := hBy (w11.setCell ⟨p, 4, none⟩ (.slice q11 (d.tick.works.length + 1) c11)) hGB
  obtain ⟨wB, hwB⟩ : ∃ wB : World, (w11.setCell ⟨p, 4, none⟩ (.slice q11 (d.tick.works.length + 1) c11)) = wB := ⟨_, rfl⟩
  rw [hwB] at hBw hGB hByB ⊢
  obtain ⟨e0, e1, e2, e3, e4, e5, e6, e7⟩ := hBw.out.cells
  have hplB := (Array.getElem?_eq_some_iff.1 hBw.out.top).1
  obtain ⟨gB, capB, eB, hgB, bB0, bB1⟩ := hBw.out.fileCells hixB
  have hdB' := hBw.out.data d.tick.files.length hixB
  obtain ⟨bqB, bcB, hbeB⟩ := own_shape hdB'
  have hnB : n₀ ≤ wB.heap.size := Nat.le_trans hBw.out.base (Nat.le_of_lt hplB)
  rw [eB] at e1
  rw [hbeB] at bB0 hdB'
  have hilB : ((d.tick.files.length : Nat) : Int) < (dB.files.length : Int) := by omega
  have hneF : ∀ k, (Value.slice bqB (fileD dB d.tick.files.length).b.length bcB).ownBlock = some k → k ≠ gB ∧ k ≠ p := fun k hk => by
   have s1 := hBw.out.sB hixB (by rw [hbeB]; exact hk)
   exact ⟨fun e => by have s2 := hBw.out.sF (show rB.fv.ownBlock = some gB by rw [eB]; rfl); rw [e] at s1; omega, fun e => by have s2 := hBw.out.sP; rw [e] at s1; omega⟩
  have yB : ∀ W, wB.drew.grownBy W (Value.slice bqB (fileD dB d.tick.files.length).b.length bcB).ownBlock → W.cell? ⟨p, 1, none⟩ = some (.slice (some ⟨gB, 0, none⟩) dB.files.length capB) ∧ W.cell? ⟨gB, d.tick.files.length * 2, none⟩ = some (.slice bqB (fileD dB d.tick.files.length).b.length bcB) ∧ W.frozen? ⟨gB, d.tick.files.length * 2, none⟩ = false := fun W hW => by
   have a1 := hW.block p hplB (fun e => (hneF p e.symm).2 rfl)
   have a2 := hW.block gB hgB (fun e => (hneF gB e.symm).1 rfl)
   refine ⟨?_, ?_, ?_⟩
   ·have := e1; unfold World.cell? at this ⊢; rw [a1]; exact this
   ·have := bB0; unfold World.cell? at this ⊢; rw [a2]; exact this
   ·have := free_row hBw.out.files eB (Below.refl _ _) (d.tick.files.length * 2); unfold World.frozen? at this ⊢; rw [a2]; exact this
  have hdD : wB.drew.ownsRow n₀ 5 1 (.slice bqB (fileD dB d.tick.files.length).b.length bcB) (fileD dB d.tick.files.length).b.length (encB (fileD dB d.tick.files.length).b) := hdB'.drew
  replace yB : Hid _ := yB
  replace hneF : Hid _ := hneF
  replace hdD : Hid (wB.drew.ownsRow n₀ 5 1 (.slice bqB (fileD dB d.tick.files.length).b.length bcB) (fileD dB d.tick.files.length).b.length (encB (fileD dB d.tick.files.length).b)) := hdD
  have hByD : BytesIn wB.drew (Value.slice vq l.length vc) l := hByB
  replace hByD : Hid (BytesIn wB.drew (Value.slice vq l.length vc) l) := hByD
  replace hByB : Hid _ := hByB
  replace eB : Hid _ := eB
  replace hbeB : Hid _ := hbeB
  replace hrB : Hid _ := hrB
  replace hdB : Hid _ := hdB
  replace hwB : Hid _ := hwB
  replace hGB : Hid _ := hGB
  replace hOB : Hid _ := hOB
  clear e0 e2 e3 e4 e5 e6 e7 bB1 hdB'
  go_region_law (refine step_append_bytes rfl (.tmp 84) (.tmp 85) rfl n₀ (.slice bqB (fileD dB d.tick.files.length).b.length bcB) (Value.slice vq l.length vc) (fileD dB d.tick.files.length).b l (by simp [Act.eval]) (by simp [Act.eval]) hdD.out hByD.out (by omega) hnB ?_; intro v9 w9 ho9 hg9 hwh9; obtain ⟨q9, c9, rfl⟩ := own_shape ho9; have k1 := (yB.out w9 hg9).1; have k2 := (yB.out w9 hg9).2.1; have k3 := (yB.out w9 hg9).2.2)
  all_goals
   go_wp2
   go_returns
   have hg9' : wB.grownBy w9 (rB.bv d.tick.files.length).ownBlock := by rw [hbeB.out]; exact ⟨hg9.os, hg9.tape, hg9.output, hg9.size, hg9.block⟩
   have hwh9' : ∀ k, (Value.slice q9 ((fileD dB d.tick.files.length).b ++ l).length c9).ownBlock = some k → (rB.bv d.tick.files.length).ownBlock = some k ∨ wB.heap.size ≤ k := fun k hk => by rw [hbeB.out]; exact hwh9 k hk
   have hrow9 : w9.ownsRow n₀ 162 2 rB.fv dB.files.length (encF rB.bv dB.files) := World.ownsRow.kept hBw.out.files hg9' (rows_ne hBw.out.files (hBw.out.data d.tick.files.length hixB) (by decide))
   have hrow9' := hrow9
   rw [eB.out] at hrow9'
   obtain ⟨hst, hgr⟩ := World.ownsRow.stored hrow9' (d.tick.files.length * 2) (.slice q9 ((fileD dB d.tick.files.length).b ++ l).length c9)
   have hea := encF_at rB.bv dB.files hixB
   have hse := hBw.out.setF hixB (w' := w9.setCell ⟨gB, d.tick.files.length * 2, none⟩ (.slice q9 ((fileD dB d.tick.files.length).b ++ l).length c9)) (x := .slice q9 ((fileD dB d.tick.files.length).b ++ l).length c9) (f := ⟨(fileD dB d.tick.files.length).b ++ l, (fileD dB d.tick.files.length).mark⟩)
    (by rw [set_same (k := d.tick.files.length * 2 + 1) (by rw [List.getElem?_set_ne (by omega)]; exact hea.2), eB.out]; exact hst)
    (World.ownsRow.kept ho9 hgr (rows_ne ho9 hrow9' (by decide))) hwh9'
    (fun k hk h1 h2 => (hgr.block k (Nat.lt_of_lt_of_le hk hg9.size) (fun e2 => h1 (by rw [eB.out, e2]; rfl))).trans (hg9'.block k hk (fun e2 => h2 e2.symm)))
   have hll9 : ((fileD dB d.tick.files.length).b ++ l).length = (fileD dB d.tick.files.length).b.length + l.length := List.length_append
   rw [hll9] at hse
   rw [hdB.out]
   refine ⟨rfl, .of (d' := dB.grow d.tick.files.length l) hse.1 ?_ ?_⟩
   ·exact (hGB.out.trans (T := fun k => (rB.bv d.tick.files.length).ownBlock = some k) (Grown.of_grownBy hg9' (fun k hk => .inl hk)) (fun x hx => hOB.out x (.inr (.inr (.inl ⟨d.tick.files.length, hixB, hx⟩))))).setCell (p := ⟨gB, d.tick.files.length * 2, none⟩) (hOB.out gB (.inr (.inl (by rw [eB.out]; rfl)))) _
   ·intro k hk
    rcases hse.2 k hk with h1 | h1
    ·exact hOB.out k h1
    ·exact .inr (Nat.le_trans hGB.out.size h1)
end Go.Proofs.YtmcmagplaflegaaGreatDoor

namespace Go.Proofs.YtmcmagplaflegaaGreatDoor
open Go Go.RowKit Go.MapL Go.Poised

/-- A disk of the document's that is alike to a sound one of the program's. -/
structure RSound (m : Nat) (d : RD) : Prop where
 ex : ∃ L s, SimB L s d ∧ Sound m s
variable {p n₀ m k : Nat} {d : RD} {s : DS} {L : List Nat} {w w' w'' : World} {K K' : Nat → Prop}
theorem SimB.sound (h : SimB L s d) (hs : Sound m s) : RSound m d := ⟨L, s, h, hs⟩
theorem RSound.mono (h : RSound m d) (hk : m ≤ k) : RSound k d := by
 obtain ⟨L, s, h1, h2⟩ := h.ex
 exact ⟨L, s, h1, h2.mono hk⟩
theorem inc_len : ∀ (L : List Nat) (a b : Nat), L.Pairwise (· < ·) → (∀ x ∈ L, a < x ∧ x ≤ b) → a ≤ b → L.length ≤ b - a
 | [], a, b, _, _, _ => Nat.zero_le _
 | x :: L, a, b, h, hb, hab => by
  obtain ⟨h1, h2⟩ := List.pairwise_cons.1 h
  have hx := hb x (.head _)
  have := inc_len L x b h2 (fun y hy => ⟨h1 y hy, (hb y (.tail _ hy)).2⟩) hx.2
  rw [List.length_cons]
  omega
theorem Nms.len {B : Nat → Nat} {n : Nat} {l m : NL} (h : Nms B n l m) : m.length = l.length := by rw [h.perm.length_eq, List.length_map]
theorem SimB.fewL (h : SimB L s d) : L.length ≤ s.births := by
 have := inc_len L 0 s.births h.inc (fun x hx => by have := h.births x hx; omega) (Nat.zero_le _)
 omega
theorem RSound.wf (h : RSound m d) (hm : m ≤ 1073741824) : RWF d := by
 obtain ⟨L, s, h1, h2⟩ := h.ex
 have hn : d.files.length = L.length := by rw [h1.files, List.length_map]
 have hL := h1.fewL
 have hnb := h2.nb
 have hnn := h2.nn
 have hnk := h2.nk
 have hnw := h2.nw
 have e1 := h1.now.len
 have e2 := h1.kept.len
 have e3 : d.works.length = s.works.length := by rw [h1.works, List.length_map]
 refine ⟨by rw [h1.room]; exact h2.wf.room, by omega, by omega, by omega, by omega, fun q hq i hi => by rw [hn]; exact (h1.wlow q hq i hi).1, fun q hq => by rw [hn]; exact h1.now.low q hq, fun q hq => by rw [hn]; exact h1.kept.low q hq, fun f hf => ?_, fun f hf => ?_, fun f hf => ?_, by rw [h1.fails]; exact h2.wf.fails, by rw [h1.keep]; exact h2.wf.keepB, by rw [h1.keep]; exact h2.wf.keepL⟩
 ·rw [h1.files] at hf
  obtain ⟨b, _, rfl⟩ := List.mem_map.1 hf
  exact h2.wf.bytes b
 ·rw [h1.files] at hf
  obtain ⟨b, _, rfl⟩ := List.mem_map.1 hf
  exact h2.wf.len b
 ·rw [h1.files] at hf
  obtain ⟨b, _, rfl⟩ := List.mem_map.1 hf
  exact h2.wf.mark b
theorem RSound.crash (h : RSound m d) (keep : List Int) : RSound m (d.crash keep) := by
 obtain ⟨L, s, h1, h2⟩ := h.ex
 obtain ⟨L', h3⟩ := h1.crash keep
 exact h3.sound (sound_crash h2 keep)
theorem RSound.append (h : RSound m d) (hm : m < 536870912) (x : ByteArray) (l : List Nat) (hl : ∀ x ∈ l, x < 256) : RSound (m + 2) (d.append x l).1 := by
 obtain ⟨L, s, h1, h2⟩ := h.ex
 obtain ⟨_, L', h3⟩ := h1.append x l (fun q hq => (h2.wf.names q hq).2)
 exact h3.sound (sound_append h2 hm x l hl)
theorem RSound.sync (h : RSound m d) (x : ByteArray) : RSound m (d.sync x).1 := by
 obtain ⟨L, s, h1, h2⟩ := h.ex
 obtain ⟨_, L', h3⟩ := h1.sync x
 exact h3.sound (sound_sync h2 x)
theorem RSound.remove (h : RSound m d) (hm : m < 536870912) (x : ByteArray) : RSound (m + 1) (d.remove x).1 := by
 obtain ⟨L, s, h1, h2⟩ := h.ex
 obtain ⟨_, L', h3⟩ := h1.remove x
 exact h3.sound (sound_remove h2 hm x)
theorem RSound.rename (h : RSound m d) (hm : m < 536870912) (x y : ByteArray) : RSound (m + 1) (d.rename x y).1 := by
 obtain ⟨L, s, h1, h2⟩ := h.ex
 obtain ⟨_, L', h3⟩ := h1.rename x y
 exact h3.sound (sound_rename h2 hm x y)
theorem RSound.syncNames (h : RSound m d) : RSound m d.syncNames.1 := by
 obtain ⟨L, s, h1, h2⟩ := h.ex
 obtain ⟨_, L', h3⟩ := h1.syncNames
 exact h3.sound (sound_syncNames h2)
theorem RSound.boot (h : RSound m d) : RSound m d.boot := by
 obtain ⟨L, s, h1, h2⟩ := h.ex
 exact h1.boot.sound (sound_boot h2)
theorem RSound.fail (h : RSound m d) (n : Int) (keep : List Int) (hn : n ≤ 9223372036854775807) (h1 : ∀ x ∈ keep, -9223372036854775808 ≤ x ∧ x ≤ 9223372036854775807) (h2 : keep.length ≤ 17592186044416) : RSound m (d.fail n keep) := by
 obtain ⟨L, s, h3, h4⟩ := h.ex
 exact (h3.fail n keep).sound (sound_fail h4 n keep hn h1 h2)
theorem RSound.cut (h : RSound m d) (x : ByteArray) (n : Int) : RSound m (d.cut x n).1 := by
 obtain ⟨L, s, h1, h2⟩ := h.ex
 obtain ⟨_, L', h3⟩ := h1.cut x n
 exact h3.sound (sound_cut h2 x n)
theorem RSound.turn (h : RSound m d) (x : ByteArray) (i bit : Int) : RSound m (d.turn x i bit).1 := by
 obtain ⟨L, s, h1, h2⟩ := h.ex
 obtain ⟨_, L', h3⟩ := h1.turn x i bit
 exact h3.sound (sound_turn h2 x i bit)

/-- The document's disk d lies at p, none of its blocks is below n₀, no more than m works were done, and it has none of the blocks K. -/
structure RLive (w : World) (p n₀ m : Nat) (d : RD) (K : Nat → Prop) : Prop where
 ex : ∃ r, RLies w p n₀ r d ∧ ∀ g, K g → g < w.heap.size ∧ ¬ ownR p r d g
 sound : RSound m d
 base : n₀ ≤ w.heap.size
theorem RLive.lt (h : RLive w p n₀ m d K) : ∀ g, K g → g < w.heap.size := fun g hg => by
 obtain ⟨r, _, hK⟩ := h.ex
 exact (hK g hg).1
theorem RLive.mono (h : RLive w p n₀ m d K) (hm : m ≤ k) : RLive w p n₀ k d K := ⟨h.ex, h.sound.mono hm, h.base⟩
theorem RLive.sub (h : RLive w p n₀ m d K) (hK : ∀ g, K' g → K g) : RLive w p n₀ m d K' := by
 obtain ⟨r, hL, h1⟩ := h.ex
 exact ⟨⟨r, hL, fun g hg => h1 g (hK g hg)⟩, h.sound, h.base⟩
theorem RLive.more (h : RLive w p n₀ m d K) (hb : Below w.heap.size w w') (hK : ∀ g, K' g → K g ∨ (w.heap.size ≤ g ∧ g < w'.heap.size)) : RLive w' p n₀ m d K' := by
 obtain ⟨r, hL, h1⟩ := h.ex
 refine ⟨⟨r, hL.below hb, fun g hg => ?_⟩, h.sound, Nat.le_trans h.base hb.size⟩
 rcases hK g hg with h2 | h2
 ·exact ⟨Nat.lt_of_lt_of_le (h1 g h2).1 hb.size, (h1 g h2).2⟩
 ·exact ⟨h2.2, fun ho => by have := (hL.lt g ho).2; omega⟩
theorem RLive.below (h : RLive w p n₀ m d K) (hb : Below w.heap.size w w') : RLive w' p n₀ m d K := h.more hb (fun _ hg => .inl hg)
theorem RLive.set (h : RLive w p n₀ m d K) (hs : ∀ g, g < w.heap.size → ¬ K g → w'.heap[g]? = w.heap[g]?) (hz : w.heap.size ≤ w'.heap.size) : RLive w' p n₀ m d K := by
 obtain ⟨r, hL, h1⟩ := h.ex
 refine ⟨⟨r, hL.same (fun k hk => hs k (hL.lt k hk).2 (fun hg => (h1 k hg).2 hk)), fun g hg => ⟨Nat.lt_of_lt_of_le (h1 g hg).1 hz, (h1 g hg).2⟩⟩, h.sound, Nat.le_trans h.base hz⟩
theorem RLive.kept (h : RLive w p n₀ m d K) (hb : Below w.heap.size w w') : Kept K n₀ w w' := .of_below hb h.base h.lt
/-- The disk's blocks. -/
theorem RLive.top (h : RLive w p n₀ m d K) : p < w.heap.size ∧ n₀ ≤ p ∧ ¬ K p ∧ w.cell? ⟨p, 5, none⟩ = some (.bool d.dead) := by
 obtain ⟨r, hL, h1⟩ := h.ex
 exact ⟨(hL.lt p (.inl rfl)).2, hL.base, fun hp => (h1 p hp).2 (.inl rfl), (cells8 hL.top).2.2.2.2.2.1⟩

theorem rlive_call {P : Program} {f : FuncId} {args : Array Value} {X : Ending} {m' : Nat} {d' : RD} (h : RLive w p n₀ m d K) (hs : RSound m' d')
  (hc : ∀ r, RLies w p n₀ r d → (∀ w', Grown (ownR p r d) w w' → Kept K n₀ w w') → Calls P f args w fun e w' => e = X ∧ RTurns w w' p n₀ r d d') :
  Calls P f args w fun e w' => e = X ∧ RLive w' p n₀ m' d' K ∧ Kept K n₀ w w' := by
 obtain ⟨r, hL, hK⟩ := h.ex
 have hk : ∀ w', Grown (ownR p r d) w w' → Kept K n₀ w w' := fun w' hg => ⟨hg.below h.base (fun k hk => (hL.lt k hk).1), fun g hg' => hg.block g (hK g hg').1 (fun hf => (hK g hg').2 hf)⟩
 refine (hc r hL hk).mono ?_
 rintro e w' ⟨rfl, r', h1, h2, h3⟩
 exact ⟨rfl, ⟨⟨r', h1, fun g hg => ⟨Nat.lt_of_lt_of_le (hK g hg).1 h2.size, fun ho => (h3 g ho).elim (hK g hg).2 (fun h4 => by have := (hK g hg).1; omega)⟩⟩, hs, Nat.le_trans h.base h2.size⟩, hk w' h2⟩
theorem rlive_append (x : ByteArray) (v : Value) (l : List Nat) (h : RLive w p n₀ m d K) (hm : m < 536870912) (hx : x.size ≤ 9223372036854775807) (hl : ∀ x ∈ l, x < 256) (hlen : l.length ≤ 4611686018427387904) (hv : ∀ w', Kept K n₀ w w' → BytesIn w' v l) :
  Calls Tryz.prog 68 #[ofBlock p, .string x, v] w fun e w' => e = .returned (.int .i64 (d.append x l).2) ∧ RLive w' p n₀ (m + 2) (d.append x l).1 K ∧ Kept K n₀ w w' :=
 rlive_call h (h.sound.append hm x l hl) fun _ hL hk => appendR_any x v l w hL (h.sound.wf (by omega)) h.base hx hlen (fun w' hg => hv w' (hk w' hg))
theorem rlive_sync (x : ByteArray) (h : RLive w p n₀ m d K) (hm : m < 536870912) :
  Calls Tryz.prog 112 #[ofBlock p, .string x] w fun e w' => e = .returned (.int .i64 (d.sync x).2) ∧ RLive w' p n₀ m (d.sync x).1 K ∧ Kept K n₀ w w' :=
 rlive_call h (h.sound.sync x) fun _ hL _ => syncR_any x w hL (h.sound.wf (by omega)) h.base
theorem rlive_remove (x : ByteArray) (h : RLive w p n₀ m d K) (hm : m < 536870912) :
  Calls Tryz.prog 110 #[ofBlock p, .string x] w fun e w' => e = .returned (.int .i64 (d.remove x).2) ∧ RLive w' p n₀ (m + 1) (d.remove x).1 K ∧ Kept K n₀ w w' :=
 rlive_call h (h.sound.remove hm x) fun _ hL _ => removeR_any x w hL (h.sound.wf (by omega)) h.base
theorem rlive_rename (x y : ByteArray) (h : RLive w p n₀ m d K) (hm : m < 536870912) (hy : y.size ≤ 9223372036854775807) :
  Calls Tryz.prog 140 #[ofBlock p, .string x, .string y] w fun e w' => e = .returned (.int .i64 (d.rename x y).2) ∧ RLive w' p n₀ (m + 1) (d.rename x y).1 K ∧ Kept K n₀ w w' :=
 rlive_call h (h.sound.rename hm x y) fun _ hL _ => renameR_any x y hy w hL (h.sound.wf (by omega)) h.base
theorem rlive_syncNames (h : RLive w p n₀ m d K) (hm : m < 536870912) :
  Calls Tryz.prog 113 #[ofBlock p] w fun e w' => e = .returned (.int .i64 d.syncNames.2) ∧ RLive w' p n₀ m d.syncNames.1 K ∧ Kept K n₀ w w' :=
 rlive_call h h.sound.syncNames fun _ hL _ => syncNamesR_any w hL (h.sound.wf (by omega)) h.base
theorem rlive_cut (x : ByteArray) (n : Int) (h : RLive w p n₀ m d K) (hm : m < 536870912) (h1 : -9223372036854775808 ≤ n) (h2 : n ≤ 9223372036854775807) :
  Calls Tryz.prog 138 #[ofBlock p, .string x, .int .i64 n] w fun e w' => e = .returned (.int .i64 (d.cut x n).2) ∧ RLive w' p n₀ m (d.cut x n).1 K ∧ Kept K n₀ w w' :=
 rlive_call h (h.sound.cut x n) fun _ hL _ => cutR_any x n h1 h2 w hL (h.sound.wf (by omega)) h.base
theorem rlive_turn (x : ByteArray) (i bit : Int) (h : RLive w p n₀ m d K) (hm : m < 536870912) (h1 : -9223372036854775808 ≤ i) (h2 : i ≤ 9223372036854775807) (h3 : -9223372036854775808 ≤ bit) (h4 : bit ≤ 9223372036854775807) :
  Calls Tryz.prog 71 #[ofBlock p, .string x, .int .i64 i, .int .i64 bit] w fun e w' => e = .returned (.int .i64 (d.turn x i bit).2) ∧ RLive w' p n₀ m (d.turn x i bit).1 K ∧ Kept K n₀ w w' :=
 rlive_call h (h.sound.turn x i bit) fun _ hL _ => turnR_any x i bit h1 h2 h3 h4 w hL (h.sound.wf (by omega)) h.base
theorem rlive_fail (n : Int) (v : Value) (keep : List Int) (h : RLive w p n₀ m d K) (h1 : -9223372036854775808 ≤ n) (h2 : n ≤ 9223372036854775807) (hv : ∀ w', Kept K n₀ w w' → IntsIn w' v keep) (hl : keep.length ≤ 17592186044416) :
  Calls Tryz.prog 67 #[ofBlock p, .int .i64 n, v] w fun e w' => e = .returned (.tuple #[]) ∧ RLive w' p n₀ m (d.fail n keep) K ∧ Kept K n₀ w w' :=
 rlive_call h (h.sound.fail n keep h2 (hv w (Kept.refl _ _ _)).1 hl) fun _ hL hk => failR_any n v keep w hL h.base h1 h2 (fun w' hg => hv w' (hk w' ⟨hg.os, hg.tape, hg.output, hg.size, fun g hl hn => hg.block g hl (fun e => hn (.inl e))⟩)) hl
theorem rlive_crash (v : Value) (keep : List Int) (h : RLive w p n₀ m d K) (hm : m < 536870912) (hv : IntsIn w v keep) :
  Calls Tryz.prog 65 #[ofBlock p, v] w fun e w' => e = .returned (.tuple #[]) ∧ RLive w' p n₀ m (d.crash keep) K ∧ Kept K n₀ w w' :=
 rlive_call h (h.sound.crash keep) fun _ hL _ => crashR_any v keep w hL (h.sound.wf (by omega)) h.base hv
theorem rlive_boot (h : RLive w p n₀ m d K) :
  Calls Tryz.prog 66 #[ofBlock p] w fun e w' => e = .returned (.tuple #[]) ∧ RLive w' p n₀ m d.boot K ∧ Kept K n₀ w w' :=
 rlive_call h h.sound.boot fun _ hL _ => bootR_any w hL
theorem rlive_read (x : ByteArray) (h : RLive w p n₀ m d K) (hm : m < 536870912) :
  Calls Tryz.prog 77 #[ofBlock p, .string x] w fun e w' => ∃ v, e = .returned (.tuple #[v, .int .i64 (readR d x).2]) ∧ w'.ownsRow w.heap.size 5 1 v (readR d x).1.length (encB (readR d x).1) ∧ Below w.heap.size w w' := by
 obtain ⟨r, hL, _⟩ := h.ex
 exact readR_any x w hL (h.sound.wf (by omega))
theorem rlive_size (x : ByteArray) (h : RLive w p n₀ m d K) (hm : m < 536870912) :
  Calls Tryz.prog 69 #[ofBlock p, .string x] w fun e w' => e = .returned (.tuple #[.int .i64 ((readR d x).1.length : Nat), .int .i64 (readR d x).2]) ∧ Below w.heap.size w w' := by
 obtain ⟨r, hL, _⟩ := h.ex
 exact sizeR_any x w hL (h.sound.wf (by omega))
theorem rlive_names (h : RLive w p n₀ m d K) (hm : m < 536870912) :
  Calls Tryz.prog 75 #[ofBlock p] w fun e w' => ∃ v, e = .returned v ∧ w'.ownsRow w.heap.size 9 1 v (namesR d).length ((namesR d).map Value.string) ∧ Below w.heap.size w w' := by
 obtain ⟨r, hL, _⟩ := h.ex
 exact namesR_any w hL (h.sound.wf (by omega))
theorem rlive_new (room : Nat) (hroom : room ≤ 16777216) (w : World) :
  Calls Tryz.prog 25 #[.int .i64 room] w fun e w' => e = .returned (.tuple #[ofBlock w.heap.size, .int .i64 0]) ∧ Below w.heap.size w w' ∧ RLive w' w.heap.size w.heap.size 0 (RD.new room) (fun _ => False) :=
 (newR_any room hroom w).mono fun _ _ hh => ⟨hh.1, hh.2.1, ⟨⟨_, hh.2.2, fun _ hf => hf.elim⟩, (sim_new room).sound (sound_new hroom), hh.2.1.size⟩⟩
theorem readR_bytes (h : RSound m d) (x : ByteArray) : (∀ y ∈ (readR d x).1, y < 256) ∧ (readR d x).1.length ≤ 16777216 := by
 obtain ⟨L, s, h1, h2⟩ := h.ex
 rw [← h1.read x]
 unfold readRes
 split
 ·exact ⟨fun y hy => (List.not_mem_nil hy).elim, by simp⟩
 ·split
  ·exact ⟨fun y hy => (List.not_mem_nil hy).elim, by simp⟩
  ·exact ⟨h2.wf.bytes _, h2.wf.len _⟩
end Go.Proofs.YtmcmagplaflegaaGreatDoor

namespace Go.Proofs.YtmcmagplaflegaaGreatDoor
open Go Go.RowKit Go.MapL Go.Poised

variable {pd pu n₀ m m' : Nat} {s s' : DS} {d d' : RD} {w w' : World} {K K' : Nat → Prop}
/-- The program's disk lies at pd, the document's at pu; neither has a block of the other's, nor one of K. -/
structure Both (w : World) (pd pu n₀ m : Nat) (s : DS) (d : RD) (K : Nat → Prop) : Prop where
 ex : ∃ r r', Lies w pd n₀ r s ∧ RLies w pu n₀ r' d ∧ (∀ g, own pd r s g → ¬ ownR pu r' d g) ∧ ∀ g, K g → g < w.heap.size ∧ ¬ own pd r s g ∧ ¬ ownR pu r' d g
 sl : Sound m s
 sr : RSound m d
 base : n₀ ≤ w.heap.size
theorem Both.lt (h : Both w pd pu n₀ m s d K) : ∀ g, K g → g < w.heap.size := fun g hg => by
 obtain ⟨_, _, _, _, _, hK⟩ := h.ex
 exact (hK g hg).1
theorem Both.kept (h : Both w pd pu n₀ m s d K) (hb : Below w.heap.size w w') : Kept K n₀ w w' := .of_below hb h.base h.lt
theorem Both.more (h : Both w pd pu n₀ m s d K) (hb : Below w.heap.size w w') (hK : ∀ g, K' g → K g ∨ (w.heap.size ≤ g ∧ g < w'.heap.size)) : Both w' pd pu n₀ m s d K' := by
 obtain ⟨r, r', hL, hR, hd, h1⟩ := h.ex
 refine ⟨⟨r, r', hL.below hb, hR.below hb, hd, fun g hg => ?_⟩, h.sl, h.sr, Nat.le_trans h.base hb.size⟩
 rcases hK g hg with h2 | h2
 ·exact ⟨Nat.lt_of_lt_of_le (h1 g h2).1 hb.size, (h1 g h2).2⟩
 ·exact ⟨h2.2, fun ho => by have := (hL.own_lt g ho).1; omega, fun ho => by have := (hR.lt g ho).2; omega⟩
theorem Both.below (h : Both w pd pu n₀ m s d K) (hb : Below w.heap.size w w') : Both w' pd pu n₀ m s d K := h.more hb (fun _ hg => .inl hg)
theorem Both.sub (h : Both w pd pu n₀ m s d K) (hK : ∀ g, K' g → K g) : Both w pd pu n₀ m s d K' := by
 obtain ⟨r, r', hL, hR, hd, h1⟩ := h.ex
 exact ⟨⟨r, r', hL, hR, hd, fun g hg => h1 g (hK g hg)⟩, h.sl, h.sr, h.base⟩
theorem Both.mono (h : Both w pd pu n₀ m s d K) (hm : m ≤ m') : Both w pd pu n₀ m' s d K := ⟨h.ex, h.sl.mono hm, h.sr.mono hm, h.base⟩
theorem Both.set (h : Both w pd pu n₀ m s d K) (hs : ∀ g, g < w.heap.size → ¬ K g → w'.heap[g]? = w.heap[g]?) (hz : w.heap.size ≤ w'.heap.size) : Both w' pd pu n₀ m s d K := by
 obtain ⟨r, r', hL, hR, hd, h1⟩ := h.ex
 refine ⟨⟨r, r', hL.same (fun k hk => hs k (hL.own_lt k hk).1 (fun hg => (h1 k hg).2.1 hk)), hR.same (fun k hk => hs k (hR.lt k hk).2 (fun hg => (h1 k hg).2.2 hk)), hd, fun g hg => ⟨Nat.lt_of_lt_of_le (h1 g hg).1 hz, (h1 g hg).2⟩⟩, h.sl, h.sr, Nat.le_trans h.base hz⟩
/-- The program's disk alone; F are the blocks of the document's. -/
theorem Both.left (h : Both w pd pu n₀ m s d K) : ∃ F : Nat → Prop, Live w pd n₀ m s (fun g => K g ∨ F g) ∧ (∀ g, F g → g < w.heap.size ∧ ¬ K g) ∧ RSound m d ∧
  ∀ (w' : World) (s' : DS) (m' : Nat) (K' : Nat → Prop), Live w' pd n₀ m' s' (fun g => K' g ∨ F g) → (∀ g, F g → w'.heap[g]? = w.heap[g]?) → (∀ g, K' g → K g ∨ w.heap.size ≤ g) → m ≤ m' → Both w' pd pu n₀ m' s' d K' := by
 obtain ⟨r, r', hL, hR, hd, h1⟩ := h.ex
 refine ⟨ownR pu r' d, ⟨⟨r, hL, fun g hg => ?_⟩, h.sl, h.base⟩, fun g hg => ⟨(hR.lt g hg).2, fun hk => (h1 g hk).2.2 hg⟩, h.sr, fun w' s' m' K' hL' hF hK' hm => ?_⟩
 ·rcases hg with hg | hg
  ·exact ⟨(h1 g hg).1, (h1 g hg).2.1⟩
  ·exact ⟨(hR.lt g hg).2, fun ho => hd g ho hg⟩
 ·obtain ⟨q, hq, hq2⟩ := hL'.ex
  refine ⟨⟨q, r', hq, hR.same hF, fun g ho hF2 => (hq2 g (.inr hF2)).2 ho, fun g hg => ⟨(hq2 g (.inl hg)).1, (hq2 g (.inl hg)).2, fun ho => ?_⟩⟩, hL'.sound, h.sr.mono hm, hL'.base⟩
  rcases hK' g hg with h2 | h2
  ·exact (h1 g h2).2.2 ho
  ·have := (hR.lt g ho).2; omega
/-- The document's disk alone; F are the blocks of the program's. -/
theorem Both.right (h : Both w pd pu n₀ m s d K) : ∃ F : Nat → Prop, RLive w pu n₀ m d (fun g => K g ∨ F g) ∧ (∀ g, F g → g < w.heap.size ∧ ¬ K g) ∧ Sound m s ∧
  ∀ (w' : World) (d' : RD) (m' : Nat) (K' : Nat → Prop), RLive w' pu n₀ m' d' (fun g => K' g ∨ F g) → (∀ g, F g → w'.heap[g]? = w.heap[g]?) → (∀ g, K' g → K g ∨ w.heap.size ≤ g) → m ≤ m' → Both w' pd pu n₀ m' s d' K' := by
 obtain ⟨r, r', hL, hR, hd, h1⟩ := h.ex
 refine ⟨own pd r s, ⟨⟨r', hR, fun g hg => ?_⟩, h.sr, h.base⟩, fun g hg => ⟨(hL.own_lt g hg).1, fun hk => (h1 g hk).2.1 hg⟩, h.sl, fun w' d' m' K' hL' hF hK' hm => ?_⟩
 ·rcases hg with hg | hg
  ·exact ⟨(h1 g hg).1, (h1 g hg).2.2⟩
  ·exact ⟨(hL.own_lt g hg).1, fun ho => hd g hg ho⟩
 ·obtain ⟨q, hq, hq2⟩ := hL'.ex
  refine ⟨⟨r, q, hL.same hF, hq, fun g ho hF2 => (hq2 g (.inr ho)).2 hF2, fun g hg => ⟨(hq2 g (.inl hg)).1, fun ho => ?_, (hq2 g (.inl hg)).2⟩⟩, h.sl.mono hm, hL'.sound, hL'.base⟩
  rcases hK' g hg with h2 | h2
  ·exact (h1 g h2).2.1 ho
  ·have := (hL.own_lt g ho).1; omega
/-- The document's disk is made beside the program's. -/
theorem Both.make {K₁ : Nat → Prop} (h : Live w pd n₀ m s K) (hb : Below w.heap.size w w') (hR : RLive w' pu w.heap.size 0 d K₁) (hK : ∀ g, K' g → K g ∨ (K₁ g ∧ w.heap.size ≤ g)) (hn : n₀ ≤ w.heap.size) (hlt : ∀ g, K g → g < w.heap.size) : Both w' pd pu n₀ m s d K' := by
 obtain ⟨r, hL, h1⟩ := h.ex
 obtain ⟨r', hR1, h2⟩ := hR.ex
 have hR2 : RLies w' pu n₀ r' d := ⟨hR1.top, own_base' hR1.files hn, fun i hi => own_base' (hR1.data i hi) hn, hR1.rowInj, own_base' hR1.now hn, own_base' hR1.kept hn, own_base' hR1.works hn, own_base' hR1.keep hn, Nat.le_trans hn hR1.base⟩
 refine ⟨⟨r, r', hL.below hb, hR2, fun g ho ho2 => ?_, fun g hg => ?_⟩, h.sound, hR.sound.mono (Nat.zero_le _), Nat.le_trans hn hb.size⟩
 ·have := (hL.own_lt g ho).1
  have := (hR1.lt g ho2).1
  omega
 ·rcases hK g hg with h3 | ⟨h3, h4⟩
  ·exact ⟨Nat.lt_of_lt_of_le (hlt g h3) hb.size, (h1 g h3).2, fun ho => by have := (hR1.lt g ho).1; have := hlt g h3; omega⟩
  ·exact ⟨(h2 g h3).1, fun ho => by have := (hL.own_lt g ho).1; omega, (h2 g h3).2⟩
end Go.Proofs.YtmcmagplaflegaaGreatDoor

namespace Go.Proofs.YtmcmagplaflegaaGreatDoor
open Go Go.RowKit Go.MapL

/-- The two disks are alike, and the program's is sound. -/
structure Alike (m : Nat) (s : DS) (d : RD) : Prop where
 ex : ∃ L, SimB L s d
 sound : Sound m s
structure AlikeQ (m : Nat) (q : DS × Int) (r : RD × Int) : Prop where
 code : q.2 = r.2
 al : Alike m q.1 r.1
variable {m k : Nat} {s : DS} {d : RD} {q : DS × Int} {r : RD × Int}
theorem Alike.mono (h : Alike m s d) (hk : m ≤ k) : Alike k s d := ⟨h.ex, h.sound.mono hk⟩
theorem AlikeQ.mono (h : AlikeQ m q r) (hk : m ≤ k) : AlikeQ k q r := ⟨h.code, h.al.mono hk⟩
theorem Alike.dead (h : Alike m s d) : d.dead = s.dead := by obtain ⟨L, h1⟩ := h.ex; exact h1.dead
theorem Alike.read (h : Alike m s d) (x : ByteArray) : readRes s x = readR d x := by obtain ⟨L, h1⟩ := h.ex; exact h1.read x
theorem Alike.names (h : Alike m s d) : namesOf s = namesR d := by obtain ⟨L, h1⟩ := h.ex; exact h1.names
theorem Alike.crash (h : Alike m s d) (keep : List Int) : Alike m (s.crash keep) (d.crash keep) := by
 obtain ⟨L, h1⟩ := h.ex
 exact ⟨h1.crash keep, sound_crash h.sound keep⟩
theorem Alike.boot (h : Alike m s d) : Alike m s.boot d.boot := by
 obtain ⟨L, h1⟩ := h.ex
 exact ⟨⟨L, h1.boot⟩, sound_boot h.sound⟩
theorem Alike.fail (h : Alike m s d) (n : Int) (keep : List Int) (hn : n ≤ 9223372036854775807) (h1 : ∀ x ∈ keep, -9223372036854775808 ≤ x ∧ x ≤ 9223372036854775807) (h2 : keep.length ≤ 17592186044416) : Alike m (s.fail n keep) (d.fail n keep) := by
 obtain ⟨L, h3⟩ := h.ex
 exact ⟨⟨L, h3.fail n keep⟩, sound_fail h.sound n keep hn h1 h2⟩
theorem Alike.append (h : Alike m s d) (hm : m < 536870912) (x : ByteArray) (l : List Nat) (hl : ∀ x ∈ l, x < 256) : AlikeQ (m + 2) (s.append x l) (d.append x l) := by
 obtain ⟨L, h1⟩ := h.ex
 obtain ⟨h2, h3⟩ := h1.append x l (fun q hq => (h.sound.wf.names q hq).2)
 exact ⟨h2, h3, sound_append h.sound hm x l hl⟩
theorem Alike.sync (h : Alike m s d) (x : ByteArray) : AlikeQ m (s.sync x) (d.sync x) := by
 obtain ⟨L, h1⟩ := h.ex
 obtain ⟨h2, h3⟩ := h1.sync x
 exact ⟨h2, h3, sound_sync h.sound x⟩
theorem Alike.remove (h : Alike m s d) (hm : m < 536870912) (x : ByteArray) : AlikeQ (m + 1) (s.remove x) (d.remove x) := by
 obtain ⟨L, h1⟩ := h.ex
 obtain ⟨h2, h3⟩ := h1.remove x
 exact ⟨h2, h3, sound_remove h.sound hm x⟩
theorem Alike.rename (h : Alike m s d) (hm : m < 536870912) (x y : ByteArray) : AlikeQ (m + 1) (s.rename x y) (d.rename x y) := by
 obtain ⟨L, h1⟩ := h.ex
 obtain ⟨h2, h3⟩ := h1.rename x y
 exact ⟨h2, h3, sound_rename h.sound hm x y⟩
theorem Alike.syncNames (h : Alike m s d) : AlikeQ m s.syncNames d.syncNames := by
 obtain ⟨L, h1⟩ := h.ex
 obtain ⟨h2, h3⟩ := h1.syncNames
 exact ⟨h2, h3, sound_syncNames h.sound⟩
theorem Alike.cut (h : Alike m s d) (x : ByteArray) (n : Int) : AlikeQ m (s.cut x n) (d.cut x n) := by
 obtain ⟨L, h1⟩ := h.ex
 obtain ⟨h2, h3⟩ := h1.cut x n
 exact ⟨h2, h3, sound_cut h.sound x n⟩
theorem Alike.turn (h : Alike m s d) (x : ByteArray) (n bit : Int) : AlikeQ m (s.turn x n bit) (d.turn x n bit) := by
 obtain ⟨L, h1⟩ := h.ex
 obtain ⟨h2, h3⟩ := h1.turn x n bit
 exact ⟨h2, h3, sound_turn h.sound x n bit⟩
theorem alike_new {room : Nat} (h : room ≤ 16777216) : Alike 0 (DS.new room) (RD.new room) := ⟨⟨[], sim_new room⟩, sound_new h⟩
/-! ### works, one behind the other -/
def thenR (q : RD × Int) (f : RD → RD × Int) : RD × Int := if q.2 = 0 then f q.1 else q
theorem thenR_yes {q : RD × Int} {f : RD → RD × Int} (h : q.2 = 0) : thenR q f = f q.1 := if_pos h
theorem thenR_no {q : RD × Int} {f : RD → RD × Int} (h : ¬ q.2 = 0) : thenR q f = q := if_neg h
theorem AlikeQ.then {f : DS → DS × Int} {g : RD → RD × Int} (h : AlikeQ m q r) (hk : m ≤ k) (hfg : q.2 = 0 → AlikeQ k (f q.1) (g r.1)) : AlikeQ k (thenD q f) (thenR r g) := by
 unfold thenD thenR
 rw [← h.code]
 by_cases hz : q.2 = 0
 ·rw [if_pos hz, if_pos hz]; exact hfg hz
 ·rw [if_neg hz, if_neg hz]; exact h.mono hk
/-! ### a journal -/
def hasR (d : RD) (x : ByteArray) : Bool := decide ((readR d x).2 = 0)
def dropNewR (d : RD) : RD × Int := if hasR d jM = true then d.remove jM else (d, 0)
def readRD (d : RD) : RD × Int :=
 if hasR d jN = true then
  match recs (readR d jN).1 with
  | none => (d, 70)
  | some (_, c) => if c < (readR d jN).1.length then d.cut jN c else (d, 0)
 else d.append jN []
def readRL (d : RD) : List (List Nat) := if hasR d jN = true then listOf (recs (readR d jN).1) else []
def openR (d : RD) : RD × Int := if d.dead = true then (d, 51) else thenR (thenR (thenR (dropNewR d) readRD) (fun d => d.sync jN)) RD.syncNames
def openRL (d : RD) : List (List Nat) := readRL (dropNewR d).1
theorem Alike.has (h : Alike m s d) (hd : s.dead = false) (x : ByteArray) : isIn x (namesOf s) = hasR d x := by
 rw [isIn_names hd]
 unfold hasR
 rw [← h.read x]
 unfold readRes
 rw [hd]
 cases fileOf s x with
 | none => rfl
 | some i => rfl
theorem Alike.dropNew (h : Alike m s d) (hm : m < 536870912) (hd : s.dead = false) : AlikeQ (m + 1) (dropNew s) (dropNewR d) := by
 unfold YtmcmagplaflegaaGreatDoor.dropNew dropNewR
 rw [h.has hd jM]
 split
 ·exact h.remove hm jM
 ·exact ⟨rfl, h.mono (by omega)⟩
theorem Alike.readD (h : Alike m s d) (hm : m < 536870912) (hd : s.dead = false) : AlikeQ (m + 2) (readD s) (readRD d) := by
 unfold YtmcmagplaflegaaGreatDoor.readD readRD
 rw [h.has hd jN, h.read jN]
 split
 ·cases recs (readR d jN).1 with
  | none => exact ⟨rfl, h.mono (Nat.le_add_right m 2)⟩
  | some x =>
   obtain ⟨l, c⟩ := x
   simp only
   split
   ·exact (h.cut jN _).mono (Nat.le_add_right m 2)
   ·exact ⟨rfl, h.mono (Nat.le_add_right m 2)⟩
 ·exact h.append hm jN [] (fun x hx => (List.not_mem_nil hx).elim)
theorem Alike.readL (h : Alike m s d) (hd : s.dead = false) : readL s = readRL d := by
 unfold YtmcmagplaflegaaGreatDoor.readL readRL
 rw [h.has hd jN, h.read jN]
theorem Alike.open (h : Alike m s d) (hm : m < 134217728) : AlikeQ (m + 3) (openD s) (openR d) := by
 unfold openD openR
 rw [h.dead]
 by_cases hd : s.dead = true
 ·rw [if_pos hd, if_pos hd]; exact ⟨rfl, h.mono (by omega)⟩
 ·rw [if_neg hd, if_neg hd]
  have hd' : s.dead = false := by simpa using hd
  refine AlikeQ.then (AlikeQ.then (AlikeQ.then (h.dropNew (by omega) hd') (by omega) (fun hz => ((h.dropNew (by omega) hd').al.readD (by omega) (dropNew_alive hd' hz)))) (Nat.le_refl _) (fun _ => ?_)) (Nat.le_refl _) (fun _ => ?_)
  ·have := AlikeQ.then (h.dropNew (by omega) hd') (k := m + 3) (f := YtmcmagplaflegaaGreatDoor.readD) (g := readRD) (by omega) (fun hz => ((h.dropNew (by omega) hd').al.readD (by omega) (dropNew_alive hd' hz)))
   exact this.al.sync jN
  ·have := AlikeQ.then (AlikeQ.then (h.dropNew (by omega) hd') (k := m + 3) (f := YtmcmagplaflegaaGreatDoor.readD) (g := readRD) (by omega) (fun hz => ((h.dropNew (by omega) hd').al.readD (by omega) (dropNew_alive hd' hz)))) (k := m + 3) (f := fun s => s.sync jN) (g := fun d => d.sync jN) (Nat.le_refl _) (fun _ => by
    have := AlikeQ.then (h.dropNew (by omega) hd') (k := m + 3) (f := YtmcmagplaflegaaGreatDoor.readD) (g := readRD) (by omega) (fun hz => ((h.dropNew (by omega) hd').al.readD (by omega) (dropNew_alive hd' hz)))
    exact this.al.sync jN)
   exact this.al.syncNames
theorem open_zero_drop {s : DS} (h : (openD s).2 = 0) : s.dead = false ∧ (YtmcmagplaflegaaGreatDoor.dropNew s).2 = 0 := by
 unfold openD at h
 by_cases hd : s.dead = true
 ·rw [if_pos hd] at h; cases h
 ·rw [if_neg hd] at h
  refine ⟨by simpa using hd, ?_⟩
  by_cases hz : (YtmcmagplaflegaaGreatDoor.dropNew s).2 = 0
  ·exact hz
  ·exfalso
   have e1 : thenD (YtmcmagplaflegaaGreatDoor.dropNew s) YtmcmagplaflegaaGreatDoor.readD = YtmcmagplaflegaaGreatDoor.dropNew s := thenD_no hz
   rw [e1] at h
   have e2 : thenD (YtmcmagplaflegaaGreatDoor.dropNew s) (fun s => s.sync jN) = YtmcmagplaflegaaGreatDoor.dropNew s := thenD_no hz
   rw [e2] at h
   have e3 : thenD (YtmcmagplaflegaaGreatDoor.dropNew s) DS.syncNames = YtmcmagplaflegaaGreatDoor.dropNew s := thenD_no hz
   rw [e3] at h
   exact hz h
theorem Alike.openL (h : Alike m s d) (hm : m < 134217728) (hz : (openD s).2 = 0) : openL s = openRL d := by
 obtain ⟨h1, h2⟩ := open_zero_drop hz
 exact (h.dropNew (by omega) h1).al.readL (dropNew_alive h1 h2)
def replR (d : RD) (l : List Nat) : RD × Int := thenR (thenR (thenR (d.append jM l) (fun d => d.sync jM)) (fun d => d.rename jM jN)) RD.syncNames
theorem Alike.repl (h : Alike m s d) (hm : m < 134217728) (l : List Nat) (hl : ∀ x ∈ l, x < 256) : AlikeQ (m + 3) (replD s l) (replR d l) := by
 unfold replD replR
 have h1 := h.append (by omega) jM l hl
 have h2 : AlikeQ (m + 2) (thenD (s.append jM l) (fun s => s.sync jM)) (thenR (d.append jM l) (fun d => d.sync jM)) := h1.then (Nat.le_refl _) (fun _ => h1.al.sync jM)
 have h3 : AlikeQ (m + 3) (thenD (thenD (s.append jM l) (fun s => s.sync jM)) (fun s => s.rename jM jN)) (thenR (thenR (d.append jM l) (fun d => d.sync jM)) (fun d => d.rename jM jN)) := h2.then (by omega) (fun _ => h2.al.rename (by omega) jM jN)
 exact h3.then (Nat.le_refl _) (fun _ => h3.al.syncNames)
structure Jr where
 d : RD
 many : Nat
 safe : Nat
 br : Bool
def Jr.after (j : Jr) (q : RD × Int) (f : Jr → Jr) : Jr × Int :=
 if q.2 = 0 then (f { j with d := q.1 }, 0) else if q.2 = 52 then ({ j with d := q.1 }, 52) else ({ j with d := q.1, br := true }, 51)
def Jr.append (j : Jr) (b : List Nat) : Jr × Int :=
 if j.br = true then (j, 51) else if (recRes ((j.many : Int) + 1) b).2 = 0 then j.after (j.d.append jN (recRes ((j.many : Int) + 1) b).1) (fun j => { j with many := j.many + 1 }) else (j, (recRes ((j.many : Int) + 1) b).2)
def Jr.sync (j : Jr) : Jr × Int := if j.br = true then (j, 51) else j.after (j.d.sync jN) (fun j => { j with safe := j.many })
def Jr.checkpoint (j : Jr) (L : List (List Nat)) : Jr × Int :=
 if j.br = true then (j, 51) else if (listRes L).2 = 0 then j.after (replR j.d (listRes L).1) (fun j => { j with many := L.length, safe := L.length }) else (j, (listRes L).2)
structure AlikeJ (m : Nat) (j : Jn) (r : Jr) : Prop where
 al : Alike m j.s r.d
 many : j.many = r.many
 safe : j.kept = r.safe
 br : j.br = r.br
theorem AlikeJ.mono {j : Jn} {r : Jr} (h : AlikeJ m j r) (hk : m ≤ k) : AlikeJ k j r := ⟨h.al.mono hk, h.many, h.safe, h.br⟩
theorem AlikeJ.after {j : Jn} {r : Jr} {q : DS × Int} {q' : RD × Int} (h : AlikeJ m j r) (hq : AlikeQ k q q') {f : Jn → Jn} {g : Jr → Jr} (hfg : ∀ j r, AlikeJ k j r → j.many = r.many → AlikeJ k (f j) (g r)) : (j.after q f).2 = (r.after q' g).2 ∧ AlikeJ k (j.after q f).1 (r.after q' g).1 := by
 unfold Jn.after Jr.after
 rw [← hq.code]
 split
 ·exact ⟨rfl, hfg _ _ ⟨hq.al, h.many, h.safe, h.br⟩ h.many⟩
 split
 ·exact ⟨rfl, hq.al, h.many, h.safe, h.br⟩
 ·exact ⟨rfl, hq.al, h.many, h.safe, rfl⟩
theorem AlikeJ.append {j : Jn} {r : Jr} (h : AlikeJ m j r) (hm : m < 134217728) (b : List Nat) (hb : ∀ x ∈ b, x < 256) (hl : b.length ≤ 140737488355328) : (j.append b).2 = (r.append b).2 ∧ AlikeJ (m + 2) (j.append b).1 (r.append b).1 := by
 unfold Jn.append Jr.append
 rw [← h.br, ← h.many]
 split
 ·exact ⟨rfl, h.mono (by omega)⟩
 split
 ·exact h.after (h.al.append (by omega) jN _ (recRes_byte _ b hb hl).1) (fun j r h e => ⟨h.al, by show j.many + 1 = r.many + 1; rw [e], h.safe, h.br⟩)
 ·exact ⟨rfl, h.mono (by omega)⟩
theorem AlikeJ.sync {j : Jn} {r : Jr} (h : AlikeJ m j r) : j.sync.2 = r.sync.2 ∧ AlikeJ m j.sync.1 r.sync.1 := by
 unfold Jn.sync Jr.sync
 rw [← h.br]
 split
 ·exact ⟨rfl, h⟩
 ·exact h.after (h.al.sync jN) (fun j r h e => ⟨h.al, h.many, e, h.br⟩)
theorem AlikeJ.checkpoint {j : Jn} {r : Jr} (h : AlikeJ m j r) (hm : m < 134217728) (L : List (List Nat)) (hL : ∀ l ∈ L, ∀ x ∈ l, x < 256) : (j.checkpoint L).2 = (r.checkpoint L).2 ∧ AlikeJ (m + 3) (j.checkpoint L).1 (r.checkpoint L).1 := by
 unfold Jn.checkpoint Jr.checkpoint
 rw [← h.br]
 split
 ·exact ⟨rfl, h.mono (by omega)⟩
 split
 ·exact h.after (h.al.repl (by omega) _ (listRes_byte hL).1) (fun j r h e => ⟨h.al, rfl, rfl, h.br⟩)
 ·exact ⟨rfl, h.mono (by omega)⟩
end Go.Proofs.YtmcmagplaflegaaGreatDoor
