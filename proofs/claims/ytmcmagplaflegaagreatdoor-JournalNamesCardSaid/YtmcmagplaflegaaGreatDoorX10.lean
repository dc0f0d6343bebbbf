/-
 A LIST's FIRST ONES, CUT: some. Conditions: those of each theorem.
 WHAT RECORD WRITES, RECORDS READS: the statement, walked. Conditions: those of each theorem.
-/
import Derived.Test.YtmcmagplaflegaaGreatDoorX9

namespace Go.Proofs.YtmcmagplaflegaaGreatDoor
open Go Go.RowKit Go.MapL Go.Poised

/-- A copy of bytes. -/
def CopyV (n : Nat) (l : List Nat) (v : Value) (w : World) : Prop := w.ownsRow n 5 1 v l.length (encB l)
def CopyW (n : Nat) (l : List Nat) (v : Value) (w : World) : Prop := ∃ B u, v = .slice (some ⟨B, 0, none⟩) 1 1 ∧ w.heap[B]? = some (.cells #[u] 32) ∧ CopyV n l u w
theorem CopyV.last {n : Nat} {l : List Nat} {v : Value} {w w' : World} (hR : Below w.heap.size w w') (h : CopyV n l v w) : CopyV n l v w' := own_kept h hR
theorem CopyW.last {n : Nat} {l : List Nat} {v : Value} {w w' : World} (hR : Below w.heap.size w w') (h : CopyW n l v w) : CopyW n l v w' := by
 obtain ⟨B, u, h1, h2, h3⟩ := h
 exact ⟨B, u, h1, (hR.block B (Array.getElem?_eq_some_iff.1 h2).1).trans h2, h3.last hR⟩
theorem copy_made {n : Nat} {l : List Nat} {u : Value} {w : World} (h : CopyV n l u w) : CopyW n l (.slice (some ⟨w.heap.size, 0, none⟩) 1 1) (w.alloc (.cells #[u] 32)) :=
 ⟨_, u, rfl, heap_new _ _, h.last ((Below.refl _ _).alloc (Nat.le_refl _) _)⟩
/-- The first ones of a list, cut. -/
def firstOnes (L : List (List Nat)) : List (List Nat) := (L.take 20).map (·.take 200)
set_option maxRecDepth 100000 in
set_option maxHeartbeats 8000000 in
theorem some_any (v : Value) (L : List (Value × List Nat)) (w : World) (h : ArgR w v L) :
  Calls Tryz.prog 8 #[v] w fun e w' => ∃ u M, e = .returned u ∧ RowsAt w' w.heap.size u M ∧ M.map (·.2) = firstOnes (L.map (·.2)) ∧ Below w.heap.size w w' := by
 obtain ⟨i23, hi23, hz23, hs23, hb23⟩ := info_parts info32
 obtain ⟨hLl, ⟨p, cap, rfl, hcap, hc⟩, heach⟩ := h
 replace hc : Hid _ := hc
 replace heach : Hid _ := heach
 replace hz23 : Hid _ := hz23
 replace hs23 : Hid _ := hs23
 replace hb23 : Hid _ := hb23
 go_enter Tryz.func8, Tryz.ntmps8
 go_wp2_with fail
 go_loopw [4, 3] (fun i o wr => ∃ (k : Nat) (M : List (Value × List Nat)), k ≤ L.length ∧ k ≤ 20 ∧ i = .int .i64 k ∧ RowsAt wr w.heap.size o M ∧ M.length = k ∧ M.map (·.2) = ((L.map (·.2)).take k).map (·.take 200) ∧ Below w.heap.size w wr) (fun i _ _ => 20 - (intOf i).toNat)
 case atStart => exact ⟨0, [], by omega, by omega, rfl, RowsAt.nil _ _, rfl, by simp, Below.refl _ _⟩
 case round =>
  obtain ⟨k, M, hk, hk20, rfl, hM, hMl, hMm, hB⟩ := hrel
  replace hMm : Hid _ := hMm
  replace hMl : Hid (M.length = k) := hMl
  obtain ⟨uq, ucap, ho⟩ := own_shape hM.row
  by_cases hlt : k < L.length
  ·have hlt' : (k : Int) < (L.length : Int) := by omega
   by_cases hlt2 : k < 20
   ·have hlt2' : (k : Int) < 20 := by omega
    obtain ⟨b, off, rfl, hcell0⟩ := hc.out k hlt
    have hcell := (hB.cell (p := ⟨b, off + k, none⟩) (lt_of_cell hcell0)).trans hcell0
    have hbl := lt_of_cell hcell
    obtain ⟨hx, xq, xcap, hxe, hxc⟩ := heach.out L[k] (List.getElem_mem hlt)
    have hx2 := hx.below hB
    have hnext : Hid (((L.map (·.2)).take (k + 1)).map (fun x : List Nat => x.take 200) = ((L.map (·.2)).take k).map (fun x : List Nat => x.take 200) ++ [L[k].2.take 200]) := by
     show _ = _
     rw [List.take_succ_eq_append_getElem (by simpa using hlt), List.map_append]; simp
    obtain ⟨ml, hml⟩ : ∃ ml, min L[k].2.length 200 = ml := ⟨_, rfl⟩
    have hmi : min (L[k].2.length : Int) 200 = (ml : Int) := by omega
    have hmlen : ml ≤ L[k].2.length := by omega
    have hm200 : ml ≤ 200 := by omega
    obtain ⟨l, hl⟩ : ∃ l, L[k].2.take 200 = l := ⟨_, rfl⟩
    have hl2 : L[k].2.take ml = l := by rw [← hl, ← hml, Nat.min_comm]; exact (List.take_eq_take_min).symm
    have hll : l.length = ml := by rw [← hl2, List.length_take]; omega
    have hsl0 : BytesIn wr (.slice xq ml xcap) l := by
     rw [hxe] at hx2
     obtain ⟨_, _, _, e9, h10, _⟩ := hx2.take ml hmlen
     cases e9
     rw [hl2] at h10
     exact h10
    have hsl : ∀ W, Below wr.heap.size wr W → BytesIn W (.slice xq ml xcap) l := fun W hW => hsl0.below hW
    have hmc : ml ≤ xcap := by omega
    have hmc' : (ml : Int) ≤ (xcap : Int) := by omega
    have hm0 : (0 : Int) ≤ (ml : Int) := by omega
    rw [hl] at hnext
    clear hsl0 hx hx2 hcell0 hl hl2
    rw [hxe] at hcell
    generalize L[k] = q at *
    obtain ⟨qv, ql⟩ := q
    simp only at hmi hmlen hxc hcell
    clear hxe
    subst ho
    replace hll : Hid _ := hll
    go_wp2_with fail
    refine poised_then 14 (fun w2 => Below wr.heap.size wr w2) (fun w1 w2 => Below w1.heap.size w1 w2) (by kernel_rfl) (by kernel_rfl) (by kernel_rfl) (fun _ _ h k => h.trans (k.mono h.size)) ((Below.refl _ _).drew) ?_
    apply Exists.intro
    simp only [List.take_succ_cons, List.take_zero]
    iterate 4
     apply walk_det
     ·rfl
     ·intro w2 hC hF
      simp only [upon]
      go_simp
      exact ⟨Below.refl _ _, rfl⟩
     simp only [put_lit, List.set_cons_succ, List.set_cons_zero]
    apply walk_det
    ·rfl
    ·intro w2 hC hF
     have hca := (hC.cell (p := ⟨b, off + k, none⟩) hbl).trans hcell
     simp only [upon]
     go_simp
     exact ⟨Below.refl _ _, rfl⟩
    simp only [put_lit, List.set_cons_succ, List.set_cons_zero]
    iterate 3
     apply walk_det
     ·rfl
     ·intro w2 hC hF
      simp only [upon]
      go_simp
      exact ⟨Below.refl _ _, rfl⟩
     simp only [put_lit, List.set_cons_succ, List.set_cons_zero]
    apply walk_det
    ·rfl
    ·intro w2 hC hF
     have hca := (hC.cell (p := ⟨b, off + k, none⟩) hbl).trans hcell
     simp only [upon]
     go_simp
     exact ⟨Below.refl _ _, rfl⟩
    simp only [put_lit, List.set_cons_succ, List.set_cons_zero]
    iterate 3
     apply walk_det
     ·rfl
     ·intro w2 hC hF
      simp only [upon]
      go_simp
      exact ⟨Below.refl _ _, rfl⟩
     simp only [put_lit, List.set_cons_succ, List.set_cons_zero]
    apply walk_free (fun v w' => CopyV w.heap.size l v w') (fun _ _ _ _ hR h => CopyV.last hR h)
    ·rfl
    ·intro w2 hC hF
     simp only [upon]
     go_simp
     exact (copyBytes_any _ l w2 (hsl w2 hC) (by have := hll.out; omega)).mono (fun e w' hh => by obtain ⟨v', he, hr', hb'⟩ := hh; exact ⟨v', he, hb', own_base' hr' (Nat.le_trans hB.size hC.size)⟩)
    intro v12
    simp only [put_lit, List.set_cons_succ, List.set_cons_zero]
    apply walk_free (fun v w' => CopyW w.heap.size l v w') (fun _ _ _ _ hR h => CopyW.last hR h)
    ·rfl
    ·intro w2 hC hF
     obtain ⟨q12, c12, hq12⟩ := own_shape (show CopyV w.heap.size l v12 w2 from hF 12 (by kernel_rfl))
     subst hq12
     simp only [upon]
     go_simp
     exact ⟨(Below.refl _ _).alloc (Nat.le_refl _) _, copy_made (hF 12 (by kernel_rfl))⟩
    intro v13
    simp only [put_lit, List.set_cons_succ, List.set_cons_zero]
    apply walk_nil
    intro w9 hC9 hF9
    simp only [List.drop_succ_cons, List.drop_zero]
    obtain ⟨B, u, hue, hB1, hu⟩ : CopyW w.heap.size l v13 w9 := hF9 13
    subst hue
    obtain ⟨q9, c9, hq9⟩ := own_shape (show w9.ownsRow w.heap.size 5 1 u l.length (encB l) from hu)
    subst hq9
    have hu9 : w9.ownsRow w.heap.size 5 1 (.slice q9 l.length c9) l.length (encB l) := hu
    have hM9 := hM.below hC9
    have hB9 := hB.trans (hC9.mono hB.size)
    go_wp2_with (at_builtin; refine wpList_append_far _ rfl _ _ 22 32 i23 (.slice none 0 0) rfl Tryz.underlying22 hi23 hz23.out hs23.out hb23.out rfl w.heap.size (.slice uq M.length ucap) (.slice q9 l.length c9) M.length (M.map (·.1)) B rfl rfl hM9.row (by simp [World.cell?, hB1]) (by simp [Value.oneCell']) (by have := hMl.out; omega) hB9.size ?_; intro v' w10 hown2 hgrow hwhere)
    go_roundw
    case rel =>
     refine ⟨k + 1, M ++ [(.slice q9 l.length c9, l)], by omega, by omega, by go_num, hM9.push hu9 hown2 hgrow, by rw [List.length_append, hMl.out]; rfl, ?_, hB9.trans (below_grown hM9.row hB9.size hgrow)⟩
     rw [List.map_append, hMm.out, hnext.out]; rfl
    case measure => simp [intOf]; omega
   ·obtain rfl : k = 20 := by omega
    have hend : Hid (M.map (·.2) = firstOnes (L.map (·.2))) := hMm.out
    subst ho
    go_wp2_with fail
    go_returns
    exact ⟨_, rfl, M, hM, hend.out, hB⟩
  ·obtain rfl : k = L.length := by omega
   have hend : Hid (M.map (·.2) = firstOnes (L.map (·.2))) := by
    show _ = _
    rw [hMm.out]; unfold firstOnes
    rw [List.take_of_length_le (by simp), List.take_of_length_le (l := L.map (·.2)) (by simp; omega)]
   subst ho
   have hlt' : ¬ (L.length : Int) < (L.length : Int) := by omega
   go_wp2_with fail
   go_returns
   exact ⟨_, rfl, M, hM, hend.out, hB⟩
end Go.Proofs.YtmcmagplaflegaaGreatDoor

namespace Go.Proofs.YtmcmagplaflegaaGreatDoor
open Go Go.RowKit Go.MapL Go.Poised

/-! ### the plain part -/
theorem whole_iff : ∀ (T : List (List Nat)) (k c : Nat), k < T.length → (sizesB (T.take (k + 1)) ≤ c ↔ k < wholeN T c)
 | [], k, c, h => by simp at h
 | b :: T, 0, c, h => by
  rw [show wholeN (b :: T) c = if b.length + 20 ≤ c then 1 + wholeN T (c - (b.length + 20)) else 0 from rfl]
  show b.length + 20 + sizesB (T.take 0) ≤ c ↔ _
  rw [List.take_zero]
  split
  ·exact ⟨fun _ => by omega, fun _ => by show _ + 0 ≤ _; omega⟩
  ·exact ⟨fun h2 => by have : sizesB ([] : List (List Nat)) = 0 := rfl; omega, fun h2 => by omega⟩
 | b :: T, k + 1, c, h => by
  rw [show wholeN (b :: T) c = if b.length + 20 ≤ c then 1 + wholeN T (c - (b.length + 20)) else 0 from rfl]
  show b.length + 20 + sizesB (T.take (k + 1)) ≤ c ↔ _
  have ih := whole_iff T k (c - (b.length + 20)) (by simpa using h)
  split
  ·rw [show (b.length + 20 + sizesB (T.take (k + 1)) ≤ c ↔ k + 1 < 1 + wholeN T (c - (b.length + 20))) ↔ (sizesB (T.take (k + 1)) ≤ c - (b.length + 20) ↔ k < wholeN T (c - (b.length + 20))) by omega]
   exact ih
  ·exact ⟨fun h2 => by omega, fun h2 => by omega⟩
theorem whole_le : ∀ (T : List (List Nat)) (c : Nat), wholeN T c ≤ T.length
 | [], _ => Nat.zero_le _
 | b :: T, c => by
  rw [show wholeN (b :: T) c = if b.length + 20 ≤ c then 1 + wholeN T (c - (b.length + 20)) else 0 from rfl, List.length_cons]
  have := whole_le T (c - (b.length + 20))
  split <;> omega
theorem firstOnes_in {L : List (List Nat)} (h : ∀ l ∈ L, ∀ x ∈ l, x < 256) : (∀ l ∈ firstOnes L, (∀ x ∈ l, x < 256) ∧ l.length ≤ 200) ∧ (firstOnes L).length ≤ 20 := by
 refine ⟨fun l hl => ?_, by simp [firstOnes]; omega⟩
 obtain ⟨b, hb, rfl⟩ := List.mem_map.1 hl
 exact ⟨fun x hx => h b (List.mem_of_mem_take hb) x (List.mem_of_mem_take hx), by rw [List.length_take]; omega⟩
end Go.Proofs.YtmcmagplaflegaaGreatDoor
