import Derived.Test.YtgopahmhniphbaaDoorWj
import Derived.Test.YtgopahmhniphbaaDoorPoised
namespace Go.Proofs.YtgopahmhniphbaaDoor
open Go.RowKit Sp Go.Poised

set_option maxRecDepth 100000 in
set_option maxHeartbeats 4000000 in
theorem setsMix_any (a b : S) (w : World) (hT : Tab w) :
    Calls Tryd.prog 3 #[sv a, sv b] w fun e w' => e = .returned (.bool true) ∧ Below w.heap.size w w' := by
  have e1 := eq_yes (a ||| b)
  have e2 := eq_yes (a &&& b)
  have e3 := eq_yes (a &&& ~~~b)
  have e4 := eq_yes (~~~a)
  unfold sv
  go_enter Tryd.func3, Tryd.ntmps3
  go_wp2
  obtain ⟨W1, hW1⟩ : ∃ W1 : World, (w.alloc (boxOf a)).alloc (boxOf b) = W1 := ⟨_, rfl⟩
  have hp : SetAt W1 w.heap.size a := by rw [← hW1]; exact (SetAt.box w a).alloc _
  have hq : SetAt W1 (w.heap.size + 1) b := by
    rw [← hW1]
    have h := SetAt.box (w.alloc (boxOf a)) b
    rw [World.size_alloc] at h
    exact h
  have hB : Below w.heap.size w W1 := by rw [← hW1]; exact balloc (balloc (Below.refl _ w) _) _
  have hT1 : Tab W1 := hT.below hB hT.lt
  show Code.wp _ _ _ _ ((w.alloc (boxOf a)).alloc (boxOf b))
  rw [hW1]
  clear hW1
  refine poised_whole (fun w' => Below W1.heap.size W1 w') (fun w w' => Below W1.heap.size w w') (by kernel_rfl) (by kernel_rfl) (by kernel_rfl) (fun _ _ h k => h.trans k) ((Below.refl _ _).drew) ?_
  apply Exists.intro
  apply walk_det
  · rfl
  · intro w2 hC hF
    obtain ⟨c0, c1, c2, c3⟩ := (hp.same (hC.block _ hp.lt)).cell
    obtain ⟨d0, d1, d2, d3⟩ := (hq.same (hC.block _ hq.lt)).cell
    simp only [upon]
    go_simp
    exact ⟨Below.refl _ _, rfl⟩
  simp only [put_lit, List.set_cons_succ, List.set_cons_zero]
  apply walk_det
  · rfl
  · intro w2 hC hF
    obtain ⟨c0, c1, c2, c3⟩ := (hp.same (hC.block _ hp.lt)).cell
    obtain ⟨d0, d1, d2, d3⟩ := (hq.same (hC.block _ hq.lt)).cell
    simp only [upon]
    go_simp
    exact ⟨Below.refl _ _, rfl⟩
  simp only [put_lit, List.set_cons_succ, List.set_cons_zero]
  apply walk_det
  · rfl
  · intro w2 hC hF
    obtain ⟨c0, c1, c2, c3⟩ := (hp.same (hC.block _ hp.lt)).cell
    obtain ⟨d0, d1, d2, d3⟩ := (hq.same (hC.block _ hq.lt)).cell
    simp only [upon]
    go_simp
    exact up_call (union_any a b _) hC.size
  simp only [put_lit, List.set_cons_succ, List.set_cons_zero]
  apply walk_det
  · rfl
  · intro w2 hC hF
    obtain ⟨c0, c1, c2, c3⟩ := (hp.same (hC.block _ hp.lt)).cell
    obtain ⟨d0, d1, d2, d3⟩ := (hq.same (hC.block _ hq.lt)).cell
    simp only [upon]
    go_simp
    exact ⟨Below.refl _ _, rfl⟩
  simp only [put_lit, List.set_cons_succ, List.set_cons_zero]
  apply walk_det
  · rfl
  · intro w2 hC hF
    obtain ⟨c0, c1, c2, c3⟩ := (hp.same (hC.block _ hp.lt)).cell
    obtain ⟨d0, d1, d2, d3⟩ := (hq.same (hC.block _ hq.lt)).cell
    simp only [upon]
    go_simp
    exact ⟨Below.refl _ _, rfl⟩
  simp only [put_lit, List.set_cons_succ, List.set_cons_zero]
  apply walk_det
  · rfl
  · intro w2 hC hF
    obtain ⟨c0, c1, c2, c3⟩ := (hp.same (hC.block _ hp.lt)).cell
    obtain ⟨d0, d1, d2, d3⟩ := (hq.same (hC.block _ hq.lt)).cell
    simp only [upon]
    go_simp
    exact up_call (mix0_any a b _) hC.size
  simp only [put_lit, List.set_cons_succ, List.set_cons_zero]
  apply walk_det
  · rfl
  · intro w2 hC hF
    simp only [upon]
    go_simp
    exact ⟨Below.refl _ _, rfl⟩
  simp only [put_lit, List.set_cons_succ, List.set_cons_zero]
  apply walk_det
  · rfl
  · intro w2 hC hF
    simp only [upon]
    go_simp
    exact ⟨Below.refl _ _, rfl⟩
  simp only [put_lit, List.set_cons_succ, List.set_cons_zero]
  apply walk_det
  · rfl
  · intro w2 hC hF
    obtain ⟨c0, c1, c2, c3⟩ := (hp.same (hC.block _ hp.lt)).cell
    obtain ⟨d0, d1, d2, d3⟩ := (hq.same (hC.block _ hq.lt)).cell
    simp only [upon]
    go_simp
    exact ⟨Below.refl _ _, rfl⟩
  simp only [put_lit, List.set_cons_succ, List.set_cons_zero]
  apply walk_det
  · rfl
  · intro w2 hC hF
    obtain ⟨c0, c1, c2, c3⟩ := (hp.same (hC.block _ hp.lt)).cell
    obtain ⟨d0, d1, d2, d3⟩ := (hq.same (hC.block _ hq.lt)).cell
    simp only [upon]
    go_simp
    exact ⟨Below.refl _ _, rfl⟩
  simp only [put_lit, List.set_cons_succ, List.set_cons_zero]
  apply walk_det
  · rfl
  · intro w2 hC hF
    obtain ⟨c0, c1, c2, c3⟩ := (hp.same (hC.block _ hp.lt)).cell
    obtain ⟨d0, d1, d2, d3⟩ := (hq.same (hC.block _ hq.lt)).cell
    simp only [upon]
    go_simp
    exact up_call (both_any a b _) hC.size
  simp only [put_lit, List.set_cons_succ, List.set_cons_zero]
  apply walk_det
  · rfl
  · intro w2 hC hF
    obtain ⟨c0, c1, c2, c3⟩ := (hp.same (hC.block _ hp.lt)).cell
    obtain ⟨d0, d1, d2, d3⟩ := (hq.same (hC.block _ hq.lt)).cell
    simp only [upon]
    go_simp
    exact ⟨Below.refl _ _, rfl⟩
  simp only [put_lit, List.set_cons_succ, List.set_cons_zero]
  apply walk_det
  · rfl
  · intro w2 hC hF
    obtain ⟨c0, c1, c2, c3⟩ := (hp.same (hC.block _ hp.lt)).cell
    obtain ⟨d0, d1, d2, d3⟩ := (hq.same (hC.block _ hq.lt)).cell
    simp only [upon]
    go_simp
    exact ⟨Below.refl _ _, rfl⟩
  simp only [put_lit, List.set_cons_succ, List.set_cons_zero]
  apply walk_det
  · rfl
  · intro w2 hC hF
    obtain ⟨c0, c1, c2, c3⟩ := (hp.same (hC.block _ hp.lt)).cell
    obtain ⟨d0, d1, d2, d3⟩ := (hq.same (hC.block _ hq.lt)).cell
    simp only [upon]
    go_simp
    exact up_call (mix1_any a b _) hC.size
  simp only [put_lit, List.set_cons_succ, List.set_cons_zero]
  apply walk_det
  · rfl
  · intro w2 hC hF
    simp only [upon]
    go_simp
    exact ⟨Below.refl _ _, rfl⟩
  simp only [put_lit, List.set_cons_succ, List.set_cons_zero]
  apply walk_det
  · rfl
  · intro w2 hC hF
    simp only [upon]
    go_simp
    exact ⟨Below.refl _ _, rfl⟩
  simp only [put_lit, List.set_cons_succ, List.set_cons_zero]
  apply walk_det
  · rfl
  · intro w2 hC hF
    simp only [upon]
    go_simp
    exact ⟨Below.refl _ _, rfl⟩
  simp only [put_lit, List.set_cons_succ, List.set_cons_zero]
  apply walk_det
  · rfl
  · intro w2 hC hF
    obtain ⟨c0, c1, c2, c3⟩ := (hp.same (hC.block _ hp.lt)).cell
    obtain ⟨d0, d1, d2, d3⟩ := (hq.same (hC.block _ hq.lt)).cell
    simp only [upon]
    go_simp
    exact ⟨Below.refl _ _, rfl⟩
  simp only [put_lit, List.set_cons_succ, List.set_cons_zero]
  apply walk_det
  · rfl
  · intro w2 hC hF
    obtain ⟨c0, c1, c2, c3⟩ := (hp.same (hC.block _ hp.lt)).cell
    obtain ⟨d0, d1, d2, d3⟩ := (hq.same (hC.block _ hq.lt)).cell
    simp only [upon]
    go_simp
    exact ⟨Below.refl _ _, rfl⟩
  simp only [put_lit, List.set_cons_succ, List.set_cons_zero]
  apply walk_det
  · rfl
  · intro w2 hC hF
    obtain ⟨c0, c1, c2, c3⟩ := (hp.same (hC.block _ hp.lt)).cell
    obtain ⟨d0, d1, d2, d3⟩ := (hq.same (hC.block _ hq.lt)).cell
    simp only [upon]
    go_simp
    exact up_call (less_any a b _) hC.size
  simp only [put_lit, List.set_cons_succ, List.set_cons_zero]
  apply walk_det
  · rfl
  · intro w2 hC hF
    obtain ⟨c0, c1, c2, c3⟩ := (hp.same (hC.block _ hp.lt)).cell
    obtain ⟨d0, d1, d2, d3⟩ := (hq.same (hC.block _ hq.lt)).cell
    simp only [upon]
    go_simp
    exact ⟨Below.refl _ _, rfl⟩
  simp only [put_lit, List.set_cons_succ, List.set_cons_zero]
  apply walk_det
  · rfl
  · intro w2 hC hF
    obtain ⟨c0, c1, c2, c3⟩ := (hp.same (hC.block _ hp.lt)).cell
    obtain ⟨d0, d1, d2, d3⟩ := (hq.same (hC.block _ hq.lt)).cell
    simp only [upon]
    go_simp
    exact ⟨Below.refl _ _, rfl⟩
  simp only [put_lit, List.set_cons_succ, List.set_cons_zero]
  apply walk_det
  · rfl
  · intro w2 hC hF
    obtain ⟨c0, c1, c2, c3⟩ := (hp.same (hC.block _ hp.lt)).cell
    obtain ⟨d0, d1, d2, d3⟩ := (hq.same (hC.block _ hq.lt)).cell
    simp only [upon]
    go_simp
    exact up_call (mix2_any a b _) hC.size
  simp only [put_lit, List.set_cons_succ, List.set_cons_zero]
  apply walk_det
  · rfl
  · intro w2 hC hF
    simp only [upon]
    go_simp
    exact ⟨Below.refl _ _, rfl⟩
  simp only [put_lit, List.set_cons_succ, List.set_cons_zero]
  apply walk_det
  · rfl
  · intro w2 hC hF
    simp only [upon]
    go_simp
    exact ⟨Below.refl _ _, rfl⟩
  simp only [put_lit, List.set_cons_succ, List.set_cons_zero]
  apply walk_det
  · rfl
  · intro w2 hC hF
    simp only [upon]
    go_simp
    exact ⟨Below.refl _ _, rfl⟩
  simp only [put_lit, List.set_cons_succ, List.set_cons_zero]
  apply walk_det
  · rfl
  · intro w2 hC hF
    obtain ⟨c0, c1, c2, c3⟩ := (hp.same (hC.block _ hp.lt)).cell
    obtain ⟨d0, d1, d2, d3⟩ := (hq.same (hC.block _ hq.lt)).cell
    simp only [upon]
    go_simp
    exact ⟨Below.refl _ _, rfl⟩
  simp only [put_lit, List.set_cons_succ, List.set_cons_zero]
  apply walk_det
  · rfl
  · intro w2 hC hF
    obtain ⟨c0, c1, c2, c3⟩ := (hp.same (hC.block _ hp.lt)).cell
    obtain ⟨d0, d1, d2, d3⟩ := (hq.same (hC.block _ hq.lt)).cell
    simp only [upon]
    go_simp
    exact up_call (not_any a _) hC.size
  simp only [put_lit, List.set_cons_succ, List.set_cons_zero]
  apply walk_det
  · rfl
  · intro w2 hC hF
    obtain ⟨c0, c1, c2, c3⟩ := (hp.same (hC.block _ hp.lt)).cell
    obtain ⟨d0, d1, d2, d3⟩ := (hq.same (hC.block _ hq.lt)).cell
    simp only [upon]
    go_simp
    exact ⟨Below.refl _ _, rfl⟩
  simp only [put_lit, List.set_cons_succ, List.set_cons_zero]
  apply walk_det
  · rfl
  · intro w2 hC hF
    obtain ⟨c0, c1, c2, c3⟩ := (hp.same (hC.block _ hp.lt)).cell
    obtain ⟨d0, d1, d2, d3⟩ := (hq.same (hC.block _ hq.lt)).cell
    simp only [upon]
    go_simp
    exact ⟨Below.refl _ _, rfl⟩
  simp only [put_lit, List.set_cons_succ, List.set_cons_zero]
  apply walk_det
  · rfl
  · intro w2 hC hF
    obtain ⟨c0, c1, c2, c3⟩ := (hp.same (hC.block _ hp.lt)).cell
    obtain ⟨d0, d1, d2, d3⟩ := (hq.same (hC.block _ hq.lt)).cell
    simp only [upon]
    go_simp
    exact up_call (mix3_any a b _) hC.size
  simp only [put_lit, List.set_cons_succ, List.set_cons_zero]
  apply walk_det
  · rfl
  · intro w2 hC hF
    simp only [upon]
    go_simp
    exact ⟨Below.refl _ _, rfl⟩
  simp only [put_lit, List.set_cons_succ, List.set_cons_zero]
  apply walk_det
  · rfl
  · intro w2 hC hF
    simp only [upon]
    go_simp
    exact ⟨Below.refl _ _, rfl⟩
  simp only [put_lit, List.set_cons_succ, List.set_cons_zero]
  apply walk_det
  · rfl
  · intro w2 hC hF
    simp only [upon]
    go_simp
    exact ⟨Below.refl _ _, rfl⟩
  simp only [put_lit, List.set_cons_succ, List.set_cons_zero]
  apply walk_det
  · rfl
  · intro w2 hC hF
    obtain ⟨c0, c1, c2, c3⟩ := (hp.same (hC.block _ hp.lt)).cell
    obtain ⟨d0, d1, d2, d3⟩ := (hq.same (hC.block _ hq.lt)).cell
    simp only [upon]
    go_simp
    exact up_call (works_any _ (hT1.below hC hT1.lt)) hC.size
  simp only [put_lit, List.set_cons_succ, List.set_cons_zero]
  apply walk_det
  · rfl
  · intro w2 hC hF
    simp only [upon]
    go_simp
    exact ⟨Below.refl _ _, rfl⟩
  simp only [put_lit, List.set_cons_succ, List.set_cons_zero]
  apply walk_det
  · rfl
  · intro w2 hC hF
    simp only [upon]
    go_simp
    exact ⟨Below.refl _ _, rfl⟩
  simp only [put_lit, List.set_cons_succ, List.set_cons_zero]
  apply walk_nil
  intro w2 hC _
  go_wp2
  go_returns
  exact ⟨rfl, hB.trans (hC.mono hB.size)⟩
end Go.Proofs.YtgopahmhniphbaaDoor
