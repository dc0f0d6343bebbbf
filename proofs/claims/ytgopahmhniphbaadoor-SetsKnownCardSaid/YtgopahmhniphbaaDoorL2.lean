import Derived.Test.YtgopahmhniphbaaDoorWj
import Derived.Test.YtgopahmhniphbaaDoorPoised
namespace Go.Proofs.YtgopahmhniphbaaDoor
open Go.RowKit Sp Go.Poised

theorem BytesIn.below {w w' : World} {v : Value} {l : List Nat} (h : BytesIn w v l) (hb : Below w.heap.size w w') : BytesIn w' v l := by
  obtain ⟨h1, h2, h3 | h3 | ⟨b, off, cap, h3, h4⟩⟩ := h
  · exact ⟨h1, h2, .inl h3⟩
  · exact ⟨h1, h2, .inr (.inl h3)⟩
  · exact ⟨h1, h2, .inr (.inr ⟨b, off, cap, h3, fun k hk => (hb.cell (p := ⟨b, off + k, none⟩) (lt_of_cell (h4 k hk))).trans (h4 k hk)⟩)⟩

set_option maxRecDepth 100000 in
set_option maxHeartbeats 4000000 in
theorem setsMake_any (v : Value) (l : List Nat) (f t : Nat) (w : World) (hl : BytesIn w v l) (hf : f < 256) (ht : t < 256) (hT : Tab w) :
    Calls Tryd.prog 4 #[v, .int .u8 f, .int .u8 t] w fun e w' => e = .returned (.bool true) ∧ Below w.heap.size w w' := by
  have e1 := eq_yes (ofl l)
  have e2 := eq_yes (span f t)
  have hB0 := Below.refl w.heap.size w
  have hf1 : (f : Int) < 256 := by omega
  have ht1 : (t : Int) < 256 := by omega
  go_enter Tryd.func4, Tryd.ntmps4
  go_wp2_with fail
  refine (of_any v l _ hl).mono ?_
  rintro e w1 ⟨rfl, hb1⟩
  have hB1 : Below w.heap.size w w1 := by first | exact bnext hB0 hb1 | exact bnext (balloc hB0 _) hb1 | exact bnext (balloc (balloc hB0 _) _) hb1
  go_wp2_with fail
  refine (refOf_any v l _ (hl.below hB1)).mono ?_
  rintro e w2 ⟨rfl, hb2⟩
  have hB2 : Below w.heap.size w w2 := by first | exact bnext hB1 hb2 | exact bnext (balloc hB1 _) hb2 | exact bnext (balloc (balloc hB1 _) _) hb2
  go_wp2_with fail
  refine (span_any f t hf ht _).mono ?_
  rintro e w3 ⟨rfl, hb3⟩
  have hB3 : Below w.heap.size w w3 := by first | exact bnext hB2 hb3 | exact bnext (balloc hB2 _) hb3 | exact bnext (balloc (balloc hB2 _) _) hb3
  go_wp2_with fail
  refine (refSpan_any f t hf ht _).mono ?_
  rintro e w4 ⟨rfl, hb4⟩
  have hB4 : Below w.heap.size w w4 := by first | exact bnext hB3 hb4 | exact bnext (balloc hB3 _) hb4 | exact bnext (balloc (balloc hB3 _) _) hb4
  go_wp2_with fail
  refine (works_any _ (hT.below hB4 hT.lt)).mono ?_
  rintro e w5 ⟨rfl, hb5⟩
  have hB5 : Below w.heap.size w w5 := by first | exact bnext hB4 hb5 | exact bnext (balloc hB4 _) hb5 | exact bnext (balloc (balloc hB4 _) _) hb5
  go_wp2
  go_returns
  exact ⟨rfl, hB5⟩

theorem fl_two (a b : S) : ∀ n, (fl a n).length + (fl b n).length = (fl (a ||| b) n).length + (fl (a &&& b) n).length
  | 0 => by simp [fl]
  | n + 1 => by
    have ih := fl_two a b n
    rw [fl_succ, fl_succ, fl_succ, fl_succ, mem_or, mem_and]
    cases mem a n <;> cases mem b n <;> simp <;> omega
theorem cnt_fl (s : S) : cnt s = (fl s 256).length := by
  rw [← bl_eq]
  simp [bl, blTo, cnt, bitsIn, List.range_succ]
  omega
theorem cnt_two (a b : S) : cnt a + cnt b = cnt (a ||| b) + cnt (a &&& b) := by
  simp only [cnt_fl]; exact fl_two a b 256
theorem cnt_le (a : S) : cnt a ≤ 256 := by rw [cnt_fl]; exact fl_len a 256
theorem r_1 (a b : S) : ~~~(a ||| b) = ~~~a &&& ~~~b := by apply ext_mem; intro c hc; simp [mem_not _ c hc, mem_or, mem_and]
theorem r_2 (a b : S) : ~~~(a &&& b) = ~~~a ||| ~~~b := by apply ext_mem; intro c hc; simp [mem_not _ c hc, mem_or, mem_and]
theorem r_3 (a b : S) : (a &&& ~~~b) ||| (a &&& b) = a := by
  apply ext_mem; intro c hc; simp [mem_not _ c hc, mem_or, mem_and]; cases mem a c <;> cases mem b c <;> rfl
theorem r_4 (a : S) : ~~~(~~~a) = a := by simp

set_option maxRecDepth 100000 in
set_option maxHeartbeats 8000000 in
theorem setsRules_any (a b : S) (w : World) (hT : Tab w) :
    Calls Tryd.prog 5 #[sv a, sv b] w fun e w' => e = .returned (.bool true) ∧ Below w.heap.size w w' := by
  have e1 := eq_yes (~~~a &&& ~~~b)
  have e2 := eq_yes (~~~a ||| ~~~b)
  have e3 := eq_yes a
  have e4 := eq_yes (a &&& ~~~b)
  have hn1 := fun w => not_any (a ||| b) w
  rw [r_1] at hn1
  have hn2 := fun w => not_any (a &&& b) w
  rw [r_2] at hn2
  have hn3 := fun w => union_any (a &&& ~~~b) (a &&& b) w
  rw [r_3] at hn3
  have hn4 := fun w => not_any (~~~a) w
  rw [r_4] at hn4
  have hcnt : ((((cnt a : Nat) : Int) + ((cnt b : Nat) : Int)) == (((cnt (a ||| b) : Nat) : Int) + ((cnt (a &&& b) : Nat) : Int))) = true := by
    rw [beq_iff_eq]; have := cnt_two a b; omega
  have l1 := cnt_le a
  have l2 := cnt_le b
  have l3 := cnt_le (a ||| b)
  have l4 := cnt_le (a &&& b)
  have hw1 : IntKind.i64.wrap (((cnt a : Nat) : Int) + ((cnt b : Nat) : Int)) = ((cnt a : Nat) : Int) + ((cnt b : Nat) : Int) := IntWalk.i64_in _ (by omega)
  have hw2 : IntKind.i64.wrap (((cnt (a ||| b) : Nat) : Int) + ((cnt (a &&& b) : Nat) : Int)) = ((cnt (a ||| b) : Nat) : Int) + ((cnt (a &&& b) : Nat) : Int) := IntWalk.i64_in _ (by omega)
  clear l1 l2 l3 l4
  unfold sv
  go_enter Tryd.func5, Tryd.ntmps5
  go_wp2_with (go_at_call 16; refine (works_any _ (((hT.below ((Below.refl _ w).alloc (Nat.le_refl _) _) hT.lt)).below ((Below.refl _ _).alloc (Nat.le_refl _) _) (by simp))).mono ?_; rintro e w1 ⟨rfl, hb1⟩)
  have hp : SetAt w1 w.heap.size a := ((SetAt.box w a).alloc _).same (hb1.block _ (by simp; omega))
  have hq : SetAt w1 (w.heap.size + 1) b := by
    have h := SetAt.box (w.alloc (boxOf a)) b
    rw [World.size_alloc] at h
    exact h.same (hb1.block _ (by simp))
  have hB : Below w.heap.size w w1 := bnext (balloc (balloc (Below.refl _ w) _) _) hb1
  refine poised_whole (fun w' => Below w1.heap.size w1 w') (fun w w' => Below w1.heap.size w w') (by kernel_rfl) (by kernel_rfl) (by kernel_rfl) (fun _ _ h k => h.trans k) ((Below.refl _ _).drew) ?_
  apply Exists.intro
  apply walk_det
  · rfl
  · intro w2 hC hF
    obtain ⟨c0, c1, c2, c3⟩ := (hp.same (hC.block _ hp.lt)).cell
    obtain ⟨d0, d1, d2, d3⟩ := (hq.same (hC.block _ hq.lt)).cell
    simp only [upon]
    go_simp
    exact ⟨Below.refl _ _, rfl⟩
  simp only [put_lit, List.set_cons_succ, List.set_cons_zero]
  apply walk_det
  · rfl
  · intro w2 hC hF
    obtain ⟨c0, c1, c2, c3⟩ := (hp.same (hC.block _ hp.lt)).cell
    obtain ⟨d0, d1, d2, d3⟩ := (hq.same (hC.block _ hq.lt)).cell
    simp only [upon]
    go_simp
    exact ⟨Below.refl _ _, rfl⟩
  simp only [put_lit, List.set_cons_succ, List.set_cons_zero]
  apply walk_det
  · rfl
  · intro w2 hC hF
    obtain ⟨c0, c1, c2, c3⟩ := (hp.same (hC.block _ hp.lt)).cell
    obtain ⟨d0, d1, d2, d3⟩ := (hq.same (hC.block _ hq.lt)).cell
    simp only [upon]
    go_simp
    exact up_call (union_any a b _) hC.size
  simp only [put_lit, List.set_cons_succ, List.set_cons_zero]
  apply walk_det
  · rfl
  · intro w2 hC hF
    obtain ⟨c0, c1, c2, c3⟩ := (hp.same (hC.block _ hp.lt)).cell
    obtain ⟨d0, d1, d2, d3⟩ := (hq.same (hC.block _ hq.lt)).cell
    simp only [upon]
    go_simp
    exact up_call (hn1 _) hC.size
  simp only [put_lit, List.set_cons_succ, List.set_cons_zero]
  apply walk_det
  · rfl
  · intro w2 hC hF
    obtain ⟨c0, c1, c2, c3⟩ := (hp.same (hC.block _ hp.lt)).cell
    obtain ⟨d0, d1, d2, d3⟩ := (hq.same (hC.block _ hq.lt)).cell
    simp only [upon]
    go_simp
    exact ⟨Below.refl _ _, rfl⟩
  simp only [put_lit, List.set_cons_succ, List.set_cons_zero]
  apply walk_det
  · rfl
  · intro w2 hC hF
    obtain ⟨c0, c1, c2, c3⟩ := (hp.same (hC.block _ hp.lt)).cell
    obtain ⟨d0, d1, d2, d3⟩ := (hq.same (hC.block _ hq.lt)).cell
    simp only [upon]
    go_simp
    exact up_call (not_any a _) hC.size
  simp only [put_lit, List.set_cons_succ, List.set_cons_zero]
  apply walk_det
  · rfl
  · intro w2 hC hF
    obtain ⟨c0, c1, c2, c3⟩ := (hp.same (hC.block _ hp.lt)).cell
    obtain ⟨d0, d1, d2, d3⟩ := (hq.same (hC.block _ hq.lt)).cell
    simp only [upon]
    go_simp
    exact ⟨Below.refl _ _, rfl⟩
  simp only [put_lit, List.set_cons_succ, List.set_cons_zero]
  apply walk_det
  · rfl
  · intro w2 hC hF
    obtain ⟨c0, c1, c2, c3⟩ := (hp.same (hC.block _ hp.lt)).cell
    obtain ⟨d0, d1, d2, d3⟩ := (hq.same (hC.block _ hq.lt)).cell
    simp only [upon]
    go_simp
    exact up_call (not_any b _) hC.size
  simp only [put_lit, List.set_cons_succ, List.set_cons_zero]
  apply walk_det
  · rfl
  · intro w2 hC hF
    obtain ⟨c0, c1, c2, c3⟩ := (hp.same (hC.block _ hp.lt)).cell
    obtain ⟨d0, d1, d2, d3⟩ := (hq.same (hC.block _ hq.lt)).cell
    simp only [upon]
    go_simp
    exact up_call (both_any (~~~a) (~~~b) _) hC.size
  simp only [put_lit, List.set_cons_succ, List.set_cons_zero]
  apply walk_det
  · rfl
  · intro w2 hC hF
    simp only [upon]
    go_simp
    exact ⟨Below.refl _ _, rfl⟩
  simp only [put_lit, List.set_cons_succ, List.set_cons_zero]
  apply walk_det
  · rfl
  · intro w2 hC hF
    simp only [upon]
    go_simp
    exact ⟨Below.refl _ _, rfl⟩
  simp only [put_lit, List.set_cons_succ, List.set_cons_zero]
  apply walk_det
  · rfl
  · intro w2 hC hF
    obtain ⟨c0, c1, c2, c3⟩ := (hp.same (hC.block _ hp.lt)).cell
    obtain ⟨d0, d1, d2, d3⟩ := (hq.same (hC.block _ hq.lt)).cell
    simp only [upon]
    go_simp
    exact ⟨Below.refl _ _, rfl⟩
  simp only [put_lit, List.set_cons_succ, List.set_cons_zero]
  apply walk_det
  · rfl
  · intro w2 hC hF
    obtain ⟨c0, c1, c2, c3⟩ := (hp.same (hC.block _ hp.lt)).cell
    obtain ⟨d0, d1, d2, d3⟩ := (hq.same (hC.block _ hq.lt)).cell
    simp only [upon]
    go_simp
    exact ⟨Below.refl _ _, rfl⟩
  simp only [put_lit, List.set_cons_succ, List.set_cons_zero]
  apply walk_det
  · rfl
  · intro w2 hC hF
    obtain ⟨c0, c1, c2, c3⟩ := (hp.same (hC.block _ hp.lt)).cell
    obtain ⟨d0, d1, d2, d3⟩ := (hq.same (hC.block _ hq.lt)).cell
    simp only [upon]
    go_simp
    exact up_call (both_any a b _) hC.size
  simp only [put_lit, List.set_cons_succ, List.set_cons_zero]
  apply walk_det
  · rfl
  · intro w2 hC hF
    obtain ⟨c0, c1, c2, c3⟩ := (hp.same (hC.block _ hp.lt)).cell
    obtain ⟨d0, d1, d2, d3⟩ := (hq.same (hC.block _ hq.lt)).cell
    simp only [upon]
    go_simp
    exact up_call (hn2 _) hC.size
  simp only [put_lit, List.set_cons_succ, List.set_cons_zero]
  apply walk_det
  · rfl
  · intro w2 hC hF
    obtain ⟨c0, c1, c2, c3⟩ := (hp.same (hC.block _ hp.lt)).cell
    obtain ⟨d0, d1, d2, d3⟩ := (hq.same (hC.block _ hq.lt)).cell
    simp only [upon]
    go_simp
    exact ⟨Below.refl _ _, rfl⟩
  simp only [put_lit, List.set_cons_succ, List.set_cons_zero]
  apply walk_det
  · rfl
  · intro w2 hC hF
    obtain ⟨c0, c1, c2, c3⟩ := (hp.same (hC.block _ hp.lt)).cell
    obtain ⟨d0, d1, d2, d3⟩ := (hq.same (hC.block _ hq.lt)).cell
    simp only [upon]
    go_simp
    exact up_call (not_any a _) hC.size
  simp only [put_lit, List.set_cons_succ, List.set_cons_zero]
  apply walk_det
  · rfl
  · intro w2 hC hF
    obtain ⟨c0, c1, c2, c3⟩ := (hp.same (hC.block _ hp.lt)).cell
    obtain ⟨d0, d1, d2, d3⟩ := (hq.same (hC.block _ hq.lt)).cell
    simp only [upon]
    go_simp
    exact ⟨Below.refl _ _, rfl⟩
  simp only [put_lit, List.set_cons_succ, List.set_cons_zero]
  apply walk_det
  · rfl
  · intro w2 hC hF
    obtain ⟨c0, c1, c2, c3⟩ := (hp.same (hC.block _ hp.lt)).cell
    obtain ⟨d0, d1, d2, d3⟩ := (hq.same (hC.block _ hq.lt)).cell
    simp only [upon]
    go_simp
    exact up_call (not_any b _) hC.size
  simp only [put_lit, List.set_cons_succ, List.set_cons_zero]
  apply walk_det
  · rfl
  · intro w2 hC hF
    obtain ⟨c0, c1, c2, c3⟩ := (hp.same (hC.block _ hp.lt)).cell
    obtain ⟨d0, d1, d2, d3⟩ := (hq.same (hC.block _ hq.lt)).cell
    simp only [upon]
    go_simp
    exact up_call (union_any (~~~a) (~~~b) _) hC.size
  simp only [put_lit, List.set_cons_succ, List.set_cons_zero]
  apply walk_det
  · rfl
  · intro w2 hC hF
    simp only [upon]
    go_simp
    exact ⟨Below.refl _ _, rfl⟩
  simp only [put_lit, List.set_cons_succ, List.set_cons_zero]
  apply walk_det
  · rfl
  · intro w2 hC hF
    simp only [upon]
    go_simp
    exact ⟨Below.refl _ _, rfl⟩
  simp only [put_lit, List.set_cons_succ, List.set_cons_zero]
  apply walk_det
  · rfl
  · intro w2 hC hF
    simp only [upon]
    go_simp
    exact ⟨Below.refl _ _, rfl⟩
  simp only [put_lit, List.set_cons_succ, List.set_cons_zero]
  apply walk_det
  · rfl
  · intro w2 hC hF
    obtain ⟨c0, c1, c2, c3⟩ := (hp.same (hC.block _ hp.lt)).cell
    obtain ⟨d0, d1, d2, d3⟩ := (hq.same (hC.block _ hq.lt)).cell
    simp only [upon]
    go_simp
    exact ⟨Below.refl _ _, rfl⟩
  simp only [put_lit, List.set_cons_succ, List.set_cons_zero]
  apply walk_det
  · rfl
  · intro w2 hC hF
    obtain ⟨c0, c1, c2, c3⟩ := (hp.same (hC.block _ hp.lt)).cell
    obtain ⟨d0, d1, d2, d3⟩ := (hq.same (hC.block _ hq.lt)).cell
    simp only [upon]
    go_simp
    exact ⟨Below.refl _ _, rfl⟩
  simp only [put_lit, List.set_cons_succ, List.set_cons_zero]
  apply walk_det
  · rfl
  · intro w2 hC hF
    obtain ⟨c0, c1, c2, c3⟩ := (hp.same (hC.block _ hp.lt)).cell
    obtain ⟨d0, d1, d2, d3⟩ := (hq.same (hC.block _ hq.lt)).cell
    simp only [upon]
    go_simp
    exact up_call (less_any a b _) hC.size
  simp only [put_lit, List.set_cons_succ, List.set_cons_zero]
  apply walk_det
  · rfl
  · intro w2 hC hF
    obtain ⟨c0, c1, c2, c3⟩ := (hp.same (hC.block _ hp.lt)).cell
    obtain ⟨d0, d1, d2, d3⟩ := (hq.same (hC.block _ hq.lt)).cell
    simp only [upon]
    go_simp
    exact ⟨Below.refl _ _, rfl⟩
  simp only [put_lit, List.set_cons_succ, List.set_cons_zero]
  apply walk_det
  · rfl
  · intro w2 hC hF
    obtain ⟨c0, c1, c2, c3⟩ := (hp.same (hC.block _ hp.lt)).cell
    obtain ⟨d0, d1, d2, d3⟩ := (hq.same (hC.block _ hq.lt)).cell
    simp only [upon]
    go_simp
    exact ⟨Below.refl _ _, rfl⟩
  simp only [put_lit, List.set_cons_succ, List.set_cons_zero]
  apply walk_det
  · rfl
  · intro w2 hC hF
    obtain ⟨c0, c1, c2, c3⟩ := (hp.same (hC.block _ hp.lt)).cell
    obtain ⟨d0, d1, d2, d3⟩ := (hq.same (hC.block _ hq.lt)).cell
    simp only [upon]
    go_simp
    exact up_call (both_any a b _) hC.size
  simp only [put_lit, List.set_cons_succ, List.set_cons_zero]
  apply walk_det
  · rfl
  · intro w2 hC hF
    obtain ⟨c0, c1, c2, c3⟩ := (hp.same (hC.block _ hp.lt)).cell
    obtain ⟨d0, d1, d2, d3⟩ := (hq.same (hC.block _ hq.lt)).cell
    simp only [upon]
    go_simp
    exact up_call (hn3 _) hC.size
  simp only [put_lit, List.set_cons_succ, List.set_cons_zero]
  apply walk_det
  · rfl
  · intro w2 hC hF
    obtain ⟨c0, c1, c2, c3⟩ := (hp.same (hC.block _ hp.lt)).cell
    obtain ⟨d0, d1, d2, d3⟩ := (hq.same (hC.block _ hq.lt)).cell
    simp only [upon]
    go_simp
    exact ⟨Below.refl _ _, rfl⟩
  simp only [put_lit, List.set_cons_succ, List.set_cons_zero]
  apply walk_det
  · rfl
  · intro w2 hC hF
    simp only [upon]
    go_simp
    exact ⟨Below.refl _ _, rfl⟩
  simp only [put_lit, List.set_cons_succ, List.set_cons_zero]
  apply walk_det
  · rfl
  · intro w2 hC hF
    simp only [upon]
    go_simp
    exact ⟨Below.refl _ _, rfl⟩
  simp only [put_lit, List.set_cons_succ, List.set_cons_zero]
  apply walk_det
  · rfl
  · intro w2 hC hF
    simp only [upon]
    go_simp
    exact ⟨Below.refl _ _, rfl⟩
  simp only [put_lit, List.set_cons_succ, List.set_cons_zero]
  apply walk_det
  · rfl
  · intro w2 hC hF
    obtain ⟨c0, c1, c2, c3⟩ := (hp.same (hC.block _ hp.lt)).cell
    obtain ⟨d0, d1, d2, d3⟩ := (hq.same (hC.block _ hq.lt)).cell
    simp only [upon]
    go_simp
    exact ⟨Below.refl _ _, rfl⟩
  simp only [put_lit, List.set_cons_succ, List.set_cons_zero]
  apply walk_det
  · rfl
  · intro w2 hC hF
    obtain ⟨c0, c1, c2, c3⟩ := (hp.same (hC.block _ hp.lt)).cell
    obtain ⟨d0, d1, d2, d3⟩ := (hq.same (hC.block _ hq.lt)).cell
    simp only [upon]
    go_simp
    exact ⟨Below.refl _ _, rfl⟩
  simp only [put_lit, List.set_cons_succ, List.set_cons_zero]
  apply walk_det
  · rfl
  · intro w2 hC hF
    obtain ⟨c0, c1, c2, c3⟩ := (hp.same (hC.block _ hp.lt)).cell
    obtain ⟨d0, d1, d2, d3⟩ := (hq.same (hC.block _ hq.lt)).cell
    simp only [upon]
    go_simp
    exact up_call (less_any a b _) hC.size
  simp only [put_lit, List.set_cons_succ, List.set_cons_zero]
  apply walk_det
  · rfl
  · intro w2 hC hF
    obtain ⟨c0, c1, c2, c3⟩ := (hp.same (hC.block _ hp.lt)).cell
    obtain ⟨d0, d1, d2, d3⟩ := (hq.same (hC.block _ hq.lt)).cell
    simp only [upon]
    go_simp
    exact ⟨Below.refl _ _, rfl⟩
  simp only [put_lit, List.set_cons_succ, List.set_cons_zero]
  apply walk_det
  · rfl
  · intro w2 hC hF
    obtain ⟨c0, c1, c2, c3⟩ := (hp.same (hC.block _ hp.lt)).cell
    obtain ⟨d0, d1, d2, d3⟩ := (hq.same (hC.block _ hq.lt)).cell
    simp only [upon]
    go_simp
    exact ⟨Below.refl _ _, rfl⟩
  simp only [put_lit, List.set_cons_succ, List.set_cons_zero]
  apply walk_det
  · rfl
  · intro w2 hC hF
    obtain ⟨c0, c1, c2, c3⟩ := (hp.same (hC.block _ hp.lt)).cell
    obtain ⟨d0, d1, d2, d3⟩ := (hq.same (hC.block _ hq.lt)).cell
    simp only [upon]
    go_simp
    exact up_call (not_any b _) hC.size
  simp only [put_lit, List.set_cons_succ, List.set_cons_zero]
  apply walk_det
  · rfl
  · intro w2 hC hF
    obtain ⟨c0, c1, c2, c3⟩ := (hp.same (hC.block _ hp.lt)).cell
    obtain ⟨d0, d1, d2, d3⟩ := (hq.same (hC.block _ hq.lt)).cell
    simp only [upon]
    go_simp
    exact up_call (both_any a (~~~b) _) hC.size
  simp only [put_lit, List.set_cons_succ, List.set_cons_zero]
  apply walk_det
  · rfl
  · intro w2 hC hF
    simp only [upon]
    go_simp
    exact ⟨Below.refl _ _, rfl⟩
  simp only [put_lit, List.set_cons_succ, List.set_cons_zero]
  apply walk_det
  · rfl
  · intro w2 hC hF
    simp only [upon]
    go_simp
    exact ⟨Below.refl _ _, rfl⟩
  simp only [put_lit, List.set_cons_succ, List.set_cons_zero]
  apply walk_det
  · rfl
  · intro w2 hC hF
    simp only [upon]
    go_simp
    exact ⟨Below.refl _ _, rfl⟩
  simp only [put_lit, List.set_cons_succ, List.set_cons_zero]
  apply walk_det
  · rfl
  · intro w2 hC hF
    obtain ⟨c0, c1, c2, c3⟩ := (hp.same (hC.block _ hp.lt)).cell
    obtain ⟨d0, d1, d2, d3⟩ := (hq.same (hC.block _ hq.lt)).cell
    simp only [upon]
    go_simp
    exact ⟨Below.refl _ _, rfl⟩
  simp only [put_lit, List.set_cons_succ, List.set_cons_zero]
  apply walk_det
  · rfl
  · intro w2 hC hF
    obtain ⟨c0, c1, c2, c3⟩ := (hp.same (hC.block _ hp.lt)).cell
    obtain ⟨d0, d1, d2, d3⟩ := (hq.same (hC.block _ hq.lt)).cell
    simp only [upon]
    go_simp
    exact up_call (not_any a _) hC.size
  simp only [put_lit, List.set_cons_succ, List.set_cons_zero]
  apply walk_det
  · rfl
  · intro w2 hC hF
    obtain ⟨c0, c1, c2, c3⟩ := (hp.same (hC.block _ hp.lt)).cell
    obtain ⟨d0, d1, d2, d3⟩ := (hq.same (hC.block _ hq.lt)).cell
    simp only [upon]
    go_simp
    exact up_call (hn4 _) hC.size
  simp only [put_lit, List.set_cons_succ, List.set_cons_zero]
  apply walk_det
  · rfl
  · intro w2 hC hF
    obtain ⟨c0, c1, c2, c3⟩ := (hp.same (hC.block _ hp.lt)).cell
    obtain ⟨d0, d1, d2, d3⟩ := (hq.same (hC.block _ hq.lt)).cell
    simp only [upon]
    go_simp
    exact ⟨Below.refl _ _, rfl⟩
  simp only [put_lit, List.set_cons_succ, List.set_cons_zero]
  apply walk_det
  · rfl
  · intro w2 hC hF
    simp only [upon]
    go_simp
    exact ⟨Below.refl _ _, rfl⟩
  simp only [put_lit, List.set_cons_succ, List.set_cons_zero]
  apply walk_det
  · rfl
  · intro w2 hC hF
    simp only [upon]
    go_simp
    exact ⟨Below.refl _ _, rfl⟩
  simp only [put_lit, List.set_cons_succ, List.set_cons_zero]
  apply walk_det
  · rfl
  · intro w2 hC hF
    simp only [upon]
    go_simp
    exact ⟨Below.refl _ _, rfl⟩
  simp only [put_lit, List.set_cons_succ, List.set_cons_zero]
  apply walk_det
  · rfl
  · intro w2 hC hF
    obtain ⟨c0, c1, c2, c3⟩ := (hp.same (hC.block _ hp.lt)).cell
    obtain ⟨d0, d1, d2, d3⟩ := (hq.same (hC.block _ hq.lt)).cell
    simp only [upon]
    go_simp
    exact ⟨Below.refl _ _, rfl⟩
  simp only [put_lit, List.set_cons_succ, List.set_cons_zero]
  apply walk_det
  · rfl
  · intro w2 hC hF
    obtain ⟨c0, c1, c2, c3⟩ := (hp.same (hC.block _ hp.lt)).cell
    obtain ⟨d0, d1, d2, d3⟩ := (hq.same (hC.block _ hq.lt)).cell
    simp only [upon]
    go_simp
    exact up_call (len_any a _) hC.size
  simp only [put_lit, List.set_cons_succ, List.set_cons_zero]
  apply walk_det
  · rfl
  · intro w2 hC hF
    obtain ⟨c0, c1, c2, c3⟩ := (hp.same (hC.block _ hp.lt)).cell
    obtain ⟨d0, d1, d2, d3⟩ := (hq.same (hC.block _ hq.lt)).cell
    simp only [upon]
    go_simp
    exact ⟨Below.refl _ _, rfl⟩
  simp only [put_lit, List.set_cons_succ, List.set_cons_zero]
  apply walk_det
  · rfl
  · intro w2 hC hF
    obtain ⟨c0, c1, c2, c3⟩ := (hp.same (hC.block _ hp.lt)).cell
    obtain ⟨d0, d1, d2, d3⟩ := (hq.same (hC.block _ hq.lt)).cell
    simp only [upon]
    go_simp
    exact up_call (len_any b _) hC.size
  simp only [put_lit, List.set_cons_succ, List.set_cons_zero]
  apply walk_det
  · rfl
  · intro w2 hC hF
    simp only [upon]
    go_simp
    exact ⟨Below.refl _ _, rfl⟩
  simp only [put_lit, List.set_cons_succ, List.set_cons_zero]
  apply walk_det
  · rfl
  · intro w2 hC hF
    obtain ⟨c0, c1, c2, c3⟩ := (hp.same (hC.block _ hp.lt)).cell
    obtain ⟨d0, d1, d2, d3⟩ := (hq.same (hC.block _ hq.lt)).cell
    simp only [upon]
    go_simp
    exact ⟨Below.refl _ _, rfl⟩
  simp only [put_lit, List.set_cons_succ, List.set_cons_zero]
  apply walk_det
  · rfl
  · intro w2 hC hF
    obtain ⟨c0, c1, c2, c3⟩ := (hp.same (hC.block _ hp.lt)).cell
    obtain ⟨d0, d1, d2, d3⟩ := (hq.same (hC.block _ hq.lt)).cell
    simp only [upon]
    go_simp
    exact ⟨Below.refl _ _, rfl⟩
  simp only [put_lit, List.set_cons_succ, List.set_cons_zero]
  apply walk_det
  · rfl
  · intro w2 hC hF
    obtain ⟨c0, c1, c2, c3⟩ := (hp.same (hC.block _ hp.lt)).cell
    obtain ⟨d0, d1, d2, d3⟩ := (hq.same (hC.block _ hq.lt)).cell
    simp only [upon]
    go_simp
    exact up_call (union_any a b _) hC.size
  simp only [put_lit, List.set_cons_succ, List.set_cons_zero]
  apply walk_det
  · rfl
  · intro w2 hC hF
    obtain ⟨c0, c1, c2, c3⟩ := (hp.same (hC.block _ hp.lt)).cell
    obtain ⟨d0, d1, d2, d3⟩ := (hq.same (hC.block _ hq.lt)).cell
    simp only [upon]
    go_simp
    exact up_call (len_any (a ||| b) _) hC.size
  simp only [put_lit, List.set_cons_succ, List.set_cons_zero]
  apply walk_det
  · rfl
  · intro w2 hC hF
    obtain ⟨c0, c1, c2, c3⟩ := (hp.same (hC.block _ hp.lt)).cell
    obtain ⟨d0, d1, d2, d3⟩ := (hq.same (hC.block _ hq.lt)).cell
    simp only [upon]
    go_simp
    exact ⟨Below.refl _ _, rfl⟩
  simp only [put_lit, List.set_cons_succ, List.set_cons_zero]
  apply walk_det
  · rfl
  · intro w2 hC hF
    obtain ⟨c0, c1, c2, c3⟩ := (hp.same (hC.block _ hp.lt)).cell
    obtain ⟨d0, d1, d2, d3⟩ := (hq.same (hC.block _ hq.lt)).cell
    simp only [upon]
    go_simp
    exact ⟨Below.refl _ _, rfl⟩
  simp only [put_lit, List.set_cons_succ, List.set_cons_zero]
  apply walk_det
  · rfl
  · intro w2 hC hF
    obtain ⟨c0, c1, c2, c3⟩ := (hp.same (hC.block _ hp.lt)).cell
    obtain ⟨d0, d1, d2, d3⟩ := (hq.same (hC.block _ hq.lt)).cell
    simp only [upon]
    go_simp
    exact up_call (both_any a b _) hC.size
  simp only [put_lit, List.set_cons_succ, List.set_cons_zero]
  apply walk_det
  · rfl
  · intro w2 hC hF
    obtain ⟨c0, c1, c2, c3⟩ := (hp.same (hC.block _ hp.lt)).cell
    obtain ⟨d0, d1, d2, d3⟩ := (hq.same (hC.block _ hq.lt)).cell
    simp only [upon]
    go_simp
    exact up_call (len_any (a &&& b) _) hC.size
  simp only [put_lit, List.set_cons_succ, List.set_cons_zero]
  apply walk_det
  · rfl
  · intro w2 hC hF
    simp only [upon]
    go_simp
    exact ⟨Below.refl _ _, rfl⟩
  simp only [put_lit, List.set_cons_succ, List.set_cons_zero]
  apply walk_det
  · rfl
  · intro w2 hC hF
    simp only [upon]
    go_simp
    exact ⟨Below.refl _ _, rfl⟩
  simp only [put_lit, List.set_cons_succ, List.set_cons_zero]
  apply walk_det
  · rfl
  · intro w2 hC hF
    simp only [upon]
    go_simp
    exact ⟨Below.refl _ _, rfl⟩
  simp only [put_lit, List.set_cons_succ, List.set_cons_zero]
  apply walk_det
  · rfl
  · intro w2 hC hF
    simp only [upon]
    go_simp
    exact ⟨Below.refl _ _, rfl⟩
  simp only [put_lit, List.set_cons_succ, List.set_cons_zero]
  apply walk_nil
  intro w2 hC _
  go_wp2
  go_returns
  exact ⟨rfl, hB.trans (hC.mono hB.size)⟩

set_option maxRecDepth 100000 in
set_option maxHeartbeats 8000000 in
theorem setsMeans_any (a b : S) (c : Nat) (w : World) (hc : c < 256) (hT : Tab w) :
    Calls Tryd.prog 8 #[sv a, sv b, .int .u8 c] w fun e w' => e = .returned (.bool true) ∧ Below w.heap.size w w' := by
  have k1 := fun w => has_any a c hc w
  have k2 := fun w => has_any b c hc w
  have k3 := fun w => has_any (a ||| b) c hc w
  have k4 := fun w => has_any (a &&& b) c hc w
  have k5 := fun w => has_any (a &&& ~~~b) c hc w
  have k6 := fun w => has_any (~~~a) c hc w
  rw [mem_or] at k3
  rw [mem_and] at k4
  rw [mem_and, mem_not _ c hc] at k5
  rw [mem_not _ c hc] at k6
  generalize mem a c = x at *
  generalize mem b c = y at *
  have hc1 : (c : Int) < 256 := by omega
  unfold sv
  cases x <;> cases y
  all_goals
    simp only [Bool.or_true, Bool.or_false, Bool.and_true, Bool.and_false, Bool.not_true, Bool.not_false] at k3 k4 k5 k6
    go_enter Tryd.func8, Tryd.ntmps8
    go_wp2_with (go_at_call 16; refine (works_any _ (((hT.below ((Below.refl _ w).alloc (Nat.le_refl _) _) hT.lt)).below ((Below.refl _ _).alloc (Nat.le_refl _) _) (by simp))).mono ?_; rintro e w0 ⟨rfl, hb0⟩)
    have hp : SetAt w0 w.heap.size a := ((SetAt.box w a).alloc _).same (hb0.block _ (by simp; omega))
    have hq : SetAt w0 (w.heap.size + 1) b := by
      have h := SetAt.box (w.alloc (boxOf a)) b
      rw [World.size_alloc] at h
      exact h.same (hb0.block _ (by simp))
    have hB0 : Below w.heap.size w w0 := bnext (balloc (balloc (Below.refl _ w) _) _) hb0
    refine poised_whole (fun w' => Below w0.heap.size w0 w') (fun w w' => Below w0.heap.size w w') (by kernel_rfl) (by kernel_rfl) (by kernel_rfl) (fun _ _ h k => h.trans k) ((Below.refl _ _).drew) ?_
    apply Exists.intro
    apply walk_det
    · rfl
    · intro w2 hC hF
      obtain ⟨c0, c1, c2, c3⟩ := (hp.same (hC.block _ hp.lt)).cell
      obtain ⟨d0, d1, d2, d3⟩ := (hq.same (hC.block _ hq.lt)).cell
      simp only [upon]
      go_simp
      exact ⟨Below.refl _ _, rfl⟩
    simp only [put_lit, List.set_cons_succ, List.set_cons_zero]
    apply walk_det
    · rfl
    · intro w2 hC hF
      simp only [upon]
      go_simp
      exact ⟨Below.refl _ _, rfl⟩
    simp only [put_lit, List.set_cons_succ, List.set_cons_zero]
    apply walk_det
    · rfl
    · intro w2 hC hF
      obtain ⟨c0, c1, c2, c3⟩ := (hp.same (hC.block _ hp.lt)).cell
      obtain ⟨d0, d1, d2, d3⟩ := (hq.same (hC.block _ hq.lt)).cell
      simp only [upon]
      go_simp
      exact up_call (k1 _) hC.size
    simp only [put_lit, List.set_cons_succ, List.set_cons_zero]
    apply walk_det
    · rfl
    · intro w2 hC hF
      obtain ⟨c0, c1, c2, c3⟩ := (hp.same (hC.block _ hp.lt)).cell
      obtain ⟨d0, d1, d2, d3⟩ := (hq.same (hC.block _ hq.lt)).cell
      simp only [upon]
      go_simp
      exact ⟨Below.refl _ _, rfl⟩
    simp only [put_lit, List.set_cons_succ, List.set_cons_zero]
    apply walk_det
    · rfl
    · intro w2 hC hF
      simp only [upon]
      go_simp
      exact ⟨Below.refl _ _, rfl⟩
    simp only [put_lit, List.set_cons_succ, List.set_cons_zero]
    apply walk_det
    · rfl
    · intro w2 hC hF
      obtain ⟨c0, c1, c2, c3⟩ := (hp.same (hC.block _ hp.lt)).cell
      obtain ⟨d0, d1, d2, d3⟩ := (hq.same (hC.block _ hq.lt)).cell
      simp only [upon]
      go_simp
      exact up_call (k2 _) hC.size
    simp only [put_lit, List.set_cons_succ, List.set_cons_zero]
    apply walk_det
    · rfl
    · intro w2 hC hF
      simp only [upon]
      go_simp
      exact ⟨Below.refl _ _, rfl⟩
    simp only [put_lit, List.set_cons_succ, List.set_cons_zero]
    apply walk_det
    · rfl
    · intro w2 hC hF
      simp only [upon]
      go_simp
      exact ⟨Below.refl _ _, rfl⟩
    simp only [put_lit, List.set_cons_succ, List.set_cons_zero]
    apply walk_nil
    intro w1 hC _
    have hp1 := hp.same (hC.block _ hp.lt)
    have hq1 := hq.same (hC.block _ hq.lt)
    have hB1 : Below w.heap.size w w1 := bnext hB0 hC
    clear hp hq hB0 hC hb0
    obtain ⟨c0, c1, c2, c3⟩ := hp1.cell
    obtain ⟨d0, d1, d2, d3⟩ := hq1.cell
    go_wp2_with fail
    refine (union_any a b _).mono ?_
    rintro e w2 ⟨rfl, hb2⟩
    have hB2 : Below w.heap.size w w2 := by first | exact bnext hB1 hb2 | exact bnext (balloc hB1 _) hb2 | exact bnext (balloc (balloc hB1 _) _) hb2
    have hp2 := hp1.same (hb2.block _ hp1.lt)
    have hq2 := hq1.same (hb2.block _ hq1.lt)
    clear hp1 hq1
    obtain ⟨c0, c1, c2, c3⟩ := hp2.cell
    obtain ⟨d0, d1, d2, d3⟩ := hq2.cell
    go_wp2_with fail
    refine (k3 _).mono ?_
    rintro e w3 ⟨rfl, hb3⟩
    have hB3 : Below w.heap.size w w3 := by first | exact bnext hB2 hb3 | exact bnext (balloc hB2 _) hb3 | exact bnext (balloc (balloc hB2 _) _) hb3
    have hp3 := hp2.same (hb3.block _ hp2.lt)
    have hq3 := hq2.same (hb3.block _ hq2.lt)
    clear hp2 hq2
    obtain ⟨c0, c1, c2, c3⟩ := hp3.cell
    obtain ⟨d0, d1, d2, d3⟩ := hq3.cell
    go_wp2_with fail
    refine (both_any a b _).mono ?_
    rintro e w4 ⟨rfl, hb4⟩
    have hB4 : Below w.heap.size w w4 := by first | exact bnext hB3 hb4 | exact bnext (balloc hB3 _) hb4 | exact bnext (balloc (balloc hB3 _) _) hb4
    have hp4 := hp3.same (hb4.block _ hp3.lt)
    have hq4 := hq3.same (hb4.block _ hq3.lt)
    clear hp3 hq3
    obtain ⟨c0, c1, c2, c3⟩ := hp4.cell
    obtain ⟨d0, d1, d2, d3⟩ := hq4.cell
    go_wp2_with fail
    refine (k4 _).mono ?_
    rintro e w5 ⟨rfl, hb5⟩
    have hB5 : Below w.heap.size w w5 := by first | exact bnext hB4 hb5 | exact bnext (balloc hB4 _) hb5 | exact bnext (balloc (balloc hB4 _) _) hb5
    have hp5 := hp4.same (hb5.block _ hp4.lt)
    have hq5 := hq4.same (hb5.block _ hq4.lt)
    clear hp4 hq4
    obtain ⟨c0, c1, c2, c3⟩ := hp5.cell
    obtain ⟨d0, d1, d2, d3⟩ := hq5.cell
    go_wp2_with fail
    refine (less_any a b _).mono ?_
    rintro e w6 ⟨rfl, hb6⟩
    have hB6 : Below w.heap.size w w6 := by first | exact bnext hB5 hb6 | exact bnext (balloc hB5 _) hb6 | exact bnext (balloc (balloc hB5 _) _) hb6
    have hp6 := hp5.same (hb6.block _ hp5.lt)
    have hq6 := hq5.same (hb6.block _ hq5.lt)
    clear hp5 hq5
    obtain ⟨c0, c1, c2, c3⟩ := hp6.cell
    obtain ⟨d0, d1, d2, d3⟩ := hq6.cell
    go_wp2_with fail
    refine (k5 _).mono ?_
    rintro e w7 ⟨rfl, hb7⟩
    have hB7 : Below w.heap.size w w7 := by first | exact bnext hB6 hb7 | exact bnext (balloc hB6 _) hb7 | exact bnext (balloc (balloc hB6 _) _) hb7
    have hp7 := hp6.same (hb7.block _ hp6.lt)
    have hq7 := hq6.same (hb7.block _ hq6.lt)
    clear hp6 hq6
    obtain ⟨c0, c1, c2, c3⟩ := hp7.cell
    obtain ⟨d0, d1, d2, d3⟩ := hq7.cell
    go_wp2_with fail
    refine (not_any a _).mono ?_
    rintro e w8 ⟨rfl, hb8⟩
    have hB8 : Below w.heap.size w w8 := by first | exact bnext hB7 hb8 | exact bnext (balloc hB7 _) hb8 | exact bnext (balloc (balloc hB7 _) _) hb8
    have hp8 := hp7.same (hb8.block _ hp7.lt)
    have hq8 := hq7.same (hb8.block _ hq7.lt)
    clear hp7 hq7
    obtain ⟨c0, c1, c2, c3⟩ := hp8.cell
    obtain ⟨d0, d1, d2, d3⟩ := hq8.cell
    go_wp2_with fail
    refine (k6 _).mono ?_
    rintro e w9 ⟨rfl, hb9⟩
    have hB9 : Below w.heap.size w w9 := by first | exact bnext hB8 hb9 | exact bnext (balloc hB8 _) hb9 | exact bnext (balloc (balloc hB8 _) _) hb9
    have hp9 := hp8.same (hb9.block _ hp8.lt)
    have hq9 := hq8.same (hb9.block _ hq8.lt)
    clear hp8 hq8
    obtain ⟨c0, c1, c2, c3⟩ := hp9.cell
    obtain ⟨d0, d1, d2, d3⟩ := hq9.cell
    go_wp2
    go_returns
    exact ⟨rfl, hB9⟩
end Go.Proofs.YtgopahmhniphbaaDoor
