import Derived.Test.YtgopahmhniphbaaDoorWj
import Derived.Test.YtgopahmhniphbaaDoorL2
namespace Go.Proofs.YtgopahmhniphbaaDoor
open Go.RowKit Sp Go.Poised


theorem fl_span (f t : Nat) (ht : t < 256) : ∀ n, n ≤ 256 → (fl (span f t) n).length = min n (t + 1) - min f (min n (t + 1))
  | 0, _ => by simp [fl]
  | n + 1, h => by
    have ih := fl_span f t ht n (by omega)
    rw [fl_succ, span_mem f t ht]
    by_cases h1 : f ≤ n
    · by_cases h2 : n ≤ t
      · simp only [h1, h2, decide_true, Bool.and_self, if_true, List.length_append, List.length_cons, List.length_nil]; omega
      · simp only [h1, h2, decide_true, decide_false, Bool.and_false, Bool.false_eq_true, if_false]; omega
    · simp only [h1, decide_false, Bool.false_and, Bool.false_eq_true, if_false]; omega
theorem cnt_span (f t : Nat) (_ : f < 256) (ht : t < 256) : ((cnt (span f t) : Nat) : Int) = max ((t : Int) - f + 1) 0 := by
  rw [cnt_fl, fl_span f t ht 256 (by omega)]
  omega
theorem span_parts (f t c : Nat) (_ : f < 256) (ht : t < 256) (h1 : f ≤ c) (h2 : c < t) : span f c ||| span (c + 1) t = span f t := by
  apply ext_mem
  intro x hx
  rw [mem_or, span_mem _ _ (by omega), span_mem _ _ ht, span_mem _ _ ht, Bool.eq_iff_iff]
  simp
  omega

set_option maxRecDepth 100000 in
set_option maxHeartbeats 8000000 in
theorem setsSpan_any (f t c : Nat) (w : World) (hf : f < 256) (ht : t < 256) (hc : c < 256) (hT : Tab w) :
    Calls Tryd.prog 10 #[.int .u8 f, .int .u8 t, .int .u8 c] w fun e w' => e = .returned (.bool true) ∧ Below w.heap.size w w' := by
  have k1 := fun w => has_any (span f t) c hc w
  rw [span_mem f t ht] at k1
  have k2 := fun w => len_any (span f t) w
  have hcs := cnt_span f t hf ht
  have hT1 := hT.lt
  have f1 : (f : Int) < 256 := by omega
  have t1 : (t : Int) < 256 := by omega
  have c1 : (c : Int) < 256 := by omega
  have f0 : 0 ≤ (f : Int) := by omega
  have t0 : 0 ≤ (t : Int) := by omega
  have c0 : 0 ≤ (c : Int) := by omega
  have e1 := eq_yes (span f t)
  rcases (by omega : (f ≤ c ∧ c < t) ∨ (f ≤ c ∧ t ≤ c ∧ c ≤ t) ∨ (f ≤ c ∧ t < c ∧ f ≤ t) ∨ (f ≤ c ∧ t < c ∧ t + 1 < f) ∨ (f ≤ c ∧ t < c ∧ t < f ∧ f ≤ t + 1) ∨ (c < f ∧ f ≤ t) ∨ (c < f ∧ t + 1 < f) ∨ (c < f ∧ t < f ∧ f ≤ t + 1)) with h | h | h | h | h | h | h | h
  · have k1' : (decide (f ≤ c) && decide (c ≤ t)) = true := by simp; omega
    rw [k1'] at k1
    have hm : max ((t : Int) - f + 1) 0 = (t : Int) - f + 1 := by omega
    rw [hcs, hm] at k2
    clear k1' hm hcs
    have i0 : (f : Int) ≤ (c : Int) := by omega
    have i1 : (c : Int) ≤ (t : Int) := by omega
    have i2 : (c : Int) < (t : Int) := by omega
    have i3 : (f : Int) ≤ (t : Int) := by omega
    have j0 : decide (c < f) = false := by simp; omega
    have j2 : decide (c ≤ t) = true := by simp; omega
    have j1 : decide (t ≤ c) = false := by simp; omega
    have ku := fun w => union_any (span f c) (span (c + 1) t) w
    rw [span_parts f t c hf ht h.1 h.2] at ku
    go_enter Tryd.func10, Tryd.ntmps10
    go_wp2_with fail
    refine (works_any _ hT).mono ?_
    rintro e w1 ⟨rfl, hb1⟩
    go_wp2_with fail
    refine (span_any f t hf ht _).mono ?_
    rintro e w2 ⟨rfl, hb2⟩
    go_wp2_with fail
    refine (k1 _).mono ?_
    rintro e w3 ⟨rfl, hb3⟩
    have hs3 : SetAt w3 w2.heap.size (span f t) := (SetAt.box w2 (span f t)).same (hb3.block _ (by simp))
    have hB3 : Below w.heap.size w w3 := bnext (balloc (bnext hb1 hb2) _) hb3
    obtain ⟨p0, p1, p2, p3⟩ := hs3.cell
    go_wp2_with fail
    refine (k2 _).mono ?_
    rintro e w4 ⟨rfl, hb4⟩
    have hs4 : SetAt w4 w2.heap.size (span f t) := hs3.same (hb4.block _ hs3.lt)
    have hB4 : Below w.heap.size w w4 := bnext hB3 hb4
    clear p0 p1 p2 p3 hs3 k1 k2
    obtain ⟨p0, p1, p2, p3⟩ := hs4.cell
    go_wp2
    have hw1 : IntKind.u8.wrap ((c : Int) + 1) = (c : Int) + 1 := by rw [IntKind.wrap_u8]; omega
    refine poised_whole (fun w' => Below w4.heap.size w4 w') (fun w w' => Below w4.heap.size w w') (by kernel_rfl) (by kernel_rfl) (by kernel_rfl) (fun _ _ h k => h.trans k) ((Below.refl _ _).drew) ?_
    apply Exists.intro
    apply walk_det
    · rfl
    · intro w2 hC hF
      simp only [upon]
      go_simp
      exact ⟨Below.refl _ _, rfl⟩
    simp only [put_lit, List.set_cons_succ, List.set_cons_zero]
    apply walk_det
    · rfl
    · intro w2 hC hF
      simp only [upon]
      go_simp
      exact ⟨Below.refl _ _, rfl⟩
    simp only [put_lit, List.set_cons_succ, List.set_cons_zero]
    apply walk_det
    · rfl
    · intro w2 hC hF
      simp only [upon]
      go_simp
      exact ⟨Below.refl _ _, rfl⟩
    simp only [put_lit, List.set_cons_succ, List.set_cons_zero]
    apply walk_det
    · rfl
    · intro w2 hC hF
      simp only [upon]
      go_simp
      exact ⟨Below.refl _ _, rfl⟩
    simp only [put_lit, List.set_cons_succ, List.set_cons_zero]
    apply walk_det
    · rfl
    · intro w2 hC hF
      simp only [upon]
      go_simp
      exact ⟨Below.refl _ _, rfl⟩
    simp only [put_lit, List.set_cons_succ, List.set_cons_zero]
    apply walk_det
    · rfl
    · intro w2 hC hF
      simp only [upon]
      go_simp
      exact ⟨Below.refl _ _, rfl⟩
    simp only [put_lit, List.set_cons_succ, List.set_cons_zero]
    apply walk_det
    · rfl
    · intro w2 hC hF
      simp only [upon]
      go_simp
      exact ⟨Below.refl _ _, rfl⟩
    simp only [put_lit, List.set_cons_succ, List.set_cons_zero]
    apply walk_det
    · rfl
    · intro w2 hC hF
      simp only [upon]
      go_simp
      exact ⟨Below.refl _ _, rfl⟩
    simp only [put_lit, List.set_cons_succ, List.set_cons_zero]
    apply walk_det
    · rfl
    · intro w2 hC hF
      simp only [upon]
      go_simp
      exact ⟨Below.refl _ _, rfl⟩
    simp only [put_lit, List.set_cons_succ, List.set_cons_zero]
    apply walk_det
    · rfl
    · intro w2 hC hF
      obtain ⟨c0, c1, c2, c3⟩ := (hs4.same (hC.block _ hs4.lt)).cell
      simp only [upon]
      go_simp
      exact ⟨Below.refl _ _, rfl⟩
    simp only [put_lit, List.set_cons_succ, List.set_cons_zero]
    apply walk_det
    · rfl
    · intro w2 hC hF
      simp only [upon]
      go_simp
      exact ⟨Below.refl _ _, rfl⟩
    simp only [put_lit, List.set_cons_succ, List.set_cons_zero]
    apply walk_det
    · rfl
    · intro w2 hC hF
      simp only [upon]
      go_simp
      exact ⟨Below.refl _ _, rfl⟩
    simp only [put_lit, List.set_cons_succ, List.set_cons_zero]
    apply walk_det
    · rfl
    · intro w2 hC hF
      obtain ⟨c0, c1, c2, c3⟩ := (hs4.same (hC.block _ hs4.lt)).cell
      simp only [upon]
      go_simp
      exact up_call (span_any f c hf hc _) hC.size
    simp only [put_lit, List.set_cons_succ, List.set_cons_zero]
    apply walk_det
    · rfl
    · intro w2 hC hF
      simp only [upon]
      go_simp
      exact ⟨Below.refl _ _, rfl⟩
    simp only [put_lit, List.set_cons_succ, List.set_cons_zero]
    apply walk_det
    · rfl
    · intro w2 hC hF
      simp only [upon]
      go_simp
      exact ⟨Below.refl _ _, rfl⟩
    simp only [put_lit, List.set_cons_succ, List.set_cons_zero]
    apply walk_det
    · rfl
    · intro w2 hC hF
      simp only [upon]
      go_simp
      exact ⟨Below.refl _ _, rfl⟩
    simp only [put_lit, List.set_cons_succ, List.set_cons_zero]
    apply walk_det
    · rfl
    · intro w2 hC hF
      obtain ⟨c0, c1, c2, c3⟩ := (hs4.same (hC.block _ hs4.lt)).cell
      simp only [upon]
      go_simp
      exact up_call (span_any (c + 1) t (by omega) ht _) hC.size
    simp only [put_lit, List.set_cons_succ, List.set_cons_zero]
    apply walk_det
    · rfl
    · intro w2 hC hF
      obtain ⟨c0, c1, c2, c3⟩ := (hs4.same (hC.block _ hs4.lt)).cell
      simp only [upon]
      go_simp
      exact up_call (ku _) hC.size
    simp only [put_lit, List.set_cons_succ, List.set_cons_zero]
    apply walk_det
    · rfl
    · intro w2 hC hF
      simp only [upon]
      go_simp
      exact ⟨Below.refl _ _, rfl⟩
    simp only [put_lit, List.set_cons_succ, List.set_cons_zero]
    apply walk_det
    · rfl
    · intro w2 hC hF
      simp only [upon]
      go_simp
      exact ⟨Below.refl _ _, rfl⟩
    simp only [put_lit, List.set_cons_succ, List.set_cons_zero]
    apply walk_det
    · rfl
    · intro w2 hC hF
      simp only [upon]
      go_simp
      exact ⟨Below.refl _ _, rfl⟩
    simp only [put_lit, List.set_cons_succ, List.set_cons_zero]
    apply walk_nil
    intro w2 hC _
    go_wp2
    go_returns
    exact ⟨rfl, bnext hB4 hC⟩
  · have k1' : (decide (f ≤ c) && decide (c ≤ t)) = true := by simp; omega
    rw [k1'] at k1
    have hm : max ((t : Int) - f + 1) 0 = (t : Int) - f + 1 := by omega
    rw [hcs, hm] at k2
    clear k1' hm hcs
    have i0 : (f : Int) ≤ (c : Int) := by omega
    have i1 : (c : Int) ≤ (t : Int) := by omega
    have i2 : (t : Int) ≤ (c : Int) := by omega
    have i3 : (f : Int) ≤ (t : Int) := by omega
    have j0 : decide (c < f) = false := by simp; omega
    have j2 : decide (c ≤ t) = true := by simp; omega
    have j1 : decide (t ≤ c) = true := by simp; omega
    go_enter Tryd.func10, Tryd.ntmps10
    go_wp2_with fail
    refine (works_any _ hT).mono ?_
    rintro e w1 ⟨rfl, hb1⟩
    go_wp2_with fail
    refine (span_any f t hf ht _).mono ?_
    rintro e w2 ⟨rfl, hb2⟩
    go_wp2_with fail
    refine (k1 _).mono ?_
    rintro e w3 ⟨rfl, hb3⟩
    have hs3 : SetAt w3 w2.heap.size (span f t) := (SetAt.box w2 (span f t)).same (hb3.block _ (by simp))
    have hB3 : Below w.heap.size w w3 := bnext (balloc (bnext hb1 hb2) _) hb3
    obtain ⟨p0, p1, p2, p3⟩ := hs3.cell
    go_wp2_with fail
    refine (k2 _).mono ?_
    rintro e w4 ⟨rfl, hb4⟩
    have hs4 : SetAt w4 w2.heap.size (span f t) := hs3.same (hb4.block _ hs3.lt)
    have hB4 : Below w.heap.size w w4 := bnext hB3 hb4
    clear p0 p1 p2 p3 hs3 k1 k2
    obtain ⟨p0, p1, p2, p3⟩ := hs4.cell
    go_wp2
    refine poised_whole (fun w' => Below w4.heap.size w4 w') (fun w w' => Below w4.heap.size w w') (by kernel_rfl) (by kernel_rfl) (by kernel_rfl) (fun _ _ h k => h.trans k) ((Below.refl _ _).drew) ?_
    apply Exists.intro
    apply walk_det
    · rfl
    · intro w2 hC hF
      simp only [upon]
      go_simp
      exact ⟨Below.refl _ _, rfl⟩
    simp only [put_lit, List.set_cons_succ, List.set_cons_zero]
    apply walk_det
    · rfl
    · intro w2 hC hF
      simp only [upon]
      go_simp
      exact ⟨Below.refl _ _, rfl⟩
    simp only [put_lit, List.set_cons_succ, List.set_cons_zero]
    apply walk_det
    · rfl
    · intro w2 hC hF
      simp only [upon]
      go_simp
      exact ⟨Below.refl _ _, rfl⟩
    simp only [put_lit, List.set_cons_succ, List.set_cons_zero]
    apply walk_det
    · rfl
    · intro w2 hC hF
      simp only [upon]
      go_simp
      exact ⟨Below.refl _ _, rfl⟩
    simp only [put_lit, List.set_cons_succ, List.set_cons_zero]
    apply walk_det
    · rfl
    · intro w2 hC hF
      simp only [upon]
      go_simp
      exact ⟨Below.refl _ _, rfl⟩
    simp only [put_lit, List.set_cons_succ, List.set_cons_zero]
    apply walk_det
    · rfl
    · intro w2 hC hF
      simp only [upon]
      go_simp
      exact ⟨Below.refl _ _, rfl⟩
    simp only [put_lit, List.set_cons_succ, List.set_cons_zero]
    apply walk_det
    · rfl
    · intro w2 hC hF
      simp only [upon]
      go_simp
      exact ⟨Below.refl _ _, rfl⟩
    simp only [put_lit, List.set_cons_succ, List.set_cons_zero]
    apply walk_det
    · rfl
    · intro w2 hC hF
      simp only [upon]
      go_simp
      exact ⟨Below.refl _ _, rfl⟩
    simp only [put_lit, List.set_cons_succ, List.set_cons_zero]
    apply walk_det
    · rfl
    · intro w2 hC hF
      simp only [upon]
      go_simp
      exact ⟨Below.refl _ _, rfl⟩
    simp only [put_lit, List.set_cons_succ, List.set_cons_zero]
    apply walk_skip
    · rfl
    simp only [put_lit, List.set_cons_succ, List.set_cons_zero]
    apply walk_skip
    · rfl
    simp only [put_lit, List.set_cons_succ, List.set_cons_zero]
    apply walk_skip
    · rfl
    simp only [put_lit, List.set_cons_succ, List.set_cons_zero]
    apply walk_skip
    · rfl
    simp only [put_lit, List.set_cons_succ, List.set_cons_zero]
    apply walk_skip
    · rfl
    simp only [put_lit, List.set_cons_succ, List.set_cons_zero]
    apply walk_skip
    · rfl
    simp only [put_lit, List.set_cons_succ, List.set_cons_zero]
    apply walk_skip
    · rfl
    simp only [put_lit, List.set_cons_succ, List.set_cons_zero]
    apply walk_skip
    · rfl
    simp only [put_lit, List.set_cons_succ, List.set_cons_zero]
    apply walk_skip
    · rfl
    simp only [put_lit, List.set_cons_succ, List.set_cons_zero]
    apply walk_skip
    · rfl
    simp only [put_lit, List.set_cons_succ, List.set_cons_zero]
    apply walk_det
    · rfl
    · intro w2 hC hF
      simp only [upon]
      go_simp
      exact ⟨Below.refl _ _, rfl⟩
    simp only [put_lit, List.set_cons_succ, List.set_cons_zero]
    apply walk_det
    · rfl
    · intro w2 hC hF
      simp only [upon]
      go_simp
      exact ⟨Below.refl _ _, rfl⟩
    simp only [put_lit, List.set_cons_succ, List.set_cons_zero]
    apply walk_nil
    intro w2 hC _
    go_wp2
    go_returns
    exact ⟨rfl, bnext hB4 hC⟩
  · have k1' : (decide (f ≤ c) && decide (c ≤ t)) = false := by rw [Bool.eq_false_iff]; simp; omega
    rw [k1'] at k1
    have hm : max ((t : Int) - f + 1) 0 = (t : Int) - f + 1 := by omega
    rw [hcs, hm] at k2
    clear k1' hm hcs
    have i0 : (f : Int) ≤ (c : Int) := by omega
    have i1 : (t : Int) < (c : Int) := by omega
    have i2 : (t : Int) ≤ (c : Int) := by omega
    have i3 : (f : Int) ≤ (t : Int) := by omega
    have j0 : decide (c < f) = false := by simp; omega
    have j2 : decide (c ≤ t) = false := by simp; omega
    have j1 : decide (t ≤ c) = true := by simp; omega
    go_enter Tryd.func10, Tryd.ntmps10
    go_wp2_with fail
    refine (works_any _ hT).mono ?_
    rintro e w1 ⟨rfl, hb1⟩
    go_wp2_with fail
    refine (span_any f t hf ht _).mono ?_
    rintro e w2 ⟨rfl, hb2⟩
    go_wp2_with fail
    refine (k1 _).mono ?_
    rintro e w3 ⟨rfl, hb3⟩
    have hs3 : SetAt w3 w2.heap.size (span f t) := (SetAt.box w2 (span f t)).same (hb3.block _ (by simp))
    have hB3 : Below w.heap.size w w3 := bnext (balloc (bnext hb1 hb2) _) hb3
    obtain ⟨p0, p1, p2, p3⟩ := hs3.cell
    go_wp2_with fail
    refine (k2 _).mono ?_
    rintro e w4 ⟨rfl, hb4⟩
    have hs4 : SetAt w4 w2.heap.size (span f t) := hs3.same (hb4.block _ hs3.lt)
    have hB4 : Below w.heap.size w w4 := bnext hB3 hb4
    clear p0 p1 p2 p3 hs3 k1 k2
    obtain ⟨p0, p1, p2, p3⟩ := hs4.cell
    go_wp2
    refine poised_whole (fun w' => Below w4.heap.size w4 w') (fun w w' => Below w4.heap.size w w') (by kernel_rfl) (by kernel_rfl) (by kernel_rfl) (fun _ _ h k => h.trans k) ((Below.refl _ _).drew) ?_
    apply Exists.intro
    apply walk_det
    · rfl
    · intro w2 hC hF
      simp only [upon]
      go_simp
      exact ⟨Below.refl _ _, rfl⟩
    simp only [put_lit, List.set_cons_succ, List.set_cons_zero]
    apply walk_det
    · rfl
    · intro w2 hC hF
      simp only [upon]
      go_simp
      exact ⟨Below.refl _ _, rfl⟩
    simp only [put_lit, List.set_cons_succ, List.set_cons_zero]
    apply walk_det
    · rfl
    · intro w2 hC hF
      simp only [upon]
      go_simp
      exact ⟨Below.refl _ _, rfl⟩
    simp only [put_lit, List.set_cons_succ, List.set_cons_zero]
    apply walk_det
    · rfl
    · intro w2 hC hF
      simp only [upon]
      go_simp
      exact ⟨Below.refl _ _, rfl⟩
    simp only [put_lit, List.set_cons_succ, List.set_cons_zero]
    apply walk_det
    · rfl
    · intro w2 hC hF
      simp only [upon]
      go_simp
      exact ⟨Below.refl _ _, rfl⟩
    simp only [put_lit, List.set_cons_succ, List.set_cons_zero]
    apply walk_det
    · rfl
    · intro w2 hC hF
      simp only [upon]
      go_simp
      exact ⟨Below.refl _ _, rfl⟩
    simp only [put_lit, List.set_cons_succ, List.set_cons_zero]
    apply walk_det
    · rfl
    · intro w2 hC hF
      simp only [upon]
      go_simp
      exact ⟨Below.refl _ _, rfl⟩
    simp only [put_lit, List.set_cons_succ, List.set_cons_zero]
    apply walk_det
    · rfl
    · intro w2 hC hF
      simp only [upon]
      go_simp
      exact ⟨Below.refl _ _, rfl⟩
    simp only [put_lit, List.set_cons_succ, List.set_cons_zero]
    apply walk_det
    · rfl
    · intro w2 hC hF
      simp only [upon]
      go_simp
      exact ⟨Below.refl _ _, rfl⟩
    simp only [put_lit, List.set_cons_succ, List.set_cons_zero]
    apply walk_skip
    · rfl
    simp only [put_lit, List.set_cons_succ, List.set_cons_zero]
    apply walk_skip
    · rfl
    simp only [put_lit, List.set_cons_succ, List.set_cons_zero]
    apply walk_skip
    · rfl
    simp only [put_lit, List.set_cons_succ, List.set_cons_zero]
    apply walk_skip
    · rfl
    simp only [put_lit, List.set_cons_succ, List.set_cons_zero]
    apply walk_skip
    · rfl
    simp only [put_lit, List.set_cons_succ, List.set_cons_zero]
    apply walk_skip
    · rfl
    simp only [put_lit, List.set_cons_succ, List.set_cons_zero]
    apply walk_skip
    · rfl
    simp only [put_lit, List.set_cons_succ, List.set_cons_zero]
    apply walk_skip
    · rfl
    simp only [put_lit, List.set_cons_succ, List.set_cons_zero]
    apply walk_skip
    · rfl
    simp only [put_lit, List.set_cons_succ, List.set_cons_zero]
    apply walk_skip
    · rfl
    simp only [put_lit, List.set_cons_succ, List.set_cons_zero]
    apply walk_det
    · rfl
    · intro w2 hC hF
      simp only [upon]
      go_simp
      exact ⟨Below.refl _ _, rfl⟩
    simp only [put_lit, List.set_cons_succ, List.set_cons_zero]
    apply walk_det
    · rfl
    · intro w2 hC hF
      simp only [upon]
      go_simp
      exact ⟨Below.refl _ _, rfl⟩
    simp only [put_lit, List.set_cons_succ, List.set_cons_zero]
    apply walk_nil
    intro w2 hC _
    go_wp2
    go_returns
    exact ⟨rfl, bnext hB4 hC⟩
  · have k1' : (decide (f ≤ c) && decide (c ≤ t)) = false := by rw [Bool.eq_false_iff]; simp; omega
    rw [k1'] at k1
    have hm : max ((t : Int) - f + 1) 0 = 0 := by omega
    rw [hcs, hm] at k2
    clear k1' hm hcs
    have i0 : (f : Int) ≤ (c : Int) := by omega
    have i1 : (t : Int) < (c : Int) := by omega
    have i2 : (t : Int) ≤ (c : Int) := by omega
    have i3 : (t : Int) < (f : Int) := by omega
    have i4 : (t : Int) - f + 1 < 0 := by omega
    have j0 : decide (c < f) = false := by simp; omega
    have j2 : decide (c ≤ t) = false := by simp; omega
    have j1 : decide (t ≤ c) = true := by simp; omega
    go_enter Tryd.func10, Tryd.ntmps10
    go_wp2_with fail
    refine (works_any _ hT).mono ?_
    rintro e w1 ⟨rfl, hb1⟩
    go_wp2_with fail
    refine (span_any f t hf ht _).mono ?_
    rintro e w2 ⟨rfl, hb2⟩
    go_wp2_with fail
    refine (k1 _).mono ?_
    rintro e w3 ⟨rfl, hb3⟩
    have hs3 : SetAt w3 w2.heap.size (span f t) := (SetAt.box w2 (span f t)).same (hb3.block _ (by simp))
    have hB3 : Below w.heap.size w w3 := bnext (balloc (bnext hb1 hb2) _) hb3
    obtain ⟨p0, p1, p2, p3⟩ := hs3.cell
    go_wp2_with fail
    refine (k2 _).mono ?_
    rintro e w4 ⟨rfl, hb4⟩
    have hs4 : SetAt w4 w2.heap.size (span f t) := hs3.same (hb4.block _ hs3.lt)
    have hB4 : Below w.heap.size w w4 := bnext hB3 hb4
    clear p0 p1 p2 p3 hs3 k1 k2
    obtain ⟨p0, p1, p2, p3⟩ := hs4.cell
    go_wp2
    refine poised_whole (fun w' => Below w4.heap.size w4 w') (fun w w' => Below w4.heap.size w w') (by kernel_rfl) (by kernel_rfl) (by kernel_rfl) (fun _ _ h k => h.trans k) ((Below.refl _ _).drew) ?_
    apply Exists.intro
    apply walk_det
    · rfl
    · intro w2 hC hF
      simp only [upon]
      go_simp
      exact ⟨Below.refl _ _, rfl⟩
    simp only [put_lit, List.set_cons_succ, List.set_cons_zero]
    apply walk_det
    · rfl
    · intro w2 hC hF
      simp only [upon]
      go_simp
      exact ⟨Below.refl _ _, rfl⟩
    simp only [put_lit, List.set_cons_succ, List.set_cons_zero]
    apply walk_det
    · rfl
    · intro w2 hC hF
      simp only [upon]
      go_simp
      exact ⟨Below.refl _ _, rfl⟩
    simp only [put_lit, List.set_cons_succ, List.set_cons_zero]
    apply walk_det
    · rfl
    · intro w2 hC hF
      simp only [upon]
      go_simp
      exact ⟨Below.refl _ _, rfl⟩
    simp only [put_lit, List.set_cons_succ, List.set_cons_zero]
    apply walk_det
    · rfl
    · intro w2 hC hF
      simp only [upon]
      go_simp
      exact ⟨Below.refl _ _, rfl⟩
    simp only [put_lit, List.set_cons_succ, List.set_cons_zero]
    apply walk_det
    · rfl
    · intro w2 hC hF
      simp only [upon]
      go_simp
      exact ⟨Below.refl _ _, rfl⟩
    simp only [put_lit, List.set_cons_succ, List.set_cons_zero]
    apply walk_det
    · rfl
    · intro w2 hC hF
      simp only [upon]
      go_simp
      exact ⟨Below.refl _ _, rfl⟩
    simp only [put_lit, List.set_cons_succ, List.set_cons_zero]
    apply walk_det
    · rfl
    · intro w2 hC hF
      simp only [upon]
      go_simp
      exact ⟨Below.refl _ _, rfl⟩
    simp only [put_lit, List.set_cons_succ, List.set_cons_zero]
    apply walk_det
    · rfl
    · intro w2 hC hF
      simp only [upon]
      go_simp
      exact ⟨Below.refl _ _, rfl⟩
    simp only [put_lit, List.set_cons_succ, List.set_cons_zero]
    apply walk_skip
    · rfl
    simp only [put_lit, List.set_cons_succ, List.set_cons_zero]
    apply walk_skip
    · rfl
    simp only [put_lit, List.set_cons_succ, List.set_cons_zero]
    apply walk_skip
    · rfl
    simp only [put_lit, List.set_cons_succ, List.set_cons_zero]
    apply walk_skip
    · rfl
    simp only [put_lit, List.set_cons_succ, List.set_cons_zero]
    apply walk_skip
    · rfl
    simp only [put_lit, List.set_cons_succ, List.set_cons_zero]
    apply walk_skip
    · rfl
    simp only [put_lit, List.set_cons_succ, List.set_cons_zero]
    apply walk_skip
    · rfl
    simp only [put_lit, List.set_cons_succ, List.set_cons_zero]
    apply walk_skip
    · rfl
    simp only [put_lit, List.set_cons_succ, List.set_cons_zero]
    apply walk_skip
    · rfl
    simp only [put_lit, List.set_cons_succ, List.set_cons_zero]
    apply walk_skip
    · rfl
    simp only [put_lit, List.set_cons_succ, List.set_cons_zero]
    apply walk_det
    · rfl
    · intro w2 hC hF
      simp only [upon]
      go_simp
      exact ⟨Below.refl _ _, rfl⟩
    simp only [put_lit, List.set_cons_succ, List.set_cons_zero]
    apply walk_det
    · rfl
    · intro w2 hC hF
      simp only [upon]
      go_simp
      exact ⟨Below.refl _ _, rfl⟩
    simp only [put_lit, List.set_cons_succ, List.set_cons_zero]
    apply walk_nil
    intro w2 hC _
    go_wp2
    go_returns
    exact ⟨rfl, bnext hB4 hC⟩
  · have k1' : (decide (f ≤ c) && decide (c ≤ t)) = false := by rw [Bool.eq_false_iff]; simp; omega
    rw [k1'] at k1
    have hm : max ((t : Int) - f + 1) 0 = 0 := by omega
    rw [hcs, hm] at k2
    clear k1' hm hcs
    have i0 : (f : Int) ≤ (c : Int) := by omega
    have i1 : (t : Int) < (c : Int) := by omega
    have i2 : (t : Int) ≤ (c : Int) := by omega
    have i3 : (t : Int) < (f : Int) := by omega
    have i4 : 0 ≤ (t : Int) - f + 1 := by omega
    have i5 : (t : Int) - f + 1 ≤ 0 := by omega
    have j0 : decide (c < f) = false := by simp; omega
    have j2 : decide (c ≤ t) = false := by simp; omega
    have j1 : decide (t ≤ c) = true := by simp; omega
    go_enter Tryd.func10, Tryd.ntmps10
    go_wp2_with fail
    refine (works_any _ hT).mono ?_
    rintro e w1 ⟨rfl, hb1⟩
    go_wp2_with fail
    refine (span_any f t hf ht _).mono ?_
    rintro e w2 ⟨rfl, hb2⟩
    go_wp2_with fail
    refine (k1 _).mono ?_
    rintro e w3 ⟨rfl, hb3⟩
    have hs3 : SetAt w3 w2.heap.size (span f t) := (SetAt.box w2 (span f t)).same (hb3.block _ (by simp))
    have hB3 : Below w.heap.size w w3 := bnext (balloc (bnext hb1 hb2) _) hb3
    obtain ⟨p0, p1, p2, p3⟩ := hs3.cell
    go_wp2_with fail
    refine (k2 _).mono ?_
    rintro e w4 ⟨rfl, hb4⟩
    have hs4 : SetAt w4 w2.heap.size (span f t) := hs3.same (hb4.block _ hs3.lt)
    have hB4 : Below w.heap.size w w4 := bnext hB3 hb4
    clear p0 p1 p2 p3 hs3 k1 k2
    obtain ⟨p0, p1, p2, p3⟩ := hs4.cell
    go_wp2
    refine poised_whole (fun w' => Below w4.heap.size w4 w') (fun w w' => Below w4.heap.size w w') (by kernel_rfl) (by kernel_rfl) (by kernel_rfl) (fun _ _ h k => h.trans k) ((Below.refl _ _).drew) ?_
    apply Exists.intro
    apply walk_det
    · rfl
    · intro w2 hC hF
      simp only [upon]
      go_simp
      exact ⟨Below.refl _ _, rfl⟩
    simp only [put_lit, List.set_cons_succ, List.set_cons_zero]
    apply walk_det
    · rfl
    · intro w2 hC hF
      simp only [upon]
      go_simp
      exact ⟨Below.refl _ _, rfl⟩
    simp only [put_lit, List.set_cons_succ, List.set_cons_zero]
    apply walk_det
    · rfl
    · intro w2 hC hF
      simp only [upon]
      go_simp
      exact ⟨Below.refl _ _, rfl⟩
    simp only [put_lit, List.set_cons_succ, List.set_cons_zero]
    apply walk_det
    · rfl
    · intro w2 hC hF
      simp only [upon]
      go_simp
      exact ⟨Below.refl _ _, rfl⟩
    simp only [put_lit, List.set_cons_succ, List.set_cons_zero]
    apply walk_det
    · rfl
    · intro w2 hC hF
      simp only [upon]
      go_simp
      exact ⟨Below.refl _ _, rfl⟩
    simp only [put_lit, List.set_cons_succ, List.set_cons_zero]
    apply walk_det
    · rfl
    · intro w2 hC hF
      simp only [upon]
      go_simp
      exact ⟨Below.refl _ _, rfl⟩
    simp only [put_lit, List.set_cons_succ, List.set_cons_zero]
    apply walk_det
    · rfl
    · intro w2 hC hF
      simp only [upon]
      go_simp
      exact ⟨Below.refl _ _, rfl⟩
    simp only [put_lit, List.set_cons_succ, List.set_cons_zero]
    apply walk_det
    · rfl
    · intro w2 hC hF
      simp only [upon]
      go_simp
      exact ⟨Below.refl _ _, rfl⟩
    simp only [put_lit, List.set_cons_succ, List.set_cons_zero]
    apply walk_det
    · rfl
    · intro w2 hC hF
      simp only [upon]
      go_simp
      exact ⟨Below.refl _ _, rfl⟩
    simp only [put_lit, List.set_cons_succ, List.set_cons_zero]
    apply walk_skip
    · rfl
    simp only [put_lit, List.set_cons_succ, List.set_cons_zero]
    apply walk_skip
    · rfl
    simp only [put_lit, List.set_cons_succ, List.set_cons_zero]
    apply walk_skip
    · rfl
    simp only [put_lit, List.set_cons_succ, List.set_cons_zero]
    apply walk_skip
    · rfl
    simp only [put_lit, List.set_cons_succ, List.set_cons_zero]
    apply walk_skip
    · rfl
    simp only [put_lit, List.set_cons_succ, List.set_cons_zero]
    apply walk_skip
    · rfl
    simp only [put_lit, List.set_cons_succ, List.set_cons_zero]
    apply walk_skip
    · rfl
    simp only [put_lit, List.set_cons_succ, List.set_cons_zero]
    apply walk_skip
    · rfl
    simp only [put_lit, List.set_cons_succ, List.set_cons_zero]
    apply walk_skip
    · rfl
    simp only [put_lit, List.set_cons_succ, List.set_cons_zero]
    apply walk_skip
    · rfl
    simp only [put_lit, List.set_cons_succ, List.set_cons_zero]
    apply walk_det
    · rfl
    · intro w2 hC hF
      simp only [upon]
      go_simp
      exact ⟨Below.refl _ _, rfl⟩
    simp only [put_lit, List.set_cons_succ, List.set_cons_zero]
    apply walk_det
    · rfl
    · intro w2 hC hF
      simp only [upon]
      go_simp
      exact ⟨Below.refl _ _, rfl⟩
    simp only [put_lit, List.set_cons_succ, List.set_cons_zero]
    apply walk_nil
    intro w2 hC _
    go_wp2
    go_returns
    exact ⟨rfl, bnext hB4 hC⟩
  · have k1' : (decide (f ≤ c) && decide (c ≤ t)) = false := by rw [Bool.eq_false_iff]; simp; omega
    rw [k1'] at k1
    have hm : max ((t : Int) - f + 1) 0 = (t : Int) - f + 1 := by omega
    rw [hcs, hm] at k2
    clear k1' hm hcs
    have i0 : (c : Int) < (f : Int) := by omega
    have i1 : (f : Int) ≤ (t : Int) := by omega
    have j0 : decide (c < f) = true := by simp; omega
    go_enter Tryd.func10, Tryd.ntmps10
    go_wp2_with fail
    refine (works_any _ hT).mono ?_
    rintro e w1 ⟨rfl, hb1⟩
    go_wp2_with fail
    refine (span_any f t hf ht _).mono ?_
    rintro e w2 ⟨rfl, hb2⟩
    go_wp2_with fail
    refine (k1 _).mono ?_
    rintro e w3 ⟨rfl, hb3⟩
    have hs3 : SetAt w3 w2.heap.size (span f t) := (SetAt.box w2 (span f t)).same (hb3.block _ (by simp))
    have hB3 : Below w.heap.size w w3 := bnext (balloc (bnext hb1 hb2) _) hb3
    obtain ⟨p0, p1, p2, p3⟩ := hs3.cell
    go_wp2_with fail
    refine (k2 _).mono ?_
    rintro e w4 ⟨rfl, hb4⟩
    have hs4 : SetAt w4 w2.heap.size (span f t) := hs3.same (hb4.block _ hs3.lt)
    have hB4 : Below w.heap.size w w4 := bnext hB3 hb4
    clear p0 p1 p2 p3 hs3 k1 k2
    obtain ⟨p0, p1, p2, p3⟩ := hs4.cell
    go_wp2
    refine poised_whole (fun w' => Below w4.heap.size w4 w') (fun w w' => Below w4.heap.size w w') (by kernel_rfl) (by kernel_rfl) (by kernel_rfl) (fun _ _ h k => h.trans k) ((Below.refl _ _).drew) ?_
    apply Exists.intro
    apply walk_det
    · rfl
    · intro w2 hC hF
      simp only [upon]
      go_simp
      exact ⟨Below.refl _ _, rfl⟩
    simp only [put_lit, List.set_cons_succ, List.set_cons_zero]
    apply walk_det
    · rfl
    · intro w2 hC hF
      simp only [upon]
      go_simp
      exact ⟨Below.refl _ _, rfl⟩
    simp only [put_lit, List.set_cons_succ, List.set_cons_zero]
    apply walk_det
    · rfl
    · intro w2 hC hF
      simp only [upon]
      go_simp
      exact ⟨Below.refl _ _, rfl⟩
    simp only [put_lit, List.set_cons_succ, List.set_cons_zero]
    apply walk_det
    · rfl
    · intro w2 hC hF
      simp only [upon]
      go_simp
      exact ⟨Below.refl _ _, rfl⟩
    simp only [put_lit, List.set_cons_succ, List.set_cons_zero]
    apply walk_skip
    · rfl
    simp only [put_lit, List.set_cons_succ, List.set_cons_zero]
    apply walk_skip
    · rfl
    simp only [put_lit, List.set_cons_succ, List.set_cons_zero]
    apply walk_skip
    · rfl
    simp only [put_lit, List.set_cons_succ, List.set_cons_zero]
    apply walk_det
    · rfl
    · intro w2 hC hF
      simp only [upon]
      go_simp
      exact ⟨Below.refl _ _, rfl⟩
    simp only [put_lit, List.set_cons_succ, List.set_cons_zero]
    apply walk_det
    · rfl
    · intro w2 hC hF
      simp only [upon]
      go_simp
      exact ⟨Below.refl _ _, rfl⟩
    simp only [put_lit, List.set_cons_succ, List.set_cons_zero]
    apply walk_skip
    · rfl
    simp only [put_lit, List.set_cons_succ, List.set_cons_zero]
    apply walk_skip
    · rfl
    simp only [put_lit, List.set_cons_succ, List.set_cons_zero]
    apply walk_skip
    · rfl
    simp only [put_lit, List.set_cons_succ, List.set_cons_zero]
    apply walk_skip
    · rfl
    simp only [put_lit, List.set_cons_succ, List.set_cons_zero]
    apply walk_skip
    · rfl
    simp only [put_lit, List.set_cons_succ, List.set_cons_zero]
    apply walk_skip
    · rfl
    simp only [put_lit, List.set_cons_succ, List.set_cons_zero]
    apply walk_skip
    · rfl
    simp only [put_lit, List.set_cons_succ, List.set_cons_zero]
    apply walk_skip
    · rfl
    simp only [put_lit, List.set_cons_succ, List.set_cons_zero]
    apply walk_skip
    · rfl
    simp only [put_lit, List.set_cons_succ, List.set_cons_zero]
    apply walk_skip
    · rfl
    simp only [put_lit, List.set_cons_succ, List.set_cons_zero]
    apply walk_det
    · rfl
    · intro w2 hC hF
      simp only [upon]
      go_simp
      exact ⟨Below.refl _ _, rfl⟩
    simp only [put_lit, List.set_cons_succ, List.set_cons_zero]
    apply walk_det
    · rfl
    · intro w2 hC hF
      simp only [upon]
      go_simp
      exact ⟨Below.refl _ _, rfl⟩
    simp only [put_lit, List.set_cons_succ, List.set_cons_zero]
    apply walk_nil
    intro w2 hC _
    go_wp2
    go_returns
    exact ⟨rfl, bnext hB4 hC⟩
  · have k1' : (decide (f ≤ c) && decide (c ≤ t)) = false := by rw [Bool.eq_false_iff]; simp; omega
    rw [k1'] at k1
    have hm : max ((t : Int) - f + 1) 0 = 0 := by omega
    rw [hcs, hm] at k2
    clear k1' hm hcs
    have i0 : (c : Int) < (f : Int) := by omega
    have i1 : (t : Int) < (f : Int) := by omega
    have i2 : (t : Int) - f + 1 < 0 := by omega
    have j0 : decide (c < f) = true := by simp; omega
    go_enter Tryd.func10, Tryd.ntmps10
    go_wp2_with fail
    refine (works_any _ hT).mono ?_
    rintro e w1 ⟨rfl, hb1⟩
    go_wp2_with fail
    refine (span_any f t hf ht _).mono ?_
    rintro e w2 ⟨rfl, hb2⟩
    go_wp2_with fail
    refine (k1 _).mono ?_
    rintro e w3 ⟨rfl, hb3⟩
    have hs3 : SetAt w3 w2.heap.size (span f t) := (SetAt.box w2 (span f t)).same (hb3.block _ (by simp))
    have hB3 : Below w.heap.size w w3 := bnext (balloc (bnext hb1 hb2) _) hb3
    obtain ⟨p0, p1, p2, p3⟩ := hs3.cell
    go_wp2_with fail
    refine (k2 _).mono ?_
    rintro e w4 ⟨rfl, hb4⟩
    have hs4 : SetAt w4 w2.heap.size (span f t) := hs3.same (hb4.block _ hs3.lt)
    have hB4 : Below w.heap.size w w4 := bnext hB3 hb4
    clear p0 p1 p2 p3 hs3 k1 k2
    obtain ⟨p0, p1, p2, p3⟩ := hs4.cell
    go_wp2
    refine poised_whole (fun w' => Below w4.heap.size w4 w') (fun w w' => Below w4.heap.size w w') (by kernel_rfl) (by kernel_rfl) (by kernel_rfl) (fun _ _ h k => h.trans k) ((Below.refl _ _).drew) ?_
    apply Exists.intro
    apply walk_det
    · rfl
    · intro w2 hC hF
      simp only [upon]
      go_simp
      exact ⟨Below.refl _ _, rfl⟩
    simp only [put_lit, List.set_cons_succ, List.set_cons_zero]
    apply walk_det
    · rfl
    · intro w2 hC hF
      simp only [upon]
      go_simp
      exact ⟨Below.refl _ _, rfl⟩
    simp only [put_lit, List.set_cons_succ, List.set_cons_zero]
    apply walk_det
    · rfl
    · intro w2 hC hF
      simp only [upon]
      go_simp
      exact ⟨Below.refl _ _, rfl⟩
    simp only [put_lit, List.set_cons_succ, List.set_cons_zero]
    apply walk_det
    · rfl
    · intro w2 hC hF
      simp only [upon]
      go_simp
      exact ⟨Below.refl _ _, rfl⟩
    simp only [put_lit, List.set_cons_succ, List.set_cons_zero]
    apply walk_skip
    · rfl
    simp only [put_lit, List.set_cons_succ, List.set_cons_zero]
    apply walk_skip
    · rfl
    simp only [put_lit, List.set_cons_succ, List.set_cons_zero]
    apply walk_skip
    · rfl
    simp only [put_lit, List.set_cons_succ, List.set_cons_zero]
    apply walk_det
    · rfl
    · intro w2 hC hF
      simp only [upon]
      go_simp
      exact ⟨Below.refl _ _, rfl⟩
    simp only [put_lit, List.set_cons_succ, List.set_cons_zero]
    apply walk_det
    · rfl
    · intro w2 hC hF
      simp only [upon]
      go_simp
      exact ⟨Below.refl _ _, rfl⟩
    simp only [put_lit, List.set_cons_succ, List.set_cons_zero]
    apply walk_skip
    · rfl
    simp only [put_lit, List.set_cons_succ, List.set_cons_zero]
    apply walk_skip
    · rfl
    simp only [put_lit, List.set_cons_succ, List.set_cons_zero]
    apply walk_skip
    · rfl
    simp only [put_lit, List.set_cons_succ, List.set_cons_zero]
    apply walk_skip
    · rfl
    simp only [put_lit, List.set_cons_succ, List.set_cons_zero]
    apply walk_skip
    · rfl
    simp only [put_lit, List.set_cons_succ, List.set_cons_zero]
    apply walk_skip
    · rfl
    simp only [put_lit, List.set_cons_succ, List.set_cons_zero]
    apply walk_skip
    · rfl
    simp only [put_lit, List.set_cons_succ, List.set_cons_zero]
    apply walk_skip
    · rfl
    simp only [put_lit, List.set_cons_succ, List.set_cons_zero]
    apply walk_skip
    · rfl
    simp only [put_lit, List.set_cons_succ, List.set_cons_zero]
    apply walk_skip
    · rfl
    simp only [put_lit, List.set_cons_succ, List.set_cons_zero]
    apply walk_det
    · rfl
    · intro w2 hC hF
      simp only [upon]
      go_simp
      exact ⟨Below.refl _ _, rfl⟩
    simp only [put_lit, List.set_cons_succ, List.set_cons_zero]
    apply walk_det
    · rfl
    · intro w2 hC hF
      simp only [upon]
      go_simp
      exact ⟨Below.refl _ _, rfl⟩
    simp only [put_lit, List.set_cons_succ, List.set_cons_zero]
    apply walk_nil
    intro w2 hC _
    go_wp2
    go_returns
    exact ⟨rfl, bnext hB4 hC⟩
  · have k1' : (decide (f ≤ c) && decide (c ≤ t)) = false := by rw [Bool.eq_false_iff]; simp; omega
    rw [k1'] at k1
    have hm : max ((t : Int) - f + 1) 0 = 0 := by omega
    rw [hcs, hm] at k2
    clear k1' hm hcs
    have i0 : (c : Int) < (f : Int) := by omega
    have i1 : (t : Int) < (f : Int) := by omega
    have i2 : 0 ≤ (t : Int) - f + 1 := by omega
    have i3 : (t : Int) - f + 1 ≤ 0 := by omega
    have j0 : decide (c < f) = true := by simp; omega
    go_enter Tryd.func10, Tryd.ntmps10
    go_wp2_with fail
    refine (works_any _ hT).mono ?_
    rintro e w1 ⟨rfl, hb1⟩
    go_wp2_with fail
    refine (span_any f t hf ht _).mono ?_
    rintro e w2 ⟨rfl, hb2⟩
    go_wp2_with fail
    refine (k1 _).mono ?_
    rintro e w3 ⟨rfl, hb3⟩
    have hs3 : SetAt w3 w2.heap.size (span f t) := (SetAt.box w2 (span f t)).same (hb3.block _ (by simp))
    have hB3 : Below w.heap.size w w3 := bnext (balloc (bnext hb1 hb2) _) hb3
    obtain ⟨p0, p1, p2, p3⟩ := hs3.cell
    go_wp2_with fail
    refine (k2 _).mono ?_
    rintro e w4 ⟨rfl, hb4⟩
    have hs4 : SetAt w4 w2.heap.size (span f t) := hs3.same (hb4.block _ hs3.lt)
    have hB4 : Below w.heap.size w w4 := bnext hB3 hb4
    clear p0 p1 p2 p3 hs3 k1 k2
    obtain ⟨p0, p1, p2, p3⟩ := hs4.cell
    go_wp2
    refine poised_whole (fun w' => Below w4.heap.size w4 w') (fun w w' => Below w4.heap.size w w') (by kernel_rfl) (by kernel_rfl) (by kernel_rfl) (fun _ _ h k => h.trans k) ((Below.refl _ _).drew) ?_
    apply Exists.intro
    apply walk_det
    · rfl
    · intro w2 hC hF
      simp only [upon]
      go_simp
      exact ⟨Below.refl _ _, rfl⟩
    simp only [put_lit, List.set_cons_succ, List.set_cons_zero]
    apply walk_det
    · rfl
    · intro w2 hC hF
      simp only [upon]
      go_simp
      exact ⟨Below.refl _ _, rfl⟩
    simp only [put_lit, List.set_cons_succ, List.set_cons_zero]
    apply walk_det
    · rfl
    · intro w2 hC hF
      simp only [upon]
      go_simp
      exact ⟨Below.refl _ _, rfl⟩
    simp only [put_lit, List.set_cons_succ, List.set_cons_zero]
    apply walk_det
    · rfl
    · intro w2 hC hF
      simp only [upon]
      go_simp
      exact ⟨Below.refl _ _, rfl⟩
    simp only [put_lit, List.set_cons_succ, List.set_cons_zero]
    apply walk_skip
    · rfl
    simp only [put_lit, List.set_cons_succ, List.set_cons_zero]
    apply walk_skip
    · rfl
    simp only [put_lit, List.set_cons_succ, List.set_cons_zero]
    apply walk_skip
    · rfl
    simp only [put_lit, List.set_cons_succ, List.set_cons_zero]
    apply walk_det
    · rfl
    · intro w2 hC hF
      simp only [upon]
      go_simp
      exact ⟨Below.refl _ _, rfl⟩
    simp only [put_lit, List.set_cons_succ, List.set_cons_zero]
    apply walk_det
    · rfl
    · intro w2 hC hF
      simp only [upon]
      go_simp
      exact ⟨Below.refl _ _, rfl⟩
    simp only [put_lit, List.set_cons_succ, List.set_cons_zero]
    apply walk_skip
    · rfl
    simp only [put_lit, List.set_cons_succ, List.set_cons_zero]
    apply walk_skip
    · rfl
    simp only [put_lit, List.set_cons_succ, List.set_cons_zero]
    apply walk_skip
    · rfl
    simp only [put_lit, List.set_cons_succ, List.set_cons_zero]
    apply walk_skip
    · rfl
    simp only [put_lit, List.set_cons_succ, List.set_cons_zero]
    apply walk_skip
    · rfl
    simp only [put_lit, List.set_cons_succ, List.set_cons_zero]
    apply walk_skip
    · rfl
    simp only [put_lit, List.set_cons_succ, List.set_cons_zero]
    apply walk_skip
    · rfl
    simp only [put_lit, List.set_cons_succ, List.set_cons_zero]
    apply walk_skip
    · rfl
    simp only [put_lit, List.set_cons_succ, List.set_cons_zero]
    apply walk_skip
    · rfl
    simp only [put_lit, List.set_cons_succ, List.set_cons_zero]
    apply walk_skip
    · rfl
    simp only [put_lit, List.set_cons_succ, List.set_cons_zero]
    apply walk_det
    · rfl
    · intro w2 hC hF
      simp only [upon]
      go_simp
      exact ⟨Below.refl _ _, rfl⟩
    simp only [put_lit, List.set_cons_succ, List.set_cons_zero]
    apply walk_det
    · rfl
    · intro w2 hC hF
      simp only [upon]
      go_simp
      exact ⟨Below.refl _ _, rfl⟩
    simp only [put_lit, List.set_cons_succ, List.set_cons_zero]
    apply walk_nil
    intro w2 hC _
    go_wp2
    go_returns
    exact ⟨rfl, bnext hB4 hC⟩
end Go.Proofs.YtgopahmhniphbaaDoor
