import Derived.Test.YtgopahmhniphbaaDoorWc
namespace Go.Proofs.YtgopahmhniphbaaDoor
open Go.RowKit Sp Go.Poised

set_option maxRecDepth 100000 in
set_option maxHeartbeats 2000000 in
theorem refOf_any (v : Value) (l : List Nat) (w : World) (hl : BytesIn w v l) :
    Calls Tryd.prog 18 #[v] w fun e w' => e = .returned (sv (ofl l)) ∧ Below w.heap.size w w' := by
  obtain ⟨hb, hlen, ⟨rfl, rfl⟩ | ⟨a, cap, rfl, rfl⟩ | ⟨b, off, cap, rfl, hc⟩⟩ := hl
  · go_enter Tryd.func18, Tryd.ntmps18
    go_wp2
    go_rounds 1
    go_returns
    refine ⟨ret_sv ?_ ?_ ?_ ?_, ?_⟩
    any_goals simp [ofl, zero_wn]
    go_grown
  · go_enter Tryd.func18, Tryd.ntmps18
    go_wp2
    go_rounds 1
    go_returns
    refine ⟨ret_sv ?_ ?_ ?_ ?_, ?_⟩
    any_goals simp [ofl, zero_wn]
    go_grown
  · go_enter Tryd.func18, Tryd.ntmps18
    go_wp2
    go_loopw [4] (fun i wr => ∃ k : Nat, k ≤ l.length ∧ i = .int .i64 k ∧ SetAt wr (w.heap.size + 1) (ofl (l.take k)) ∧ SetAt wr w.heap.size 0#256 ∧ Below w.heap.size w wr) (fun i _ => l.length - (intOf i).toNat)
    case atStart =>
      refine ⟨0, Nat.zero_le _, rfl, (SetAt.two w).1, (SetAt.two w).2, ?_⟩
      go_grown
    case round =>
      obtain ⟨k, hk, rfl, hs, hs0, hB⟩ := hrel
      by_cases hlt : k < l.length
      · have hcell : wr.cell? ⟨b, off + k, none⟩ = some (.int .u8 (l.getD k 0 : Nat)) := (hB.cell (p := ⟨b, off + k, none⟩) (lt_of_cell (hc k hlt))).trans (hc k hlt)
        have hcl := getD_lt hb k
        have H : Hid (ofl (l.take (k + 1)) = ofl (l.take k) ||| bit (l.getD k 0)) := by rw [take_snoc l k hlt, ofl_snoc]; exact rfl
        generalize l.getD k 0 = c at *
        generalize ofl (l.take k) = u at *
        have k1 : (0 : Int) ≤ (k : Int) := by omega
        have k2 : (k : Int) < (l.length : Int) := by omega
        go_wp2
        refine poised_then 6 (fun w' => Below wr.heap.size wr w') (fun w w' => Below wr.heap.size w w') (by kernel_rfl) (by kernel_rfl) (by kernel_rfl) (fun _ _ h k => h.trans k) ((Below.refl _ _).drew) ?_
        apply Exists.intro
        simp only [List.take_succ_cons, List.take_zero]
        apply walk_det
        · rfl
        · intro w2 hC hF
          obtain ⟨c0, c1, c2, c3⟩ := (hs.same (hC.block _ hs.lt)).cell
          simp only [upon]
          go_simp
          exact ⟨Below.refl _ _, rfl⟩
        simp only [put_lit, List.set_cons_succ, List.set_cons_zero]
        apply walk_det
        · rfl
        · intro w2 hC hF
          simp only [upon]
          go_simp
          exact ⟨Below.refl _ _, rfl⟩
        simp only [put_lit, List.set_cons_succ, List.set_cons_zero]
        apply walk_det
        · rfl
        · intro w2 hC hF
          simp only [upon]
          go_simp
          exact ⟨Below.refl _ _, rfl⟩
        simp only [put_lit, List.set_cons_succ, List.set_cons_zero]
        apply walk_det
        · rfl
        · intro w2 hC hF
          simp only [upon]
          go_simp
          exact ⟨Below.refl _ _, rfl⟩
        simp only [put_lit, List.set_cons_succ, List.set_cons_zero]
        apply walk_det
        · rfl
        · intro w2 hC hF
          obtain ⟨c0, c1, c2, c3⟩ := (hs.same (hC.block _ hs.lt)).cell
          have hc2 : w2.cell? ⟨b, off + k, none⟩ = some (.int .u8 (c : Nat)) := (hC.cell (p := ⟨b, off + k, none⟩) (lt_of_cell hcell)).trans hcell
          simp only [upon]
          go_simp
          exact ⟨Below.refl _ _, rfl⟩
        simp only [put_lit, List.set_cons_succ, List.set_cons_zero]
        apply walk_det
        · rfl
        · intro w2 hC hF
          simp only [upon]
          go_simp
          exact up_call (with_any u c hcl _) hC.size
        simp only [put_lit, List.set_cons_succ, List.set_cons_zero]
        apply walk_nil
        intro w2 hC _
        simp only [List.drop_succ_cons, List.drop_zero]
        have hB2 : Below w.heap.size w w2 := hB.trans (hC.mono hB.size)
        have hs' := hs.same (hC.block _ hs.lt)
        have hs0' := hs0.same (hC.block _ hs0.lt)
        obtain ⟨g0, g1, g2, g3⟩ := hs'.cell
        have fr := hs'.free
        go_wp2
        go_roundw
        case rel =>
          refine ⟨k + 1, by omega, by go_num, ?_, ?_, ?_⟩
          · rw [H.out]; exact hs'.store _
          · exact hs0'.away (by omega) _ _ _ _
          · exact below_store hB2 (by omega) _ _ _ _
        case measure => simp [intOf]; omega
      · obtain ⟨c0, c1, c2, c3⟩ := hs.cell
        obtain ⟨d0, d1, d2, d3⟩ := hs0.cell
        have f := hs0.free
        have hkl : Hid (k = l.length) := (by omega : k = l.length)
        go_wp2
        refine bodyPost_ret (v := sv (ofl (l.take k))) (by simp [sv, results, Tryd.results18, go_sem, d0, d1, d2, d3]) rfl ⟨?_, ?_⟩
        · rw [hkl.out, List.take_length]
        · go_grown

/-- The bytes from f to t. -/
def span (f t : Nat) : S := upTo (fun x => decide (f ≤ x)) (t + 1)
theorem span_mem (f t : Nat) (ht : t < 256) (c : Nat) : mem (span f t) c = (decide (f ≤ c) && decide (c ≤ t)) := by
  unfold span
  rw [upTo_get _ _ (by omega), Bool.and_comm]
  congr 1
  rw [decide_eq_decide]; omega
theorem span_stop (f t c : Nat) (ht : t < 256) (hf : f < 256) (_ : f ≤ c) (h2 : c = f ∨ c ≤ t + 1) (h3 : t < c) : upTo (fun x => decide (f ≤ x)) c = span f t := by
  apply ext_mem
  intro x hx
  rw [span_mem f t ht, upTo_get _ _ (by omega)]
  rw [Bool.eq_iff_iff]; simp; omega
theorem span_step (f c : Nat) (h : f ≤ c) : upTo (fun x => decide (f ≤ x)) (c + 1) = upTo (fun x => decide (f ≤ x)) c ||| bit c := by
  conv => lhs; unfold upTo
  simp [h]
theorem span_none (f : Nat) (hf : f < 256) : upTo (fun x => decide (f ≤ x)) f = 0#256 := by
  apply ext_mem
  intro x hx
  rw [upTo_get _ _ (by omega), mem_zero]
  rw [Bool.eq_false_iff]; simp

set_option maxRecDepth 100000 in
set_option maxHeartbeats 2000000 in
theorem span_any (f t : Nat) (hf : f < 256) (ht : t < 256) (w : World) :
    Calls Tryd.prog 19 #[.int .u8 f, .int .u8 t] w fun e w' => e = .returned (sv (span f t)) ∧ Below w.heap.size w w' := by
    go_enter Tryd.func19, Tryd.ntmps19
    go_wp2
    go_loopw [6] (fun i wr => ∃ c : Nat, f ≤ c ∧ c ≤ 256 ∧ (c = f ∨ c ≤ t + 1) ∧ i = .int .i64 c ∧ SetAt wr (w.heap.size + 1) (upTo (fun x => decide (f ≤ x)) c) ∧ SetAt wr w.heap.size 0#256 ∧ Below w.heap.size w wr) (fun i _ => 256 - (intOf i).toNat)
    case atStart =>
      refine ⟨f, by omega, by omega, .inl rfl, rfl, ?_, (SetAt.two w).2, ?_⟩
      · rw [span_none f hf]; exact (SetAt.two w).1
      · go_grown
    case round =>
      obtain ⟨c, hfc, hc, hd, rfl, hs, hs0, hB⟩ := hrel
      by_cases hlt : c ≤ t
      · have hcl : c < 256 := by omega
        have H : Hid (upTo (fun x => decide (f ≤ x)) (c + 1) = upTo (fun x => decide (f ≤ x)) c ||| bit c) := span_step f c hfc
        generalize upTo (fun x => decide (f ≤ x)) c = u at *
        obtain ⟨c0, c1, c2, c3⟩ := hs.cell
        have fr := hs.free
        rcases (by omega : ((c:Int) / 64 = 0 ∧ (c:Int) % 64 = c) ∨ ((c:Int) / 64 = 1 ∧ (c:Int) % 64 = c - 64) ∨ ((c:Int) / 64 = 2 ∧ (c:Int) % 64 = c - 128) ∨ ((c:Int)/64 = 3 ∧ (c:Int) % 64 = c - 192) ) with ⟨hq, hr⟩ | ⟨hq, hr⟩ | ⟨hq, hr⟩ | ⟨hq, hr⟩
        all_goals
          go_wp2
          go_region
          go_wp2
          go_roundw
          case rel =>
            refine ⟨c + 1, by omega, by omega, by omega, by go_num, ?_, (hs0.other (by simp) _).drew, ?_⟩
            · rw [H.out]
              exact (hs.put _ _ c hcl (by omega) (by omega)).drew
            · exact (hB.setCell (by simp) _).drew
          case measure => simp [intOf]; omega
      · obtain ⟨c0, c1, c2, c3⟩ := hs.cell
        obtain ⟨d0, d1, d2, d3⟩ := hs0.cell
        have fr := hs0.free
        have hkl : Hid (upTo (fun x => decide (f ≤ x)) c = span f t) := span_stop f t c ht hf hfc hd (by omega)
        generalize upTo (fun x => decide (f ≤ x)) c = u at *
        go_wp2
        refine bodyPost_ret (v := sv u) (by simp [sv, results, Tryd.results19, go_sem, d0, d1, d2, d3]) rfl ⟨?_, ?_⟩
        · rw [hkl.out]
        · go_grown

set_option maxRecDepth 100000 in
set_option maxHeartbeats 2000000 in
theorem refSpan_any (f t : Nat) (hf : f < 256) (ht : t < 256) (w : World) :
    Calls Tryd.prog 20 #[.int .u8 f, .int .u8 t] w fun e w' => e = .returned (sv (span f t)) ∧ Below w.heap.size w w' := by
    go_enter Tryd.func20, Tryd.ntmps20
    go_wp2
    go_loopw [6] (fun i wr => ∃ c : Nat, f ≤ c ∧ c ≤ 256 ∧ (c = f ∨ c ≤ t + 1) ∧ i = .int .i64 c ∧ SetAt wr (w.heap.size + 1) (upTo (fun x => decide (f ≤ x)) c) ∧ SetAt wr w.heap.size 0#256 ∧ Below w.heap.size w wr) (fun i _ => 256 - (intOf i).toNat)
    case atStart =>
      refine ⟨f, by omega, by omega, .inl rfl, rfl, ?_, (SetAt.two w).2, ?_⟩
      · rw [span_none f hf]; exact (SetAt.two w).1
      · go_grown
    case round =>
      obtain ⟨c, hfc, hc, hd, rfl, hs, hs0, hB⟩ := hrel
      by_cases hlt : c ≤ t
      · have hcl : c < 256 := by omega
        have H : Hid (upTo (fun x => decide (f ≤ x)) (c + 1) = upTo (fun x => decide (f ≤ x)) c ||| bit c) := span_step f c hfc
        generalize upTo (fun x => decide (f ≤ x)) c = u at *
        obtain ⟨c0, c1, c2, c3⟩ := hs.cell
        have fr := hs.free
        have hwk : IntKind.u8.wrap (c : Int) = c := by rw [IntKind.wrap_u8]; omega
        go_wp2_with (go_at_call 31; refine (with_any u c hcl _).mono ?_; rintro e w3 ⟨rfl, hb3⟩; have hs3 := hs.same (hb3.block _ hs.lt); have fr3 := hs3.free; obtain ⟨g0, g1, g2, g3⟩ := hs3.cell)
        go_roundw
        case rel =>
          refine ⟨c + 1, by omega, by omega, by omega, by go_num, ?_, (hs0.same (hb3.block _ hs0.lt)).away (by omega) _ _ _ _, ?_⟩
          · rw [H.out]
            exact hs3.store _
          · exact below_store (hB.trans (hb3.mono hB.size)) (by omega) _ _ _ _
        case measure => simp [intOf]; omega
      · obtain ⟨c0, c1, c2, c3⟩ := hs.cell
        obtain ⟨d0, d1, d2, d3⟩ := hs0.cell
        have fr := hs0.free
        have hkl : Hid (upTo (fun x => decide (f ≤ x)) c = span f t) := span_stop f t c ht hf hfc hd (by omega)
        generalize upTo (fun x => decide (f ≤ x)) c = u at *
        go_wp2
        refine bodyPost_ret (v := sv u) (by simp [sv, results, Tryd.results20, go_sem, d0, d1, d2, d3]) rfl ⟨?_, ?_⟩
        · rw [hkl.out]
        · go_grown
end Go.Proofs.YtgopahmhniphbaaDoor
