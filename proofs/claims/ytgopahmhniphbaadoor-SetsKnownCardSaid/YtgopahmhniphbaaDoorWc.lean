import Derived.Test.YtgopahmhniphbaaDoorWb
import Derived.Test.YtgopahmhniphbaaDoorPoised
namespace Go.Proofs.YtgopahmhniphbaaDoor
open Go.RowKit Sp Go.Poised
theorem up_call {P : Program} {f : FuncId} {args : Array Value} {w : World} {v : Value} {n : Nat} (h : Calls P f args w fun e w' => e = .returned v ∧ Below w.heap.size w w') (hn : n ≤ w.heap.size) :
    Calls P f args w fun e w'' => e = .returned v ∧ Below n w w'' := h.mono fun _ _ ⟨he, hb⟩ => ⟨he, hb.mono hn⟩

/-- The bytes below k of which f holds. -/
def upTo (f : Nat → Bool) : Nat → S
  | 0 => 0#256
  | k + 1 => if f k then upTo f k ||| bit k else upTo f k
theorem upTo_get (f : Nat → Bool) : ∀ k, k ≤ 256 → ∀ c, mem (upTo f k) c = (decide (c < k) && f c)
  | 0, _, c => by simp [upTo, mem_zero]
  | k + 1, hk, c => by
    have ih := upTo_get f k (by omega) c
    unfold upTo
    by_cases hf : f k = true
    · rw [if_pos hf, mem_or, ih, mem_bit k c (by omega)]
      by_cases h : c = k
      · subst h
        simp [hf]
      · have h1 : (c < k + 1) ↔ (c < k) := by omega
        simp [h, h1]
    · rw [if_neg hf, ih]
      by_cases h : c = k
      · subst h; simp at hf; simp [hf]
      · have h1 : (c < k + 1) ↔ (c < k) := by omega
        simp [h1]
theorem upTo_eq (f : Nat → Bool) (s : S) (h : ∀ c, c < 256 → mem s c = f c) : upTo f 256 = s := by
  apply ext_mem
  intro c hc
  rw [upTo_get f 256 (by omega), h c hc]; simp [hc]

set_option maxRecDepth 100000 in
set_option maxHeartbeats 4000000 in
theorem mix0_upTo (a b : S) (w : World) :
    Calls Tryd.prog 12 #[sv a, sv b, .int .i64 0] w fun e w' => e = .returned (sv (upTo (fun c => mem a c || mem b c) 256)) ∧ Below w.heap.size w w' := by
  have e0 : (0 : Int) = 0 := rfl
  clear e0
  unfold sv
  go_enter Tryd.func12, Tryd.ntmps12
  go_wp2
  go_loopw [8] (fun i wr => ∃ k : Nat, k ≤ 256 ∧ i = .int .i64 k ∧ SetAt wr w.heap.size a ∧ SetAt wr (w.heap.size + 1) b ∧ SetAt wr (w.heap.size + 2) 0#256 ∧ SetAt wr (w.heap.size + 3) (upTo (fun c => mem a c || mem b c) k) ∧ Below w.heap.size w wr) (fun i _ => 256 - (intOf i).toNat)
  case atStart =>
    refine ⟨0, by omega, rfl, ?_, ?_, ?_, ?_, ?_⟩
    · exact (((SetAt.box w a).alloc _).alloc _).alloc _
    · have h := SetAt.box (w.alloc (.cells #[.int .u64 (wn a 0), .int .u64 (wn a 1), .int .u64 (wn a 2), .int .u64 (wn a 3)] 24)) b
      rw [World.size_alloc] at h
      exact (h.alloc _).alloc _
    · have h := SetAt.new ((w.alloc (.cells #[.int .u64 (wn a 0), .int .u64 (wn a 1), .int .u64 (wn a 2), .int .u64 (wn a 3)] 24)).alloc (.cells #[.int .u64 (wn b 0), .int .u64 (wn b 1), .int .u64 (wn b 2), .int .u64 (wn b 3)] 24))
      rw [World.size_alloc, World.size_alloc] at h
      exact h.alloc _
    · have h := SetAt.new (((w.alloc (.cells #[.int .u64 (wn a 0), .int .u64 (wn a 1), .int .u64 (wn a 2), .int .u64 (wn a 3)] 24)).alloc (.cells #[.int .u64 (wn b 0), .int .u64 (wn b 1), .int .u64 (wn b 2), .int .u64 (wn b 3)] 24)).alloc (.cells #[.int .u64 0, .int .u64 0, .int .u64 0, .int .u64 0] 24))
      rw [World.size_alloc, World.size_alloc, World.size_alloc] at h
      exact h
    · go_grown
  case round =>
      obtain ⟨k, hk, rfl, hs, hs0, hs1, hs2, hB⟩ := hrel
      by_cases hlt : k < 256
      · have hk1 : 0 ≤ (k : Int) := by omega
        have hk2 : (k : Int) < 256 := by omega
        go_wp2
        have hwk : IntKind.u8.wrap (k : Int) = k := by rw [IntKind.wrap_u8]; omega
        refine poised_whole (fun w' => Below wr.heap.size wr w') (fun w w' => Below wr.heap.size w w') (by kernel_rfl) (by kernel_rfl) (by kernel_rfl) (fun _ _ h k => h.trans k) ((Below.refl _ _).drew) ?_
        apply Exists.intro
        apply walk_det
        · rfl
        · intro w2 hC _
          obtain ⟨c0, c1, c2, c3⟩ := (hs.same (hC.block _ hs.lt)).cell
          obtain ⟨d0, d1, d2, d3⟩ := (hs0.same (hC.block _ hs0.lt)).cell
          simp only [upon]
          go_simp
          exact ⟨Below.refl _ _, rfl⟩
        simp only [put_lit, List.set_cons_succ, List.set_cons_zero]
        apply walk_det
        · rfl
        · intro w2 hC _
          obtain ⟨c0, c1, c2, c3⟩ := (hs.same (hC.block _ hs.lt)).cell
          obtain ⟨d0, d1, d2, d3⟩ := (hs0.same (hC.block _ hs0.lt)).cell
          simp only [upon]
          go_simp
          exact ⟨Below.refl _ _, rfl⟩
        simp only [put_lit, List.set_cons_succ, List.set_cons_zero]
        apply walk_det
        · rfl
        · intro w2 hC _
          obtain ⟨c0, c1, c2, c3⟩ := (hs.same (hC.block _ hs.lt)).cell
          obtain ⟨d0, d1, d2, d3⟩ := (hs0.same (hC.block _ hs0.lt)).cell
          simp only [upon]
          go_simp
          exact ⟨Below.refl _ _, rfl⟩
        simp only [put_lit, List.set_cons_succ, List.set_cons_zero]
        apply walk_det
        · rfl
        · intro w2 hC _
          obtain ⟨c0, c1, c2, c3⟩ := (hs.same (hC.block _ hs.lt)).cell
          obtain ⟨d0, d1, d2, d3⟩ := (hs0.same (hC.block _ hs0.lt)).cell
          simp only [upon]
          go_simp
          exact up_call (refHas_any a k hlt _) hC.size
        simp only [put_lit, List.set_cons_succ, List.set_cons_zero]
        apply walk_det
        · rfl
        · intro w2 hC _
          obtain ⟨c0, c1, c2, c3⟩ := (hs.same (hC.block _ hs.lt)).cell
          obtain ⟨d0, d1, d2, d3⟩ := (hs0.same (hC.block _ hs0.lt)).cell
          simp only [upon]
          go_simp
          exact ⟨Below.refl _ _, rfl⟩
        simp only [put_lit, List.set_cons_succ, List.set_cons_zero]
        apply walk_det
        · rfl
        · intro w2 hC _
          obtain ⟨c0, c1, c2, c3⟩ := (hs.same (hC.block _ hs.lt)).cell
          obtain ⟨d0, d1, d2, d3⟩ := (hs0.same (hC.block _ hs0.lt)).cell
          simp only [upon]
          go_simp
          exact ⟨Below.refl _ _, rfl⟩
        simp only [put_lit, List.set_cons_succ, List.set_cons_zero]
        apply walk_det
        · rfl
        · intro w2 hC _
          obtain ⟨c0, c1, c2, c3⟩ := (hs.same (hC.block _ hs.lt)).cell
          obtain ⟨d0, d1, d2, d3⟩ := (hs0.same (hC.block _ hs0.lt)).cell
          simp only [upon]
          go_simp
          exact ⟨Below.refl _ _, rfl⟩
        simp only [put_lit, List.set_cons_succ, List.set_cons_zero]
        apply walk_det
        · rfl
        · intro w2 hC _
          obtain ⟨c0, c1, c2, c3⟩ := (hs.same (hC.block _ hs.lt)).cell
          obtain ⟨d0, d1, d2, d3⟩ := (hs0.same (hC.block _ hs0.lt)).cell
          simp only [upon]
          go_simp
          exact up_call (refHas_any b k hlt _) hC.size
        simp only [put_lit, List.set_cons_succ, List.set_cons_zero]
        apply walk_det
        · rfl
        · intro w2 hC _
          obtain ⟨c0, c1, c2, c3⟩ := (hs.same (hC.block _ hs.lt)).cell
          obtain ⟨d0, d1, d2, d3⟩ := (hs0.same (hC.block _ hs0.lt)).cell
          simp only [upon]
          go_simp
          exact ⟨Below.refl _ _, rfl⟩
        simp only [put_lit, List.set_cons_succ, List.set_cons_zero]
        apply walk_det
        · rfl
        · intro w2 hC _
          obtain ⟨c0, c1, c2, c3⟩ := (hs.same (hC.block _ hs.lt)).cell
          obtain ⟨d0, d1, d2, d3⟩ := (hs0.same (hC.block _ hs0.lt)).cell
          simp only [upon]
          go_simp
          exact ⟨Below.refl _ _, rfl⟩
        simp only [put_lit, List.set_cons_succ, List.set_cons_zero]
        apply walk_nil
        intro w2 hC _
        have hB2 : Below w.heap.size w w2 := hB.trans (hC.mono hB.size)
        have hs' := hs.same (hC.block _ hs.lt)
        have hs0' := hs0.same (hC.block _ hs0.lt)
        have hs1' := hs1.same (hC.block _ hs1.lt)
        have hs2' := hs2.same (hC.block _ hs2.lt)
        clear hs hs0 hs1 hs2 hC
        have hup : Hid (upTo (fun c => mem a c || mem b c) (k + 1) = if (mem a k || mem b k) = true then upTo (fun c => mem a c || mem b c) k ||| bit k else upTo (fun c => mem a c || mem b c) k) := rfl
        generalize upTo (fun c => mem a c || mem b c) k = u at *
        generalize mem a k = x at *
        generalize mem b k = y at *
        obtain ⟨f0, f1, f2, f3⟩ := hs2'.cell
        have fr := hs2'.free
        cases x <;> cases y
        all_goals
          go_wp2_with (go_at_call 31; refine (with_any u k hlt _).mono ?_; rintro e w3 ⟨rfl, hb3⟩; have hs3 := hs2'.same (hb3.block _ hs2'.lt); have fr3 := hs3.free; obtain ⟨g0, g1, g2, g3⟩ := hs3.cell)
          go_roundw
          case rel =>
            refine ⟨k + 1, by omega, by go_num, ?_, ?_, ?_, ?_, ?_⟩
            · first | exact (hs'.same (hb3.block _ hs'.lt)).away (by omega) _ _ _ _ | exact hs'
            · first | exact (hs0'.same (hb3.block _ hs0'.lt)).away (by omega) _ _ _ _ | exact hs0'
            · first | exact (hs1'.same (hb3.block _ hs1'.lt)).away (by omega) _ _ _ _ | exact hs1'
            · rw [hup.out]
              first | exact hs3.store _ | exact hs2'
            · first | exact below_store (hB2.trans (hb3.mono hB2.size)) (by omega) _ _ _ _ | exact hB2
          case measure => simp [intOf]; omega
      · have hk256 : Hid (k = 256) := (by omega : k = 256)
        obtain ⟨c0, c1, c2, c3⟩ := hs2.cell
        obtain ⟨d0, d1, d2, d3⟩ := hs1.cell
        have fr := hs1.free
        go_wp2
        refine bodyPost_ret (v := sv (upTo (fun c => mem a c || mem b c) k)) (by simp [sv, results, Tryd.results12, go_sem, d0, d1, d2, d3]) rfl ⟨?_, ?_⟩
        · rw [hk256.out]; rfl
        · exact below_store hB (by omega) _ _ _ _
theorem mix0_any (a b : S) (w : World) :
    Calls Tryd.prog 12 #[sv a, sv b, .int .i64 0] w fun e w' => e = .returned (sv (a ||| b)) ∧ Below w.heap.size w w' := by
  have h : upTo (fun c => mem a c || mem b c) 256 = a ||| b := upTo_eq _ _ (fun c hc => mem_or a b c)
  exact (mix0_upTo a b w).mono fun e w' hh => by rw [h] at hh; exact hh

set_option maxRecDepth 100000 in
set_option maxHeartbeats 4000000 in
theorem mix1_upTo (a b : S) (w : World) :
    Calls Tryd.prog 12 #[sv a, sv b, .int .i64 1] w fun e w' => e = .returned (sv (upTo (fun c => mem a c && mem b c) 256)) ∧ Below w.heap.size w w' := by
  have e0 : (1 : Int) = 1 := rfl
  clear e0
  unfold sv
  go_enter Tryd.func12, Tryd.ntmps12
  go_wp2
  go_loopw [8] (fun i wr => ∃ k : Nat, k ≤ 256 ∧ i = .int .i64 k ∧ SetAt wr w.heap.size a ∧ SetAt wr (w.heap.size + 1) b ∧ SetAt wr (w.heap.size + 2) 0#256 ∧ SetAt wr (w.heap.size + 3) (upTo (fun c => mem a c && mem b c) k) ∧ Below w.heap.size w wr) (fun i _ => 256 - (intOf i).toNat)
  case atStart =>
    refine ⟨0, by omega, rfl, ?_, ?_, ?_, ?_, ?_⟩
    · exact (((SetAt.box w a).alloc _).alloc _).alloc _
    · have h := SetAt.box (w.alloc (.cells #[.int .u64 (wn a 0), .int .u64 (wn a 1), .int .u64 (wn a 2), .int .u64 (wn a 3)] 24)) b
      rw [World.size_alloc] at h
      exact (h.alloc _).alloc _
    · have h := SetAt.new ((w.alloc (.cells #[.int .u64 (wn a 0), .int .u64 (wn a 1), .int .u64 (wn a 2), .int .u64 (wn a 3)] 24)).alloc (.cells #[.int .u64 (wn b 0), .int .u64 (wn b 1), .int .u64 (wn b 2), .int .u64 (wn b 3)] 24))
      rw [World.size_alloc, World.size_alloc] at h
      exact h.alloc _
    · have h := SetAt.new (((w.alloc (.cells #[.int .u64 (wn a 0), .int .u64 (wn a 1), .int .u64 (wn a 2), .int .u64 (wn a 3)] 24)).alloc (.cells #[.int .u64 (wn b 0), .int .u64 (wn b 1), .int .u64 (wn b 2), .int .u64 (wn b 3)] 24)).alloc (.cells #[.int .u64 0, .int .u64 0, .int .u64 0, .int .u64 0] 24))
      rw [World.size_alloc, World.size_alloc, World.size_alloc] at h
      exact h
    · go_grown
  case round =>
      obtain ⟨k, hk, rfl, hs, hs0, hs1, hs2, hB⟩ := hrel
      by_cases hlt : k < 256
      · have hk1 : 0 ≤ (k : Int) := by omega
        have hk2 : (k : Int) < 256 := by omega
        go_wp2
        have hwk : IntKind.u8.wrap (k : Int) = k := by rw [IntKind.wrap_u8]; omega
        refine poised_whole (fun w' => Below wr.heap.size wr w') (fun w w' => Below wr.heap.size w w') (by kernel_rfl) (by kernel_rfl) (by kernel_rfl) (fun _ _ h k => h.trans k) ((Below.refl _ _).drew) ?_
        apply Exists.intro
        apply walk_det
        · rfl
        · intro w2 hC _
          obtain ⟨c0, c1, c2, c3⟩ := (hs.same (hC.block _ hs.lt)).cell
          obtain ⟨d0, d1, d2, d3⟩ := (hs0.same (hC.block _ hs0.lt)).cell
          simp only [upon]
          go_simp
          exact ⟨Below.refl _ _, rfl⟩
        simp only [put_lit, List.set_cons_succ, List.set_cons_zero]
        apply walk_det
        · rfl
        · intro w2 hC _
          obtain ⟨c0, c1, c2, c3⟩ := (hs.same (hC.block _ hs.lt)).cell
          obtain ⟨d0, d1, d2, d3⟩ := (hs0.same (hC.block _ hs0.lt)).cell
          simp only [upon]
          go_simp
          exact ⟨Below.refl _ _, rfl⟩
        simp only [put_lit, List.set_cons_succ, List.set_cons_zero]
        apply walk_det
        · rfl
        · intro w2 hC _
          obtain ⟨c0, c1, c2, c3⟩ := (hs.same (hC.block _ hs.lt)).cell
          obtain ⟨d0, d1, d2, d3⟩ := (hs0.same (hC.block _ hs0.lt)).cell
          simp only [upon]
          go_simp
          exact ⟨Below.refl _ _, rfl⟩
        simp only [put_lit, List.set_cons_succ, List.set_cons_zero]
        apply walk_det
        · rfl
        · intro w2 hC _
          obtain ⟨c0, c1, c2, c3⟩ := (hs.same (hC.block _ hs.lt)).cell
          obtain ⟨d0, d1, d2, d3⟩ := (hs0.same (hC.block _ hs0.lt)).cell
          simp only [upon]
          go_simp
          exact up_call (refHas_any a k hlt _) hC.size
        simp only [put_lit, List.set_cons_succ, List.set_cons_zero]
        apply walk_det
        · rfl
        · intro w2 hC _
          obtain ⟨c0, c1, c2, c3⟩ := (hs.same (hC.block _ hs.lt)).cell
          obtain ⟨d0, d1, d2, d3⟩ := (hs0.same (hC.block _ hs0.lt)).cell
          simp only [upon]
          go_simp
          exact ⟨Below.refl _ _, rfl⟩
        simp only [put_lit, List.set_cons_succ, List.set_cons_zero]
        apply walk_det
        · rfl
        · intro w2 hC _
          obtain ⟨c0, c1, c2, c3⟩ := (hs.same (hC.block _ hs.lt)).cell
          obtain ⟨d0, d1, d2, d3⟩ := (hs0.same (hC.block _ hs0.lt)).cell
          simp only [upon]
          go_simp
          exact ⟨Below.refl _ _, rfl⟩
        simp only [put_lit, List.set_cons_succ, List.set_cons_zero]
        apply walk_det
        · rfl
        · intro w2 hC _
          obtain ⟨c0, c1, c2, c3⟩ := (hs.same (hC.block _ hs.lt)).cell
          obtain ⟨d0, d1, d2, d3⟩ := (hs0.same (hC.block _ hs0.lt)).cell
          simp only [upon]
          go_simp
          exact ⟨Below.refl _ _, rfl⟩
        simp only [put_lit, List.set_cons_succ, List.set_cons_zero]
        apply walk_det
        · rfl
        · intro w2 hC _
          obtain ⟨c0, c1, c2, c3⟩ := (hs.same (hC.block _ hs.lt)).cell
          obtain ⟨d0, d1, d2, d3⟩ := (hs0.same (hC.block _ hs0.lt)).cell
          simp only [upon]
          go_simp
          exact up_call (refHas_any b k hlt _) hC.size
        simp only [put_lit, List.set_cons_succ, List.set_cons_zero]
        apply walk_det
        · rfl
        · intro w2 hC _
          obtain ⟨c0, c1, c2, c3⟩ := (hs.same (hC.block _ hs.lt)).cell
          obtain ⟨d0, d1, d2, d3⟩ := (hs0.same (hC.block _ hs0.lt)).cell
          simp only [upon]
          go_simp
          exact ⟨Below.refl _ _, rfl⟩
        simp only [put_lit, List.set_cons_succ, List.set_cons_zero]
        apply walk_det
        · rfl
        · intro w2 hC _
          obtain ⟨c0, c1, c2, c3⟩ := (hs.same (hC.block _ hs.lt)).cell
          obtain ⟨d0, d1, d2, d3⟩ := (hs0.same (hC.block _ hs0.lt)).cell
          simp only [upon]
          go_simp
          exact ⟨Below.refl _ _, rfl⟩
        simp only [put_lit, List.set_cons_succ, List.set_cons_zero]
        apply walk_nil
        intro w2 hC _
        have hB2 : Below w.heap.size w w2 := hB.trans (hC.mono hB.size)
        have hs' := hs.same (hC.block _ hs.lt)
        have hs0' := hs0.same (hC.block _ hs0.lt)
        have hs1' := hs1.same (hC.block _ hs1.lt)
        have hs2' := hs2.same (hC.block _ hs2.lt)
        clear hs hs0 hs1 hs2 hC
        have hup : Hid (upTo (fun c => mem a c && mem b c) (k + 1) = if (mem a k && mem b k) = true then upTo (fun c => mem a c && mem b c) k ||| bit k else upTo (fun c => mem a c && mem b c) k) := rfl
        generalize upTo (fun c => mem a c && mem b c) k = u at *
        generalize mem a k = x at *
        generalize mem b k = y at *
        obtain ⟨f0, f1, f2, f3⟩ := hs2'.cell
        have fr := hs2'.free
        cases x <;> cases y
        all_goals
          go_wp2_with (go_at_call 31; refine (with_any u k hlt _).mono ?_; rintro e w3 ⟨rfl, hb3⟩; have hs3 := hs2'.same (hb3.block _ hs2'.lt); have fr3 := hs3.free; obtain ⟨g0, g1, g2, g3⟩ := hs3.cell)
          go_roundw
          case rel =>
            refine ⟨k + 1, by omega, by go_num, ?_, ?_, ?_, ?_, ?_⟩
            · first | exact (hs'.same (hb3.block _ hs'.lt)).away (by omega) _ _ _ _ | exact hs'
            · first | exact (hs0'.same (hb3.block _ hs0'.lt)).away (by omega) _ _ _ _ | exact hs0'
            · first | exact (hs1'.same (hb3.block _ hs1'.lt)).away (by omega) _ _ _ _ | exact hs1'
            · rw [hup.out]
              first | exact hs3.store _ | exact hs2'
            · first | exact below_store (hB2.trans (hb3.mono hB2.size)) (by omega) _ _ _ _ | exact hB2
          case measure => simp [intOf]; omega
      · have hk256 : Hid (k = 256) := (by omega : k = 256)
        obtain ⟨c0, c1, c2, c3⟩ := hs2.cell
        obtain ⟨d0, d1, d2, d3⟩ := hs1.cell
        have fr := hs1.free
        go_wp2
        refine bodyPost_ret (v := sv (upTo (fun c => mem a c && mem b c) k)) (by simp [sv, results, Tryd.results12, go_sem, d0, d1, d2, d3]) rfl ⟨?_, ?_⟩
        · rw [hk256.out]; rfl
        · exact below_store hB (by omega) _ _ _ _
theorem mix1_any (a b : S) (w : World) :
    Calls Tryd.prog 12 #[sv a, sv b, .int .i64 1] w fun e w' => e = .returned (sv (a &&& b)) ∧ Below w.heap.size w w' := by
  have h : upTo (fun c => mem a c && mem b c) 256 = a &&& b := upTo_eq _ _ (fun c hc => mem_and a b c)
  exact (mix1_upTo a b w).mono fun e w' hh => by rw [h] at hh; exact hh

set_option maxRecDepth 100000 in
set_option maxHeartbeats 4000000 in
theorem mix2_upTo (a b : S) (w : World) :
    Calls Tryd.prog 12 #[sv a, sv b, .int .i64 2] w fun e w' => e = .returned (sv (upTo (fun c => mem a c && !mem b c) 256)) ∧ Below w.heap.size w w' := by
  have e0 : (2 : Int) = 2 := rfl
  clear e0
  unfold sv
  go_enter Tryd.func12, Tryd.ntmps12
  go_wp2
  go_loopw [8] (fun i wr => ∃ k : Nat, k ≤ 256 ∧ i = .int .i64 k ∧ SetAt wr w.heap.size a ∧ SetAt wr (w.heap.size + 1) b ∧ SetAt wr (w.heap.size + 2) 0#256 ∧ SetAt wr (w.heap.size + 3) (upTo (fun c => mem a c && !mem b c) k) ∧ Below w.heap.size w wr) (fun i _ => 256 - (intOf i).toNat)
  case atStart =>
    refine ⟨0, by omega, rfl, ?_, ?_, ?_, ?_, ?_⟩
    · exact (((SetAt.box w a).alloc _).alloc _).alloc _
    · have h := SetAt.box (w.alloc (.cells #[.int .u64 (wn a 0), .int .u64 (wn a 1), .int .u64 (wn a 2), .int .u64 (wn a 3)] 24)) b
      rw [World.size_alloc] at h
      exact (h.alloc _).alloc _
    · have h := SetAt.new ((w.alloc (.cells #[.int .u64 (wn a 0), .int .u64 (wn a 1), .int .u64 (wn a 2), .int .u64 (wn a 3)] 24)).alloc (.cells #[.int .u64 (wn b 0), .int .u64 (wn b 1), .int .u64 (wn b 2), .int .u64 (wn b 3)] 24))
      rw [World.size_alloc, World.size_alloc] at h
      exact h.alloc _
    · have h := SetAt.new (((w.alloc (.cells #[.int .u64 (wn a 0), .int .u64 (wn a 1), .int .u64 (wn a 2), .int .u64 (wn a 3)] 24)).alloc (.cells #[.int .u64 (wn b 0), .int .u64 (wn b 1), .int .u64 (wn b 2), .int .u64 (wn b 3)] 24)).alloc (.cells #[.int .u64 0, .int .u64 0, .int .u64 0, .int .u64 0] 24))
      rw [World.size_alloc, World.size_alloc, World.size_alloc] at h
      exact h
    · go_grown
  case round =>
      obtain ⟨k, hk, rfl, hs, hs0, hs1, hs2, hB⟩ := hrel
      by_cases hlt : k < 256
      · have hk1 : 0 ≤ (k : Int) := by omega
        have hk2 : (k : Int) < 256 := by omega
        go_wp2
        have hwk : IntKind.u8.wrap (k : Int) = k := by rw [IntKind.wrap_u8]; omega
        refine poised_whole (fun w' => Below wr.heap.size wr w') (fun w w' => Below wr.heap.size w w') (by kernel_rfl) (by kernel_rfl) (by kernel_rfl) (fun _ _ h k => h.trans k) ((Below.refl _ _).drew) ?_
        apply Exists.intro
        apply walk_det
        · rfl
        · intro w2 hC _
          obtain ⟨c0, c1, c2, c3⟩ := (hs.same (hC.block _ hs.lt)).cell
          obtain ⟨d0, d1, d2, d3⟩ := (hs0.same (hC.block _ hs0.lt)).cell
          simp only [upon]
          go_simp
          exact ⟨Below.refl _ _, rfl⟩
        simp only [put_lit, List.set_cons_succ, List.set_cons_zero]
        apply walk_det
        · rfl
        · intro w2 hC _
          obtain ⟨c0, c1, c2, c3⟩ := (hs.same (hC.block _ hs.lt)).cell
          obtain ⟨d0, d1, d2, d3⟩ := (hs0.same (hC.block _ hs0.lt)).cell
          simp only [upon]
          go_simp
          exact ⟨Below.refl _ _, rfl⟩
        simp only [put_lit, List.set_cons_succ, List.set_cons_zero]
        apply walk_det
        · rfl
        · intro w2 hC _
          obtain ⟨c0, c1, c2, c3⟩ := (hs.same (hC.block _ hs.lt)).cell
          obtain ⟨d0, d1, d2, d3⟩ := (hs0.same (hC.block _ hs0.lt)).cell
          simp only [upon]
          go_simp
          exact ⟨Below.refl _ _, rfl⟩
        simp only [put_lit, List.set_cons_succ, List.set_cons_zero]
        apply walk_det
        · rfl
        · intro w2 hC _
          obtain ⟨c0, c1, c2, c3⟩ := (hs.same (hC.block _ hs.lt)).cell
          obtain ⟨d0, d1, d2, d3⟩ := (hs0.same (hC.block _ hs0.lt)).cell
          simp only [upon]
          go_simp
          exact up_call (refHas_any a k hlt _) hC.size
        simp only [put_lit, List.set_cons_succ, List.set_cons_zero]
        apply walk_det
        · rfl
        · intro w2 hC _
          obtain ⟨c0, c1, c2, c3⟩ := (hs.same (hC.block _ hs.lt)).cell
          obtain ⟨d0, d1, d2, d3⟩ := (hs0.same (hC.block _ hs0.lt)).cell
          simp only [upon]
          go_simp
          exact ⟨Below.refl _ _, rfl⟩
        simp only [put_lit, List.set_cons_succ, List.set_cons_zero]
        apply walk_det
        · rfl
        · intro w2 hC _
          obtain ⟨c0, c1, c2, c3⟩ := (hs.same (hC.block _ hs.lt)).cell
          obtain ⟨d0, d1, d2, d3⟩ := (hs0.same (hC.block _ hs0.lt)).cell
          simp only [upon]
          go_simp
          exact ⟨Below.refl _ _, rfl⟩
        simp only [put_lit, List.set_cons_succ, List.set_cons_zero]
        apply walk_det
        · rfl
        · intro w2 hC _
          obtain ⟨c0, c1, c2, c3⟩ := (hs.same (hC.block _ hs.lt)).cell
          obtain ⟨d0, d1, d2, d3⟩ := (hs0.same (hC.block _ hs0.lt)).cell
          simp only [upon]
          go_simp
          exact ⟨Below.refl _ _, rfl⟩
        simp only [put_lit, List.set_cons_succ, List.set_cons_zero]
        apply walk_det
        · rfl
        · intro w2 hC _
          obtain ⟨c0, c1, c2, c3⟩ := (hs.same (hC.block _ hs.lt)).cell
          obtain ⟨d0, d1, d2, d3⟩ := (hs0.same (hC.block _ hs0.lt)).cell
          simp only [upon]
          go_simp
          exact up_call (refHas_any b k hlt _) hC.size
        simp only [put_lit, List.set_cons_succ, List.set_cons_zero]
        apply walk_det
        · rfl
        · intro w2 hC _
          obtain ⟨c0, c1, c2, c3⟩ := (hs.same (hC.block _ hs.lt)).cell
          obtain ⟨d0, d1, d2, d3⟩ := (hs0.same (hC.block _ hs0.lt)).cell
          simp only [upon]
          go_simp
          exact ⟨Below.refl _ _, rfl⟩
        simp only [put_lit, List.set_cons_succ, List.set_cons_zero]
        apply walk_det
        · rfl
        · intro w2 hC _
          obtain ⟨c0, c1, c2, c3⟩ := (hs.same (hC.block _ hs.lt)).cell
          obtain ⟨d0, d1, d2, d3⟩ := (hs0.same (hC.block _ hs0.lt)).cell
          simp only [upon]
          go_simp
          exact ⟨Below.refl _ _, rfl⟩
        simp only [put_lit, List.set_cons_succ, List.set_cons_zero]
        apply walk_nil
        intro w2 hC _
        have hB2 : Below w.heap.size w w2 := hB.trans (hC.mono hB.size)
        have hs' := hs.same (hC.block _ hs.lt)
        have hs0' := hs0.same (hC.block _ hs0.lt)
        have hs1' := hs1.same (hC.block _ hs1.lt)
        have hs2' := hs2.same (hC.block _ hs2.lt)
        clear hs hs0 hs1 hs2 hC
        have hup : Hid (upTo (fun c => mem a c && !mem b c) (k + 1) = if (mem a k && !mem b k) = true then upTo (fun c => mem a c && !mem b c) k ||| bit k else upTo (fun c => mem a c && !mem b c) k) := rfl
        generalize upTo (fun c => mem a c && !mem b c) k = u at *
        generalize mem a k = x at *
        generalize mem b k = y at *
        obtain ⟨f0, f1, f2, f3⟩ := hs2'.cell
        have fr := hs2'.free
        cases x <;> cases y
        all_goals
          go_wp2_with (go_at_call 31; refine (with_any u k hlt _).mono ?_; rintro e w3 ⟨rfl, hb3⟩; have hs3 := hs2'.same (hb3.block _ hs2'.lt); have fr3 := hs3.free; obtain ⟨g0, g1, g2, g3⟩ := hs3.cell)
          go_roundw
          case rel =>
            refine ⟨k + 1, by omega, by go_num, ?_, ?_, ?_, ?_, ?_⟩
            · first | exact (hs'.same (hb3.block _ hs'.lt)).away (by omega) _ _ _ _ | exact hs'
            · first | exact (hs0'.same (hb3.block _ hs0'.lt)).away (by omega) _ _ _ _ | exact hs0'
            · first | exact (hs1'.same (hb3.block _ hs1'.lt)).away (by omega) _ _ _ _ | exact hs1'
            · rw [hup.out]
              first | exact hs3.store _ | exact hs2'
            · first | exact below_store (hB2.trans (hb3.mono hB2.size)) (by omega) _ _ _ _ | exact hB2
          case measure => simp [intOf]; omega
      · have hk256 : Hid (k = 256) := (by omega : k = 256)
        obtain ⟨c0, c1, c2, c3⟩ := hs2.cell
        obtain ⟨d0, d1, d2, d3⟩ := hs1.cell
        have fr := hs1.free
        go_wp2
        refine bodyPost_ret (v := sv (upTo (fun c => mem a c && !mem b c) k)) (by simp [sv, results, Tryd.results12, go_sem, d0, d1, d2, d3]) rfl ⟨?_, ?_⟩
        · rw [hk256.out]; rfl
        · exact below_store hB (by omega) _ _ _ _
theorem mix2_any (a b : S) (w : World) :
    Calls Tryd.prog 12 #[sv a, sv b, .int .i64 2] w fun e w' => e = .returned (sv (a &&& ~~~b)) ∧ Below w.heap.size w w' := by
  have h : upTo (fun c => mem a c && !mem b c) 256 = a &&& ~~~b := upTo_eq _ _ (fun c hc => by rw [mem_and, mem_not _ c hc])
  exact (mix2_upTo a b w).mono fun e w' hh => by rw [h] at hh; exact hh

set_option maxRecDepth 100000 in
set_option maxHeartbeats 4000000 in
theorem mix3_upTo (a b : S) (w : World) :
    Calls Tryd.prog 12 #[sv a, sv b, .int .i64 3] w fun e w' => e = .returned (sv (upTo (fun c => !mem a c) 256)) ∧ Below w.heap.size w w' := by
  have e0 : (3 : Int) = 3 := rfl
  clear e0
  unfold sv
  go_enter Tryd.func12, Tryd.ntmps12
  go_wp2
  go_loopw [8] (fun i wr => ∃ k : Nat, k ≤ 256 ∧ i = .int .i64 k ∧ SetAt wr w.heap.size a ∧ SetAt wr (w.heap.size + 1) b ∧ SetAt wr (w.heap.size + 2) 0#256 ∧ SetAt wr (w.heap.size + 3) (upTo (fun c => !mem a c) k) ∧ Below w.heap.size w wr) (fun i _ => 256 - (intOf i).toNat)
  case atStart =>
    refine ⟨0, by omega, rfl, ?_, ?_, ?_, ?_, ?_⟩
    · exact (((SetAt.box w a).alloc _).alloc _).alloc _
    · have h := SetAt.box (w.alloc (.cells #[.int .u64 (wn a 0), .int .u64 (wn a 1), .int .u64 (wn a 2), .int .u64 (wn a 3)] 24)) b
      rw [World.size_alloc] at h
      exact (h.alloc _).alloc _
    · have h := SetAt.new ((w.alloc (.cells #[.int .u64 (wn a 0), .int .u64 (wn a 1), .int .u64 (wn a 2), .int .u64 (wn a 3)] 24)).alloc (.cells #[.int .u64 (wn b 0), .int .u64 (wn b 1), .int .u64 (wn b 2), .int .u64 (wn b 3)] 24))
      rw [World.size_alloc, World.size_alloc] at h
      exact h.alloc _
    · have h := SetAt.new (((w.alloc (.cells #[.int .u64 (wn a 0), .int .u64 (wn a 1), .int .u64 (wn a 2), .int .u64 (wn a 3)] 24)).alloc (.cells #[.int .u64 (wn b 0), .int .u64 (wn b 1), .int .u64 (wn b 2), .int .u64 (wn b 3)] 24)).alloc (.cells #[.int .u64 0, .int .u64 0, .int .u64 0, .int .u64 0] 24))
      rw [World.size_alloc, World.size_alloc, World.size_alloc] at h
      exact h
    · go_grown
  case round =>
      obtain ⟨k, hk, rfl, hs, hs0, hs1, hs2, hB⟩ := hrel
      by_cases hlt : k < 256
      · have hk1 : 0 ≤ (k : Int) := by omega
        have hk2 : (k : Int) < 256 := by omega
        go_wp2
        have hwk : IntKind.u8.wrap (k : Int) = k := by rw [IntKind.wrap_u8]; omega
        refine poised_whole (fun w' => Below wr.heap.size wr w') (fun w w' => Below wr.heap.size w w') (by kernel_rfl) (by kernel_rfl) (by kernel_rfl) (fun _ _ h k => h.trans k) ((Below.refl _ _).drew) ?_
        apply Exists.intro
        apply walk_det
        · rfl
        · intro w2 hC _
          obtain ⟨c0, c1, c2, c3⟩ := (hs.same (hC.block _ hs.lt)).cell
          obtain ⟨d0, d1, d2, d3⟩ := (hs0.same (hC.block _ hs0.lt)).cell
          simp only [upon]
          go_simp
          exact ⟨Below.refl _ _, rfl⟩
        simp only [put_lit, List.set_cons_succ, List.set_cons_zero]
        apply walk_det
        · rfl
        · intro w2 hC _
          obtain ⟨c0, c1, c2, c3⟩ := (hs.same (hC.block _ hs.lt)).cell
          obtain ⟨d0, d1, d2, d3⟩ := (hs0.same (hC.block _ hs0.lt)).cell
          simp only [upon]
          go_simp
          exact ⟨Below.refl _ _, rfl⟩
        simp only [put_lit, List.set_cons_succ, List.set_cons_zero]
        apply walk_det
        · rfl
        · intro w2 hC _
          obtain ⟨c0, c1, c2, c3⟩ := (hs.same (hC.block _ hs.lt)).cell
          obtain ⟨d0, d1, d2, d3⟩ := (hs0.same (hC.block _ hs0.lt)).cell
          simp only [upon]
          go_simp
          exact ⟨Below.refl _ _, rfl⟩
        simp only [put_lit, List.set_cons_succ, List.set_cons_zero]
        apply walk_det
        · rfl
        · intro w2 hC _
          obtain ⟨c0, c1, c2, c3⟩ := (hs.same (hC.block _ hs.lt)).cell
          obtain ⟨d0, d1, d2, d3⟩ := (hs0.same (hC.block _ hs0.lt)).cell
          simp only [upon]
          go_simp
          exact up_call (refHas_any a k hlt _) hC.size
        simp only [put_lit, List.set_cons_succ, List.set_cons_zero]
        apply walk_det
        · rfl
        · intro w2 hC _
          obtain ⟨c0, c1, c2, c3⟩ := (hs.same (hC.block _ hs.lt)).cell
          obtain ⟨d0, d1, d2, d3⟩ := (hs0.same (hC.block _ hs0.lt)).cell
          simp only [upon]
          go_simp
          exact ⟨Below.refl _ _, rfl⟩
        simp only [put_lit, List.set_cons_succ, List.set_cons_zero]
        apply walk_det
        · rfl
        · intro w2 hC _
          obtain ⟨c0, c1, c2, c3⟩ := (hs.same (hC.block _ hs.lt)).cell
          obtain ⟨d0, d1, d2, d3⟩ := (hs0.same (hC.block _ hs0.lt)).cell
          simp only [upon]
          go_simp
          exact ⟨Below.refl _ _, rfl⟩
        simp only [put_lit, List.set_cons_succ, List.set_cons_zero]
        apply walk_det
        · rfl
        · intro w2 hC _
          obtain ⟨c0, c1, c2, c3⟩ := (hs.same (hC.block _ hs.lt)).cell
          obtain ⟨d0, d1, d2, d3⟩ := (hs0.same (hC.block _ hs0.lt)).cell
          simp only [upon]
          go_simp
          exact ⟨Below.refl _ _, rfl⟩
        simp only [put_lit, List.set_cons_succ, List.set_cons_zero]
        apply walk_det
        · rfl
        · intro w2 hC _
          obtain ⟨c0, c1, c2, c3⟩ := (hs.same (hC.block _ hs.lt)).cell
          obtain ⟨d0, d1, d2, d3⟩ := (hs0.same (hC.block _ hs0.lt)).cell
          simp only [upon]
          go_simp
          exact up_call (refHas_any b k hlt _) hC.size
        simp only [put_lit, List.set_cons_succ, List.set_cons_zero]
        apply walk_det
        · rfl
        · intro w2 hC _
          obtain ⟨c0, c1, c2, c3⟩ := (hs.same (hC.block _ hs.lt)).cell
          obtain ⟨d0, d1, d2, d3⟩ := (hs0.same (hC.block _ hs0.lt)).cell
          simp only [upon]
          go_simp
          exact ⟨Below.refl _ _, rfl⟩
        simp only [put_lit, List.set_cons_succ, List.set_cons_zero]
        apply walk_det
        · rfl
        · intro w2 hC _
          obtain ⟨c0, c1, c2, c3⟩ := (hs.same (hC.block _ hs.lt)).cell
          obtain ⟨d0, d1, d2, d3⟩ := (hs0.same (hC.block _ hs0.lt)).cell
          simp only [upon]
          go_simp
          exact ⟨Below.refl _ _, rfl⟩
        simp only [put_lit, List.set_cons_succ, List.set_cons_zero]
        apply walk_nil
        intro w2 hC _
        have hB2 : Below w.heap.size w w2 := hB.trans (hC.mono hB.size)
        have hs' := hs.same (hC.block _ hs.lt)
        have hs0' := hs0.same (hC.block _ hs0.lt)
        have hs1' := hs1.same (hC.block _ hs1.lt)
        have hs2' := hs2.same (hC.block _ hs2.lt)
        clear hs hs0 hs1 hs2 hC
        have hup : Hid (upTo (fun c => !mem a c) (k + 1) = if (!mem a k) = true then upTo (fun c => !mem a c) k ||| bit k else upTo (fun c => !mem a c) k) := rfl
        generalize upTo (fun c => !mem a c) k = u at *
        generalize mem a k = x at *
        generalize mem b k = y at *
        obtain ⟨f0, f1, f2, f3⟩ := hs2'.cell
        have fr := hs2'.free
        cases x <;> cases y
        all_goals
          go_wp2_with (go_at_call 31; refine (with_any u k hlt _).mono ?_; rintro e w3 ⟨rfl, hb3⟩; have hs3 := hs2'.same (hb3.block _ hs2'.lt); have fr3 := hs3.free; obtain ⟨g0, g1, g2, g3⟩ := hs3.cell)
          go_roundw
          case rel =>
            refine ⟨k + 1, by omega, by go_num, ?_, ?_, ?_, ?_, ?_⟩
            · first | exact (hs'.same (hb3.block _ hs'.lt)).away (by omega) _ _ _ _ | exact hs'
            · first | exact (hs0'.same (hb3.block _ hs0'.lt)).away (by omega) _ _ _ _ | exact hs0'
            · first | exact (hs1'.same (hb3.block _ hs1'.lt)).away (by omega) _ _ _ _ | exact hs1'
            · rw [hup.out]
              first | exact hs3.store _ | exact hs2'
            · first | exact below_store (hB2.trans (hb3.mono hB2.size)) (by omega) _ _ _ _ | exact hB2
          case measure => simp [intOf]; omega
      · have hk256 : Hid (k = 256) := (by omega : k = 256)
        obtain ⟨c0, c1, c2, c3⟩ := hs2.cell
        obtain ⟨d0, d1, d2, d3⟩ := hs1.cell
        have fr := hs1.free
        go_wp2
        refine bodyPost_ret (v := sv (upTo (fun c => !mem a c) k)) (by simp [sv, results, Tryd.results12, go_sem, d0, d1, d2, d3]) rfl ⟨?_, ?_⟩
        · rw [hk256.out]; rfl
        · exact below_store hB (by omega) _ _ _ _
theorem mix3_any (a b : S) (w : World) :
    Calls Tryd.prog 12 #[sv a, sv b, .int .i64 3] w fun e w' => e = .returned (sv (~~~a)) ∧ Below w.heap.size w w' := by
  have h : upTo (fun c => !mem a c) 256 = ~~~a := upTo_eq _ _ (fun c hc => mem_not _ c hc)
  exact (mix3_upTo a b w).mono fun e w' hh => by rw [h] at hh; exact hh
end Go.Proofs.YtgopahmhniphbaaDoor
