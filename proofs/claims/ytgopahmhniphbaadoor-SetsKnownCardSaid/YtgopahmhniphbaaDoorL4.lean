import Derived.Test.YtgopahmhniphbaaDoorL3
namespace Go.Proofs.YtgopahmhniphbaaDoor
open Go.RowKit Sp Go.Poised

abbrev kW : S := span 0 255
abbrev kE : S := ofl [255, 0, 128, 63]
abbrev kF : S := ofl [255]
abbrev kO : S := span 0 0
theorem k_not : ~~~(0#256 : S) = kW := by decide +kernel
theorem k_cnt : cnt kW = 256 := by decide +kernel
theorem k_cnt0 : cnt (0#256 : S) = 0 := by decide +kernel
theorem k_blW : (bl kW).length = 256 := by decide +kernel
theorem k_blE : bl kE = [0, 63, 128, 255] := by decide +kernel
theorem k_span : span 255 255 = kF := by decide +kernel
theorem k_leastF : ∃ r, bl kF = 255 :: r := ⟨(bl kF).tail, by decide +kernel⟩
theorem k_leastW : ∃ r, bl kW = 0 :: r := ⟨(bl kW).tail, by decide +kernel⟩
theorem k_neF : kF ≠ 0#256 := by decide +kernel
theorem k_neW : kW ≠ 0#256 := by decide +kernel
theorem e_O (w : World) : (Op.equalIn 10000 24 (.agg #[.int .u64 (wn kO 0), .int .u64 (wn kO 1), .int .u64 (wn kO 2), .int .u64 (wn kO 3)]) (.agg #[.int .u64 1, .int .u64 0, .int .u64 0, .int .u64 0])).run Tryd.prog w = .ok true w := eq_lit kO 1 0 0 0 (by decide +kernel) (by decide +kernel) (by decide +kernel) (by decide +kernel) w
theorem wn0 (i : Nat) : ((wn 0#256 i : Nat) : Int) = 0 := by rw [zero_wn]; rfl
/-- What All tells, and its length. -/
theorem all_len (s : S) (w : World) (hT : Tab w) (m : Nat) (n : Nat) (hm : m ≤ w.heap.size) (hn : (bl s).length = n) :
    Calls Tryd.prog 23 #[sv s] w fun e w' => ∃ v, e = .returned v ∧ Below m w w' ∧ ∃ p cap, v = .slice p n cap := by
  refine (lawAll_any s w hT).mono ?_
  rintro e w' ⟨v, rfl, hrow, hb⟩
  refine ⟨v, rfl, hb.mono hm, ?_⟩
  rcases hrow.2 with ⟨rfl, h0⟩ | ⟨g, cap, cur, rfl, _⟩
  · exact ⟨none, 0, by rw [← hn, h0]⟩
  · exact ⟨_, _, by rw [hn]⟩

set_option maxRecDepth 100000 in
set_option maxHeartbeats 16000000 in
theorem setsKnown_any (w : World) (hT : Tab w) :
    Calls Tryd.prog 6 #[] w fun e w' => e = .returned (.bool true) ∧ Below w.heap.size w w' := by
  have hsp : ∀ w, Calls Tryd.prog 19 #[.int .u8 0, .int .u8 255] w fun e w' => e = .returned (sv kW) ∧ Below w.heap.size w w' := fun w => span_any 0 255 (by omega) (by omega) w
  have hsp1 : ∀ w, Calls Tryd.prog 19 #[.int .u8 255, .int .u8 255] w fun e w' => e = .returned (sv kF) ∧ Below w.heap.size w w' := fun w => k_span ▸ span_any 255 255 (by omega) (by omega) w
  have hsp0 : ∀ w, Calls Tryd.prog 19 #[.int .u8 0, .int .u8 0] w fun e w' => e = .returned (sv kO) ∧ Below w.heap.size w w' := fun w => span_any 0 0 (by omega) (by omega) w
  have hlF : ∀ w, Tab w → Calls Tryd.prog 22 #[sv kF] w fun e w' => e = .returned (.tuple #[.int .u8 255, .bool true]) ∧ Below w.heap.size w w' := fun w hT => let ⟨r, h⟩ := k_leastF; least_some kF 255 r h k_neF w hT
  have hlW : ∀ w, Tab w → Calls Tryd.prog 22 #[sv kW] w fun e w' => e = .returned (.tuple #[.int .u8 0, .bool true]) ∧ Below w.heap.size w w' := fun w hT => let ⟨r, h⟩ := k_leastW; least_some kW 0 r h k_neW w hT
  have hlenW : ∀ w, Calls Tryd.prog 21 #[sv kW] w fun e w' => e = .returned (.int .i64 256) ∧ Below w.heap.size w w' := fun w => by have := len_any kW w; rw [k_cnt] at this; exact this
  have hz : sv (0#256 : S) = .agg #[.int .u64 0, .int .u64 0, .int .u64 0, .int .u64 0] := by simp only [sv, wn0]
  have hlen0 : ∀ w, Calls Tryd.prog 21 #[.agg #[.int .u64 0, .int .u64 0, .int .u64 0, .int .u64 0]] w fun e w' => e = .returned (.int .i64 0) ∧ Below w.heap.size w w' := fun w => by have := len_any 0#256 w; rw [k_cnt0, hz] at this; exact this
  have hnot : ∀ w, Calls Tryd.prog 15 #[.agg #[.int .u64 0, .int .u64 0, .int .u64 0, .int .u64 0]] w fun e w' => e = .returned (sv kW) ∧ Below w.heap.size w w' := fun w => by have := not_any 0#256 w; rw [k_not, hz] at this; exact this
  have hall0 : ∀ (w : World) m, Tab w → m ≤ w.heap.size → Calls Tryd.prog 23 #[.agg #[.int .u64 0, .int .u64 0, .int .u64 0, .int .u64 0]] w fun e w' => ∃ v, e = .returned v ∧ Below m w w' ∧ ∃ p cap, v = .slice p 0 cap := fun w m hT hm => by have := all_len 0#256 w hT m 0 hm (by rw [bl_zero]; rfl); rw [hz] at this; exact this
  have hof0 : ∀ w, Calls Tryd.prog 17 #[.slice none 0 0] w fun e w' => e = .returned (.agg #[.int .u64 0, .int .u64 0, .int .u64 0, .int .u64 0]) ∧ Below w.heap.size w w' := fun w => by have := of_any _ [] w (bytesIn_nil w); rw [show ofl [] = (0#256 : S) from rfl, hz] at this; exact this
  have hofF : ∀ w v, BytesIn w v [255] → Calls Tryd.prog 17 #[v] w fun e w' => e = .returned (sv kF) ∧ Below w.heap.size w w' := fun w v h => of_any v [255] w h
  have hofE : ∀ w v, BytesIn w v [255, 0, 128, 63] → Calls Tryd.prog 17 #[v] w fun e w' => e = .returned (sv kE) ∧ Below w.heap.size w w' := fun w v h => of_any v _ w h
  have hallE : ∀ w, Tab w → Calls Tryd.prog 23 #[sv kE] w fun e w' => ∃ v, e = .returned v ∧ BytesIn w' v [0, 63, 128, 255] ∧ Below w.heap.size w w' := fun w hT => by
    refine (lawAll_any kE w hT).mono ?_
    rintro e w' ⟨v, rfl, hrow, hb⟩
    rw [k_blE] at hrow
    exact ⟨v, rfl, bytesIn_of_own hrow (by decide) (by decide), hb⟩
  have hallW : ∀ (w : World) m, Tab w → m ≤ w.heap.size → Calls Tryd.prog 23 #[sv kW] w fun e w' => ∃ v, e = .returned v ∧ Below m w w' ∧ ∃ p cap, v = .slice p 256 cap := fun w m hT hm => all_len kW w hT m 256 hm k_blW
  have e1 := eq_yes kW
  have e2 := eq_yes kF
  have e3 := e_O
  have e4 : ∀ w, (Op.equalIn 10000 24 (.agg #[.int .u64 0, .int .u64 0, .int .u64 0, .int .u64 0]) (.agg #[.int .u64 0, .int .u64 0, .int .u64 0, .int .u64 0])).run Tryd.prog w = .ok true w := fun w => by have := eq_yes 0#256 w; simp only [wn0] at this; exact this
  have hEq : ∀ (w : World) v u, BytesIn w v [0, 63, 128, 255] → BytesIn w u [0, 63, 128, 255] → Calls Tryd.prog 24 #[v, u] w fun e w' => e = .returned (.bool true) ∧ Below w.heap.size w w' := fun w v u hv hu => by have := eqBytes_any v u _ _ w hv hu; simpa using this
  clear hz
  generalize kW = sW at *
  generalize kE = sE at *
  generalize kF = sF at *
  generalize kO = sO at *
  unfold sv at *
  go_enter Tryd.func6, Tryd.ntmps6
  go_wp2_with fail
  refine (hsp _).mono ?_
  rintro e w1 ⟨rfl, hb1⟩
  have hs1 := SetAt.box w1 sW
  have hB1 : Below w.heap.size w (w1.alloc (boxOf sW)) := balloc hb1 _
  go_wp2_with fail
  refine (hofF _ _ (bytesIn_new _ _ (by simp) [255] (by decide) (by decide))).mono ?_
  rintro e w2 ⟨rfl, hb2⟩
  have hs2 := (hs1.alloc _).same (hb2.block _ (hs1.alloc _).lt)
  have hB2 := bnext (balloc hB1 _) hb2
  go_wp2_with fail
  refine (hlF _ (hT.below hB2 hT.lt)).mono ?_
  rintro e w3 ⟨rfl, hb3⟩
  have hs3 := hs2.same (hb3.block _ hs2.lt)
  have hB3 := bnext hB2 hb3
  obtain ⟨c0, c1, c2, c3⟩ := hs3.cell
  go_wp2_with fail
  refine (hlW _ (hT.below hB3 hT.lt)).mono ?_
  rintro e w4 ⟨rfl, hb4⟩
  have hs4 := hs3.same (hb4.block _ hs3.lt)
  have hB4 := bnext hB3 hb4
  clear c0 c1 c2 c3
  go_wp2_with fail
  refine (hofE _ _ (bytesIn_new _ _ (by simp) [255, 0, 128, 63] (by decide) (by decide))).mono ?_
  rintro e w5 ⟨rfl, hb5⟩
  have hs5 := (hs4.alloc _).same (hb5.block _ (hs4.alloc _).lt)
  have hB5 := bnext (balloc hB4 _) hb5
  go_wp2_with fail
  refine (hallE _ (hT.below hB5 hT.lt)).mono ?_
  rintro e w6 ⟨v6, rfl, hv6, hb6⟩
  have hs := hs5.same (hb6.block _ hs5.lt)
  have hB6 := bnext hB5 hb6
  have hT6 : Tab w6 := hT.below hB6 hT.lt
  clear hs1 hs2 hs3 hs4 hs5 hB1 hB2 hB3 hB4 hB5 hb1 hb2 hb3 hb4 hb5 hb6
  generalize w1.heap.size = N1 at *
  go_wp2_with fail
  refine poised_whole (fun w' => Below w6.heap.size w6 w') (fun w w' => Below w.heap.size w w') (by kernel_rfl) (by kernel_rfl) (by kernel_rfl) (fun _ _ h k => bnext h k) ((Below.refl _ _).drew) ?_
  apply Exists.intro
  apply walk_det
  · rfl
  · intro w2 hC hF
    obtain ⟨c0, c1, c2, c3⟩ := (hs.same (hC.block _ hs.lt)).cell
    simp only [upon]
    go_simp
    exact up_call (works_any _ (hT6.below hC hT6.lt)) (Nat.le_refl _)
  simp only [put_lit, List.set_cons_succ, List.set_cons_zero]
  apply walk_det
  · rfl
  · intro w2 hC hF
    simp only [upon]
    go_simp
    exact ⟨Below.refl _ _, rfl⟩
  simp only [put_lit, List.set_cons_succ, List.set_cons_zero]
  apply walk_det
  · rfl
  · intro w2 hC hF
    obtain ⟨c0, c1, c2, c3⟩ := (hs.same (hC.block _ hs.lt)).cell
    simp only [upon]
    go_simp
    exact ⟨Below.refl _ _, rfl⟩
  simp only [put_lit, List.set_cons_succ, List.set_cons_zero]
  apply walk_det
  · rfl
  · intro w2 hC hF
    simp only [upon]
    go_simp
    exact ⟨Below.refl _ _, rfl⟩
  simp only [put_lit, List.set_cons_succ, List.set_cons_zero]
  apply walk_det
  · rfl
  · intro w2 hC hF
    obtain ⟨c0, c1, c2, c3⟩ := (hs.same (hC.block _ hs.lt)).cell
    simp only [upon]
    go_simp
    exact up_call (hnot _) (Nat.le_refl _)
  simp only [put_lit, List.set_cons_succ, List.set_cons_zero]
  apply walk_det
  · rfl
  · intro w2 hC hF
    simp only [upon]
    go_simp
    exact ⟨Below.refl _ _, rfl⟩
  simp only [put_lit, List.set_cons_succ, List.set_cons_zero]
  apply walk_det
  · rfl
  · intro w2 hC hF
    simp only [upon]
    go_simp
    exact ⟨Below.refl _ _, rfl⟩
  simp only [put_lit, List.set_cons_succ, List.set_cons_zero]
  apply walk_det
  · rfl
  · intro w2 hC hF
    simp only [upon]
    go_simp
    exact ⟨Below.refl _ _, rfl⟩
  simp only [put_lit, List.set_cons_succ, List.set_cons_zero]
  apply walk_det
  · rfl
  · intro w2 hC hF
    obtain ⟨c0, c1, c2, c3⟩ := (hs.same (hC.block _ hs.lt)).cell
    simp only [upon]
    go_simp
    exact ⟨Below.refl _ _, rfl⟩
  simp only [put_lit, List.set_cons_succ, List.set_cons_zero]
  apply walk_det
  · rfl
  · intro w2 hC hF
    obtain ⟨c0, c1, c2, c3⟩ := (hs.same (hC.block _ hs.lt)).cell
    simp only [upon]
    go_simp
    exact up_call (hlenW _) (Nat.le_refl _)
  simp only [put_lit, List.set_cons_succ, List.set_cons_zero]
  apply walk_det
  · rfl
  · intro w2 hC hF
    simp only [upon]
    go_simp
    exact ⟨Below.refl _ _, rfl⟩
  simp only [put_lit, List.set_cons_succ, List.set_cons_zero]
  apply walk_det
  · rfl
  · intro w2 hC hF
    simp only [upon]
    go_simp
    exact ⟨Below.refl _ _, rfl⟩
  simp only [put_lit, List.set_cons_succ, List.set_cons_zero]
  apply walk_det
  · rfl
  · intro w2 hC hF
    simp only [upon]
    go_simp
    exact ⟨Below.refl _ _, rfl⟩
  simp only [put_lit, List.set_cons_succ, List.set_cons_zero]
  apply walk_det
  · rfl
  · intro w2 hC hF
    simp only [upon]
    go_simp
    exact ⟨Below.refl _ _, rfl⟩
  simp only [put_lit, List.set_cons_succ, List.set_cons_zero]
  apply walk_det
  · rfl
  · intro w2 hC hF
    simp only [upon]
    go_simp
    exact ⟨Below.refl _ _, rfl⟩
  simp only [put_lit, List.set_cons_succ, List.set_cons_zero]
  apply walk_det
  · rfl
  · intro w2 hC hF
    simp only [upon]
    go_simp
    exact ⟨Below.refl _ _, rfl⟩
  simp only [put_lit, List.set_cons_succ, List.set_cons_zero]
  apply walk_det
  · rfl
  · intro w2 hC hF
    simp only [upon]
    go_simp
    exact ⟨Below.refl _ _, rfl⟩
  simp only [put_lit, List.set_cons_succ, List.set_cons_zero]
  apply walk_det
  · rfl
  · intro w2 hC hF
    simp only [upon]
    go_simp
    exact ⟨Below.refl _ _, rfl⟩
  simp only [put_lit, List.set_cons_succ, List.set_cons_zero]
  apply walk_det
  · rfl
  · intro w2 hC hF
    simp only [upon]
    go_simp
    exact ⟨Below.refl _ _, rfl⟩
  simp only [put_lit, List.set_cons_succ, List.set_cons_zero]
  apply walk_det
  · rfl
  · intro w2 hC hF
    simp only [upon]
    go_simp
    exact ⟨Below.refl _ _, rfl⟩
  simp only [put_lit, List.set_cons_succ, List.set_cons_zero]
  apply walk_det
  · rfl
  · intro w2 hC hF
    simp only [upon]
    go_simp
    exact ⟨Below.refl _ _, rfl⟩
  simp only [put_lit, List.set_cons_succ, List.set_cons_zero]
  apply walk_det
  · rfl
  · intro w2 hC hF
    simp only [upon]
    go_simp
    exact ⟨Below.refl _ _, rfl⟩
  simp only [put_lit, List.set_cons_succ, List.set_cons_zero]
  apply walk_det
  · rfl
  · intro w2 hC hF
    simp only [upon]
    go_simp
    exact ⟨Below.refl _ _, rfl⟩
  simp only [put_lit, List.set_cons_succ, List.set_cons_zero]
  apply walk_det
  · rfl
  · intro w2 hC hF
    simp only [upon]
    go_simp
    exact ⟨Below.refl _ _, rfl⟩
  simp only [put_lit, List.set_cons_succ, List.set_cons_zero]
  apply walk_det
  · rfl
  · intro w2 hC hF
    simp only [upon]
    go_simp
    exact ⟨Below.refl _ _, rfl⟩
  simp only [put_lit, List.set_cons_succ, List.set_cons_zero]
  apply walk_det
  · rfl
  · intro w2 hC hF
    simp only [upon]
    go_simp
    exact ⟨Below.refl _ _, rfl⟩
  simp only [put_lit, List.set_cons_succ, List.set_cons_zero]
  apply walk_det
  · rfl
  · intro w2 hC hF
    simp only [upon]
    go_simp
    exact ⟨Below.refl _ _, rfl⟩
  simp only [put_lit, List.set_cons_succ, List.set_cons_zero]
  apply walk_det
  · rfl
  · intro w2 hC hF
    simp only [upon]
    go_simp
    exact ⟨Below.refl _ _, rfl⟩
  simp only [put_lit, List.set_cons_succ, List.set_cons_zero]
  apply walk_det
  · rfl
  · intro w2 hC hF
    obtain ⟨c0, c1, c2, c3⟩ := (hs.same (hC.block _ hs.lt)).cell
    simp only [upon]
    go_simp
    exact up_call (hlen0 _) (Nat.le_refl _)
  simp only [put_lit, List.set_cons_succ, List.set_cons_zero]
  apply walk_det
  · rfl
  · intro w2 hC hF
    simp only [upon]
    go_simp
    exact ⟨Below.refl _ _, rfl⟩
  simp only [put_lit, List.set_cons_succ, List.set_cons_zero]
  apply walk_det
  · rfl
  · intro w2 hC hF
    simp only [upon]
    go_simp
    exact ⟨Below.refl _ _, rfl⟩
  simp only [put_lit, List.set_cons_succ, List.set_cons_zero]
  apply walk_det
  · rfl
  · intro w2 hC hF
    simp only [upon]
    go_simp
    exact ⟨Below.refl _ _, rfl⟩
  simp only [put_lit, List.set_cons_succ, List.set_cons_zero]
  apply walk_det
  · rfl
  · intro w2 hC hF
    simp only [upon]
    go_simp
    exact ⟨Below.refl _ _, rfl⟩
  simp only [put_lit, List.set_cons_succ, List.set_cons_zero]
  apply walk_free (fun v _ => ∃ p cap, v = Value.slice p 0 cap) (fun _ _ _ _ _ h => h)
  · rfl
  · intro w2 hC hF
    obtain ⟨c0, c1, c2, c3⟩ := (hs.same (hC.block _ hs.lt)).cell
    simp only [upon]
    go_simp
    exact hall0 _ _ (hT6.below hC hT6.lt) (Nat.le_refl _)
  intro v
  simp only [put_lit, List.set_cons_succ, List.set_cons_zero]
  apply walk_det
  · rfl
  · intro w2 hC hF
    have hv : ∃ p cap, v = Value.slice p 0 cap := hF 33 (by kernel_rfl)
    obtain ⟨p, cap, rfl⟩ := hv
    simp only [upon]
    go_simp
    exact ⟨Below.refl _ _, rfl⟩
  simp only [put_lit, List.set_cons_succ, List.set_cons_zero]
  apply walk_det
  · rfl
  · intro w2 hC hF
    simp only [upon]
    go_simp
    exact ⟨Below.refl _ _, rfl⟩
  simp only [put_lit, List.set_cons_succ, List.set_cons_zero]
  apply walk_det
  · rfl
  · intro w2 hC hF
    simp only [upon]
    go_simp
    exact ⟨Below.refl _ _, rfl⟩
  simp only [put_lit, List.set_cons_succ, List.set_cons_zero]
  apply walk_det
  · rfl
  · intro w2 hC hF
    simp only [upon]
    go_simp
    exact ⟨Below.refl _ _, rfl⟩
  simp only [put_lit, List.set_cons_succ, List.set_cons_zero]
  apply walk_det
  · rfl
  · intro w2 hC hF
    obtain ⟨c0, c1, c2, c3⟩ := (hs.same (hC.block _ hs.lt)).cell
    simp only [upon]
    go_simp
    exact ⟨Below.refl _ _, rfl⟩
  simp only [put_lit, List.set_cons_succ, List.set_cons_zero]
  apply walk_free (fun v _ => ∃ p cap, v = Value.slice p 256 cap) (fun _ _ _ _ _ h => h)
  · rfl
  · intro w2 hC hF
    obtain ⟨c0, c1, c2, c3⟩ := (hs.same (hC.block _ hs.lt)).cell
    simp only [upon]
    go_simp
    exact hallW _ _ (hT6.below hC hT6.lt) (Nat.le_refl _)
  intro v
  simp only [put_lit, List.set_cons_succ, List.set_cons_zero]
  apply walk_det
  · rfl
  · intro w2 hC hF
    have hv : ∃ p cap, v = Value.slice p 256 cap := hF 39 (by kernel_rfl)
    obtain ⟨p, cap, rfl⟩ := hv
    simp only [upon]
    go_simp
    exact ⟨Below.refl _ _, rfl⟩
  simp only [put_lit, List.set_cons_succ, List.set_cons_zero]
  apply walk_det
  · rfl
  · intro w2 hC hF
    simp only [upon]
    go_simp
    exact ⟨Below.refl _ _, rfl⟩
  simp only [put_lit, List.set_cons_succ, List.set_cons_zero]
  apply walk_det
  · rfl
  · intro w2 hC hF
    simp only [upon]
    go_simp
    exact ⟨Below.refl _ _, rfl⟩
  simp only [put_lit, List.set_cons_succ, List.set_cons_zero]
  apply walk_det
  · rfl
  · intro w2 hC hF
    simp only [upon]
    go_simp
    exact ⟨Below.refl _ _, rfl⟩
  simp only [put_lit, List.set_cons_succ, List.set_cons_zero]
  apply walk_det
  · rfl
  · intro w2 hC hF
    simp only [upon]
    go_simp
    exact ⟨Below.refl _ _, rfl⟩
  simp only [put_lit, List.set_cons_succ, List.set_cons_zero]
  apply walk_free (fun v w' => BytesIn w' v [0, 63, 128, 255]) (fun _ _ _ _ hR h => h.below hR)
  · rfl
  · intro w2 hC hF
    simp only [upon]
    go_simp
    exact ⟨(Below.refl _ _).alloc (Nat.le_refl _) _, bytesIn_new _ _ rfl [0, 63, 128, 255] (by decide) (by decide)⟩
  intro v
  simp only [put_lit, List.set_cons_succ, List.set_cons_zero]
  apply walk_det
  · rfl
  · intro w2 hC hF
    have hv : BytesIn w2 v [0, 63, 128, 255] := hF 45 (by kernel_rfl)
    simp only [upon]
    go_simp
    exact up_call (hEq _ _ _ (hv6.below hC) hv) (Nat.le_refl _)
  simp only [put_lit, List.set_cons_succ, List.set_cons_zero]
  apply walk_det
  · rfl
  · intro w2 hC hF
    simp only [upon]
    go_simp
    exact ⟨Below.refl _ _, rfl⟩
  simp only [put_lit, List.set_cons_succ, List.set_cons_zero]
  apply walk_det
  · rfl
  · intro w2 hC hF
    simp only [upon]
    go_simp
    exact ⟨Below.refl _ _, rfl⟩
  simp only [put_lit, List.set_cons_succ, List.set_cons_zero]
  apply walk_det
  · rfl
  · intro w2 hC hF
    simp only [upon]
    go_simp
    exact up_call (hsp1 _) (Nat.le_refl _)
  simp only [put_lit, List.set_cons_succ, List.set_cons_zero]
  apply walk_free (fun v w' => BytesIn w' v [255]) (fun _ _ _ _ hR h => h.below hR)
  · rfl
  · intro w2 hC hF
    simp only [upon]
    go_simp
    exact ⟨(Below.refl _ _).alloc (Nat.le_refl _) _, bytesIn_new _ _ rfl [255] (by decide) (by decide)⟩
  intro v
  simp only [put_lit, List.set_cons_succ, List.set_cons_zero]
  apply walk_det
  · rfl
  · intro w2 hC hF
    have hv : BytesIn w2 v [255] := hF 50 (by kernel_rfl)
    simp only [upon]
    go_simp
    exact up_call (hofF _ _ hv) (Nat.le_refl _)
  simp only [put_lit, List.set_cons_succ, List.set_cons_zero]
  apply walk_det
  · rfl
  · intro w2 hC hF
    simp only [upon]
    go_simp
    exact ⟨Below.refl _ _, rfl⟩
  simp only [put_lit, List.set_cons_succ, List.set_cons_zero]
  apply walk_det
  · rfl
  · intro w2 hC hF
    simp only [upon]
    go_simp
    exact ⟨Below.refl _ _, rfl⟩
  simp only [put_lit, List.set_cons_succ, List.set_cons_zero]
  apply walk_det
  · rfl
  · intro w2 hC hF
    simp only [upon]
    go_simp
    exact ⟨Below.refl _ _, rfl⟩
  simp only [put_lit, List.set_cons_succ, List.set_cons_zero]
  apply walk_det
  · rfl
  · intro w2 hC hF
    simp only [upon]
    go_simp
    exact up_call (hsp0 _) (Nat.le_refl _)
  simp only [put_lit, List.set_cons_succ, List.set_cons_zero]
  apply walk_det
  · rfl
  · intro w2 hC hF
    simp only [upon]
    go_simp
    exact ⟨Below.refl _ _, rfl⟩
  simp only [put_lit, List.set_cons_succ, List.set_cons_zero]
  apply walk_det
  · rfl
  · intro w2 hC hF
    simp only [upon]
    go_simp
    exact ⟨Below.refl _ _, rfl⟩
  simp only [put_lit, List.set_cons_succ, List.set_cons_zero]
  apply walk_det
  · rfl
  · intro w2 hC hF
    simp only [upon]
    go_simp
    exact ⟨Below.refl _ _, rfl⟩
  simp only [put_lit, List.set_cons_succ, List.set_cons_zero]
  apply walk_det
  · rfl
  · intro w2 hC hF
    simp only [upon]
    go_simp
    exact ⟨Below.refl _ _, rfl⟩
  simp only [put_lit, List.set_cons_succ, List.set_cons_zero]
  apply walk_det
  · rfl
  · intro w2 hC hF
    simp only [upon]
    go_simp
    exact up_call (hof0 _) (Nat.le_refl _)
  simp only [put_lit, List.set_cons_succ, List.set_cons_zero]
  apply walk_det
  · rfl
  · intro w2 hC hF
    simp only [upon]
    go_simp
    exact ⟨Below.refl _ _, rfl⟩
  simp only [put_lit, List.set_cons_succ, List.set_cons_zero]
  apply walk_det
  · rfl
  · intro w2 hC hF
    simp only [upon]
    go_simp
    exact ⟨Below.refl _ _, rfl⟩
  simp only [put_lit, List.set_cons_succ, List.set_cons_zero]
  apply walk_det
  · rfl
  · intro w2 hC hF
    simp only [upon]
    go_simp
    exact ⟨Below.refl _ _, rfl⟩
  simp only [put_lit, List.set_cons_succ, List.set_cons_zero]
  apply walk_det
  · rfl
  · intro w2 hC hF
    simp only [upon]
    go_simp
    exact ⟨Below.refl _ _, rfl⟩
  simp only [put_lit, List.set_cons_succ, List.set_cons_zero]
  apply walk_nil
  intro w2 hC _
  go_wp2
  go_returns
  exact ⟨rfl, bnext hB6 hC⟩
end Go.Proofs.YtgopahmhniphbaaDoor
