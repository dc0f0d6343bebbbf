import Derived.Test.YtgopahmhniphbaaDoorL2
namespace Go.Proofs.YtgopahmhniphbaaDoor
open Go.RowKit Sp Go.Poised

theorem ofl_mem (l : List Nat) (h : ∀ x ∈ l, x < 256) (c : Nat) : mem (ofl l) c = decide (c ∈ l) := by
  have key : ∀ (l : List Nat) (s : S), (∀ x ∈ l, x < 256) → mem (l.foldl (fun s c => s ||| bit c) s) c = (mem s c || decide (c ∈ l)) := by
    intro l
    induction l with
    | nil => intro s _; simp
    | cons x l ih =>
      intro s hl
      rw [List.foldl_cons, ih _ (fun y hy => hl y (by simp [hy])), mem_or, mem_bit x c (hl x (by simp)), Bool.or_assoc]
      congr 1
      by_cases hx : c = x <;> simp [hx]
  have := key l 0#256 h
  rw [mem_zero, Bool.false_or] at this
  exact this
theorem mem_fl (s : S) (c : Nat) : c ∈ fl s 256 ↔ c < 256 ∧ mem s c = true := by unfold fl; simp
theorem ofl_bl (s : S) : ofl (bl s) = s := by
  apply ext_mem
  intro c hc
  rw [ofl_mem _ (bl_lt s), bl_eq]
  rw [Bool.eq_iff_iff, decide_eq_true_eq, mem_fl]
  simp [hc]
theorem bl_mem (s : S) (k : Nat) (hk : k < (bl s).length) : mem s ((bl s).getD k 0) = true := by
  have h : (bl s).getD k 0 ∈ bl s := by rw [List.getD_eq_getElem?_getD, List.getElem?_eq_getElem hk]; exact List.getElem_mem hk
  rw [bl_eq] at h ⊢
  exact ((mem_fl s _).1 h).2
theorem bl_up (s : S) (k : Nat) (hk : k + 1 < (bl s).length) : (bl s).getD k 0 < (bl s).getD (k + 1) 0 := by
  have hp : (bl s).Pairwise (· < ·) := by
    rw [bl_eq]; unfold fl
    exact List.Pairwise.filter _ List.pairwise_lt_range
  rw [List.getD_eq_getElem?_getD, List.getD_eq_getElem?_getD, List.getElem?_eq_getElem (by omega), List.getElem?_eq_getElem hk]
  exact List.pairwise_iff_getElem.1 hp k (k + 1) (by omega) hk (by omega)
theorem cnt_bl (s : S) : cnt s = (bl s).length := by rw [cnt_fl, bl_eq]
theorem bl_nil {s : S} (h : bl s = []) : s = 0#256 := by rw [← ofl_bl s, h]; rfl

set_option maxRecDepth 100000 in
set_option maxHeartbeats 8000000 in
theorem told_none (w : World) (hT : Tab w) :
    Calls Tryd.prog 9 #[sv 0#256] w fun e w' => e = .returned (.bool true) ∧ Below w.heap.size w w' := by
  have e1 := eq_yes 0#256
  have hl0 := fun w => len_any 0#256 w
  rw [show cnt 0#256 = 0 by decide +kernel] at hl0
  unfold sv at *
  go_enter Tryd.func9, Tryd.ntmps9
  go_wp2_with fail
  refine (works_any _ (hT.below ((Below.refl _ w).alloc (Nat.le_refl _) _) hT.lt)).mono ?_
  rintro e w1 ⟨rfl, hb1⟩
  have hs1 : SetAt w1 w.heap.size 0#256 := (SetAt.box w 0#256).same (hb1.block _ (by simp))
  have hB1 : Below w.heap.size w w1 := bnext (balloc (Below.refl _ w) _) hb1
  obtain ⟨c0, c1, c2, c3⟩ := hs1.cell
  go_wp2_with fail
  refine (lawAll_any 0#256 _ (hT.below hB1 hT.lt)).mono ?_
  rintro e w2 ⟨v, rfl, hrow, hb2⟩
  rw [bl_zero] at hrow
  have hv := bytesIn_of_own (l := []) hrow (by simp) (by simp)
  have hs2 := hs1.same (hb2.block _ hs1.lt)
  have hB2 := bnext hB1 hb2
  have hvv : ∃ p cap, v = .slice p 0 cap := by
    rcases hrow.2 with ⟨rfl, _⟩ | ⟨g, cap, cur, rfl, _⟩
    · exact ⟨_, _, rfl⟩
    · exact ⟨_, _, rfl⟩
  obtain ⟨p, cap, rfl⟩ := hvv
  clear c0 c1 c2 c3 hs1
  obtain ⟨c0, c1, c2, c3⟩ := hs2.cell
  go_wp2_with fail
  refine wp_loop_rounds 1 ?_
  rw [rounds_succ]
  go_wp2_with fail
  refine (least_none _).mono ?_
  rintro e w3 ⟨rfl, hb3⟩
  have hs := hs2.same (hb3.block _ hs2.lt)
  have hB3 := bnext hB2 hb3
  have hv3 := hv.below hb3
  clear c0 c1 c2 c3 hs2
  go_wp2_with fail
  refine poised_whole (fun w' => Below w3.heap.size w3 w') (fun w w' => Below w3.heap.size w w') (by kernel_rfl) (by kernel_rfl) (by kernel_rfl) (fun _ _ h k => h.trans k) ((Below.refl _ _).drew) ?_
  apply Exists.intro
  apply walk_det
  · rfl
  · intro w2 hC hF
    simp only [upon]
    go_simp
    exact ⟨Below.refl _ _, rfl⟩
  simp only [put_lit, List.set_cons_succ, List.set_cons_zero]
  apply walk_det
  · rfl
  · intro w2 hC hF
    obtain ⟨c0, c1, c2, c3⟩ := (hs.same (hC.block _ hs.lt)).cell
    simp only [upon]
    go_simp
    exact up_call (f_none ▸ of_any _ [] _ (hv3.below hC)) hC.size
  simp only [put_lit, List.set_cons_succ, List.set_cons_zero]
  apply walk_det
  · rfl
  · intro w2 hC hF
    obtain ⟨c0, c1, c2, c3⟩ := (hs.same (hC.block _ hs.lt)).cell
    simp only [upon]
    go_simp
    exact ⟨Below.refl _ _, rfl⟩
  simp only [put_lit, List.set_cons_succ, List.set_cons_zero]
  apply walk_det
  · rfl
  · intro w2 hC hF
    simp only [upon]
    go_simp
    exact ⟨Below.refl _ _, rfl⟩
  simp only [put_lit, List.set_cons_succ, List.set_cons_zero]
  apply walk_det
  · rfl
  · intro w2 hC hF
    simp only [upon]
    go_simp
    exact ⟨Below.refl _ _, rfl⟩
  simp only [put_lit, List.set_cons_succ, List.set_cons_zero]
  apply walk_det
  · rfl
  · intro w2 hC hF
    simp only [upon]
    go_simp
    exact ⟨Below.refl _ _, rfl⟩
  simp only [put_lit, List.set_cons_succ, List.set_cons_zero]
  apply walk_det
  · rfl
  · intro w2 hC hF
    simp only [upon]
    go_simp
    exact ⟨Below.refl _ _, rfl⟩
  simp only [put_lit, List.set_cons_succ, List.set_cons_zero]
  apply walk_det
  · rfl
  · intro w2 hC hF
    obtain ⟨c0, c1, c2, c3⟩ := (hs.same (hC.block _ hs.lt)).cell
    simp only [upon]
    go_simp
    exact ⟨Below.refl _ _, rfl⟩
  simp only [put_lit, List.set_cons_succ, List.set_cons_zero]
  apply walk_det
  · rfl
  · intro w2 hC hF
    obtain ⟨c0, c1, c2, c3⟩ := (hs.same (hC.block _ hs.lt)).cell
    simp only [upon]
    go_simp
    exact up_call (hl0 _) hC.size
  simp only [put_lit, List.set_cons_succ, List.set_cons_zero]
  apply walk_det
  · rfl
  · intro w2 hC hF
    simp only [upon]
    go_simp
    exact ⟨Below.refl _ _, rfl⟩
  simp only [put_lit, List.set_cons_succ, List.set_cons_zero]
  apply walk_det
  · rfl
  · intro w2 hC hF
    simp only [upon]
    go_simp
    exact ⟨Below.refl _ _, rfl⟩
  simp only [put_lit, List.set_cons_succ, List.set_cons_zero]
  apply walk_det
  · rfl
  · intro w2 hC hF
    simp only [upon]
    go_simp
    exact ⟨Below.refl _ _, rfl⟩
  simp only [put_lit, List.set_cons_succ, List.set_cons_zero]
  apply walk_det
  · rfl
  · intro w2 hC hF
    simp only [upon]
    go_simp
    exact ⟨Below.refl _ _, rfl⟩
  simp only [put_lit, List.set_cons_succ, List.set_cons_zero]
  apply walk_det
  · rfl
  · intro w2 hC hF
    simp only [upon]
    go_simp
    exact ⟨Below.refl _ _, rfl⟩
  simp only [put_lit, List.set_cons_succ, List.set_cons_zero]
  apply walk_det
  · rfl
  · intro w2 hC hF
    simp only [upon]
    go_simp
    exact ⟨Below.refl _ _, rfl⟩
  simp only [put_lit, List.set_cons_succ, List.set_cons_zero]
  apply walk_det
  · rfl
  · intro w2 hC hF
    simp only [upon]
    go_simp
    exact ⟨Below.refl _ _, rfl⟩
  simp only [put_lit, List.set_cons_succ, List.set_cons_zero]
  apply walk_det
  · rfl
  · intro w2 hC hF
    simp only [upon]
    go_simp
    exact ⟨Below.refl _ _, rfl⟩
  simp only [put_lit, List.set_cons_succ, List.set_cons_zero]
  apply walk_det
  · rfl
  · intro w2 hC hF
    simp only [upon]
    go_simp
    exact ⟨Below.refl _ _, rfl⟩
  simp only [put_lit, List.set_cons_succ, List.set_cons_zero]
  apply walk_det
  · rfl
  · intro w2 hC hF
    simp only [upon]
    go_simp
    exact ⟨Below.refl _ _, rfl⟩
  simp only [put_lit, List.set_cons_succ, List.set_cons_zero]
  apply walk_det
  · rfl
  · intro w2 hC hF
    simp only [upon]
    go_simp
    exact ⟨Below.refl _ _, rfl⟩
  simp only [put_lit, List.set_cons_succ, List.set_cons_zero]
  apply walk_det
  · rfl
  · intro w2 hC hF
    simp only [upon]
    go_simp
    exact ⟨Below.refl _ _, rfl⟩
  simp only [put_lit, List.set_cons_succ, List.set_cons_zero]
  apply walk_det
  · rfl
  · intro w2 hC hF
    simp only [upon]
    go_simp
    exact ⟨Below.refl _ _, rfl⟩
  simp only [put_lit, List.set_cons_succ, List.set_cons_zero]
  apply walk_skip
  · rfl
  simp only [put_lit, List.set_cons_succ, List.set_cons_zero]
  apply walk_skip
  · rfl
  simp only [put_lit, List.set_cons_succ, List.set_cons_zero]
  apply walk_skip
  · rfl
  simp only [put_lit, List.set_cons_succ, List.set_cons_zero]
  apply walk_skip
  · rfl
  simp only [put_lit, List.set_cons_succ, List.set_cons_zero]
  apply walk_skip
  · rfl
  simp only [put_lit, List.set_cons_succ, List.set_cons_zero]
  apply walk_det
  · rfl
  · intro w2 hC hF
    simp only [upon]
    go_simp
    exact ⟨Below.refl _ _, rfl⟩
  simp only [put_lit, List.set_cons_succ, List.set_cons_zero]
  apply walk_det
  · rfl
  · intro w2 hC hF
    simp only [upon]
    go_simp
    exact ⟨Below.refl _ _, rfl⟩
  simp only [put_lit, List.set_cons_succ, List.set_cons_zero]
  apply walk_det
  · rfl
  · intro w2 hC hF
    simp only [upon]
    go_simp
    exact ⟨Below.refl _ _, rfl⟩
  simp only [put_lit, List.set_cons_succ, List.set_cons_zero]
  apply walk_nil
  intro w2 hC _
  go_wp2
  go_returns
  exact ⟨rfl, bnext hB3 hC⟩

def Row (W : World) (g : Nat) (l : List Nat) : Prop := ∀ k, k < l.length → W.cell? ⟨g, k, none⟩ = some (.int .u8 (l.getD k 0 : Nat))
theorem Row.below {W W' : World} {g : Nat} {l : List Nat} (h : Row W g l) (hb : Below W.heap.size W W') : Row W' g l := fun k hk => (hb.cell (p := ⟨g, k, none⟩) (lt_of_cell (h k hk))).trans (h k hk)
theorem own_row {W : World} {n : Nat} {v : Value} {l : List Nat} (h : W.ownsRow n 5 1 v l.length (enc l)) (h0 : l ≠ []) : ∃ g cap, v = .slice (some ⟨g, 0, none⟩) l.length cap ∧ Row W g l := by
  rcases h.2 with ⟨_, h1⟩ | ⟨g, cap, cur, rfl, _, hg, hc, _, hsz, ht⟩
  · simp at h1; exact absurd h1 h0
  · refine ⟨g, cap, rfl, fun k hk => ?_⟩
    simp only [World.cell?, hg, Option.isSome_none, Bool.false_eq_true, if_false]
    have h1 : cur[k]? = (cur.toList.take (l.length * 1))[k]? := by
      rw [List.getElem?_take, if_pos (by omega)]; simp
    rw [h1, ht, enc, List.getElem?_map, List.getD_eq_getElem?_getD]
    simp [hk]

set_option maxRecDepth 100000 in
set_option maxHeartbeats 8000000 in
theorem told_some (s : S) (c : Nat) (r : List Nat) (hs0 : bl s = c :: r) (w : World) (hT : Tab w) :
    Calls Tryd.prog 9 #[sv s] w fun e w' => e = .returned (.bool true) ∧ Below w.heap.size w w' := by
  have e1 := eq_yes s
  have hl0 := fun w => len_any s w
  rw [cnt_bl] at hl0
  have hn0 : s ≠ 0#256 := by
    intro e; rw [e, bl_zero] at hs0; cases hs0
  have hlen : (bl s).length ≤ 256 := blTo_len s 4
  have hof : ofl (bl s) = s := ofl_bl s
  have hmem := bl_mem s
  have hup := bl_up s
  have hlt := bl_lt s
  have hc0 : (bl s).getD 0 0 = c := by rw [hs0]; rfl
  have hne : bl s ≠ [] := by rw [hs0]; simp
  have hlp : 0 < (bl s).length := by rw [hs0]; simp
  have hlA := fun w hT => lawAll_any s w hT
  have hll := fun w hT => least_some s c r hs0 hn0 w hT
  clear hs0
  generalize bl s = l at *
  unfold sv at *
  go_enter Tryd.func9, Tryd.ntmps9
  go_wp2_with fail
  refine (works_any _ (hT.below ((Below.refl _ w).alloc (Nat.le_refl _) _) hT.lt)).mono ?_
  rintro e w1 ⟨rfl, hb1⟩
  have hs1 : SetAt w1 w.heap.size s := (SetAt.box w s).same (hb1.block _ (by simp))
  have hB1 : Below w.heap.size w w1 := bnext (balloc (Below.refl _ w) _) hb1
  obtain ⟨c0, c1, c2, c3⟩ := hs1.cell
  go_wp2_with fail
  refine (hlA _ (hT.below hB1 hT.lt)).mono ?_
  rintro e w2 ⟨v, rfl, hrow, hb2⟩
  have hv := bytesIn_of_own hrow hlt (by omega)
  have hs2 := hs1.same (hb2.block _ hs1.lt)
  have hB2 := bnext hB1 hb2
  obtain ⟨g, cap, rfl, hR⟩ := own_row hrow hne
  clear c0 c1 c2 c3 hs1 hrow
  obtain ⟨c0, c1, c2, c3⟩ := hs2.cell
  go_wp2_with fail
  go_loopw [4] (fun i wr => ∃ k : Nat, k ≤ l.length ∧ i = .int .i64 k ∧ SetAt wr w.heap.size s ∧ Row wr g l ∧ BytesIn wr (.slice (some ⟨g, 0, none⟩) l.length cap) l ∧ Below w.heap.size w wr) (fun i _ => l.length - (intOf i).toNat)
  case atStart => exact ⟨0, by omega, rfl, hs2, hR, hv, hB2⟩
  case round =>
    clear c0 c1 c2 c3
    obtain ⟨k, hk, rfl, hs, hR, hv, hB⟩ := hrel
    by_cases hkl : k < l.length
    · obtain ⟨x, hx, hxl, hmx, hxe⟩ : ∃ x : Nat, wr.cell? ⟨g, k, none⟩ = some (.int .u8 x) ∧ x < 256 ∧ mem s x = true ∧ l.getD k 0 = x := ⟨_, hR k hkl, hlt _ (by rw [List.getD_eq_getElem?_getD, List.getElem?_eq_getElem hkl]; exact List.getElem_mem hkl), hmem k hkl, rfl⟩
      have hH := fun w => has_any s x hxl w
      rw [hmx] at hH
      by_cases hk0 : k = 0
      · subst hk0
        go_wp2_with fail
        refine poised_whole (fun w' => Below wr.heap.size wr w') (fun w w' => Below wr.heap.size w w') (by kernel_rfl) (by kernel_rfl) (by kernel_rfl) (fun _ _ h k => h.trans k) ((Below.refl _ _).drew) ?_
        apply Exists.intro
        apply walk_det
        · rfl
        · intro w2 hC hF
          obtain ⟨c0, c1, c2, c3⟩ := (hs.same (hC.block _ hs.lt)).cell
          have g1 : w2.cell? ⟨g, 0, none⟩ = some (.int .u8 (x : Nat)) := (hC.cell (p := ⟨g, 0, none⟩) (lt_of_cell hx)).trans hx
          simp only [upon]
          go_simp
          exact ⟨Below.refl _ _, rfl⟩
        simp only [put_lit, List.set_cons_succ, List.set_cons_zero]
        apply walk_det
        · rfl
        · intro w2 hC hF
          simp only [upon]
          go_simp
          exact ⟨Below.refl _ _, rfl⟩
        simp only [put_lit, List.set_cons_succ, List.set_cons_zero]
        apply walk_det
        · rfl
        · intro w2 hC hF
          simp only [upon]
          go_simp
          exact ⟨Below.refl _ _, rfl⟩
        simp only [put_lit, List.set_cons_succ, List.set_cons_zero]
        apply walk_det
        · rfl
        · intro w2 hC hF
          simp only [upon]
          go_simp
          exact ⟨Below.refl _ _, rfl⟩
        simp only [put_lit, List.set_cons_succ, List.set_cons_zero]
        apply walk_det
        · rfl
        · intro w2 hC hF
          obtain ⟨c0, c1, c2, c3⟩ := (hs.same (hC.block _ hs.lt)).cell
          have g1 : w2.cell? ⟨g, 0, none⟩ = some (.int .u8 (x : Nat)) := (hC.cell (p := ⟨g, 0, none⟩) (lt_of_cell hx)).trans hx
          simp only [upon]
          go_simp
          exact ⟨Below.refl _ _, rfl⟩
        simp only [put_lit, List.set_cons_succ, List.set_cons_zero]
        apply walk_det
        · rfl
        · intro w2 hC hF
          obtain ⟨c0, c1, c2, c3⟩ := (hs.same (hC.block _ hs.lt)).cell
          have g1 : w2.cell? ⟨g, 0, none⟩ = some (.int .u8 (x : Nat)) := (hC.cell (p := ⟨g, 0, none⟩) (lt_of_cell hx)).trans hx
          simp only [upon]
          go_simp
          exact up_call (hH _) hC.size
        simp only [put_lit, List.set_cons_succ, List.set_cons_zero]
        apply walk_det
        · rfl
        · intro w2 hC hF
          simp only [upon]
          go_simp
          exact ⟨Below.refl _ _, rfl⟩
        simp only [put_lit, List.set_cons_succ, List.set_cons_zero]
        apply walk_det
        · rfl
        · intro w2 hC hF
          simp only [upon]
          go_simp
          exact ⟨Below.refl _ _, rfl⟩
        simp only [put_lit, List.set_cons_succ, List.set_cons_zero]
        apply walk_det
        · rfl
        · intro w2 hC hF
          simp only [upon]
          go_simp
          exact ⟨Below.refl _ _, rfl⟩
        simp only [put_lit, List.set_cons_succ, List.set_cons_zero]
        apply walk_det
        · rfl
        · intro w2 hC hF
          simp only [upon]
          go_simp
          exact ⟨Below.refl _ _, rfl⟩
        simp only [put_lit, List.set_cons_succ, List.set_cons_zero]
        apply walk_det
        · rfl
        · intro w2 hC hF
          simp only [upon]
          go_simp
          exact ⟨Below.refl _ _, rfl⟩
        simp only [put_lit, List.set_cons_succ, List.set_cons_zero]
        apply walk_skip
        · rfl
        simp only [put_lit, List.set_cons_succ, List.set_cons_zero]
        apply walk_skip
        · rfl
        simp only [put_lit, List.set_cons_succ, List.set_cons_zero]
        apply walk_skip
        · rfl
        simp only [put_lit, List.set_cons_succ, List.set_cons_zero]
        apply walk_skip
        · rfl
        simp only [put_lit, List.set_cons_succ, List.set_cons_zero]
        apply walk_skip
        · rfl
        simp only [put_lit, List.set_cons_succ, List.set_cons_zero]
        apply walk_skip
        · rfl
        simp only [put_lit, List.set_cons_succ, List.set_cons_zero]
        apply walk_skip
        · rfl
        simp only [put_lit, List.set_cons_succ, List.set_cons_zero]
        apply walk_skip
        · rfl
        simp only [put_lit, List.set_cons_succ, List.set_cons_zero]
        apply walk_skip
        · rfl
        simp only [put_lit, List.set_cons_succ, List.set_cons_zero]
        apply walk_skip
        · rfl
        simp only [put_lit, List.set_cons_succ, List.set_cons_zero]
        apply walk_det
        · rfl
        · intro w2 hC hF
          simp only [upon]
          go_simp
          exact ⟨Below.refl _ _, rfl⟩
        simp only [put_lit, List.set_cons_succ, List.set_cons_zero]
        apply walk_det
        · rfl
        · intro w2 hC hF
          simp only [upon]
          go_simp
          exact ⟨Below.refl _ _, rfl⟩
        simp only [put_lit, List.set_cons_succ, List.set_cons_zero]
        apply walk_nil
        intro w2 hC _
        go_wp2
        go_roundw
        case rel => exact ⟨1, by omega, by go_num, hs.same (hC.block _ hs.lt), hR.below hC, hv.below hC, bnext hB hC⟩
        case measure => simp [intOf]; omega
      · obtain ⟨y, hy, hyx⟩ : ∃ y : Nat, wr.cell? ⟨g, k - 1, none⟩ = some (.int .u8 y) ∧ y < x := by
          refine ⟨_, hR (k - 1) (by omega), ?_⟩
          have := hup (k - 1) (by omega)
          rw [show k - 1 + 1 = k by omega, hxe] at this
          exact this
        have q1 : decide (0 < k) = true := by simp; omega
        have q2 : decide (x ≤ y) = false := by simp; omega
        have q3 : IntKind.i64.wrap ((k : Int) - 1) = (k : Int) - 1 := by rw [IntKind.wrap_i64]; omega
        have q4 : ((k : Int) - 1).toNat = k - 1 := by omega
        have q5 : (1 : Int) ≤ k := by omega
        have q6 : (k : Int) - 1 < l.length := by omega
        have q7 : (0 : Int) ≤ (k : Int) - 1 := by omega
        have q8 : decide ((0 : Int) < (k : Int)) = true := by simp; omega
        go_wp2_with fail
        refine poised_whole (fun w' => Below wr.heap.size wr w') (fun w w' => Below wr.heap.size w w') (by kernel_rfl) (by kernel_rfl) (by kernel_rfl) (fun _ _ h k => h.trans k) ((Below.refl _ _).drew) ?_
        apply Exists.intro
        apply walk_det
        · rfl
        · intro w2 hC hF
          obtain ⟨c0, c1, c2, c3⟩ := (hs.same (hC.block _ hs.lt)).cell
          have g1 : w2.cell? ⟨g, k, none⟩ = some (.int .u8 (x : Nat)) := (hC.cell (p := ⟨g, k, none⟩) (lt_of_cell hx)).trans hx
          have g2 : w2.cell? ⟨g, k - 1, none⟩ = some (.int .u8 (y : Nat)) := (hC.cell (p := ⟨g, k - 1, none⟩) (lt_of_cell hy)).trans hy
          simp only [upon]
          go_simp
          exact ⟨Below.refl _ _, rfl⟩
        simp only [put_lit, List.set_cons_succ, List.set_cons_zero]
        apply walk_det
        · rfl
        · intro w2 hC hF
          simp only [upon]
          go_simp
          exact ⟨Below.refl _ _, rfl⟩
        simp only [put_lit, List.set_cons_succ, List.set_cons_zero]
        apply walk_det
        · rfl
        · intro w2 hC hF
          simp only [upon]
          go_simp
          exact ⟨Below.refl _ _, rfl⟩
        simp only [put_lit, List.set_cons_succ, List.set_cons_zero]
        apply walk_det
        · rfl
        · intro w2 hC hF
          simp only [upon]
          go_simp
          exact ⟨Below.refl _ _, rfl⟩
        simp only [put_lit, List.set_cons_succ, List.set_cons_zero]
        apply walk_det
        · rfl
        · intro w2 hC hF
          obtain ⟨c0, c1, c2, c3⟩ := (hs.same (hC.block _ hs.lt)).cell
          have g1 : w2.cell? ⟨g, k, none⟩ = some (.int .u8 (x : Nat)) := (hC.cell (p := ⟨g, k, none⟩) (lt_of_cell hx)).trans hx
          have g2 : w2.cell? ⟨g, k - 1, none⟩ = some (.int .u8 (y : Nat)) := (hC.cell (p := ⟨g, k - 1, none⟩) (lt_of_cell hy)).trans hy
          simp only [upon]
          go_simp
          exact ⟨Below.refl _ _, rfl⟩
        simp only [put_lit, List.set_cons_succ, List.set_cons_zero]
        apply walk_det
        · rfl
        · intro w2 hC hF
          obtain ⟨c0, c1, c2, c3⟩ := (hs.same (hC.block _ hs.lt)).cell
          have g1 : w2.cell? ⟨g, k, none⟩ = some (.int .u8 (x : Nat)) := (hC.cell (p := ⟨g, k, none⟩) (lt_of_cell hx)).trans hx
          have g2 : w2.cell? ⟨g, k - 1, none⟩ = some (.int .u8 (y : Nat)) := (hC.cell (p := ⟨g, k - 1, none⟩) (lt_of_cell hy)).trans hy
          simp only [upon]
          go_simp
          exact up_call (hH _) hC.size
        simp only [put_lit, List.set_cons_succ, List.set_cons_zero]
        apply walk_det
        · rfl
        · intro w2 hC hF
          simp only [upon]
          go_simp
          exact ⟨Below.refl _ _, rfl⟩
        simp only [put_lit, List.set_cons_succ, List.set_cons_zero]
        apply walk_det
        · rfl
        · intro w2 hC hF
          simp only [upon]
          go_simp
          exact ⟨Below.refl _ _, rfl⟩
        simp only [put_lit, List.set_cons_succ, List.set_cons_zero]
        apply walk_det
        · rfl
        · intro w2 hC hF
          simp only [upon]
          go_simp
          exact ⟨Below.refl _ _, rfl⟩
        simp only [put_lit, List.set_cons_succ, List.set_cons_zero]
        apply walk_det
        · rfl
        · intro w2 hC hF
          simp only [upon]
          go_simp
          exact ⟨Below.refl _ _, rfl⟩
        simp only [put_lit, List.set_cons_succ, List.set_cons_zero]
        apply walk_det
        · rfl
        · intro w2 hC hF
          simp only [upon]
          go_simp
          exact ⟨Below.refl _ _, rfl⟩
        simp only [put_lit, List.set_cons_succ, List.set_cons_zero]
        apply walk_det
        · rfl
        · intro w2 hC hF
          simp only [upon]
          go_simp
          exact ⟨Below.refl _ _, rfl⟩
        simp only [put_lit, List.set_cons_succ, List.set_cons_zero]
        apply walk_det
        · rfl
        · intro w2 hC hF
          simp only [upon]
          go_simp
          exact ⟨Below.refl _ _, rfl⟩
        simp only [put_lit, List.set_cons_succ, List.set_cons_zero]
        apply walk_det
        · rfl
        · intro w2 hC hF
          simp only [upon]
          go_simp
          exact ⟨Below.refl _ _, rfl⟩
        simp only [put_lit, List.set_cons_succ, List.set_cons_zero]
        apply walk_det
        · rfl
        · intro w2 hC hF
          obtain ⟨c0, c1, c2, c3⟩ := (hs.same (hC.block _ hs.lt)).cell
          have g1 : w2.cell? ⟨g, k, none⟩ = some (.int .u8 (x : Nat)) := (hC.cell (p := ⟨g, k, none⟩) (lt_of_cell hx)).trans hx
          have g2 : w2.cell? ⟨g, k - 1, none⟩ = some (.int .u8 (y : Nat)) := (hC.cell (p := ⟨g, k - 1, none⟩) (lt_of_cell hy)).trans hy
          simp only [upon]
          go_simp
          exact ⟨Below.refl _ _, rfl⟩
        simp only [put_lit, List.set_cons_succ, List.set_cons_zero]
        apply walk_det
        · rfl
        · intro w2 hC hF
          simp only [upon]
          go_simp
          exact ⟨Below.refl _ _, rfl⟩
        simp only [put_lit, List.set_cons_succ, List.set_cons_zero]
        apply walk_det
        · rfl
        · intro w2 hC hF
          simp only [upon]
          go_simp
          exact ⟨Below.refl _ _, rfl⟩
        simp only [put_lit, List.set_cons_succ, List.set_cons_zero]
        apply walk_det
        · rfl
        · intro w2 hC hF
          simp only [upon]
          go_simp
          exact ⟨Below.refl _ _, rfl⟩
        simp only [put_lit, List.set_cons_succ, List.set_cons_zero]
        apply walk_det
        · rfl
        · intro w2 hC hF
          simp only [upon]
          go_simp
          exact ⟨Below.refl _ _, rfl⟩
        simp only [put_lit, List.set_cons_succ, List.set_cons_zero]
        apply walk_det
        · rfl
        · intro w2 hC hF
          obtain ⟨c0, c1, c2, c3⟩ := (hs.same (hC.block _ hs.lt)).cell
          have g1 : w2.cell? ⟨g, k, none⟩ = some (.int .u8 (x : Nat)) := (hC.cell (p := ⟨g, k, none⟩) (lt_of_cell hx)).trans hx
          have g2 : w2.cell? ⟨g, k - 1, none⟩ = some (.int .u8 (y : Nat)) := (hC.cell (p := ⟨g, k - 1, none⟩) (lt_of_cell hy)).trans hy
          simp only [upon]
          go_simp
          exact ⟨Below.refl _ _, rfl⟩
        simp only [put_lit, List.set_cons_succ, List.set_cons_zero]
        apply walk_det
        · rfl
        · intro w2 hC hF
          simp only [upon]
          go_simp
          exact ⟨Below.refl _ _, rfl⟩
        simp only [put_lit, List.set_cons_succ, List.set_cons_zero]
        apply walk_det
        · rfl
        · intro w2 hC hF
          simp only [upon]
          go_simp
          exact ⟨Below.refl _ _, rfl⟩
        simp only [put_lit, List.set_cons_succ, List.set_cons_zero]
        apply walk_det
        · rfl
        · intro w2 hC hF
          simp only [upon]
          go_simp
          exact ⟨Below.refl _ _, rfl⟩
        simp only [put_lit, List.set_cons_succ, List.set_cons_zero]
        apply walk_nil
        intro w2 hC _
        go_wp2
        go_roundw
        case rel => exact ⟨k + 1, by omega, by go_num, hs.same (hC.block _ hs.lt), hR.below hC, hv.below hC, bnext hB hC⟩
        case measure => simp [intOf]; omega
    · obtain rfl : k = l.length := by omega
      obtain ⟨c0, c1, c2, c3⟩ := hs.cell
      go_wp2_with fail
      refine (hll _ (hT.below hB hT.lt)).mono ?_
      rintro e w3 ⟨rfl, hb3⟩
      have hs3 := hs.same (hb3.block _ hs.lt)
      have hB3 := bnext hB hb3
      have hv3 := hv.below hb3
      have hx := hR.below hb3 0 hlp
      rw [hc0] at hx
      have q1 : decide (0 < l.length) = true := by simp; omega
      have q2 : (0 : Int) < l.length := by omega
      clear c0 c1 c2 c3 hs
      have hs := hs3
      go_wp2_with fail
      refine poised_whole (fun w' => Below w3.heap.size w3 w') (fun w w' => Below w3.heap.size w w') (by kernel_rfl) (by kernel_rfl) (by kernel_rfl) (fun _ _ h k => h.trans k) ((Below.refl _ _).drew) ?_
      apply Exists.intro
      apply walk_det
      · rfl
      · intro w2 hC hF
        simp only [upon]
        go_simp
        exact ⟨Below.refl _ _, rfl⟩
      simp only [put_lit, List.set_cons_succ, List.set_cons_zero]
      apply walk_det
      · rfl
      · intro w2 hC hF
        obtain ⟨c0, c1, c2, c3⟩ := (hs.same (hC.block _ hs.lt)).cell
        have g1 : w2.cell? ⟨g, 0, none⟩ = some (.int .u8 (c : Nat)) := (hC.cell (p := ⟨g, 0, none⟩) (lt_of_cell hx)).trans hx
        simp only [upon]
        go_simp
        exact up_call (show Calls _ _ _ _ (fun e w' => e = .returned (sv s) ∧ _) from hof ▸ of_any _ l _ (hv3.below hC)) hC.size
      simp only [put_lit, List.set_cons_succ, List.set_cons_zero]
      apply walk_det
      · rfl
      · intro w2 hC hF
        obtain ⟨c0, c1, c2, c3⟩ := (hs.same (hC.block _ hs.lt)).cell
        have g1 : w2.cell? ⟨g, 0, none⟩ = some (.int .u8 (c : Nat)) := (hC.cell (p := ⟨g, 0, none⟩) (lt_of_cell hx)).trans hx
        simp only [upon]
        go_simp
        exact ⟨Below.refl _ _, rfl⟩
      simp only [put_lit, List.set_cons_succ, List.set_cons_zero]
      apply walk_det
      · rfl
      · intro w2 hC hF
        simp only [upon]
        go_simp
        exact ⟨Below.refl _ _, rfl⟩
      simp only [put_lit, List.set_cons_succ, List.set_cons_zero]
      apply walk_det
      · rfl
      · intro w2 hC hF
        simp only [upon]
        go_simp
        exact ⟨Below.refl _ _, rfl⟩
      simp only [put_lit, List.set_cons_succ, List.set_cons_zero]
      apply walk_det
      · rfl
      · intro w2 hC hF
        simp only [upon]
        go_simp
        exact ⟨Below.refl _ _, rfl⟩
      simp only [put_lit, List.set_cons_succ, List.set_cons_zero]
      apply walk_det
      · rfl
      · intro w2 hC hF
        simp only [upon]
        go_simp
        exact ⟨Below.refl _ _, rfl⟩
      simp only [put_lit, List.set_cons_succ, List.set_cons_zero]
      apply walk_det
      · rfl
      · intro w2 hC hF
        obtain ⟨c0, c1, c2, c3⟩ := (hs.same (hC.block _ hs.lt)).cell
        have g1 : w2.cell? ⟨g, 0, none⟩ = some (.int .u8 (c : Nat)) := (hC.cell (p := ⟨g, 0, none⟩) (lt_of_cell hx)).trans hx
        simp only [upon]
        go_simp
        exact ⟨Below.refl _ _, rfl⟩
      simp only [put_lit, List.set_cons_succ, List.set_cons_zero]
      apply walk_det
      · rfl
      · intro w2 hC hF
        obtain ⟨c0, c1, c2, c3⟩ := (hs.same (hC.block _ hs.lt)).cell
        have g1 : w2.cell? ⟨g, 0, none⟩ = some (.int .u8 (c : Nat)) := (hC.cell (p := ⟨g, 0, none⟩) (lt_of_cell hx)).trans hx
        simp only [upon]
        go_simp
        exact up_call (hl0 _) hC.size
      simp only [put_lit, List.set_cons_succ, List.set_cons_zero]
      apply walk_det
      · rfl
      · intro w2 hC hF
        simp only [upon]
        go_simp
        exact ⟨Below.refl _ _, rfl⟩
      simp only [put_lit, List.set_cons_succ, List.set_cons_zero]
      apply walk_det
      · rfl
      · intro w2 hC hF
        simp only [upon]
        go_simp
        exact ⟨Below.refl _ _, rfl⟩
      simp only [put_lit, List.set_cons_succ, List.set_cons_zero]
      apply walk_det
      · rfl
      · intro w2 hC hF
        simp only [upon]
        go_simp
        exact ⟨Below.refl _ _, rfl⟩
      simp only [put_lit, List.set_cons_succ, List.set_cons_zero]
      apply walk_det
      · rfl
      · intro w2 hC hF
        simp only [upon]
        go_simp
        exact ⟨Below.refl _ _, rfl⟩
      simp only [put_lit, List.set_cons_succ, List.set_cons_zero]
      apply walk_det
      · rfl
      · intro w2 hC hF
        simp only [upon]
        go_simp
        exact ⟨Below.refl _ _, rfl⟩
      simp only [put_lit, List.set_cons_succ, List.set_cons_zero]
      apply walk_det
      · rfl
      · intro w2 hC hF
        simp only [upon]
        go_simp
        exact ⟨Below.refl _ _, rfl⟩
      simp only [put_lit, List.set_cons_succ, List.set_cons_zero]
      apply walk_det
      · rfl
      · intro w2 hC hF
        simp only [upon]
        go_simp
        exact ⟨Below.refl _ _, rfl⟩
      simp only [put_lit, List.set_cons_succ, List.set_cons_zero]
      apply walk_det
      · rfl
      · intro w2 hC hF
        simp only [upon]
        go_simp
        exact ⟨Below.refl _ _, rfl⟩
      simp only [put_lit, List.set_cons_succ, List.set_cons_zero]
      apply walk_det
      · rfl
      · intro w2 hC hF
        simp only [upon]
        go_simp
        exact ⟨Below.refl _ _, rfl⟩
      simp only [put_lit, List.set_cons_succ, List.set_cons_zero]
      apply walk_det
      · rfl
      · intro w2 hC hF
        simp only [upon]
        go_simp
        exact ⟨Below.refl _ _, rfl⟩
      simp only [put_lit, List.set_cons_succ, List.set_cons_zero]
      apply walk_det
      · rfl
      · intro w2 hC hF
        simp only [upon]
        go_simp
        exact ⟨Below.refl _ _, rfl⟩
      simp only [put_lit, List.set_cons_succ, List.set_cons_zero]
      apply walk_det
      · rfl
      · intro w2 hC hF
        simp only [upon]
        go_simp
        exact ⟨Below.refl _ _, rfl⟩
      simp only [put_lit, List.set_cons_succ, List.set_cons_zero]
      apply walk_det
      · rfl
      · intro w2 hC hF
        simp only [upon]
        go_simp
        exact ⟨Below.refl _ _, rfl⟩
      simp only [put_lit, List.set_cons_succ, List.set_cons_zero]
      apply walk_det
      · rfl
      · intro w2 hC hF
        simp only [upon]
        go_simp
        exact ⟨Below.refl _ _, rfl⟩
      simp only [put_lit, List.set_cons_succ, List.set_cons_zero]
      apply walk_det
      · rfl
      · intro w2 hC hF
        simp only [upon]
        go_simp
        exact ⟨Below.refl _ _, rfl⟩
      simp only [put_lit, List.set_cons_succ, List.set_cons_zero]
      apply walk_det
      · rfl
      · intro w2 hC hF
        simp only [upon]
        go_simp
        exact ⟨Below.refl _ _, rfl⟩
      simp only [put_lit, List.set_cons_succ, List.set_cons_zero]
      apply walk_det
      · rfl
      · intro w2 hC hF
        obtain ⟨c0, c1, c2, c3⟩ := (hs.same (hC.block _ hs.lt)).cell
        have g1 : w2.cell? ⟨g, 0, none⟩ = some (.int .u8 (c : Nat)) := (hC.cell (p := ⟨g, 0, none⟩) (lt_of_cell hx)).trans hx
        simp only [upon]
        go_simp
        exact ⟨Below.refl _ _, rfl⟩
      simp only [put_lit, List.set_cons_succ, List.set_cons_zero]
      apply walk_det
      · rfl
      · intro w2 hC hF
        simp only [upon]
        go_simp
        exact ⟨Below.refl _ _, rfl⟩
      simp only [put_lit, List.set_cons_succ, List.set_cons_zero]
      apply walk_det
      · rfl
      · intro w2 hC hF
        simp only [upon]
        go_simp
        exact ⟨Below.refl _ _, rfl⟩
      simp only [put_lit, List.set_cons_succ, List.set_cons_zero]
      apply walk_det
      · rfl
      · intro w2 hC hF
        simp only [upon]
        go_simp
        exact ⟨Below.refl _ _, rfl⟩
      simp only [put_lit, List.set_cons_succ, List.set_cons_zero]
      apply walk_det
      · rfl
      · intro w2 hC hF
        simp only [upon]
        go_simp
        exact ⟨Below.refl _ _, rfl⟩
      simp only [put_lit, List.set_cons_succ, List.set_cons_zero]
      apply walk_nil
      intro w2 hC _
      go_wp2
      go_returns
      exact ⟨rfl, bnext hB3 hC⟩

theorem setsTold_any (s : S) (w : World) (hT : Tab w) :
    Calls Tryd.prog 9 #[sv s] w fun e w' => e = .returned (.bool true) ∧ Below w.heap.size w w' := by
  cases hb : bl s with
  | nil => rw [bl_nil hb]; exact told_none w hT
  | cons c r => exact told_some s c r hb w hT
end Go.Proofs.YtgopahmhniphbaaDoor
