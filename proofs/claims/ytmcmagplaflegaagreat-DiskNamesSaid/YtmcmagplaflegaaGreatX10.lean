/-
  A LIST's FIRST ONES, CUT: some. Conditions: those of each theorem.
  WHAT RECORD WRITES, RECORDS READS: the statement, walked. Conditions: those of each theorem.
-/
import Derived.Test.YtmcmagplaflegaaGreatX9

namespace Go.Proofs.YtmcmagplaflegaaGreat
open Go Go.RowKit Go.MapL Go.Poised

/-- A copy of bytes. -/
def CopyV (n : Nat) (l : List Nat) (v : Value) (w : World) : Prop := w.ownsRow n 5 1 v l.length (encB l)
def CopyW (n : Nat) (l : List Nat) (v : Value) (w : World) : Prop := ∃ B u, v = .slice (some ⟨B, 0, none⟩) 1 1 ∧ w.heap[B]? = some (.cells #[u] 23) ∧ CopyV n l u w
theorem CopyV.last {n : Nat} {l : List Nat} {v : Value} {w w' : World} (hR : Below w.heap.size w w') (h : CopyV n l v w) : CopyV n l v w' := own_kept h hR
theorem CopyW.last {n : Nat} {l : List Nat} {v : Value} {w w' : World} (hR : Below w.heap.size w w') (h : CopyW n l v w) : CopyW n l v w' := by
  obtain ⟨B, u, h1, h2, h3⟩ := h
  exact ⟨B, u, h1, (hR.block B (Array.getElem?_eq_some_iff.1 h2).1).trans h2, h3.last hR⟩
theorem copy_made {n : Nat} {l : List Nat} {u : Value} {w : World} (h : CopyV n l u w) : CopyW n l (.slice (some ⟨w.heap.size, 0, none⟩) 1 1) (w.alloc (.cells #[u] 23)) :=
  ⟨_, u, rfl, heap_new _ _, h.last ((Below.refl _ _).alloc (Nat.le_refl _) _)⟩
/-- The first ones of a list, cut. -/
def firstOnes (L : List (List Nat)) : List (List Nat) := (L.take 20).map (·.take 200)
set_option maxRecDepth 100000 in
set_option maxHeartbeats 8000000 in
theorem some_any (v : Value) (L : List (Value × List Nat)) (w : World) (h : ArgR w v L) :
    Calls Tryz.prog 33 #[v] w fun e w' => ∃ u M, e = .returned u ∧ RowsAt w' w.heap.size u M ∧ M.map (·.2) = firstOnes (L.map (·.2)) ∧ Below w.heap.size w w' := by
  obtain ⟨i23, hi23, hz23, hs23, hb23⟩ := info_parts info23
  obtain ⟨hLl, ⟨p, cap, rfl, hcap, hc⟩, heach⟩ := h
  replace hc : Hid _ := hc
  replace heach : Hid _ := heach
  replace hz23 : Hid _ := hz23
  replace hs23 : Hid _ := hs23
  replace hb23 : Hid _ := hb23
  go_enter Tryz.func33, Tryz.ntmps33
  go_wp2_with fail
  go_loopw [4, 3] (fun i o wr => ∃ (k : Nat) (M : List (Value × List Nat)), k ≤ L.length ∧ k ≤ 20 ∧ i = .int .i64 k ∧ RowsAt wr w.heap.size o M ∧ M.length = k ∧ M.map (·.2) = ((L.map (·.2)).take k).map (·.take 200) ∧ Below w.heap.size w wr) (fun i _ _ => 20 - (intOf i).toNat)
  case atStart => exact ⟨0, [], by omega, by omega, rfl, RowsAt.nil _ _, rfl, by simp, Below.refl _ _⟩
  case round =>
    obtain ⟨k, M, hk, hk20, rfl, hM, hMl, hMm, hB⟩ := hrel
    replace hMm : Hid _ := hMm
    replace hMl : Hid (M.length = k) := hMl
    obtain ⟨uq, ucap, ho⟩ := own_shape hM.row
    by_cases hlt : k < L.length
    · have hlt' : (k : Int) < (L.length : Int) := by omega
      by_cases hlt2 : k < 20
      · have hlt2' : (k : Int) < 20 := by omega
        obtain ⟨b, off, rfl, hcell0⟩ := hc.out k hlt
        have hcell := (hB.cell (p := ⟨b, off + k, none⟩) (lt_of_cell hcell0)).trans hcell0
        have hbl := lt_of_cell hcell
        obtain ⟨hx, xq, xcap, hxe, hxc⟩ := heach.out L[k] (List.getElem_mem hlt)
        have hx2 := hx.below hB
        have hnext : Hid (((L.map (·.2)).take (k + 1)).map (fun x : List Nat => x.take 200) = ((L.map (·.2)).take k).map (fun x : List Nat => x.take 200) ++ [L[k].2.take 200]) := by
          show _ = _
          rw [List.take_succ_eq_append_getElem (by simpa using hlt), List.map_append]; simp
        obtain ⟨ml, hml⟩ : ∃ ml, min L[k].2.length 200 = ml := ⟨_, rfl⟩
        have hmi : min (L[k].2.length : Int) 200 = (ml : Int) := by omega
        have hmlen : ml ≤ L[k].2.length := by omega
        have hm200 : ml ≤ 200 := by omega
        obtain ⟨l, hl⟩ : ∃ l, L[k].2.take 200 = l := ⟨_, rfl⟩
        have hl2 : L[k].2.take ml = l := by rw [← hl, ← hml, Nat.min_comm]; exact (List.take_eq_take_min).symm
        have hll : l.length = ml := by rw [← hl2, List.length_take]; omega
        have hsl0 : BytesIn wr (.slice xq ml xcap) l := by
          rw [hxe] at hx2
          obtain ⟨_, _, _, e9, h10, _⟩ := hx2.take ml hmlen
          cases e9
          rw [hl2] at h10
          exact h10
        have hsl : ∀ W, Below wr.heap.size wr W → BytesIn W (.slice xq ml xcap) l := fun W hW => hsl0.below hW
        have hmc : ml ≤ xcap := by omega
        have hmc' : (ml : Int) ≤ (xcap : Int) := by omega
        have hm0 : (0 : Int) ≤ (ml : Int) := by omega
        rw [hl] at hnext
        clear hsl0 hx hx2 hcell0 hl hl2
        rw [hxe] at hcell
        generalize L[k] = q at *
        obtain ⟨qv, ql⟩ := q
        simp only at hmi hmlen hxc hcell
        clear hxe
        subst ho
        replace hll : Hid _ := hll
        go_wp2_with fail
        refine poised_then 14 (fun w2 => Below wr.heap.size wr w2) (fun w1 w2 => Below w1.heap.size w1 w2) (by kernel_rfl) (by kernel_rfl) (by kernel_rfl) (fun _ _ h k => h.trans (k.mono h.size)) ((Below.refl _ _).drew) ?_
        apply Exists.intro
        simp only [List.take_succ_cons, List.take_zero]
        apply walk_det
        · rfl
        · intro w2 hC hF
          simp only [upon]
          go_simp
          exact ⟨Below.refl _ _, rfl⟩
        simp only [put_lit, List.set_cons_succ, List.set_cons_zero]
        apply walk_det
        · rfl
        · intro w2 hC hF
          simp only [upon]
          go_simp
          exact ⟨Below.refl _ _, rfl⟩
        simp only [put_lit, List.set_cons_succ, List.set_cons_zero]
        apply walk_det
        · rfl
        · intro w2 hC hF
          simp only [upon]
          go_simp
          exact ⟨Below.refl _ _, rfl⟩
        simp only [put_lit, List.set_cons_succ, List.set_cons_zero]
        apply walk_det
        · rfl
        · intro w2 hC hF
          simp only [upon]
          go_simp
          exact ⟨Below.refl _ _, rfl⟩
        simp only [put_lit, List.set_cons_succ, List.set_cons_zero]
        apply walk_det
        · rfl
        · intro w2 hC hF
          have hca := (hC.cell (p := ⟨b, off + k, none⟩) hbl).trans hcell
          simp only [upon]
          go_simp
          exact ⟨Below.refl _ _, rfl⟩
        simp only [put_lit, List.set_cons_succ, List.set_cons_zero]
        apply walk_det
        · rfl
        · intro w2 hC hF
          simp only [upon]
          go_simp
          exact ⟨Below.refl _ _, rfl⟩
        simp only [put_lit, List.set_cons_succ, List.set_cons_zero]
        apply walk_det
        · rfl
        · intro w2 hC hF
          simp only [upon]
          go_simp
          exact ⟨Below.refl _ _, rfl⟩
        simp only [put_lit, List.set_cons_succ, List.set_cons_zero]
        apply walk_det
        · rfl
        · intro w2 hC hF
          simp only [upon]
          go_simp
          exact ⟨Below.refl _ _, rfl⟩
        simp only [put_lit, List.set_cons_succ, List.set_cons_zero]
        apply walk_det
        · rfl
        · intro w2 hC hF
          have hca := (hC.cell (p := ⟨b, off + k, none⟩) hbl).trans hcell
          simp only [upon]
          go_simp
          exact ⟨Below.refl _ _, rfl⟩
        simp only [put_lit, List.set_cons_succ, List.set_cons_zero]
        apply walk_det
        · rfl
        · intro w2 hC hF
          simp only [upon]
          go_simp
          exact ⟨Below.refl _ _, rfl⟩
        simp only [put_lit, List.set_cons_succ, List.set_cons_zero]
        apply walk_det
        · rfl
        · intro w2 hC hF
          simp only [upon]
          go_simp
          exact ⟨Below.refl _ _, rfl⟩
        simp only [put_lit, List.set_cons_succ, List.set_cons_zero]
        apply walk_det
        · rfl
        · intro w2 hC hF
          simp only [upon]
          go_simp
          exact ⟨Below.refl _ _, rfl⟩
        simp only [put_lit, List.set_cons_succ, List.set_cons_zero]
        apply walk_free (fun v w' => CopyV w.heap.size l v w') (fun _ _ _ _ hR h => CopyV.last hR h)
        · rfl
        · intro w2 hC hF
          simp only [upon]
          go_simp
          exact (copyBytes_any _ l w2 (hsl w2 hC) (by have := hll.out; omega)).mono (fun e w' hh => by obtain ⟨v', he, hr', hb'⟩ := hh; exact ⟨v', he, hb', own_base' hr' (Nat.le_trans hB.size hC.size)⟩)
        intro v12
        simp only [put_lit, List.set_cons_succ, List.set_cons_zero]
        apply walk_free (fun v w' => CopyW w.heap.size l v w') (fun _ _ _ _ hR h => CopyW.last hR h)
        · rfl
        · intro w2 hC hF
          obtain ⟨q12, c12, hq12⟩ := own_shape (show CopyV w.heap.size l v12 w2 from hF 12 (by kernel_rfl))
          subst hq12
          simp only [upon]
          go_simp
          exact ⟨(Below.refl _ _).alloc (Nat.le_refl _) _, copy_made (hF 12 (by kernel_rfl))⟩
        intro v13
        simp only [put_lit, List.set_cons_succ, List.set_cons_zero]
        apply walk_nil
        intro w9 hC9 hF9
        simp only [List.drop_succ_cons, List.drop_zero]
        obtain ⟨B, u, hue, hB1, hu⟩ : CopyW w.heap.size l v13 w9 := hF9 13
        subst hue
        obtain ⟨q9, c9, hq9⟩ := own_shape (show w9.ownsRow w.heap.size 5 1 u l.length (encB l) from hu)
        subst hq9
        have hu9 : w9.ownsRow w.heap.size 5 1 (.slice q9 l.length c9) l.length (encB l) := hu
        have hM9 := hM.below hC9
        have hB9 := hB.trans (hC9.mono hB.size)
        go_wp2_with (at_builtin; refine wpList_append_far _ rfl _ _ 53 23 i23 (.slice none 0 0) rfl Tryz.underlying53 hi23 hz23.out hs23.out hb23.out rfl w.heap.size (.slice uq M.length ucap) (.slice q9 l.length c9) M.length (M.map (·.1)) B rfl rfl hM9.row (by simp [World.cell?, hB1]) (by simp [Value.oneCell']) (by have := hMl.out; omega) hB9.size ?_; intro v' w10 hown2 hgrow hwhere)
        go_roundw
        case rel =>
          refine ⟨k + 1, M ++ [(.slice q9 l.length c9, l)], by omega, by omega, by go_num, hM9.push hu9 hown2 hgrow, by rw [List.length_append, hMl.out]; rfl, ?_, hB9.trans (below_grown hM9.row hB9.size hgrow)⟩
          rw [List.map_append, hMm.out, hnext.out]; rfl
        case measure => simp [intOf]; omega
      · obtain rfl : k = 20 := by omega
        have hend : Hid (M.map (·.2) = firstOnes (L.map (·.2))) := hMm.out
        subst ho
        go_wp2_with fail
        go_returns
        exact ⟨_, rfl, M, hM, hend.out, hB⟩
    · obtain rfl : k = L.length := by omega
      have hend : Hid (M.map (·.2) = firstOnes (L.map (·.2))) := by
        show _ = _
        rw [hMm.out]; unfold firstOnes
        rw [List.take_of_length_le (by simp), List.take_of_length_le (l := L.map (·.2)) (by simp; omega)]
      subst ho
      have hlt' : ¬ (L.length : Int) < (L.length : Int) := by omega
      go_wp2_with fail
      go_returns
      exact ⟨_, rfl, M, hM, hend.out, hB⟩
end Go.Proofs.YtmcmagplaflegaaGreat

namespace Go.Proofs.YtmcmagplaflegaaGreat
open Go Go.RowKit Go.MapL Go.Poised

/-! ### the plain part -/
/-- Where each record ends. -/
def endsOf (T : List (List Nat)) : List Int := (List.range T.length).map fun k => ((sizesB (T.take (k + 1)) : Nat) : Int)
theorem endsOf_len (T : List (List Nat)) : (endsOf T).length = T.length := by simp [endsOf]
theorem sizesB_snoc (b : List Nat) : ∀ (L : List (List Nat)), sizesB (L ++ [b]) = sizesB L + (b.length + 20)
  | [] => by simp [sizesB]
  | c :: L => by show c.length + 20 + sizesB (L ++ [b]) = c.length + 20 + sizesB L + _; rw [sizesB_snoc b L]; omega
theorem endsOf_snoc (T : List (List Nat)) (b : List Nat) : endsOf (T ++ [b]) = endsOf T ++ [((sizesB (T ++ [b]) : Nat) : Int)] := by
  unfold endsOf
  rw [List.length_append, List.length_singleton, List.range_succ, List.map_append]
  congr 1
  · apply List.map_congr_left
    intro k hk
    rw [List.mem_range] at hk
    rw [List.take_append_of_le_length (by omega)]
  · simp only [List.map_cons, List.map_nil]
    rw [List.take_of_length_le (by simp)]
theorem endsOf_at (T : List (List Nat)) (k : Nat) (hk : k < T.length) : (endsOf T).getD k 0 = ((sizesB (T.take (k + 1)) : Nat) : Int) := by
  rw [List.getD_eq_getElem?_getD]
  unfold endsOf
  rw [List.getElem?_map, List.getElem?_range hk]; rfl
theorem whole_iff : ∀ (T : List (List Nat)) (k c : Nat), k < T.length → (sizesB (T.take (k + 1)) ≤ c ↔ k < wholeN T c)
  | [], k, c, h => by simp at h
  | b :: T, 0, c, h => by
    rw [show wholeN (b :: T) c = if b.length + 20 ≤ c then 1 + wholeN T (c - (b.length + 20)) else 0 from rfl]
    show b.length + 20 + sizesB (T.take 0) ≤ c ↔ _
    rw [List.take_zero]
    split
    · exact ⟨fun _ => by omega, fun _ => by show _ + 0 ≤ _; omega⟩
    · exact ⟨fun h2 => by have : sizesB ([] : List (List Nat)) = 0 := rfl; omega, fun h2 => by omega⟩
  | b :: T, k + 1, c, h => by
    rw [show wholeN (b :: T) c = if b.length + 20 ≤ c then 1 + wholeN T (c - (b.length + 20)) else 0 from rfl]
    show b.length + 20 + sizesB (T.take (k + 1)) ≤ c ↔ _
    have ih := whole_iff T k (c - (b.length + 20)) (by simpa using h)
    split
    · rw [show (b.length + 20 + sizesB (T.take (k + 1)) ≤ c ↔ k + 1 < 1 + wholeN T (c - (b.length + 20))) ↔ (sizesB (T.take (k + 1)) ≤ c - (b.length + 20) ↔ k < wholeN T (c - (b.length + 20))) by omega]
      exact ih
    · exact ⟨fun h2 => by omega, fun h2 => by omega⟩
theorem whole_le : ∀ (T : List (List Nat)) (c : Nat), wholeN T c ≤ T.length
  | [], _ => Nat.zero_le _
  | b :: T, c => by
    rw [show wholeN (b :: T) c = if b.length + 20 ≤ c then 1 + wholeN T (c - (b.length + 20)) else 0 from rfl, List.length_cons]
    have := whole_le T (c - (b.length + 20))
    split <;> omega
theorem firstOnes_in {L : List (List Nat)} (h : ∀ l ∈ L, ∀ x ∈ l, x < 256) : (∀ l ∈ firstOnes L, (∀ x ∈ l, x < 256) ∧ l.length ≤ 200) ∧ (firstOnes L).length ≤ 20 := by
  refine ⟨fun l hl => ?_, by simp [firstOnes]; omega⟩
  obtain ⟨b, hb, rfl⟩ := List.mem_map.1 hl
  exact ⟨fun x hx => h b (List.mem_of_mem_take hb) x (List.mem_of_mem_take hx), by rw [List.length_take]; omega⟩
theorem firstOnes_size {T : List (List Nat)} (h : ∀ l ∈ T, l.length ≤ 200) (hl : T.length ≤ 20) (k : Nat) : sizesB (T.take k) ≤ 4400 := by
  have h1 := sizesB_most (T.take k) (c := 200) (fun b hb => h b (List.mem_of_mem_take hb))
  have h2 : (T.take k).length ≤ 20 := by rw [List.length_take]; omega
  have : (T.take k).length * (200 + 20) ≤ 20 * 220 := Nat.mul_le_mul_right 220 h2
  omega
theorem ListIn.take {w : World} {q : Option Addr} {cap : Nat} {L : List (Value × List Nat)} (h : ListIn w (.slice q L.length cap) L) (m : Nat) (hm : m ≤ L.length) : ListIn w (.slice q m cap) (L.take m) := by
  obtain ⟨p, c, e, hc⟩ := h.shape
  cases e
  have hl : (L.take m).length = m := by rw [List.length_take]; omega
  refine ⟨⟨q, cap, by rw [hl], fun k hk => ?_⟩, fun x hx => h.each x (List.mem_of_mem_take hx), by have := h.len; omega⟩
  rw [hl] at hk
  obtain ⟨B, off, hq, hcell⟩ := hc k (by omega)
  exact ⟨B, off, hq, by rw [hcell]; simp⟩
theorem other_sort {w : World} {n n' e e' k k' z z' : Nat} {u v : Value} {xs ys : List Value} (h : w.ownsRow n e z u k xs) (h' : w.ownsRow n' e' z' v k' ys) (hne : e ≠ e') {g : Nat} (h1 : u.ownBlock = some g) (h2 : v.ownBlock = some g) : False := by
  have h3 := sort_row h h1
  have h4 := sort_row h' h2
  omega
theorem int_new (w : World) (x : Int) (hx : -9223372036854775808 ≤ x ∧ x ≤ 9223372036854775807) : IntsIn (w.alloc (.cells #[.int .i64 x] 3)) (.slice (some ⟨w.heap.size, 0, none⟩) 1 1) [x] := by
  refine ⟨by simpa using hx, by simp, .inr (.inr ⟨_, 0, 1, rfl, fun k hk => ?_⟩)⟩
  have hk2 : k < 1 := hk
  obtain rfl : k = 0 := by omega
  simp only [World.cell?, heap_new, Option.isSome_none, Bool.false_eq_true, if_false, Nat.zero_add]
  rfl
set_option maxRecDepth 100000 in
set_option maxHeartbeats 16000000 in
theorem reads_walk (v : Value) (A : List (Value × List Nat)) (cut : Int) (w : World) (hA : ArgR w v A) (hc1 : -9223372036854775808 ≤ cut) (hc2 : cut ≤ 9223372036854775807) :
    Calls Tryz.prog 5 #[v, .int .i64 cut] w fun e w' => e = .returned (.bool true) ∧ Below w.heap.size w w' := by
  have hso := some_any v A w hA
  obtain ⟨hin, hn20⟩ := firstOnes_in (L := A.map (·.2)) (fun l hl x hx => by
    obtain ⟨q, hq, rfl⟩ := List.mem_map.1 hl
    exact (hA.2.2 q hq).1.1 x hx)
  obtain ⟨T, hT⟩ : ∃ T, firstOnes (A.map (·.2)) = T := ⟨_, rfl⟩
  rw [hT] at hso hin hn20
  have hv : ∃ q n c, v = .slice q n c := by
    obtain ⟨_, ⟨q, cap, e, _⟩, _⟩ := hA
    exact ⟨_, _, _, e⟩
  clear hT hA
  have hsz := fun k => firstOnes_size (fun l hl => (hin l hl).2) hn20 k
  replace hsz : Hid _ := hsz
  replace hin : Hid _ := hin
  obtain ⟨vq, vn, vc, rfl⟩ := hv
  go_enter Tryz.func5, Tryz.ntmps5
  go_wp2_with (go_at_call 33; refine hso.mono ?_; clear hso; rintro e w1 ⟨u, M, rfl, hM, hMm, hb1⟩; obtain ⟨uq, ucap, rfl⟩ := own_shape hM.row)
  have hMl : M.length = T.length := by rw [← hMm, List.length_map]
  replace hMm : Hid _ := hMm
  replace hMl : Hid (M.length = T.length) := hMl
  go_loopw [7, 5, 6] (fun i b ends wr => ∃ k : Nat, k ≤ M.length ∧ i = .int .i64 k ∧ wr.ownsRow w1.heap.size 5 1 b (listB 1 (T.take k)).length (encB (listB 1 (T.take k))) ∧ wr.ownsRow w1.heap.size 3 1 ends (endsOf (T.take k)).length (encI (endsOf (T.take k))) ∧ Below w1.heap.size w1 wr) (fun i _ _ _ => M.length - (intOf i).toNat)
  case atStart => exact ⟨0, by omega, rfl, World.ownsRow_nil _ _ _ _, World.ownsRow_nil _ _ _ _, Below.refl _ _⟩
  case round =>
    obtain ⟨k, hk, rfl, hb, he, hB⟩ := hrel
    obtain ⟨bq, bcap, rfl⟩ := own_shape hb
    obtain ⟨eq, ecap, rfl⟩ := own_shape he
    have hMr := hM.below hB
    by_cases hlt : k < M.length
    · have hlt' : (k : Int) < (M.length : Int) := by omega
      have hkT : k < T.length := by have := hMl.out; omega
      obtain ⟨g, hg⟩ : ∃ g, uq = some ⟨g, 0, none⟩ := by
        rcases hMr.row.2 with ⟨_, h0⟩ | ⟨g, c, cu, e, _⟩
        · omega
        · cases e; exact ⟨g, rfl⟩
      subst hg
      have hcell : wr.cell? ⟨g, k, none⟩ = some M[k].1 := by
        have := hMr.row.cells (g := g) rfl k M[k].1 (by simp [hlt])
        rw [Addr.add_lit, Nat.zero_add] at this
        exact this
      have hx := hMr.each M[k] (List.getElem_mem hlt)
      have hMT : M[k].2 = T[k] := by
        have : (M.map (·.2))[k]? = T[k]? := by rw [hMm.out]
        simpa [hlt, hkT] using this
      have hxin := hin.out T[k] (List.getElem_mem hkT)
      rw [← hMT] at hxin
      obtain ⟨xq, xcap, hxe⟩ := own_shape hx
      have hrec := record_any ((k : Int) + 1) M[k].1 M[k].2 wr (by omega) (by omega) (row_bytes hx hxin.1 (by omega)) (by omega)
      rw [recRes_ok k _ (by omega) (by omega)] at hrec
      have hRl := recB_len (k + 1) M[k].2
      have hRb := recB_byte (k + 1) M[k].2 hxin.1
      have hst : Hid (listB 1 (T.take (k + 1)) = listB 1 (T.take k) ++ recB (k + 1) M[k].2 ∧ endsOf (T.take (k + 1)) = endsOf (T.take k) ++ [(((listB 1 (T.take k) ++ recB (k + 1) M[k].2).length : Nat) : Int)]) := by
        have e1 : T.take (k + 1) = T.take k ++ [M[k].2] := by rw [hMT, List.take_succ_eq_append_getElem hkT]
        have e2 : (T.take k).length = k := by rw [List.length_take]; omega
        have e3 : listB 1 (T.take (k + 1)) = listB 1 (T.take k) ++ recB (k + 1) M[k].2 := by rw [e1, listB_snoc, e2, Nat.add_comm 1]
        refine ⟨e3, ?_⟩
        rw [← e3, listB_len, e1, endsOf_snoc]
      have hBl : (listB 1 (T.take k)).length ≤ 4400 := by rw [listB_len]; exact hsz.out k
      have hEl : (endsOf (T.take k)).length ≤ 20 := by rw [endsOf_len, List.length_take]; omega
      have hgw : IntKind.i64.wrap ((k : Int) + 1) = (k : Int) + 1 := IntWalk.i64_in _ (by omega)
      rw [hxe] at hcell hrec
      generalize recB (k + 1) M[k].2 = RB at *
      generalize listB 1 (T.take k) = Bk at *
      generalize endsOf (T.take k) = Ek at *
      have hxl : M[k].2.length ≤ 200 := hxin.2
      simp only at hrec
      generalize M[k] = q at *
      obtain ⟨qv, ql⟩ := q
      simp only at hrec hRl hxl hcell
      clear hxe hx hxin hMT
      have kA : True := trivial
      replace hRl : Hid _ := hRl
      replace hRb : Hid _ := hRb
      have hRs : RB.length ≤ 220 := by have := hRl.out; omega
      go_wp2_with (first
        | (clear kA; go_at_call 26; refine hrec.mono ?_; clear hrec; rintro e w2 ⟨r, rfl, hr, hb2⟩; obtain ⟨rq, rcap, rfl⟩ := own_shape hr; have hb' := own_kept hb hb2; have he' := own_kept he hb2; have hrB := row_bytes hr hRb.out (by omega); have hB2 := hB.trans (hb2.mono hB.size); have kB : True := trivial)
        | (clear kB; at_builtin; refine wpList_append_bytes _ rfl _ _ rfl w1.heap.size (.slice bq Bk.length bcap) (.slice rq RB.length rcap) Bk RB rfl rfl hb' hrB (by omega) hB2.size ?_; intro b3 w3 hb3 hg3 hw3; obtain ⟨BR, hBR⟩ : ∃ BR, Bk ++ RB = BR := ⟨_, rfl⟩; rw [hBR] at hb3; replace hBR : Hid _ := hBR; obtain ⟨b3q, b3cap, rfl⟩ := own_shape hb3
           have hBRl : BR.length ≤ 5000 := (by rw [← hBR.out, List.length_append]; omega)
           have he3 := row_same he' (fun g' hg' => hg3.block g' (he'.lt g' hg').2 (fun e => other_sort he' hb' (by decide) hg' (e.symm)))
           have hB3 := hB2.trans (below_grown hb' hB2.size hg3)
           have hal := (Below.refl w3.heap.size w3).alloc (Nat.le_refl _) (.cells #[.int .i64 (BR.length : Nat)] 3)
           have he4 := own_kept he3 hal; have hb4 := own_kept hb3 hal; have hB4 := hB3.trans (hal.mono hB3.size)
           have kC : True := trivial)
        | (clear kC; at_builtin; refine wpList_append_ints _ rfl _ _ rfl w1.heap.size (.slice eq Ek.length ecap) (.slice (some ⟨w3.heap.size, 0, none⟩) 1 1) Ek [(BR.length : Nat)] rfl rfl he4 (int_new w3 _ (by omega)) (by simp; omega) hB4.size ?_; intro e5 w5 he5 hg5 hw5))
      go_roundw
      case rel =>
        refine ⟨k + 1, by omega, by go_num, ?_, ?_, hB4.trans (below_grown he4 hB4.size hg5)⟩
        · rw [hst.out.1, hBR.out]
          exact row_same hb4 (fun g' hg' => hg5.block g' (hb4.lt g' hg').2 (fun e => other_sort hb4 he4 (by decide) hg' (e.symm)))
        · rw [hst.out.2, hBR.out]; exact he5
      case measure => simp [intOf]; omega
    · obtain rfl : k = M.length := by omega
      have hTk : T.take M.length = T := by rw [hMl.out, List.take_length]
      rw [hTk] at hb he
      have hBl : (listB 1 T).length ≤ 4400 := by have := hsz.out T.length; rw [List.take_length] at this; rw [listB_len]; exact this
      have hbr := bring_any cut (((listB 1 T).length : Int) + 1) (by omega) (by omega) hc1 hc2 wr
      have hgw : IntKind.i64.wrap (((listB 1 T).length : Int) + 1) = ((listB 1 T).length : Int) + 1 := IntWalk.i64_in _ (by omega)
      obtain ⟨at', hat, hatl⟩ : ∃ at' : Nat, cut % (((listB 1 T).length : Int) + 1) = at' ∧ at' ≤ (listB 1 T).length := by
        have h1 := Int.emod_nonneg cut (b := ((listB 1 T).length : Int) + 1) (by omega)
        have h2 := Int.emod_lt_of_pos cut (b := ((listB 1 T).length : Int) + 1) (by omega)
        exact ⟨(cut % (((listB 1 T).length : Int) + 1)).toNat, by omega, by omega⟩
      rw [hat] at hbr
      clear hat
      have hW1 := whole_le T at'
      have hWi := fun k (hk : k < T.length) => whole_iff T k at' hk
      replace hWi : Hid _ := hWi
      have heA := fun k (hk : k < T.length) => endsOf_at T k hk
      replace heA : Hid _ := heA
      have hEl := endsOf_len T
      obtain ⟨Wn, hWn⟩ : ∃ Wn, wholeN T at' = Wn := ⟨_, rfl⟩
      rw [hWn] at hWi hW1
      have hcell : Hid (∀ j (hj : j < T.length), ∃ g, eq = some ⟨g, 0, none⟩ ∧ wr.cell? ⟨g, j, none⟩ = some (.int .i64 ((sizesB (T.take (j + 1)) : Nat) : Int))) := fun j hj => by
        rcases he.2 with ⟨_, h0⟩ | ⟨g, c, cu, e, _⟩
        · rw [hEl] at h0; omega
        · cases e
          refine ⟨g, rfl, ?_⟩
          have := he.cells (g := g) rfl j _ (encI_get (endsOf T) j (by omega))
          rw [Addr.add_lit, Nat.zero_add, heA.out j hj] at this
          exact this
      replace hEl : Hid ((endsOf T).length = T.length) := hEl
      go_wp2_with (go_at_call 34; refine hbr.mono ?_; clear hbr; rintro e w2 ⟨rfl, rfl⟩)
      go_loopw [13, 11, 12] (fun i mny en wx => ∃ k : Nat, k ≤ T.length ∧ i = .int .i64 k ∧ mny = .int .i64 (min k Wn : Nat) ∧ en = .int .i64 (sizesB (T.take (min k Wn)) : Nat) ∧ wx = w2) (fun i _ _ _ => T.length - (intOf i).toNat)
      case atStart => exact ⟨0, by omega, rfl, by simp, by simp [sizesB], rfl⟩
      case round =>
        obtain ⟨k, hk, rfl, rfl, rfl, rfl⟩ := hrel
        by_cases hlt : k < T.length
        · have hlt' : (k : Int) < ((endsOf T).length : Int) := by have := hEl.out; omega
          have hk0 : (0 : Int) ≤ (k : Int) := by omega
          obtain ⟨g, rfl, hcl⟩ := hcell.out k hlt
          have hwk := hWi.out k hlt
          by_cases hw : k < Wn
          · have hle : ((sizesB (T.take (k + 1)) : Nat) : Int) ≤ (at' : Int) := by have := hwk.2 hw; omega
            have e1 : Hid (min (k + 1) Wn = k + 1) := Nat.min_eq_left hw
            clear hwk
            generalize hz : sizesB (T.take (k + 1)) = z at *
            replace hz : Hid _ := hz
            generalize sizesB (T.take (min k Wn)) = z0
            generalize min k Wn = k9
            go_wp2_with fail
            go_roundw
            case rel => exact ⟨k + 1, by omega, by go_num, by rw [e1.out]; go_num, by rw [e1.out, hz.out], trivial⟩
            case measure => simp [intOf]; omega
          · have hle : ¬ ((sizesB (T.take (k + 1)) : Nat) : Int) ≤ (at' : Int) := fun h => hw (hwk.1 (by omega))
            have e1 : Hid (min (k + 1) Wn = min k Wn) := by show _ = _; omega
            clear hwk
            generalize hz : sizesB (T.take (k + 1)) = z at *
            generalize hz0 : sizesB (T.take (min k Wn)) = z0
            generalize hk9 : min k Wn = k9 at *
            replace hz0 : Hid _ := hz0
            replace hk9 : Hid _ := hk9
            clear hz
            go_wp2_with fail
            go_roundw
            case rel => exact ⟨k + 1, by omega, by go_num, by rw [e1.out], by rw [e1.out, hz0.out], trivial⟩
            case measure => simp [intOf]; omega
        · obtain rfl : k = T.length := by omega
          have hnl : ¬ (T.length : Int) < ((endsOf T).length : Int) := by have := hEl.out; omega
          rw [Nat.min_eq_right hW1]
          have hTb : ∀ x ∈ listB 1 T, x < 256 := listB_byte T 1 (fun l hl => (hin.out l hl).1)
          have hT3 : ∀ l ∈ T, l.length ≤ 262144 := fun l hl => by have := (hin.out l hl).2; omega
          have hbIn := row_bytes hb hTb (by omega)
          obtain ⟨_, _, ecap2, hbc⟩ := own_cap hb
          cases ecap2
          have hr1 := recs_any (listB 1 T) _ wr hbIn ⟨_, _, rfl, hbc⟩ (by omega)
          rw [recs_all T (by omega) hT3, ← listB_len T 1] at hr1
          have hatc : at' ≤ bcap := by omega
          have hatI : (at' : Int) ≤ (bcap : Int) := by omega
          have hat0 : (0 : Int) ≤ (at' : Int) := by omega
          have htl : ((listB 1 T).take at').length = at' := by rw [List.length_take]; omega
          have hr2 : Hid (∀ W, Below wr.heap.size wr W → Calls Tryz.prog 28 #[.slice bq at' bcap] W fun e w' => RecsIs W w' e (some (T.take Wn, sizesB (T.take Wn))) ∧ Below W.heap.size W w') := fun W hW => by
            have h9 := (hbIn.below hW).take at' (by omega)
            obtain ⟨_, _, _, e9, h10, _⟩ := h9
            cases e9
            have := recs_any ((listB 1 T).take at') _ W h10 ⟨bq, bcap, by rw [htl], by rw [htl]; exact hatc⟩ (by omega)
            rw [recs_take T at' (by omega) hT3, hWn] at this
            exact this
          obtain ⟨zz, hzz⟩ : ∃ zz, sizesB (T.take Wn) = zz := ⟨_, rfl⟩
          rw [hzz] at hr2 ⊢
          replace hzz : Hid _ := hzz
          have hMb : Hid (∀ q ∈ M, (∀ x ∈ q.2, x < 256) ∧ q.2.length ≤ 262144) := fun q hq => by
            have := hin.out q.2 (by rw [← hMm.out]; exact List.mem_map_of_mem hq)
            exact ⟨this.1, by omega⟩
          obtain ⟨_, _, ecap3, huc⟩ := own_cap hMr.row
          cases ecap3
          have hWM : Wn ≤ ucap := by have := hMl.out; omega
          have hWMI : (Wn : Int) ≤ (ucap : Int) := by omega
          have hW0 : (0 : Int) ≤ (Wn : Int) := by omega
          replace hTb : Hid _ := hTb
          replace htl : Hid _ := htl
          clear hcell heA hWi he
          have kA : True := trivial
          go_wp2_with (first
            | (clear kA; go_at_call 28; refine hr1.mono ?_; clear hr1; rintro e w3 ⟨hR1, hb3⟩; obtain ⟨u1, L1, rfl, hRL1, hL1m⟩ := hR1; obtain ⟨u1q, u1cap, rfl⟩ := own_shape hRL1.row; replace hL1m : Hid _ := hL1m; have kB : True := trivial)
            | (clear kB; go_at_call 28; refine (hr2.out w3 hb3).mono ?_; clear hr2; rintro e w4 ⟨hR2, hb4⟩; obtain ⟨u2, L2, rfl, hRL2, hL2m⟩ := hR2; obtain ⟨u2q, u2cap, rfl⟩ := own_shape hRL2.row; replace hL2m : Hid _ := hL2m
               have hB4 := hb3.trans (hb4.mono hb3.size)
               have hM4 := (hMr.below hB4).list (fun q hq => (hMb.out q hq).1) (fun q hq => (hMb.out q hq).2)
               have hL14 := (hRL1.below hb4).list (fun q hq => (hin.out q.2 (by rw [← hL1m.out]; exact List.mem_map_of_mem hq)).1) (fun q hq => hT3 q.2 (by rw [← hL1m.out]; exact List.mem_map_of_mem hq))
               have hL24 := hRL2.list (fun q hq => (hin.out q.2 (List.mem_of_mem_take (by rw [← hL2m.out]; exact List.mem_map_of_mem hq))).1) (fun q hq => hT3 q.2 (List.mem_of_mem_take (by rw [← hL2m.out]; exact List.mem_map_of_mem hq)))
               have hs1 := same_any _ _ L1 M w4 hL14 hM4
               rw [decide_eq_true (hL1m.out.trans hMm.out.symm)] at hs1
               have kC : True := trivial)
            | (clear kC; go_at_call 31; refine hs1.mono ?_; clear hs1; rintro e w5 ⟨rfl, hb5⟩
               have hs2 := same_any _ _ L2 (M.take Wn) w5 (hL24.below hb5) ((hM4.below hb5).take Wn (by have := hMl.out; omega))
               rw [decide_eq_true (by rw [hL2m.out, List.map_take, hMm.out])] at hs2
               have kD : True := trivial)
            | (clear kD; go_at_call 31; refine hs2.mono ?_; clear hs2; rintro e w6 ⟨rfl, hb6⟩; have kE : True := trivial)
            | (clear kE; go_at_call 32; refine (awake_any _).mono ?_; rintro e w7 ⟨rfl, hb7⟩))
          go_returns
          have hB6 := (hB4.trans ((hb5.trans (hb6.mono hb5.size)).mono hB4.size))
          have hB7 := hB6.trans (hb7.mono hB6.size)
          have hBw := hB.trans (hB7.mono hB.size)
          exact ⟨rfl, hb1.trans (hBw.mono hb1.size)⟩
end Go.Proofs.YtmcmagplaflegaaGreat
