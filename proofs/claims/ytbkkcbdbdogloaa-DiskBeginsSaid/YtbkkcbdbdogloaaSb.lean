/-
  FILES, SORTED BY BIRTH: the comparison, and slices.SortedFunc. Conditions: those of each theorem.
-/
import Derived.Test.YtbkkcbdbdogloaaVa
namespace Go.Proofs.Ytbkkcbdbdogloaa
open Go Go.RowKit Go.MapL Go.Shelf Go.Poised Go.Sort

set_option maxRecDepth 100000 in
theorem isNaN_any (x : Int) (w : World) : Calls Try.prog 54 #[.int .i64 x] w fun e w' => e = .returned (.bool false) ∧ w' = w := by
  go_enter Try.func54, Try.ntmps54
  go_wp2
  go_returns
  exact ⟨rfl, rfl⟩

def cmpI (x y : Int) : Int := if x < y then -1 else if y < x then 1 else 0
set_option maxRecDepth 100000 in
theorem compare_any (x y : Int) (w : World) : Calls Try.prog 43 #[.int .i64 x, .int .i64 y] w fun e w' => e = .returned (.int .i64 (cmpI x y)) ∧ w' = w := by
  have hn := fun x => isNaN_any x w
  unfold cmpI
  by_cases h1 : x < y
  · have g1 : decide (x < y) = true := by simpa using h1
    rw [if_pos h1]
    go_enter Try.func43, Try.ntmps43
    go_wp2_with (go_at_call 54; refine (hn _).mono ?_; rintro e w' ⟨rfl, hw⟩; obtain rfl := hw.symm)
    go_returns
    exact ⟨rfl, rfl⟩
  · have g1 : decide (x < y) = false := by simpa using h1
    rw [if_neg h1]
    by_cases h2 : y < x
    · have g2 : decide (y < x) = true := by simpa using h2
      rw [if_pos h2]
      go_enter Try.func43, Try.ntmps43
      go_wp2_with (go_at_call 54; refine (hn _).mono ?_; rintro e w' ⟨rfl, hw⟩; obtain rfl := hw.symm)
      go_returns
      exact ⟨rfl, rfl⟩
    · have g2 : decide (y < x) = false := by simpa using h2
      rw [if_neg h2]
      go_enter Try.func43, Try.ntmps43
      go_wp2_with (go_at_call 54; refine (hn _).mono ?_; rintro e w' ⟨rfl, hw⟩; obtain rfl := hw.symm)
      go_returns
      exact ⟨rfl, rfl⟩

theorem drew_call {P : Program} {f : FuncId} {args : Array Value} {w : World} {v : Value} (h : Calls P f args w fun e w' => e = .returned v ∧ w' = w) :
    Calls P f args w fun e w' => e = .returned v ∧ ∃ q, w' = w.drewN q := h.mono fun _ _ ⟨he, hw⟩ => ⟨he, 0, hw⟩

set_option maxRecDepth 100000 in
set_option maxHeartbeats 2000000 in
theorem closure_any (a b : Nat) (i j : Nat) (bi bj : Value) (mi mj : Nat) (W : World) (ha : W.heap[a]? = some (fileAt i bi mi)) (hb : W.heap[b]? = some (fileAt j bj mj)) :
    Calls Try.prog 42 #[ofBlock a, ofBlock b] W fun e w' => e = .returned (.int .i64 (cmpI i j)) ∧ ∃ q, w' = W.drewN q := by
  have hcmp := fun w => compare_any i j w
  obtain ⟨c, hc⟩ : ∃ c, cmpI i j = c := ⟨_, rfl⟩
  rw [hc]
  simp only [hc] at hcmp
  clear hc
  have fa : ∀ q, (W.drewN q).heap[a]? = some (fileAt i bi mi) := fun _ => ha
  have fb : ∀ q, (W.drewN q).heap[b]? = some (fileAt j bj mj) := fun _ => hb
  unfold ofBlock
  go_enter Try.func42, Try.ntmps42
  go_wp2_with fail
  refine poised_whole (fun w' => ∃ q, w' = W.drewN q) (fun w1 w2 => ∃ q, w2 = w1.drewN q) (by kernel_rfl) (by kernel_rfl) (by kernel_rfl) (fun _ _ h k => by obtain ⟨q, rfl⟩ := h; obtain ⟨q', rfl⟩ := k; exact ⟨q + q', by simp [World.drewN, Nat.add_assoc]⟩) ⟨1, rfl⟩ ?_
  apply Exists.intro
  apply walk_det
  · rfl
  · intro w2 hC hF
    simp only [upon]
    go_simp
    exact ⟨⟨0, rfl⟩, rfl⟩
  simp only [put_lit, List.set_cons_succ, List.set_cons_zero]
  apply walk_det
  · rfl
  · intro w2 hC hF
    simp only [upon]
    go_simp
    exact ⟨⟨0, rfl⟩, rfl⟩
  simp only [put_lit, List.set_cons_succ, List.set_cons_zero]
  apply walk_det
  · rfl
  · intro w2 hC hF
    simp only [upon]
    go_simp
    exact ⟨⟨0, rfl⟩, rfl⟩
  simp only [put_lit, List.set_cons_succ, List.set_cons_zero]
  apply walk_det
  · rfl
  · intro w2 hC hF
    obtain ⟨q, rfl⟩ := hC
    obtain ⟨a0, a1, a2⟩ := cells3 (fa q)
    obtain ⟨b0, b1, b2⟩ := cells3 (fb q)
    simp only [upon]
    go_simp
    exact ⟨⟨0, rfl⟩, rfl⟩
  simp only [put_lit, List.set_cons_succ, List.set_cons_zero]
  apply walk_det
  · rfl
  · intro w2 hC hF
    simp only [upon]
    go_simp
    exact ⟨⟨0, rfl⟩, rfl⟩
  simp only [put_lit, List.set_cons_succ, List.set_cons_zero]
  apply walk_det
  · rfl
  · intro w2 hC hF
    simp only [upon]
    go_simp
    exact ⟨⟨0, rfl⟩, rfl⟩
  simp only [put_lit, List.set_cons_succ, List.set_cons_zero]
  apply walk_det
  · rfl
  · intro w2 hC hF
    simp only [upon]
    go_simp
    exact ⟨⟨0, rfl⟩, rfl⟩
  simp only [put_lit, List.set_cons_succ, List.set_cons_zero]
  apply walk_det
  · rfl
  · intro w2 hC hF
    obtain ⟨q, rfl⟩ := hC
    obtain ⟨a0, a1, a2⟩ := cells3 (fa q)
    obtain ⟨b0, b1, b2⟩ := cells3 (fb q)
    simp only [upon]
    go_simp
    exact ⟨⟨0, rfl⟩, rfl⟩
  simp only [put_lit, List.set_cons_succ, List.set_cons_zero]
  apply walk_det
  · rfl
  · intro w2 hC hF
    obtain ⟨q, rfl⟩ := hC
    obtain ⟨a0, a1, a2⟩ := cells3 (fa q)
    obtain ⟨b0, b1, b2⟩ := cells3 (fb q)
    simp only [upon]
    go_simp
    exact (hcmp _).mono (fun _ _ h => ⟨h.1, 0, h.2⟩)
  simp only [put_lit, List.set_cons_succ, List.set_cons_zero]
  apply walk_det
  · rfl
  · intro w2 hC hF
    simp only [upon]
    go_simp
    exact ⟨⟨0, rfl⟩, rfl⟩
  simp only [put_lit, List.set_cons_succ, List.set_cons_zero]
  apply walk_nil
  intro w2 hC _
  go_wp2
  go_returns
  exact ⟨rfl, hC⟩

/-- The births, rising. -/
def rising (l : List Nat) : List Nat := l.mergeSort (fun x y => decide (x ≤ y))
theorem rising_perm (l : List Nat) : (rising l).Perm l := List.mergeSort_perm _ _
theorem rising_of_perm {l m : List Nat} (h : l.Perm m) : rising l = rising m := by
  have hp : ∀ l : List Nat, List.Pairwise (fun a b => decide (a ≤ b) = true) (rising l) := fun l => List.pairwise_mergeSort (fun a b c h1 h2 => by simp at *; omega) (fun a b => by simp; omega) l
  refine List.Perm.eq_of_pairwise (le := fun a b => decide (a ≤ b) = true) (fun a b _ _ h1 h2 => by simp at *; omega) (hp l) (hp m) ?_
  exact ((rising_perm l).trans h).trans (rising_perm m).symm

/-- A file's birth. -/
abbrev Birth (s : DS) := { i : Nat // 1 ≤ i ∧ i ≤ s.births }
def cmpB (s : DS) (x y : Birth s) : Int := cmpI (x.1 : Nat) (y.1 : Nat)
theorem ltB (s : DS) (x y : Birth s) : ltOf (cmpB s) x y = decide (x.1 < y.1) := by
  unfold ltOf cmpB cmpI
  by_cases h1 : x.1 < y.1
  · have : ((x.1 : Nat) : Int) < (y.1 : Nat) := by omega
    simp [this, h1]
  · have h2 : ¬ ((x.1 : Nat) : Int) < (y.1 : Nat) := by omega
    by_cases h3 : ((y.1 : Nat) : Int) < (x.1 : Nat)
    · simp [h1, h2, h3]
    · simp [h1, h2, h3]
theorem swoB (s : DS) : SWO (ltOf (cmpB s)) := {
  irrefl := fun x => by rw [ltB]; simp
  trans := fun x y z h1 h2 => by rw [ltB] at *; simp at *; omega
  ntrans := fun x y z h1 h2 => by rw [ltB] at *; simp at *; omega }
theorem totB (s : DS) (x y : Birth s) (h1 : ltOf (cmpB s) x y = false) (h2 : ltOf (cmpB s) y x = false) : x = y := by
  rw [ltB] at *
  simp at *
  exact Subtype.ext (by omega)
theorem geB (s : DS) : (fun x y : Birth s => !ltOf (cmpB s) y x) = fun x y => decide (x.1 ≤ y.1) := by
  funext x y
  rw [ltB]
  by_cases h : x.1 ≤ y.1
  · have h' : ¬ y.1 < x.1 := by omega
    simp [h, h']
  · have h' : y.1 < x.1 := by omega
    simp [h, h']

theorem heap_sortWorld {α : Type} [Inhabited α] (enc : α → Value) (w : World) (blk off m : Nat) (dk : Array α) (os : Array Obj) (k : Nat) (hk : k < w.heap.size) (hne : k ≠ blk) : (sortWorld enc w blk off m dk os).heap[k]? = w.heap[k]? := by
  unfold sortWorld grow putRow mapBlock Sort.ahead
  show ((w.heap.modify blk _) ++ os)[k]? = _
  rw [Array.getElem?_append_left (by simpa using hk), Array.getElem?_modify, if_neg (Ne.symm hne)]
theorem heap_sortWorld_row {α : Type} [Inhabited α] (enc : α → Value) (w : World) (blk m : Nat) (dk : Array α) (os : Array Obj) (cs : Array Value) (t : TypeId) (hb : w.heap[blk]? = some (.cells cs t)) :
    (sortWorld enc w blk 0 m dk os).heap[blk]? = some (.cells (putCells enc 0 dk cs) t) := by
  have hk := (Array.getElem?_eq_some_iff.1 hb).1
  unfold sortWorld grow putRow mapBlock Sort.ahead
  show ((w.heap.modify blk _) ++ os)[blk]? = _
  rw [Array.getElem?_append_left (by simpa using hk), Array.getElem?_modify, if_pos rfl, hb]
  rfl
theorem size_sortWorld {α : Type} [Inhabited α] (enc : α → Value) (w : World) (blk off m : Nat) (dk : Array α) (os : Array Obj) : w.heap.size ≤ (sortWorld enc w blk off m dk os).heap.size := by
  unfold sortWorld grow putRow mapBlock Sort.ahead
  show _ ≤ ((w.heap.modify blk _) ++ os).size
  simp

set_option maxRecDepth 100000 in
set_option maxHeartbeats 2000000 in
/-- The sort: of files, whatever their order. -/
theorem sortF_any (W : World) (p n₀ : Nat) (r : Rep) (s : DS) (h : Lies W p n₀ r s) (n : Nat) (v : Value) (B : List Nat) (hB : ∀ i ∈ B, 1 ≤ i ∧ i ≤ s.births) (hlen : B.length ≤ 1099511627776)
    (hrow : W.ownsRow n 65 1 v B.length (B.map fun i => ofBlock (r.ad i))) (hn : n ≤ W.heap.size) :
    Calls Try.prog 52 #[v, .func (.func 42) #[] #[]] W fun e w' => e = .returned (.tuple #[]) ∧ w'.ownsRow n 65 1 v B.length ((rising B).map fun i => ofBlock (r.ad i)) ∧ Below n W w' := by
  rcases hrow.2 with ⟨rfl, h0⟩ | ⟨g, cap, cur, rfl, hng, hg, hc, hcm, hsz, ht⟩
  · obtain rfl : B = [] := List.length_eq_zero_iff.1 h0
    have := AnyF.slices_SortFunc_none (P := Try.prog) (ρ := sortL_ren) { sortL with } none 0 (.func (.func 42) #[] #[]) W
    refine this.mono ?_
    rintro e w' ⟨he, rfl⟩
    exact ⟨he, by simpa [rising] using World.ownsRow_nil w' n 65 1, Below.refl _ _⟩
  · by_cases hB0 : B = []
    · subst hB0
      have := AnyF.slices_SortFunc_none (P := Try.prog) (ρ := sortL_ren) { sortL with } (some ⟨g, 0, none⟩) cap (.func (.func 42) #[] #[]) W
      refine this.mono ?_
      rintro e w' ⟨he, rfl⟩
      exact ⟨he, by simpa [rising] using hrow, Below.refl _ _⟩
    · obtain ⟨i0, B0, rfl⟩ := List.exists_cons_of_ne_nil hB0
      haveI : Inhabited (Birth s) := ⟨⟨i0, hB i0 (.head _)⟩⟩
      obtain ⟨D, hD⟩ : ∃ D : List (Birth s), D.map (·.1) = i0 :: B0 := ⟨(i0 :: B0).pmap Subtype.mk hB, by rw [List.map_pmap]; simp⟩
      generalize i0 :: B0 = B at *
      have hDl : D.length = B.length := by rw [← hD]; simp
      have hgl := (Array.getElem?_eq_some_iff.1 hg).1
      let enc : Birth s → Value := fun x => ofBlock (r.ad x.1)
      have hcur : ∀ j, j < B.length → cur[j]? = some (ofBlock (r.ad (B.getD j 0))) := by
        intro j hj
        have h1 : cur[j]? = (cur.toList.take (B.length * 1))[j]? := by
          rw [List.getElem?_take, if_pos (by omega)]; simp
        rw [h1, ht, List.getElem?_map, List.getD_eq_getElem?_getD]
        simp [hj]
      have hDj : ∀ j, j < B.length → (D.toArray[j]!).1 = B.getD j 0 := by
        intro j hj
        rw [← hD]
        have hjD : j < D.length := by omega
        simp [List.getD_eq_getElem?_getD, hjD]
      have hH : Holds enc W g 0 D.toArray := by
        intro j hj
        have hj' : j < B.length := by simpa [hDl] using hj
        refine ⟨?_, by simp [World.frozen?, hg]⟩
        simp only [World.cell?, hg, Option.isSome_none, Bool.false_eq_true, if_false, Nat.zero_add]
        rw [hcur j hj', ← hDj j hj']
      have eg : ∀ args w, (callFunc 42 args).run Try.prog w = .ok (.enter 42 args) w := enters_of Try.func42 (by kernel_rfl) rfl
      have hfb : ∀ x : Birth s, r.ad x.1 ≠ g := fun x e => by
        have := h.sF x.2.1 x.2.2
        rw [e, sort_cells hg] at this; cases this
      have hfl : ∀ x : Birth s, r.ad x.1 < W.heap.size := fun x => (Array.getElem?_eq_some_iff.1 (h.file x.1 x.2.1 x.2.2)).1
      have hcmp : CmpReads Try.prog 42 #[] enc (cmpB s) g 0 D.toArray.size W := by
        intro m os dk hdk x y
        exact closure_any _ _ _ _ _ _ _ _ _ ((heap_sortWorld enc W g 0 m dk os _ (hfl x) (hfb x)).trans (h.file x.1 x.2.1 x.2.2)) ((heap_sortWorld enc W g 0 m dk os _ (hfl y) (hfb y)).trans (h.file y.1 y.2.1 y.2.2))
      have hS := Any.slices_SortFunc_total sortL enc (fun _ => rfl) (cmpB s) (swoB s) 42 #[] g 0 cap D.toArray W eg hcmp.lays hH hgl (by simp; omega) (totB s)
      rw [geB] at hS
      have hsize : D.toArray.size = B.length := by simpa using hDl
      rw [hsize] at hS
      refine hS.mono ?_
      rintro e w' ⟨he, m, os, rfl⟩
      obtain ⟨M, hM⟩ : ∃ M, D.mergeSort (fun x y => decide (x.1 ≤ y.1)) = M := ⟨_, rfl⟩
      have hMB : M.map (·.1) = rising B := by
        rw [← hM, List.map_mergeSort (s := fun x y => decide (x ≤ y)) (fun _ _ _ _ => rfl), hD]; rfl
      have hMl : M.length = B.length := by rw [← hM, List.length_mergeSort]; exact hDl
      have hlist : D.toArray.toList = D := rfl
      rw [hlist, hM]
      have hrowB := heap_sortWorld_row enc W g m M.toArray os cur 65 hg
      refine ⟨he, ⟨by simp [rising], .inr ⟨g, cap, _, rfl, hng, hrowB, hc, hcm, ?_, ?_⟩⟩, ?_⟩
      · simp [putCells, hsz]
      · rw [← hMB, List.map_map]
        apply List.ext_getElem?
        intro j
        rw [List.getElem?_take]
        by_cases hj : j < B.length
        · rw [if_pos (by omega)]
          have hjc : j < cur.size := by omega
          have hjM : j < M.length := by omega
          simp [putCells, hjc, hjM, enc]
        · rw [if_neg (by omega), List.getElem?_eq_none (by simp; omega)]
      · refine ⟨rfl, rfl, rfl, size_sortWorld _ _ _ _ _ _ _, fun k hk => ?_⟩
        by_cases hkg : k = g
        · omega
        · exact heap_sortWorld _ _ _ _ _ _ _ _ (by omega) hkg

set_option maxRecDepth 100000 in
set_option maxHeartbeats 2000000 in
/-- slices.SortedFunc(maps.Values(names), ..): the files, by birth. -/
theorem sortedFunc_any (w : World) (p n₀ : Nat) (r : Rep) (s : DS) (h : Lies w p n₀ r s) (Bm b : Nat) (L : List (ByteArray × Nat)) (hL : ∀ q ∈ L, 1 ≤ q.2 ∧ q.2 ≤ s.births) (hm : w.cell? ⟨Bm, 0, none⟩ = some (.map (some b))) (hown : MapAt ofText ofBlock w b (at_ r.ad L)) (hlen : L.length ≤ 1099511627776) :
    Calls Try.prog 40 #[.func (.func 53) #[] #[.pointer (some ⟨Bm, 0, none⟩)], .func (.func 42) #[] #[]] w fun e w' => ∃ v, e = .returned v ∧ w'.ownsRow w.heap.size 65 1 v L.length ((rising (L.map (·.2))).map fun i => ofBlock (r.ad i)) ∧ Below w.heap.size w w' := by
  have hc := collect_any Bm b (at_ r.ad L) w hm hown (by simpa [at_] using hlen)
  have hs : ∀ (W : World) (v : Value) (xs : List Nat), xs.Perm ((at_ r.ad L).map (·.2)) → W.ownsRow w.heap.size 65 1 v xs.length (xs.map ofBlock) → Below w.heap.size w W →
      Calls Try.prog 52 #[v, .func (.func 42) #[] #[]] W fun e w' => e = .returned (.tuple #[]) ∧ w'.ownsRow w.heap.size 65 1 v L.length ((rising (L.map (·.2))).map fun i => ofBlock (r.ad i)) ∧ Below w.heap.size W w' := by
    intro W v xs hp hrow hb
    have hx : ∀ x ∈ xs, ∃ q ∈ L, x = r.ad q.2 := fun x hx => by
      have := hp.subset hx
      simp only [at_, List.map_map, List.mem_map, Function.comp] at this
      obtain ⟨q, hq, rfl⟩ := this
      exact ⟨q, hq, rfl⟩
    obtain ⟨B, hB⟩ : ∃ B, xs.map (inv r s) = B := ⟨_, rfl⟩
    have hxB : xs = B.map r.ad := by
      rw [← hB, List.map_map]
      have : xs.map id = xs.map (r.ad ∘ inv r s) := List.map_congr_left (fun x hx' => ?_)
      · rw [← this, List.map_id]
      obtain ⟨q, hq, rfl⟩ := hx x hx'
      simp [inv_ad h q.2 (hL q hq).1 (hL q hq).2]
    have hBp : B.Perm (L.map (·.2)) := by
      rw [← hB]
      refine (hp.map (inv r s)).trans ?_
      rw [at_, List.map_map, List.map_map]
      refine List.Perm.of_eq (List.map_congr_left ?_)
      intro q hq
      exact inv_ad h q.2 (hL q hq).1 (hL q hq).2
    have hBl : B.length = L.length := by rw [hBp.length_eq]; simp
    have key := sortF_any W p n₀ r s (h.below hb) w.heap.size v B (fun i hi => by
      obtain ⟨q, hq, rfl⟩ := List.mem_map.1 (hBp.subset hi)
      exact hL q hq) (by omega) (by
      have e1 : xs.length = B.length := by rw [hxB]; simp
      have e2 : xs.map ofBlock = B.map fun i => ofBlock (r.ad i) := by rw [hxB, List.map_map]; rfl
      rw [← e1, ← e2]; exact hrow) hb.size
    rw [hBl, rising_of_perm hBp] at key
    exact key
  go_enter Try.func40, Try.ntmps40
  go_wp2_with (first | (go_at_call 51; refine hc.mono ?_; rintro e w1 ⟨v, xs, rfl, hp, hrow, hb⟩) | (go_at_call 52; refine (hs _ v xs hp hrow hb).mono ?_; rintro e w2 ⟨rfl, hrow2, hb2⟩))
  go_returns
  exact ⟨_, rfl, hrow2, hb.trans hb2⟩
end Go.Proofs.Ytbkkcbdbdogloaa
