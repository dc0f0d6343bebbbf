/-
  THE DOCUMENT'S DISK: its small methods, walked. Conditions: those of each theorem.
-/
import Derived.Test.YtmcmagplaflegaaGreatRx
namespace Go.Proofs.YtmcmagplaflegaaGreat
open Go Go.RowKit Go.MapL Go.Poised
variable {w w' : World} {p n₀ : Nat} {r : RRep} {d : RD}

theorem RLies.cells (h : RLies w p n₀ r d) : w.cell? ⟨p, 0, none⟩ = some (.int .i64 d.room) ∧ w.cell? ⟨p, 1, none⟩ = some r.fv ∧ w.cell? ⟨p, 2, none⟩ = some r.nv ∧ w.cell? ⟨p, 3, none⟩ = some r.kv ∧
    w.cell? ⟨p, 4, none⟩ = some r.wv ∧ w.cell? ⟨p, 5, none⟩ = some (.bool d.dead) ∧ w.cell? ⟨p, 6, none⟩ = some (.int .i64 d.fails) ∧ w.cell? ⟨p, 7, none⟩ = some r.pv := cells8 h.top
theorem RLies.free (h : RLies w p n₀ r d) (i : Nat) : w.frozen? ⟨p, i, none⟩ = false := free_of h.top i
theorem RLies.sP (h : RLies w p n₀ r d) : sort w p = 155 := sort_cells h.top
theorem RLies.sF (h : RLies w p n₀ r d) {k : Nat} (hk : r.fv.ownBlock = some k) : sort w k = 176 := sort_row h.files hk
theorem RLies.sB (h : RLies w p n₀ r d) {i : Nat} (hi : i < d.files.length) {k : Nat} (hk : (r.bv i).ownBlock = some k) : sort w k = 6 := sort_row (h.data i hi) hk
theorem RLies.sN (h : RLies w p n₀ r d) {k : Nat} (hk : r.nv.ownBlock = some k) : sort w k = 182 := sort_row h.now hk
theorem RLies.sK (h : RLies w p n₀ r d) {k : Nat} (hk : r.kv.ownBlock = some k) : sort w k = 182 := sort_row h.kept hk
theorem RLies.sW (h : RLies w p n₀ r d) {k : Nat} (hk : r.wv.ownBlock = some k) : sort w k = 179 := sort_row h.works hk
theorem RLies.sV (h : RLies w p n₀ r d) {k : Nat} (hk : r.pv.ownBlock = some k) : sort w k = 4 := sort_row h.keep hk
/-- Only the first block turned; the lists of names, the works and what is kept by may be others. -/
theorem RLies.setTop (h : RLies w p n₀ r d) {d' : RD} {nv kv wv pv : Value} (ht : w'.heap[p]? = some (topR d' { r with nv := nv, kv := kv, wv := wv, pv := pv })) (hs : ∀ k, k < w.heap.size → k ≠ p → w'.heap[k]? = w.heap[k]?)
    (hfi : d'.files = d.files) (hn : NamesAt w' n₀ nv d'.now) (hk : NamesAt w' n₀ kv d'.kept) (hw : w'.ownsRow n₀ 178 3 wv d'.works.length (d'.works.flatMap encWR)) (hp : w'.ownsRow n₀ 3 1 pv d'.keep.length (encI d'.keep)) :
    RLies w' p n₀ { r with nv := nv, kv := kv, wv := wv, pv := pv } d' where
  top := ht
  files := by
    rw [hfi]
    exact row_same h.files (fun g hg => hs g (h.files.lt g hg).2 (fun e => by have h1 := h.sF hg; have h2 := h.sP; rw [e] at h1; omega))
  data := fun i hi => by
    have hi' : i < d.files.length := by rw [← hfi]; exact hi
    have e : fileD d' i = fileD d i := by unfold fileD; rw [hfi]
    rw [e]
    exact row_same (h.data i hi') (fun g hg => hs g ((h.data i hi').lt g hg).2 (fun e => by have h1 := h.sB hi' hg; have h2 := h.sP; rw [e] at h1; omega))
  rowInj := by rw [hfi]; exact h.rowInj
  now := hn
  kept := hk
  works := hw
  keep := hp
  base := h.base
theorem RLies.nowTo (h : RLies w p n₀ r d) (hs : ∀ k, k < w.heap.size → k ≠ p → w'.heap[k]? = w.heap[k]?) : NamesAt w' n₀ r.nv d.now :=
  row_same h.now (fun g hg => hs g (World.ownsRow.lt h.now g hg).2 (fun e => by have h1 := h.sN hg; have h2 := h.sP; rw [e] at h1; omega))
theorem RLies.keptTo (h : RLies w p n₀ r d) (hs : ∀ k, k < w.heap.size → k ≠ p → w'.heap[k]? = w.heap[k]?) : NamesAt w' n₀ r.kv d.kept :=
  row_same h.kept (fun g hg => hs g (World.ownsRow.lt h.kept g hg).2 (fun e => by have h1 := h.sK hg; have h2 := h.sP; rw [e] at h1; omega))
theorem RLies.worksTo (h : RLies w p n₀ r d) (hs : ∀ k, k < w.heap.size → k ≠ p → w'.heap[k]? = w.heap[k]?) : w'.ownsRow n₀ 178 3 r.wv d.works.length (d.works.flatMap encWR) :=
  row_same h.works (fun g hg => hs g (h.works.lt g hg).2 (fun e => by have h1 := h.sW hg; have h2 := h.sP; rw [e] at h1; omega))
theorem RLies.keepTo (h : RLies w p n₀ r d) (hs : ∀ k, k < w.heap.size → k ≠ p → w'.heap[k]? = w.heap[k]?) : w'.ownsRow n₀ 3 1 r.pv d.keep.length (encI d.keep) :=
  row_same h.keep (fun g hg => hs g (h.keep.lt g hg).2 (fun e => by have h1 := h.sV hg; have h2 := h.sP; rw [e] at h1; omega))
/-- What a method leaves: the disk d', of its own blocks and new ones. -/
def RTurns (w w' : World) (p n₀ : Nat) (r : RRep) (d d' : RD) : Prop := ∃ r', RLies w' p n₀ r' d' ∧ Grown (ownR p r d) w w' ∧ ∀ k, ownR p r' d' k → ownR p r d k ∨ w.heap.size ≤ k
theorem RTurns.none (h : RLies w p n₀ r d) (hb : Below w.heap.size w w') : RTurns w w' p n₀ r d d := ⟨r, h.below hb, Grown.of_below hb, fun _ hk => .inl hk⟩
/-- One after the other. -/
theorem RTurns.step {w'' : World} {r' : RRep} {d' d'' : RD} (hG : Grown (ownR p r d) w w') (hF : ∀ k, ownR p r' d' k → ownR p r d k ∨ w.heap.size ≤ k) (h : RTurns w' w'' p n₀ r' d' d'') : RTurns w w'' p n₀ r d d'' := by
  obtain ⟨r'', h1, h2, h3⟩ := h
  refine ⟨r'', h1, hG.trans h2 hF, fun k hk => ?_⟩
  rcases h3 k hk with h4 | h4
  · exact hF k h4
  · exact .inr (Nat.le_trans hG.size h4)
theorem RLies.fileCells (h : RLies w p n₀ r d) {i : Nat} (hi : i < d.files.length) : ∃ g cap, r.fv = .slice (some ⟨g, 0, none⟩) d.files.length cap ∧ g < w.heap.size ∧ w.cell? ⟨g, i * 2, none⟩ = some (r.bv i) ∧ w.cell? ⟨g, i * 2 + 1, none⟩ = some (.int .i64 ((fileD d i).mark : Nat)) := by
  have hr : w.ownsRow n₀ 175 2 r.fv (List.range d.files.length).length ((List.range d.files.length).flatMap (encF1 r.bv d.files)) := by rw [List.length_range]; exact h.files
  obtain ⟨g, cap, h1, h2, h3⟩ := flat_cells (enc := encF1 r.bv d.files) (z := 2) (fun _ => rfl) hr i (by rw [List.length_range]; exact hi)
  rw [List.length_range] at h1
  refine ⟨g, cap, h1, h2, ?_, ?_⟩
  · have := h3 0 (by omega); rw [List.getElem_range] at this; exact this
  · have := h3 1 (by omega); rw [List.getElem_range] at this; exact this
set_option maxRecDepth 100000 in
set_option maxHeartbeats 2000000 in
theorem bootR_any (w : World) (h : RLies w p n₀ r d) : Calls Tryz.prog 111 #[ofBlock p] w fun e w' => e = .returned (.tuple #[]) ∧ RTurns w w' p n₀ r d d.boot := by
  obtain ⟨c0, c1, c2, c3, c4, c5, c6, c7⟩ := h.cells
  have f5 := h.free 5
  have f6 := h.free 6
  have hp := (Array.getElem?_eq_some_iff.1 h.top).1
  have ht1 := setCell_heap (i := 5) (v := .bool false) h.top
  have f6' := free_of ht1 6
  unfold ofBlock
  replace h : Hid _ := h
  replace ht1 : Hid _ := ht1
  go_enter Tryz.func111, Tryz.ntmps111
  go_wp2_with fail
  go_returns
  have ht2 := setCell_heap (i := 6) (v := .int .i64 (-1)) ht1.out
  have hs : ∀ k, k ≠ p → ((w.setCell ⟨p, 5, none⟩ (.bool false)).setCell ⟨p, 6, none⟩ (.int .i64 (-1))).heap[k]? = w.heap[k]? := fun k hk => (Below.heap_setCell _ _ _ _ hk).trans (Below.heap_setCell _ _ _ _ hk)
  refine ⟨rfl, r, h.out.setTop (d' := d.boot) (nv := r.nv) (kv := r.kv) (wv := r.wv) (pv := r.pv) ht2 (fun k _ hk => hs k hk) rfl (h.out.nowTo (fun k _ hk => hs k hk)) (h.out.keptTo (fun k _ hk => hs k hk)) (h.out.worksTo (fun k _ hk => hs k hk)) (h.out.keepTo (fun k _ hk => hs k hk)), ?_, fun k hk => .inl hk⟩
  exact ((Grown.refl _ w).setCell (p := ⟨p, 5, none⟩) (.inl (.inl rfl)) _).setCell (p := ⟨p, 6, none⟩) (.inl (.inl rfl)) _

set_option maxRecDepth 100000 in
set_option maxHeartbeats 4000000 in
theorem failR_any (n : Int) (v : Value) (keep : List Int) (w : World) (h : RLies w p n₀ r d) (hb : n₀ ≤ w.heap.size) (_ : -9223372036854775808 ≤ n) (_ : n ≤ 9223372036854775807) (hv : ∀ w', Grown (fun k => k = p) w w' → IntsIn w' v keep) (hl : keep.length ≤ 17592186044416) :
    Calls Tryz.prog 110 #[ofBlock p, .int .i64 n, v] w fun e w' => e = .returned (.tuple #[]) ∧ RTurns w w' p n₀ r d (d.fail n keep) := by
  obtain ⟨c0, c1, c2, c3, c4, c5, c6, c7⟩ := h.cells
  have f6 := h.free 6
  unfold ofBlock
  by_cases hd : d.dead = true
  · have he : d.fail n keep = d := by unfold RD.fail; rw [if_pos hd]
    rw [he]
    rw [hd] at c5
    replace h : Hid _ := h
    clear he
    go_enter Tryz.func110, Tryz.ntmps110
    go_wp2_with fail
    go_returns
    exact ⟨rfl, .none h.out (Below.refl _ _)⟩
  · have he : d.fail n keep = { d with fails := max n (-1), keep := keep } := by unfold RD.fail; rw [if_neg hd]
    rw [he]
    clear he
    have hd' : d.dead = false := by simpa using hd
    rw [hd'] at c5
    obtain ⟨mx, hmx⟩ : ∃ mx, max n (-1) = mx := ⟨_, rfl⟩
    have ht1 := setCell_heap (i := 6) (v := .int .i64 (max n (-1))) h.top
    have hs1 : ∀ k, k ≠ p → (w.setCell ⟨p, 6, none⟩ (.int .i64 (max n (-1)))).heap[k]? = w.heap[k]? := fun k hk => Below.heap_setCell _ _ _ _ hk
    have h1' := h.setTop (d' := { d with fails := max n (-1) }) (nv := r.nv) (kv := r.kv) (wv := r.wv) (pv := r.pv) ht1 (fun k _ hk => hs1 k hk) rfl (h.nowTo (fun k _ hk => hs1 k hk)) (h.keptTo (fun k _ hk => hs1 k hk)) (h.worksTo (fun k _ hk => hs1 k hk)) (h.keepTo (fun k _ hk => hs1 k hk))
    have hG1 : Grown (fun k => k = p) w (w.setCell ⟨p, 6, none⟩ (.int .i64 (max n (-1)))) := (Grown.refl (fun k => k = p) w).setCell (p := ⟨p, 6, none⟩) (.inl rfl) _
    have hv1 := hv _ hG1
    have hvs : ∃ q c, v = .slice q keep.length c := by
      rcases hv1.2.2 with ⟨rfl, e⟩ | ⟨a, c, rfl, e⟩ | ⟨b, off, c, rfl, _⟩
      · exact ⟨none, 0, by rw [e]; rfl⟩
      · exact ⟨some a, c, by rw [e]; rfl⟩
      · exact ⟨_, c, rfl⟩
    obtain ⟨q, c, rfl⟩ := hvs
    rw [hmx] at ht1 hs1 h1' hG1 hv1 ⊢
    have hp := (Array.getElem?_eq_some_iff.1 h.top).1
    have hmx' : max n (-1) = mx := hmx
    replace hs1 : Hid _ := hs1
    replace hv : Hid _ := hv
    replace h : Hid _ := h
    replace h1' : Hid _ := h1'
    replace hv1 : Hid _ := hv1
    replace ht1 : Hid _ := ht1
    clear hd hd'
    go_enter Tryz.func110, Tryz.ntmps110
    go_wp2_with (at_builtin; refine wpList_append_ints _ rfl _ _ rfl w.heap.size (.slice none 0 0) (.slice q keep.length c) [] keep rfl rfl (World.ownsRow_nil _ _ _ _) hv1.out (by simpa using hl) (by simp) ?_; intro v' w1 hown' hgrow hwhere; obtain ⟨vq, vc, rfl⟩ := own_shape hown'; have htw := (hgrow.block p (by simpa using hp) (by simp [Value.ownBlock])).trans ht1.out; have f7 := free_of htw 7; obtain ⟨_, _, _, _, _, _, _, y7⟩ := cells8 htw; replace htw : Hid _ := htw)
    go_returns
    have ht2 := setCell_heap (i := 7) (v := .slice vq keep.length vc) htw.out
    have hp7 : (⟨p, 7, none⟩ : Addr).block = p := rfl
    have hG2 : Grown (fun k => k = p) w w1 := hG1.trans (T := fun k => k = p) (Grown.of_grownBy hgrow (fun k hk => by cases hk)) (fun _ hx => .inl hx)
    have hs2 : ∀ k, k < w.heap.size → k ≠ p → (w1.setCell ⟨p, 7, none⟩ (.slice vq keep.length vc)).heap[k]? = w.heap[k]? := fun k hk hkp => (Below.heap_setCell _ _ _ _ hkp).trans (hG2.block k hk hkp)
    have hvb : ∀ k, (Value.slice vq keep.length vc).ownBlock = some k → w.heap.size ≤ k := fun k hk => (hwhere k hk).elim (fun h => by cases h) (fun h => by simpa using h)
    have hkp : w1.ownsRow w.heap.size 3 1 (.slice vq keep.length vc) keep.length (encI keep) := by simpa using hown'
    have hkp2 : (w1.setCell ⟨p, 7, none⟩ (.slice vq keep.length vc)).ownsRow n₀ 3 1 (.slice vq keep.length vc) keep.length (encI keep) := own_base' (row_same hkp (fun g hg => Below.heap_setCell _ _ _ _ (fun e => by have := hvb g hg; have e2 : g = p := e; omega))) hb
    refine ⟨rfl, _, h.out.setTop (d' := { d with fails := mx, keep := keep }) (nv := r.nv) (kv := r.kv) (wv := r.wv) (pv := (.slice vq keep.length vc)) ht2 hs2 rfl (h.out.nowTo hs2) (h.out.keptTo hs2) (h.out.worksTo hs2) hkp2, ?_, fun k hk => ?_⟩
    · exact (hG2.mono (fun k hk => .inl hk)).setCell (p := ⟨p, 7, none⟩) (.inl (.inl rfl)) _
    · rcases hk with hk | hk | hk | hk | hk | hk | hk
      · exact .inl (.inl hk)
      · exact .inl (.inr (.inl hk))
      · exact .inl (.inr (.inr (.inl hk)))
      · exact .inl (.inr (.inr (.inr (.inl hk))))
      · exact .inl (.inr (.inr (.inr (.inr (.inl hk)))))
      · exact .inl (.inr (.inr (.inr (.inr (.inr (.inl hk))))))
      · exact .inr (hvb k hk)
set_option maxRecDepth 100000 in
theorem isNameR_any (y : ByteArray) (hy : y.size ≤ 9223372036854775807) (w : World) : Calls Tryz.prog 137 #[.string y] w fun e w' => e = .returned (.bool (decide (1 ≤ y.size) && decide (y.size ≤ 40))) ∧ w' = w := by
  by_cases h1 : 1 ≤ y.size
  · by_cases h2 : y.size ≤ 40
    · have g1 : (1 : Int) ≤ (y.size : Int) := by omega
      have g2 : (y.size : Int) ≤ 40 := by omega
      rw [decide_eq_true h1, decide_eq_true h2]
      go_enter Tryz.func137, Tryz.ntmps137
      go_wp2_with fail
      go_returns
      exact ⟨rfl, rfl⟩
    · have g1 : (1 : Int) ≤ (y.size : Int) := by omega
      have g2 : ¬ (y.size : Int) ≤ 40 := by omega
      rw [decide_eq_true h1, decide_eq_false h2]
      go_enter Tryz.func137, Tryz.ntmps137
      go_wp2_with fail
      go_returns
      exact ⟨rfl, rfl⟩
  · have g1 : ¬ (1 : Int) ≤ (y.size : Int) := by omega
    rw [decide_eq_false h1]
    go_enter Tryz.func137, Tryz.ntmps137
    go_wp2_with fail
    go_returns
    exact ⟨rfl, rfl⟩
theorem idxOf_none {m : NL} {x : ByteArray} (h : MapL.look x m = none) : idxOf m x = -1 := by unfold idxOf; rw [h]
theorem idxOf_some {m : NL} {x : ByteArray} {i : Nat} (h : MapL.look x m = some i) : idxOf m x = (i : Int) := by unfold idxOf; rw [h]
theorem RWF.mem (_ : RWF d) {i : Nat} (hi : i < d.files.length) : fileD d i ∈ d.files := by
  unfold fileD
  rw [List.getD_eq_getElem?_getD, List.getElem?_eq_getElem hi]; exact List.getElem_mem hi
theorem RWF.look (hw : RWF d) {x : ByteArray} {i : Nat} (h : fileR d x = some i) : i < d.files.length := by
  have : ∀ {m : NL}, MapL.look x m = some i → (x, i) ∈ m := fun {m} => look_mem
  exact hw.lowN _ (this h)
theorem RLies.dataIn (h : RLies w p n₀ r d) (hw : RWF d) {i : Nat} (hi : i < d.files.length) : BytesIn w (r.bv i) (fileD d i).b :=
  bytesIn_of_own (h.data i hi) (hw.bytes _ (hw.mem hi)) (by have := hw.len _ (hw.mem hi); omega)
set_option maxRecDepth 100000 in
set_option maxHeartbeats 4000000 in
theorem readR_any (x : ByteArray) (w : World) (h : RLies w p n₀ r d) (hw : RWF d) :
    Calls Tryz.prog 117 #[ofBlock p, .string x] w fun e w' => ∃ v', e = .returned (.tuple #[v', .int .i64 (readR d x).2]) ∧ w'.ownsRow w.heap.size 5 1 v' (readR d x).1.length (encB (readR d x).1) ∧ Below w.heap.size w w' := by
  obtain ⟨c0, c1, c2, c3, c4, c5, c6, c7⟩ := h.cells
  unfold ofBlock
  by_cases hd : d.dead = true
  · have he : readR d x = ([], 51) := by unfold readR; rw [if_pos hd]
    rw [he]
    rw [hd] at c5
    clear h hw he hd
    go_enter Tryz.func117, Tryz.ntmps117
    go_wp2_with fail
    go_returns
    exact ⟨_, rfl, World.ownsRow_nil _ _ _ _, Below.refl _ _⟩
  · have hd' : d.dead = false := by simpa using hd
    have hfi := find_any r.nv d.now x n₀ w h.now (by have := hw.now; omega)
    rw [hd'] at c5
    cases hf : fileR d x with
    | none =>
      have he : readR d x = ([], 50) := by unfold readR; rw [if_neg hd, hf]
      rw [he]
      rw [idxOf_none hf] at hfi
      clear h hw he hd hd' hf
      go_enter Tryz.func117, Tryz.ntmps117
      go_wp2_with (go_at_call 140; refine hfi.mono ?_; clear hfi; rintro e w2 ⟨rfl, rfl⟩)
      go_returns
      exact ⟨_, rfl, World.ownsRow_nil _ _ _ _, Below.refl _ _⟩
    | some i =>
      have he : readR d x = ((fileD d i).b, 0) := by unfold readR; rw [if_neg hd, hf]
      rw [he]
      rw [idxOf_some hf] at hfi
      have hi := hw.look hf
      obtain ⟨g, cap, e, hg, b0, b1⟩ := h.fileCells hi
      have hda := h.dataIn hw hi
      have hlen := hw.len _ (hw.mem hi)
      have hilt : (i : Int) < (d.files.length : Int) := by omega
      rw [e] at c1
      obtain ⟨bq, bc, hbe⟩ := own_shape (h.data i hi)
      rw [hbe] at b0 hda
      clear h hw he hd hd' hf e hbe
      replace hda : Hid _ := hda
      go_enter Tryz.func117, Tryz.ntmps117
      go_wp2_with (first
        | (go_at_call 140; refine hfi.mono ?_; clear hfi; rintro e w2 ⟨rfl, rfl⟩)
        | (at_builtin; refine wpList_append_bytes _ rfl _ _ rfl w2.heap.size (.slice none 0 0) (.slice bq (fileD d i).b.length bc) [] (fileD d i).b rfl rfl (World.ownsRow_nil _ _ _ _) hda.out (by simpa using (by omega)) (Nat.le_refl _) ?_; intro v' w1 hown' hgrow hwhere))
      go_returns
      exact ⟨_, rfl, by simpa using hown', (Below.refl _ _).grown hgrow (Nat.le_refl _) (fun k hk => by simp [Value.ownBlock] at hk)⟩
end Go.Proofs.YtmcmagplaflegaaGreat
