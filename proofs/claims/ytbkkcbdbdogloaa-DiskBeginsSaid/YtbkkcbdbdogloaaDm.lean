/-
  A WORK ON NAMES, done and noted. Conditions: those of each theorem.
-/
import Derived.Test.YtbkkcbdbdogloaaDl
import Derived.Deep.RegionLaw
namespace Go.Proofs.Ytbkkcbdbdogloaa
open Go Go.RowKit Go.MapL Go.Poised

theorem at_put (ad : Nat → Nat) (a : ByteArray) (i : Nat) : ∀ l, at_ ad (put a i l) = put a (ad i) (at_ ad l)
  | [] => rfl
  | (k, v) :: l => by
    unfold put at_
    by_cases h : k = a
    · simp [h]
    · have := at_put ad a i l
      unfold at_ at this
      simp [h, this]
theorem at_del (ad : Nat → Nat) (a : ByteArray) : ∀ l, at_ ad (del a l) = del a (at_ ad l)
  | [] => rfl
  | (k, v) :: l => by
    unfold del at_
    by_cases h : k = a
    · simp [h]
    · have := at_del ad a l
      unfold at_ at this
      simp [h, this]
theorem at_step (ad : Nat → Nat) (a b : ByteArray) (f : Option Nat) (l : List (ByteArray × Nat)) : at_ ad (step a b f l) = step a b (f.map ad) (at_ ad l) := by
  cases f with
  | none => exact at_del ad a l
  | some i => simp only [step, Option.map_some]; rw [at_put, at_del]
theorem ptrOf_map (ad : Nat → Nat) (f : Option Nat) : ptrOf ad f = ptrOf id (f.map ad) := by cases f <;> rfl

theorem info70 : (Try.prog.info? 70).map (fun i => (i.zero, i.size, i.bytes)) = some (some (.agg #[.string ⟨#[]⟩, .string ⟨#[]⟩, .pointer none]), 3, 40) := by kernel_rfl

/-- An append of one thing the call owns, as a step of a region that draws. -/
theorem step_append_own {P : Program} {ops : Array Oper} {o : Oper} {a : Act} {w : World} {K : Act → World → Prop} {Q : Exit → Act → World → Prop} {E : Prop}
    (hg : o.guard = none) (s x : Operand) (t : TypeId) (ho : o.op = .call { callee := .builtin .append, args := #[s, x], argTypes := #[t, t] })
    (base : Nat) (e : TypeId) (i : TypeInfo) (z : Value) (size bytes : Nat) (ht : P.underlying t = some (.slice e)) (hi : P.info? e = some i) (hz : i.zero = some z)
    (hsize : i.size = size) (hby : i.bytes = bytes) (hzs : z.cells.size = size) (hsz : 0 < size)
    (v : Value) (n : Nat) (xs : List Value) (hs : a.eval s = v) (hown : w.ownsRow base e size v n xs)
    (ad : Addr) (m c : Nat) (news : List Value) (hx : a.eval x = .slice (some ad) m c) (hl : news.length = m * size) (hnews : ∀ j u, news[j]? = some u → w.cell? (ad.add j) = some u) (h1 : ∀ u ∈ news, u.oneCell' = true)
    (h63 : n + m ≤ maxLen) (hbytes : (n + m) * bytes ≤ 140737488355328) (hbase : base ≤ w.heap.size)
    (h : ∀ v' w', w'.ownsRow base e size v' (n + m) (xs ++ news) → w.grownBy w' v.ownBlock → (∀ k, v'.ownBlock = some k → v.ownBlock = some k ∨ w.heap.size ≤ k) → K (a.put o.dst v') w') :
    if Region.wanted o (yielded ops a.tmps) = true then Oper.wp P o a w K Q else E := by
  have hw : Region.wanted o (yielded ops a.tmps) = true := by simp [Region.wanted, hg]
  rw [if_pos hw]
  obtain ⟨v', w', hr, h2, h3, h4⟩ := run_append_where (P := P) w base t o.type e i z size bytes ht hi hz hsize hby hzs hsz v n xs hown ad m c news hl hnews h1 h63 hbytes hbase
  unfold Oper.wp execOp
  simp only [ho, resolve, invoke, builtin, Sem.run_bind, Sem.run_pure, Result.andThen_ok, List.map_toArray, List.map_cons, List.map_nil, hs, hx, hr]
  exact h v' w' h2 h3 h4

theorem cells_new3 (w : World) (x y z : Value) (t : TypeId) : ∀ j u, [x, y, z][j]? = some u → (w.alloc (.cells #[x, y, z] t)).cell? ((⟨w.heap.size, 0, none⟩ : Addr).add j) = some u := by
  intro j u hj
  obtain ⟨c0, c1, c2⟩ := cells3 (heap_new w (.cells #[x, y, z] t))
  rw [Addr.add_lit, Nat.zero_add]
  match j, hj with
  | 0, hj => simp at hj; subst hj; exact c0
  | 1, hj => simp at hj; subst hj; exact c1
  | 2, hj => simp at hj; subst hj; exact c2
theorem ownsRow_succ' {W : World} {base : Nat} {e : TypeId} {size : Nat} {v : Value} {k : Nat} {xs : List Value} (h : W.ownsRow base e size v (k + 1) xs) : ∃ g cap, v = .slice (some ⟨g, 0, none⟩) (k + 1) cap := by
  rcases h.2 with ⟨_, h0⟩ | ⟨g, cap, _, rfl, _⟩
  · omega
  · exact ⟨g, cap, rfl⟩
theorem setCell_heap {w : World} {p i : Nat} {cs : Array Value} {t : TypeId} {fz : Nat × Nat} {v : Value} (h : w.heap[p]? = some (.cells cs t fz)) : (w.setCell ⟨p, i, none⟩ v).heap[p]? = some (.cells (cs.setIfInBounds i v) t fz) := by
  simp [World.setCell, Array.getElem?_modify, h]

def DS.renamed (s : DS) (a b : ByteArray) (f : Option Nat) : DS := { s with names := step a b f s.names, works := s.works ++ [(a, b, f)] }

set_option maxHeartbeats 4000000 in
set_option maxRecDepth 100000 in
theorem renamed_any (a b : ByteArray) (f : Option Nat) (w : World) (p n₀ : Nat) (r : Rep) (s : DS) (h : Lies w p n₀ r s) (hc : s.works.length < 1073741824) (hn : n₀ ≤ w.heap.size) :
    Calls Try.prog 34 #[ofBlock p, .agg #[.string a, .string b, ptrOf r.ad f]] w fun e w' => e = .returned (.tuple #[]) ∧
      ∃ wv', Lies w' p n₀ { r with wv := wv' } (s.renamed a b f) ∧ Grown (foot p r s) w w' ∧ ∀ k, wv'.ownBlock = some k → r.wv.ownBlock = some k ∨ w.heap.size ≤ k := by
  have hfl := h.foot_lt
  obtain ⟨c0, c1, c2, c3, c4, c5, c6, c7⟩ := h.cells
  have hd := fun w hm => does_any a b (f.map r.ad) r.bn (at_ r.ad s.names) w hm
  rw [← ptrOf_map] at hd
  have hbx := heap_new w (.cells #[.string a, .string b, ptrOf r.ad f] 70)
  have h1 := h.alloc (.cells #[.string a, .string b, ptrOf r.ad f] 70)
  obtain ⟨q, hq⟩ : ∃ q, ptrOf r.ad f = .pointer q := by cases f <;> exact ⟨_, rfl⟩
  rw [hq] at hd hbx h1 ⊢
  replace hq : Hid (ptrOf r.ad f = .pointer q) := hq
  obtain ⟨w0, hw0⟩ : ∃ w0, w.alloc (.cells #[.string a, .string b, .pointer q] 70) = w0 := ⟨_, rfl⟩
  have hz0 : w0.heap.size = w.heap.size + 1 := by rw [← hw0]; simp
  have hB0 : Below w.heap.size w w0 := by rw [← hw0]; exact (Below.refl _ _).alloc (Nat.le_refl _) _
  unfold ofBlock at *
  go_enter Try.func34, Try.ntmps34
  go_wp2_with fail
  rw [hw0] at hbx h1
  refine poised_then 5 (fun w' => Below w0.heap.size w0 w') (fun w w' => Below w0.heap.size w w') (by kernel_rfl) (by kernel_rfl) (by kernel_rfl) (fun _ _ h k => h.trans k) ((Below.refl _ _).drew) ?_
  apply Exists.intro
  simp only [List.take_succ_cons, List.take_zero]
  apply walk_det
  · rfl
  · intro w2 hC hF
    have h2 := h1.below hC
    obtain ⟨d0, d1, d2, d3, d4, d5, d6, d7⟩ := h2.cells
    have hbx2 := (hC.block _ (by omega)).trans hbx
    obtain ⟨e0, e1, e2⟩ := cells3 hbx2
    simp only [upon]
    go_simp
    exact ⟨Below.refl _ _, rfl⟩
  simp only [put_lit, List.set_cons_succ, List.set_cons_zero]
  apply walk_det
  · rfl
  · intro w2 hC hF
    simp only [upon]
    go_simp
    exact ⟨Below.refl _ _, rfl⟩
  simp only [put_lit, List.set_cons_succ, List.set_cons_zero]
  apply walk_det
  · rfl
  · intro w2 hC hF
    simp only [upon]
    go_simp
    exact ⟨Below.refl _ _, rfl⟩
  simp only [put_lit, List.set_cons_succ, List.set_cons_zero]
  apply walk_det
  · rfl
  · intro w2 hC hF
    simp only [upon]
    go_simp
    exact ⟨Below.refl _ _, rfl⟩
  simp only [put_lit, List.set_cons_succ, List.set_cons_zero]
  apply walk_det
  · rfl
  · intro w2 hC hF
    have h2 := h1.below hC
    obtain ⟨d0, d1, d2, d3, d4, d5, d6, d7⟩ := h2.cells
    have hbx2 := (hC.block _ (by omega)).trans hbx
    obtain ⟨e0, e1, e2⟩ := cells3 hbx2
    simp only [upon]
    go_simp
    exact ⟨Below.refl _ _, rfl⟩
  simp only [put_lit, List.set_cons_succ, List.set_cons_zero]
  apply walk_nil
  intro w2 hC _
  simp only [List.drop_succ_cons, List.drop_zero]
  have h2 := h1.below hC
  have hbx2 := (hC.block _ (by omega)).trans hbx
  have hz2 := hC.size
  go_wp2_with fail
  refine (hd _ h2.names).mono ?_
  rintro e w3 ⟨rfl, hm3, hg3⟩
  have h3 := h2.setNames (step a b f s.names) (by rw [at_step]; exact hm3) (fun k hk hne => hg3.block k hk hne)
  have hbn : r.bn ≠ w.heap.size := by have := (hfl r.bn (.inr (.inl rfl))).1; omega
  have hbx3 := (hg3.block w.heap.size (by omega) (fun e => hbn e.symm)).trans hbx2
  have hz3 := hg3.size
  have hG3 : Grown (foot p r s) w w3 := ((Grown.of_below hB0).step (by rw [show w0.heap.size = w0.heap.size from rfl]; exact hC)).trans hg3 (fun x hx => .inl (by subst hx; exact .inr (.inl rfl)))
  obtain ⟨d0, d1, d2, d3, d4, d5, d6, d7⟩ := h3.cells
  obtain ⟨e0, e1, e2⟩ := cells3 hbx3
  clear c0 c1 c2 c3 c4 c5 c6 c7 hd hbx2 h2 hbx h1 hm3
  generalize hN : w.heap.size = N at *
  go_wp2_with fail
  obtain ⟨i0, hi, hz0', hz1, hz2'⟩ := info_parts info70
  have h4 : Lies (w3.alloc (.cells #[.string a, .string b, .pointer q] 70)).drew p n₀ r { s with names := step a b f s.names } := (h3.alloc _).drew
  have h4' : Lies (w3.alloc (.cells #[.string a, .string b, .pointer q] 70)) p n₀ r { s with names := step a b f s.names } := h3.alloc _
  obtain ⟨f0, f1, f2, f3, f4, f5, f6, f7⟩ := h4'.cells
  have hne : some p ≠ r.wv.ownBlock := fun e => by have := h4.sW e.symm; rw [h4.sP] at this; cases this
  have hpw : p < (w3.alloc (.cells #[.string a, .string b, .pointer q] 70)).drew.heap.size := (h4.foot_lt p (.inl rfl)).1
  go_region_law (refine step_append_own rfl (.tmp 14) (.tmp 16) 56 rfl n₀ 70 i0 (.agg #[.string ⟨#[]⟩, .string ⟨#[]⟩, .pointer none]) 3 40 Try.underlying56 hi hz0' hz1 hz2' rfl (by decide) r.wv s.works.length _ (by simp [Act.eval]) h4.works ⟨w3.heap.size, 0, none⟩ 1 1 [.string a, .string b, .pointer q] (by simp [Act.eval]) rfl (cells_new3 w3 _ _ _ 70) (by simp [Value.oneCell']) (by unfold maxLen; omega) (by omega) (by simp; omega) ?_; intro v' w4 ho hg hwhere; obtain ⟨g, cap', rfl⟩ := ownsRow_succ' ho; have k1 := hg.cell f4 hne; have k2 := (World.frozen?_of_block (a := ⟨p, 4, none⟩) (hg.block p hpw hne)).trans (h4.free 4))
  all_goals
    go_wp2
    go_returns
    refine ⟨rfl, .slice (some ⟨g, 0, none⟩) (s.works.length + 1) cap', ?_, ?_, ?_⟩
    · have hgp : g ≠ p := fun e => by
        have h5 := sort_row ho (k := g) rfl
        have h6 := (hg.block p hpw hne).trans h4.top
        rw [e, sort_cells h6] at h5
        cases h5
      refine h4.setTop (.slice (some ⟨g, 0, none⟩) (s.works.length + 1) cap') (s.works ++ [(a, b, f)]) s.dead ?_ ?_ ?_
      · rw [setCell_heap ((hg.block p hpw hne).trans h4.top)]
        rfl
      · have hlen : (s.works ++ [(a, b, f)]).length = s.works.length + 1 := by simp
        have hfm : (s.works ++ [(a, b, f)]).flatMap (encW r.ad) = s.works.flatMap (encW r.ad) ++ [.string a, .string b, .pointer q] := by simp [encW, hq.out]
        rw [hlen, hfm]
        refine row_same ho (fun k hk => Below.heap_setCell _ _ _ _ ?_)
        simp [Value.ownBlock] at hk
        subst hk
        exact hgp
      · intro k hk h1 h2
        exact (Below.heap_setCell _ _ _ _ h1).trans (hg.block k hk (fun e => h2 e.symm))
    · refine ((hG3.alloc _).drew.trans (Grown.of_grownBy hg (S := foot p r s) ?_) (fun _ hx => .inl hx)).setCell (.inl (.inl rfl)) _
      intro k hk
      exact .inl (.inr (.inr (.inr (.inl hk))))
    · intro k hk
      rw [← hN]
      rcases hwhere k hk with h7 | h7
      · exact .inl h7
      · simp at h7; exact .inr (by omega)
end Go.Proofs.Ytbkkcbdbdogloaa
