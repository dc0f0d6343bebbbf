/-
  THE ROOM THAT IS USED, walked. Conditions: those of each theorem.
-/
import Derived.Test.YtbkkcbdbdogloaaDn
namespace Go.Proofs.Ytbkkcbdbdogloaa
open Go Go.RowKit Go.MapL Go.Poised

theorem info67 : (Try.prog.info? 67).map (fun i => i.size) = some 3 := by kernel_rfl
theorem finds65 (W : World) : Finds Try.prog 65 ofBlock W (Plain W) := by
  have h := info67
  cases hi : Try.prog.info? 67 with
  | none => rw [hi] at h; cases h
  | some i => rw [hi] at h; simp at h; exact finds_block Try.underlying65 hi (by omega) W
theorem own_shape {W : World} {n e size : Nat} {v : Value} {k : Nat} {xs : List Value} (h : W.ownsRow n e size v k xs) : ∃ p cap, v = .slice p k cap := by
  rcases h.2 with ⟨rfl, rfl⟩ | ⟨g, cap, cur, rfl, _⟩
  · exact ⟨none, 0, rfl⟩
  · exact ⟨_, _, rfl⟩

set_option maxHeartbeats 8000000 in
set_option maxRecDepth 100000 in
theorem used_any (w : World) (p n₀ : Nat) (r : Rep) (s : DS) (h : Lies w p n₀ r s) (hwf : WF s) :
    Calls Try.prog 32 #[ofBlock p] w fun e w' => e = .returned (.int .i64 (usedOf s)) ∧ Below w.heap.size w w' := by
  have hfl := h.foot_lt
  have hin : ∀ k, ∀ q ∈ upTo s k, 1 ≤ q.2 ∧ q.2 ≤ s.births := by
    intro k q hq
    match k, hq with
    | 0, hq => cases hq
    | 1, hq => exact hwf.names q hq
    | k + 2, hq => rcases List.mem_append.1 hq with hq | hq; exact hwf.names q hq; exact hwf.kept q hq
  have hfile : ∀ W, Lies W p n₀ r s → ∀ i, 1 ≤ i ∧ i ≤ s.births → Plain W (r.ad i) := fun W hL i hi => ⟨_, _, hL.file i hi.1 hi.2⟩
  have h1 := h.alloc (.map #[] 0)
  obtain ⟨c0, c1, c2, c3, c4, c5, c6, c7⟩ := h1.cells
  have hA : MapAt ofBlock unitV (w.alloc (.map #[] 0)) w.heap.size (setL []) := MapAt.new w
  have hB1 : Below w.heap.size w (w.alloc (.map #[] 0)) := (Below.refl _ _).alloc (Nat.le_refl _) _
  have hz1 : (w.alloc (.map #[] 0)).heap.size = w.heap.size + 1 := by simp
  obtain ⟨w1, hw1⟩ : ∃ w1, w.alloc (.map #[] 0) = w1 := ⟨_, rfl⟩
  rw [hw1] at h1 c0 c1 c2 c3 c4 c5 c6 c7 hA hB1 hz1
  replace hz1 : Hid (w1.heap.size = w.heap.size + 1) := hz1
  have hmk := @run_makeMap Try.prog
  unfold ofBlock
  go_enter Try.func32, Try.ntmps32
  go_wp2_with fail
  go_region
  go_wp2_with fail
  clear c0 c1 c2 c3 c4 c5 c6 c7 hmk hw1
  have h2 := (h1.alloc (.cells #[.map (some r.bn), .map (some r.bk)] 55)).drew
  have hA2 := (hA.alloc (.cells #[.map (some r.bn), .map (some r.bk)] 55))
  have hB2 : Below w.heap.size w (w1.alloc (.cells #[.map (some r.bn), .map (some r.bk)] 55)).drew := ((hB1.alloc hB1.size _)).drew
  have hcs2 := heap_new w1 (.cells #[.map (some r.bn), .map (some r.bk)] 55)
  generalize hw2 : (w1.alloc (.cells #[.map (some r.bn), .map (some r.bk)] 55)).drew = w2 at *
  go_loopw [21] (fun i wr => ∃ (k : Nat) (D : List Nat), k ≤ 2 ∧ i = .int .i64 k ∧ Lies wr p n₀ r s ∧ MapAt ofBlock unitV wr w.heap.size (setL D) ∧ D.Nodup ∧ (∀ b, b ∈ D ↔ ∃ q ∈ upTo s k, b = r.ad q.2) ∧
      wr.heap[w1.heap.size]? = some (.cells #[.map (some r.bn), .map (some r.bk)] 55) ∧ Below w.heap.size w wr) (fun i _ => 2 - (intOf i).toNat)
  case atStart =>
    refine ⟨0, [], by omega, rfl, h2, ?_, by simp, by simp [upTo], ?_, hB2⟩
    · rw [← hw2]; exact hA2.same rfl
    · rw [← hw2]; exact hcs2
  case round =>
    obtain ⟨k, D, hk, rfl, hL, hM, hnd, hmem, hcs, hB⟩ := hrel
    generalize wr = wo at *
    have hcl := getD_cell hcs
    have hlt1 : w1.heap.size < wo.heap.size := (Array.getElem?_eq_some_iff.1 hcs).1
    rcases (by omega : k = 0 ∨ k = 1 ∨ k = 2) with hk0 | hk0 | hk0
    · -- number 0
      obtain rfl : k = 0 := by omega
      have g0 := hcl.1
      go_wp2_with (first | (at_range; refine wpList_range_map _ rfl _ 55 rfl 9 65 Try.underlying55 r.bn _ rfl hL.names ?_; intro w3 hrg0 hg0 hs0) | go_in)
      try go_frame
      have hbn3 : r.bn < wo.heap.size := hL.names.lt
      have hA3 : w.heap.size < wo.heap.size := hM.lt
      have hbA : r.bn ≠ w.heap.size := by have := (hfl r.bn (by simp [foot])).1; omega
      have hB3 : Below wo.heap.size wo w3 := (Below.refl _ _).grown hg0 (Nat.le_refl _) (by simp)
      go_loopw [7] (fun _ wi => ∃ todo done D', RangeAt ofText ofBlock wi wo.heap.size r.bn (at_ r.ad s.names) todo ∧ (done ++ todo).Perm (at_ r.ad s.names) ∧ Lies wi p n₀ r s ∧ MapAt ofBlock unitV wi w.heap.size (setL D') ∧ D'.Nodup ∧ (∀ b, b ∈ D' ↔ b ∈ D ∨ ∃ q ∈ done, b = q.2) ∧ wi.heap[w1.heap.size]? = some (.cells #[.map (some r.bn), .map (some r.bk)] 55) ∧ Below w.heap.size w wi ∧ wo.heap.size < wi.heap.size)
        (fun _ wi => wi.rangeLeft r.bn wo.heap.size)
      case atStart =>
        exact ⟨_, [], D, hrg0, by simp, hL.below hB3, hM.same (hB3.block _ hM.lt), hnd, by simp, (hB3.block _ hlt1).trans hcs, hB.trans (hB3.mono hB.size), by omega⟩
      case round =>
        obtain ⟨todo, done, D', hrg, hperm, hLi, hMi, hndi, hmi, hcsi, hBi, hzi⟩ := hrel
        have hMplain : ∀ q ∈ setL D', Plain wr q.1 := by
          intro q hq
          unfold setL at hq
          obtain ⟨b, hb, rfl⟩ := List.mem_map.1 hq
          rcases (hmi b).1 hb with hb | ⟨q2, hq2, rfl⟩
          · obtain ⟨q3, hq3, rfl⟩ := (hmem b).1 hb
            exact hfile wr hLi q3.2 (hin _ q3 hq3)
          · have : q2 ∈ at_ r.ad s.names := hperm.subset (List.mem_append_left _ hq2)
            obtain ⟨q', hq', rfl⟩ := List.mem_map.1 this
            exact hfile wr hLi q'.2 (hwf.names q' hq')
        go_wp2_with (first
          | (at_next; refine wpList_next_map _ rfl _ rfl wo.heap.size r.bn (at_ r.ad s.names) todo rfl hrg ?_ ?_)
          | go_in)
        · intro h0
          subst h0
          go_wp2
          go_roundw
          case rel =>
            refine ⟨0 + 1, D', by omega, by go_num, hLi, hMi, hndi, ?_, hcsi, hBi⟩
            intro b
            rw [List.append_nil] at hperm
            rw [hmi b, hmem b]
            have hd : (∃ q ∈ done, b = q.2) ↔ ∃ q ∈ s.names, b = r.ad q.2 := by
              constructor
              · rintro ⟨q, hq, rfl⟩
                obtain ⟨q', hq', rfl⟩ := List.mem_map.1 (hperm.subset hq)
                exact ⟨q', hq', rfl⟩
              · rintro ⟨q, hq, rfl⟩
                exact ⟨_, hperm.symm.subset (List.mem_map.2 ⟨q, hq, rfl⟩), rfl⟩
            rw [hd]
            simp [upTo]
          case measure => simp [intOf]
        · intro x y todo' w4 hp hrg1 hg1 hs1 hen
          have hL4 := hLi.same (w' := w4) (fun k hk => hg1.block k (hLi.foot_lt k hk).1 (by intro e; have := (hL.foot_lt _ hk).1; have := Option.some.inj e; omega))
          have hM4 := hMi.same (w' := w4) (hg1.block _ hMi.lt (by intro e; have := Option.some.inj e; omega))
          have hxy : (x, y) ∈ at_ r.ad s.names := hperm.subset (List.mem_append_right _ (hp.symm.subset (.head _)))
          have hMp4 : ∀ q ∈ setL D', Plain w4 q.1 := by
            intro q hq
            obtain ⟨c, t, hc⟩ := hMplain q hq
            refine ⟨c, t, (hg1.block q.1 ((Array.getElem?_eq_some_iff.1 hc).1) ?_).trans hc⟩
            intro e
            have := hrg.2
            obtain ⟨es, clock, since, seen, c0, _, _, _, _, _, hr, _⟩ := this
            rw [← Option.some.inj e, hc] at hr
            cases hr
          have hpy : Plain w4 y := by
            obtain ⟨q', hq', e⟩ := List.mem_map.1 hxy
            simp only [Prod.mk.injEq] at e
            rw [← e.2]
            exact hfile w4 hL4 q'.2 (hwf.names q' hq')
          go_wp2_with (first
            | (at_mapUpdate; refine wpList_update_map _ rfl _ _ _ 90 rfl 65 92 Try.underlying90 (finds65 _) w.heap.size (setL D') rfl hM4 y () rfl rfl hpy hMp4 ?_; intro w5 hM5 hg5 hs5; try go_frame)
            | go_in)
          rw [put_set] at hM5
          have hrg5 := hrg1.same (w' := w5) (hg5.block _ hrg1.lt (by intro e; have := Option.some.inj e; omega)) (hg5.block _ hrg1.map.lt (by intro e; exact hbA (Option.some.inj e)))
          have hL5 := hL4.same (w' := w5) (fun k hk => hg5.block k (hL4.foot_lt k hk).1 (by intro e; have := (hfl _ hk).1; have := Option.some.inj e; omega))
          have hcs5 := ((hg5.block w1.heap.size (by have := (Array.getElem?_eq_some_iff.1 hcsi).1; omega) (by intro e; have := hz1.out; have := Option.some.inj e; omega)).trans (hg1.block w1.heap.size (Array.getElem?_eq_some_iff.1 hcsi).1 (by intro e; have := Option.some.inj e; omega))).trans hcsi
          go_roundw
          case rel =>
            refine ⟨todo', done ++ [(x, y)], if y ∈ D' then D' else D' ++ [y], hrg5, ?_, hL5, hM5, ?_, ?_, hcs5, (hBi.grown hg1 hBi.size (by intro k e; have := Option.some.inj e; omega)).grown hg5 (by have := hBi.size; omega) (by intro k e; have := Option.some.inj e; omega), by omega⟩
            · refine List.Perm.trans ?_ hperm
              rw [List.append_assoc]
              exact (hp.symm.append_left done)
            · split
              · exact hndi
              · rename_i hy
                rw [List.nodup_append]
                exact ⟨hndi, by simp, fun a ha b hb e => by simp at hb; subst hb; subst e; exact hy ha⟩
            · intro b
              have hm : (b ∈ if y ∈ D' then D' else D' ++ [y]) ↔ b ∈ D' ∨ b = y := by
                split
                · rename_i hy
                  constructor
                  · exact .inl
                  · rintro (h | rfl)
                    · exact h
                    · exact hy
                · simp
              rw [hm, hmi b]
              constructor
              · rintro ((h | ⟨q, h1, h2⟩) | rfl)
                · exact .inl h
                · exact .inr ⟨q, by simp [h1], h2⟩
                · exact .inr ⟨(x, b), by simp, rfl⟩
              · rintro (h | ⟨q, h1, h2⟩)
                · exact .inl (.inl h)
                · rw [List.mem_append, List.mem_singleton] at h1
                  rcases h1 with h1 | rfl
                  · exact .inl (.inr ⟨q, h1, h2⟩)
                  · exact .inr h2
          case measure =>
            rw [hrg5.left_eq, hrg.left_eq, hp.length_eq]
            simp
    · -- number 1
      obtain rfl : k = 1 := by omega
      have g1 := hcl.2
      go_wp2_with (first | (at_range; refine wpList_range_map _ rfl _ 55 rfl 9 65 Try.underlying55 r.bk _ rfl hL.kept ?_; intro w3 hrg0 hg0 hs0) | go_in)
      try go_frame
      have hbn3 : r.bk < wo.heap.size := hL.kept.lt
      have hA3 : w.heap.size < wo.heap.size := hM.lt
      have hbA : r.bk ≠ w.heap.size := by have := (hfl r.bk (by simp [foot])).1; omega
      have hB3 : Below wo.heap.size wo w3 := (Below.refl _ _).grown hg0 (Nat.le_refl _) (by simp)
      go_loopw [7] (fun _ wi => ∃ todo done D', RangeAt ofText ofBlock wi wo.heap.size r.bk (at_ r.ad s.kept) todo ∧ (done ++ todo).Perm (at_ r.ad s.kept) ∧ Lies wi p n₀ r s ∧ MapAt ofBlock unitV wi w.heap.size (setL D') ∧ D'.Nodup ∧ (∀ b, b ∈ D' ↔ b ∈ D ∨ ∃ q ∈ done, b = q.2) ∧ wi.heap[w1.heap.size]? = some (.cells #[.map (some r.bn), .map (some r.bk)] 55) ∧ Below w.heap.size w wi ∧ wo.heap.size < wi.heap.size)
        (fun _ wi => wi.rangeLeft r.bk wo.heap.size)
      case atStart =>
        exact ⟨_, [], D, hrg0, by simp, hL.below hB3, hM.same (hB3.block _ hM.lt), hnd, by simp, (hB3.block _ hlt1).trans hcs, hB.trans (hB3.mono hB.size), by omega⟩
      case round =>
        obtain ⟨todo, done, D', hrg, hperm, hLi, hMi, hndi, hmi, hcsi, hBi, hzi⟩ := hrel
        have hMplain : ∀ q ∈ setL D', Plain wr q.1 := by
          intro q hq
          unfold setL at hq
          obtain ⟨b, hb, rfl⟩ := List.mem_map.1 hq
          rcases (hmi b).1 hb with hb | ⟨q2, hq2, rfl⟩
          · obtain ⟨q3, hq3, rfl⟩ := (hmem b).1 hb
            exact hfile wr hLi q3.2 (hin _ q3 hq3)
          · have : q2 ∈ at_ r.ad s.kept := hperm.subset (List.mem_append_left _ hq2)
            obtain ⟨q', hq', rfl⟩ := List.mem_map.1 this
            exact hfile wr hLi q'.2 (hwf.kept q' hq')
        go_wp2_with (first
          | (at_next; refine wpList_next_map _ rfl _ rfl wo.heap.size r.bk (at_ r.ad s.kept) todo rfl hrg ?_ ?_)
          | go_in)
        · intro h0
          subst h0
          go_wp2
          go_roundw
          case rel =>
            refine ⟨1 + 1, D', by omega, by go_num, hLi, hMi, hndi, ?_, hcsi, hBi⟩
            intro b
            rw [List.append_nil] at hperm
            rw [hmi b, hmem b]
            have hd : (∃ q ∈ done, b = q.2) ↔ ∃ q ∈ s.kept, b = r.ad q.2 := by
              constructor
              · rintro ⟨q, hq, rfl⟩
                obtain ⟨q', hq', rfl⟩ := List.mem_map.1 (hperm.subset hq)
                exact ⟨q', hq', rfl⟩
              · rintro ⟨q, hq, rfl⟩
                exact ⟨_, hperm.symm.subset (List.mem_map.2 ⟨q, hq, rfl⟩), rfl⟩
            rw [hd]
            simp only [upTo, List.mem_append]; constructor; · rintro (⟨q, h1, h2⟩ | ⟨q, h1, h2⟩); exact ⟨q, .inl h1, h2⟩; exact ⟨q, .inr h1, h2⟩
            · rintro ⟨q, h1 | h1, h2⟩; exact .inl ⟨q, h1, h2⟩; exact .inr ⟨q, h1, h2⟩
          case measure => simp [intOf]
        · intro x y todo' w4 hp hrg1 hg1 hs1 hen
          have hL4 := hLi.same (w' := w4) (fun k hk => hg1.block k (hLi.foot_lt k hk).1 (by intro e; have := (hL.foot_lt _ hk).1; have := Option.some.inj e; omega))
          have hM4 := hMi.same (w' := w4) (hg1.block _ hMi.lt (by intro e; have := Option.some.inj e; omega))
          have hxy : (x, y) ∈ at_ r.ad s.kept := hperm.subset (List.mem_append_right _ (hp.symm.subset (.head _)))
          have hMp4 : ∀ q ∈ setL D', Plain w4 q.1 := by
            intro q hq
            obtain ⟨c, t, hc⟩ := hMplain q hq
            refine ⟨c, t, (hg1.block q.1 ((Array.getElem?_eq_some_iff.1 hc).1) ?_).trans hc⟩
            intro e
            have := hrg.2
            obtain ⟨es, clock, since, seen, c0, _, _, _, _, _, hr, _⟩ := this
            rw [← Option.some.inj e, hc] at hr
            cases hr
          have hpy : Plain w4 y := by
            obtain ⟨q', hq', e⟩ := List.mem_map.1 hxy
            simp only [Prod.mk.injEq] at e
            rw [← e.2]
            exact hfile w4 hL4 q'.2 (hwf.kept q' hq')
          go_wp2_with (first
            | (at_mapUpdate; refine wpList_update_map _ rfl _ _ _ 90 rfl 65 92 Try.underlying90 (finds65 _) w.heap.size (setL D') rfl hM4 y () rfl rfl hpy hMp4 ?_; intro w5 hM5 hg5 hs5; try go_frame)
            | go_in)
          rw [put_set] at hM5
          have hrg5 := hrg1.same (w' := w5) (hg5.block _ hrg1.lt (by intro e; have := Option.some.inj e; omega)) (hg5.block _ hrg1.map.lt (by intro e; exact hbA (Option.some.inj e)))
          have hL5 := hL4.same (w' := w5) (fun k hk => hg5.block k (hL4.foot_lt k hk).1 (by intro e; have := (hfl _ hk).1; have := Option.some.inj e; omega))
          have hcs5 := ((hg5.block w1.heap.size (by have := (Array.getElem?_eq_some_iff.1 hcsi).1; omega) (by intro e; have := hz1.out; have := Option.some.inj e; omega)).trans (hg1.block w1.heap.size (Array.getElem?_eq_some_iff.1 hcsi).1 (by intro e; have := Option.some.inj e; omega))).trans hcsi
          go_roundw
          case rel =>
            refine ⟨todo', done ++ [(x, y)], if y ∈ D' then D' else D' ++ [y], hrg5, ?_, hL5, hM5, ?_, ?_, hcs5, (hBi.grown hg1 hBi.size (by intro k e; have := Option.some.inj e; omega)).grown hg5 (by have := hBi.size; omega) (by intro k e; have := Option.some.inj e; omega), by omega⟩
            · refine List.Perm.trans ?_ hperm
              rw [List.append_assoc]
              exact (hp.symm.append_left done)
            · split
              · exact hndi
              · rename_i hy
                rw [List.nodup_append]
                exact ⟨hndi, by simp, fun a ha b hb e => by simp at hb; subst hb; subst e; exact hy ha⟩
            · intro b
              have hm : (b ∈ if y ∈ D' then D' else D' ++ [y]) ↔ b ∈ D' ∨ b = y := by
                split
                · rename_i hy
                  constructor
                  · exact .inl
                  · rintro (h | rfl)
                    · exact h
                    · exact hy
                · simp
              rw [hm, hmi b]
              constructor
              · rintro ((h | ⟨q, h1, h2⟩) | rfl)
                · exact .inl h
                · exact .inr ⟨q, by simp [h1], h2⟩
                · exact .inr ⟨(x, b), by simp, rfl⟩
              · rintro (h | ⟨q, h1, h2⟩)
                · exact .inl (.inl h)
                · rw [List.mem_append, List.mem_singleton] at h1
                  rcases h1 with h1 | rfl
                  · exact .inl (.inr ⟨q, h1, h2⟩)
                  · exact .inr h2
          case measure =>
            rw [hrg5.left_eq, hrg.left_eq, hp.length_eq]
            simp
    · obtain rfl : k = 2 := by omega
      obtain ⟨husum, hulen⟩ := used_sum h hwf D hnd hmem
      replace husum : Hid _ := husum
      obtain ⟨L, hLd⟩ : ∃ L : Nat → Nat, (fun b => (s.file (inv r s b)).b.length) = L := ⟨_, rfl⟩
      have hLle : ∀ b, L b ≤ 16777216 := fun b => by rw [← hLd]; exact hwf.len _
      have hLad : ∀ i, 1 ≤ i → i ≤ s.births → L (r.ad i) = (s.file i).b.length := fun i h1 h2 => by rw [← hLd]; simp only [inv_ad h i h1 h2]
      rw [hLd] at husum
      have hbirths := hwf.births
      go_wp2_with (first | (at_range; refine wpList_range_map _ rfl _ 90 rfl 65 92 Try.underlying90 w.heap.size _ rfl hM ?_; intro w3 hrg0 hg0 hs0) | go_in)
      try go_frame
      have hA3 : w.heap.size < wo.heap.size := hM.lt
      have hB3 : Below wo.heap.size wo w3 := (Below.refl _ _).grown hg0 (Nat.le_refl _) (by simp)
      go_loopw [8] (fun n wi => ∃ todo done, RangeAt ofBlock unitV wi wo.heap.size w.heap.size (setL D) todo ∧ (done ++ todo).Perm (setL D) ∧ n = .int .i64 ((done.map fun q => L q.1).sum : Nat) ∧ Lies wi p n₀ r s ∧ Below w.heap.size w wi ∧ wo.heap.size < wi.heap.size)
        (fun _ wi => wi.rangeLeft w.heap.size wo.heap.size)
      case atStart =>
        exact ⟨_, [], hrg0, by simp, rfl, hL.below hB3, hB.trans (hB3.mono hB.size), by omega⟩
      case round =>
        obtain ⟨todo, done, hrg, hperm, rfl, hLi, hBi, hzi⟩ := hrel
        have hlen := hperm.length_eq
        have hsl : (setL D).length = D.length := by simp [setL]
        have hsum := sum_le (fun q : Nat × Unit => L q.1) 16777216 (fun q => hLle q.1) done
        have hdl : done.length ≤ 1073741824 := by rw [List.length_append] at hlen; omega
        go_wp2_with (first
          | (at_next; refine wpList_next_map _ rfl _ rfl wo.heap.size w.heap.size (setL D) todo rfl hrg ?_ ?_)
          | go_in)
        · intro h0
          subst h0
          go_wp2
          go_returns
          refine ⟨?_, hBi⟩
          rw [List.append_nil] at hperm
          have := (hperm.map fun q => L q.1).sum_nat
          rw [this]
          have h3 := husum.out
          rw [← h3]
          simp [setL, Function.comp_def]
        · intro x y todo' w4 hp hrg1 hg1 hs1 hen
          have hL4 := hLi.same (w' := w4) (fun k hk => hg1.block k (hLi.foot_lt k hk).1 (by intro e; have := (hL.foot_lt _ hk).1; have := Option.some.inj e; omega))
          have hxy : (x, y) ∈ setL D := hperm.subset (List.mem_append_right _ (hp.symm.subset (.head _)))
          obtain ⟨i, hi1, hi2, rfl⟩ : ∃ i, 1 ≤ i ∧ i ≤ s.births ∧ x = r.ad i := by
            obtain ⟨b, hb, e⟩ := List.mem_map.1 hxy
            simp only [Prod.mk.injEq] at e
            obtain ⟨q, hq, hb2⟩ := (hmem b).1 hb
            exact ⟨q.2, (hin _ q hq).1, (hin _ q hq).2, by rw [← e.1, hb2]⟩
          have hf4 := hL4.file i hi1 hi2
          have hd4 := hL4.data i hi1 hi2
          obtain ⟨q1, cap1, hbv⟩ := own_shape hd4
          rw [hbv] at hf4
          obtain ⟨f0, f1, f2⟩ := cells3 hf4
          replace hbv : Hid _ := hbv
          have hll := hLad i hi1 hi2
          have hle1 := hLle (r.ad i)
          rw [← hll] at f1
          replace hll : Hid _ := hll
          obtain ⟨m, hm⟩ : ∃ m, (done.map fun q => L q.1).sum = m := ⟨_, rfl⟩
          simp only [hm] at hsum
          have hsum' : m ≤ 18014398509481984 := Nat.le_trans hsum (by omega)
          simp only [hm]
          clear hsum hlen hsl husum hLle hLad
          simp only [ofBlock, unitV] at hen ⊢
          go_wp2_with fail
          go_roundw
          case rel =>
            refine ⟨todo', done ++ [(r.ad i, y)], hrg1, ?_, ?_, hL4, hBi.grown hg1 hBi.size (by intro k e; have := Option.some.inj e; omega), by omega⟩
            · refine List.Perm.trans ?_ hperm
              rw [List.append_assoc]
              exact (hp.symm.append_left done)
            · rw [List.map_append, List.sum_append, hm]
              go_num
          case measure =>
            rw [hrg1.left_eq, hrg.left_eq, hp.length_eq]
            simp
end Go.Proofs.Ytbkkcbdbdogloaa
