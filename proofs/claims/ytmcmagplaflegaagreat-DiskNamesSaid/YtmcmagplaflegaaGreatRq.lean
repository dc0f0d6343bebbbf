/-
  THE DOCUMENT'S DISK: a new one; append: walked. Conditions: those of each theorem.
-/
import Derived.Test.YtmcmagplaflegaaGreatRr
namespace Go.Proofs.YtmcmagplaflegaaGreat
open Go Go.RowKit Go.MapL Go.Poised
variable {w w' : World} {p n₀ : Nat} {r : RRep} {d : RD}

theorem rlies_new (room : Nat) (w : World) : RLies (w.alloc (topR (RD.new room) ⟨.slice none 0 0, fun _ => .slice none 0 0, .slice none 0 0, .slice none 0 0, .slice none 0 0, .slice none 0 0⟩)) w.heap.size w.heap.size ⟨.slice none 0 0, fun _ => .slice none 0 0, .slice none 0 0, .slice none 0 0, .slice none 0 0, .slice none 0 0⟩ (RD.new room) where
  top := heap_new _ _
  files := World.ownsRow_nil _ _ _ _
  data := fun _ hi => absurd hi (Nat.not_lt_zero _)
  rowInj := fun _ _ hi => absurd hi (Nat.not_lt_zero _)
  now := World.ownsRow_nil _ _ _ _
  kept := World.ownsRow_nil _ _ _ _
  works := World.ownsRow_nil _ _ _ _
  keep := World.ownsRow_nil _ _ _ _
  base := Nat.le_refl _
set_option maxRecDepth 100000 in
set_option maxHeartbeats 4000000 in
theorem newR_any (room : Nat) (hroom : room ≤ 16777216) (w : World) :
    Calls Tryz.prog 63 #[.int .i64 room] w fun e w' => e = .returned (.tuple #[ofBlock w.heap.size, .int .i64 0]) ∧ Below w.heap.size w w' ∧ RLies w' w.heap.size w.heap.size ⟨.slice none 0 0, fun _ => .slice none 0 0, .slice none 0 0, .slice none 0 0, .slice none 0 0, .slice none 0 0⟩ (RD.new room) := by
  have h1 : ¬ (room : Int) < 0 := by omega
  have h2 : ¬ (16777216 : Int) < (room : Int) := by omega
  have hl := rlies_new room w
  have hb := (Below.refl w.heap.size w).alloc (Nat.le_refl _) (topR (RD.new room) ⟨.slice none 0 0, fun _ => .slice none 0 0, .slice none 0 0, .slice none 0 0, .slice none 0 0, .slice none 0 0⟩)
  replace hl : Hid _ := hl
  replace hb : Hid _ := hb
  unfold ofBlock
  go_enter Tryz.func63, Tryz.ntmps63
  go_wp2_with fail
  go_returns
  exact ⟨rfl, hb.out, hl.out⟩
/-- An append of bytes, as a step of a region that draws. -/
theorem step_append_bytes {ops : Array Oper} {o : Oper} {a : Act} {w : World} {K : Act → World → Prop} {Q : Exit → Act → World → Prop} {E : Prop}
    (hg : o.guard = none) (s x : Operand) (ho : o.op = .call { callee := .builtin .append, args := #[s, x], argTypes := #[23, 23] })
    (base : Nat) (v u : Value) (l m : List Nat) (hs : a.eval s = v) (hx : a.eval x = u) (hown : w.ownsRow base 5 1 v l.length (encB l)) (hu : BytesIn w u m) (hlen : l.length + m.length ≤ 140737488355328) (hbase : base ≤ w.heap.size)
    (h : ∀ v' w', w'.ownsRow base 5 1 v' (l ++ m).length (encB (l ++ m)) → w.grownBy w' v.ownBlock → (∀ k, v'.ownBlock = some k → v.ownBlock = some k ∨ w.heap.size ≤ k) → K (a.put o.dst v') w') :
    if Region.wanted o (yielded ops a.tmps) = true then Oper.wp Tryz.prog o a w K Q else E := by
  have hw : Region.wanted o (yielded ops a.tmps) = true := by simp [Region.wanted, hg]
  rw [if_pos hw]
  obtain ⟨v', w', hr, h2, h3, h4⟩ := run_append_bytes w base o.type v u l m hown hu hlen hbase
  unfold Oper.wp execOp
  simp only [ho, resolve, invoke, builtin, Sem.run_bind, Sem.run_pure, Result.andThen_ok, List.map_toArray, List.map_cons, List.map_nil, hs, hx, hr]
  exact h v' w' h2 h3 h4
theorem wpList_append_at {P : Program} (w : World) {ops : Array Oper} {rest : List Oper} {o : Oper} {a : Act} {Q : Exit → Act → World → Prop} (hgd : o.guard = none) (s x : Operand) (t : TypeId)
    (ho : o.op = .call { callee := .builtin .append, args := #[s, x], argTypes := #[t, t] })
    (base : Nat) (e : TypeId) (i : TypeInfo) (z : Value) (size bytes : Nat) (ht : P.underlying t = some (.slice e)) (hi : P.info? e = some i) (hz : i.zero = some z)
    (hsize : i.size = size) (hby : i.bytes = bytes) (hzs : z.cells.size = size) (hsz : 0 < size)
    (v : Value) (n : Nat) (xs : List Value) (hs : a.eval s = v) (hown : w.ownsRow base e size v n xs)
    (ad : Addr) (m c : Nat) (news : List Value) (hx : a.eval x = .slice (some ad) m c) (hl : news.length = m * size) (hnews : ∀ j u, news[j]? = some u → w.cell? (ad.add j) = some u) (h1 : ∀ u ∈ news, u.oneCell' = true)
    (h63 : n + m ≤ maxLen) (hbytes : (n + m) * bytes ≤ 140737488355328) (hbase : base ≤ w.heap.size)
    (h : ∀ v' w', w'.ownsRow base e size v' (n + m) (xs ++ news) → w.grownBy w' v.ownBlock → (∀ k, v'.ownBlock = some k → v.ownBlock = some k ∨ w.heap.size ≤ k) → wpList P ops Q rest (a.put o.dst v') w') : wpList P ops Q (o :: rest) a w := by
  refine wpList_plain hgd fun K hK => ?_
  obtain ⟨v', w', hr, h2, h3, h4⟩ := run_append_where (P := P) w base t o.type e i z size bytes ht hi hz hsize hby hzs hsz v n xs hown ad m c news hl hnews h1 h63 hbytes hbase
  unfold Oper.wp execOp
  simp only [ho, resolve, invoke, builtin, Sem.run_bind, Sem.run_pure, Result.andThen_ok, List.map_toArray, List.map_cons, List.map_nil, hs, hx, hr]
  exact hK _ _ (h v' w' h2 h3 h4)
theorem doesR_new (m : NL) (x : ByteArray) (f : Nat) : doesR m (⟨#[]⟩, x, some f) = withN x f m := rfl
/-- A file more. -/
theorem RLies.bornTo (h : RLies w p n₀ r d) {fv : Value} (ht : w'.heap[p]? = some (topR d.born { r with fv := fv, bv := upd r.bv d.files.length (.slice none 0 0) })) (hs : ∀ k, k < w.heap.size → k ≠ p → r.fv.ownBlock ≠ some k → w'.heap[k]? = w.heap[k]?)
    (hrow : w'.ownsRow n₀ 175 2 fv (d.files.length + 1) (encF r.bv d.files ++ [.slice none 0 0, .int .i64 0])) (hfn : ∀ k, fv.ownBlock = some k → r.fv.ownBlock = some k ∨ w.heap.size ≤ k) :
    RLies w' p n₀ { r with fv := fv, bv := upd r.bv d.files.length (.slice none 0 0) } d.born ∧ ∀ k, ownR p { r with fv := fv, bv := upd r.bv d.files.length (.slice none 0 0) } d.born k → ownR p r d k ∨ w.heap.size ≤ k := by
  have hl : d.born.files.length = d.files.length + 1 := by show (d.files ++ [_]).length = _; simp
  have hold : ∀ i, i < d.files.length → w'.ownsRow n₀ 5 1 (r.bv i) (fileD d i).b.length (encB (fileD d i).b) := fun i hi => row_same (h.data i hi) (fun g hg => hs g ((h.data i hi).lt g hg).2 (fun e => by have h1 := h.sB hi hg; have h2 := h.sP; rw [e] at h1; omega) (fun e => by have h1 := h.sB hi hg; have h2 := h.sF e; omega))
  have hfd : ∀ i, i < d.files.length → fileD d.born i = fileD d i := fun i hi => by
    unfold fileD RD.born
    rw [List.getD_eq_getElem?_getD, List.getD_eq_getElem?_getD, List.getElem?_append_left hi]
  have hfn' : fileD d.born d.files.length = ⟨[], 0⟩ := by unfold fileD RD.born; simp [List.getD_eq_getElem?_getD]
  refine ⟨{ top := ht, files := ?_, data := fun i hi => ?_, rowInj := fun i j hi hj hij => ?_, now := ?_, kept := ?_, works := ?_, keep := ?_, base := h.base }, fun k hk => ?_⟩
  · show w'.ownsRow n₀ 175 2 fv (d.files ++ ([⟨[], 0⟩] : List FileS)).length (encF (upd r.bv d.files.length (.slice none 0 0)) (d.files ++ ([⟨[], 0⟩] : List FileS)))
    rw [encF_push, List.length_append]; exact hrow
  · rw [hl] at hi
    show w'.ownsRow n₀ 5 1 (upd r.bv d.files.length (.slice none 0 0) i) _ _
    by_cases e : i = d.files.length
    · subst e; rw [upd_same, hfn']; exact World.ownsRow_nil _ _ _ _
    · rw [upd_other _ _ e, hfd i (by omega)]; exact hold i (by omega)
  · rw [hl] at hi hj
    show (upd r.bv d.files.length (.slice none 0 0) i).ownBlock ≠ none → (upd r.bv d.files.length (.slice none 0 0) i).ownBlock ≠ (upd r.bv d.files.length (.slice none 0 0) j).ownBlock
    by_cases e : i = d.files.length
    · subst e; rw [upd_same]; intro hn; exact absurd rfl hn
    · rw [upd_other _ _ e]
      by_cases e2 : j = d.files.length
      · subst e2; rw [upd_same]; exact id
      · rw [upd_other _ _ e2]; exact h.rowInj i j (by omega) (by omega) hij
  · exact row_same h.now (fun g hg => hs g (World.ownsRow.lt h.now g hg).2 (fun e => by have h1 := h.sN hg; have h2 := h.sP; rw [e] at h1; omega) (fun e => by have h1 := h.sN hg; have h2 := h.sF e; omega))
  · exact row_same h.kept (fun g hg => hs g (World.ownsRow.lt h.kept g hg).2 (fun e => by have h1 := h.sK hg; have h2 := h.sP; rw [e] at h1; omega) (fun e => by have h1 := h.sK hg; have h2 := h.sF e; omega))
  · exact row_same h.works (fun g hg => hs g (h.works.lt g hg).2 (fun e => by have h1 := h.sW hg; have h2 := h.sP; rw [e] at h1; omega) (fun e => by have h1 := h.sW hg; have h2 := h.sF e; omega))
  · exact row_same h.keep (fun g hg => hs g (h.keep.lt g hg).2 (fun e => by have h1 := h.sV hg; have h2 := h.sP; rw [e] at h1; omega) (fun e => by have h1 := h.sV hg; have h2 := h.sF e; omega))
  · rcases hk with hk | hk | ⟨i, hi, hk⟩ | hk | hk | hk | hk
    · exact .inl (.inl hk)
    · exact (hfn k hk).imp (fun h => .inr (.inl h)) id
    · rw [hl] at hi
      have hk : (upd r.bv d.files.length (.slice none 0 0) i).ownBlock = some k := hk
      by_cases e : i = d.files.length
      · subst e; rw [upd_same] at hk; cases hk
      · rw [upd_other _ _ e] at hk
        exact .inl (.inr (.inr (.inl ⟨i, by omega, hk⟩)))
    · exact .inl (.inr (.inr (.inr (.inl hk))))
    · exact .inl (.inr (.inr (.inr (.inr (.inl hk)))))
    · exact .inl (.inr (.inr (.inr (.inr (.inr (.inl hk))))))
    · exact .inl (.inr (.inr (.inr (.inr (.inr (.inr hk))))))

set_option maxRecDepth 100000 in
set_option maxHeartbeats 32000000 in
theorem appendR_any (x : ByteArray) (vv : Value) (l : List Nat) (w : World) (h : RLies w p n₀ r d) (hw : RWF d) (hn : n₀ ≤ w.heap.size) (hx : x.size ≤ 9223372036854775807) (hll : l.length ≤ 4611686018427387904)
    (hBy : ∀ w', Grown (ownR p r d) w w' → BytesIn w' vv l) :
    Calls Tryz.prog 104 #[ofBlock p, .string x, vv] w fun e w' => e = .returned (.int .i64 (d.append x l).2) ∧ RTurns w w' p n₀ r d (d.append x l).1 := by
  have hcs := h.cells
  have hnm := isNameR_any x hx
  obtain ⟨vq, vc, rfl⟩ : ∃ q c, vv = .slice q l.length c := by
    rcases (hBy w (Grown.refl _ _)).2.2 with ⟨rfl, e⟩ | ⟨a, c, rfl, e⟩ | ⟨b, off, c, rfl, _⟩
    · exact ⟨none, 0, by rw [e]; rfl⟩
    · exact ⟨some a, c, by rw [e]; rfl⟩
    · exact ⟨_, c, rfl⟩
  by_cases hd : d.dead = true
  · have he : d.append x l = (d, 51) := by unfold RD.append; rw [if_pos hd]
    rw [he]
    rw [hd] at hcs
    obtain ⟨c0, c1, c2, c3, c4, c5, c6, c7⟩ := hcs
    unfold ofBlock
    replace h : Hid _ := h
    clear he hw hd hBy
    go_enter Tryz.func104, Tryz.ntmps104
    go_wp2_with fail
    go_returns
    exact ⟨rfl, .none h.out (Below.refl _ _)⟩
  have hd' : d.dead = false := by simpa using hd
  rw [hd'] at hcs
  obtain ⟨c0, c1, c2, c3, c4, c5, c6, c7⟩ := hcs
  by_cases ho : (decide (1 ≤ x.size) && decide (x.size ≤ 40)) = false
  · have he : d.append x l = (d, 50) := by unfold RD.append; rw [if_neg hd, if_pos ho]
    rw [he]
    rw [ho] at hnm
    unfold ofBlock
    replace h : Hid _ := h
    clear he hw hd hd' hBy ho
    go_enter Tryz.func104, Tryz.ntmps104
    go_wp2_with (go_at_call 137; refine (hnm _).mono ?_; rintro e w3 ⟨rfl, hw3⟩; obtain rfl := hw3.symm)
    go_returns
    exact ⟨rfl, .none h.out (Below.refl _ _)⟩
  have ho' : (decide (1 ≤ x.size) && decide (x.size ≤ 40)) = true := by simpa using ho
  rw [ho'] at hnm
  have hx40 : x.size ≤ 40 := by simp at ho'; exact ho'.2
  have hus := fun W (hW : Below w.heap.size w W) => usedR_any W (h.below hW) hw
  have hul : d.used ≤ 18014398509481984 := by
    have := usedTo_le hw d.files.length (Nat.le_refl _)
    have h2 := hw.files
    show usedTo d d.files.length ≤ _
    omega
  have hpl := (Array.getElem?_eq_some_iff.1 h.top).1
  have g1 : IntKind.i64.wrap ((d.used : Int) + (l.length : Int)) = ((d.used + l.length : Nat) : Int) := by rw [show (d.used : Int) + (l.length : Int) = ((d.used + l.length : Nat) : Int) by omega]; exact IntWalk.i64_in _ (by omega)
  by_cases hr : d.room < d.used + l.length
  · have he : d.append x l = (d, 52) := by unfold RD.append; rw [if_neg hd, if_neg ho, if_pos hr]
    rw [he]
    have hr' : ((d.room : Nat) : Int) < ((d.used + l.length : Nat) : Int) := by omega
    unfold ofBlock at *
    replace h : Hid _ := h
    replace hr : Hid _ := hr
    clear he hw hd hd' hBy ho ho'
    go_enter Tryz.func104, Tryz.ntmps104
    go_wp2_with (go_at_call 137; refine (hnm _).mono ?_; rintro e w3 ⟨rfl, hw3⟩; obtain rfl := hw3.symm)
    refine poised_whole (fun wz => Below w.heap.size w wz) (fun wy wz => Below w.heap.size wy wz) (by kernel_rfl) (by kernel_rfl) (by kernel_rfl) (fun _ _ h k => h.trans k) ((Below.refl _ _).drew) ?_
    apply Exists.intro
    apply walk_det
    · rfl
    · intro w2 hC hF
      simp only [upon]
      go_simp
      exact ⟨Below.refl _ _, rfl⟩
    simp only [put_lit, List.set_cons_succ, List.set_cons_zero]
    apply walk_det
    · rfl
    · intro w2 hC hF
      have y0 := (hC.cell (p := ⟨p, 0, none⟩) hpl).trans c0
      simp only [upon]
      go_simp
      exact still_call (hus w2 hC)
    simp only [put_lit, List.set_cons_succ, List.set_cons_zero]
    iterate 6
      apply walk_det
      · rfl
      · intro w2 hC hF
        simp only [upon]
        go_simp
        exact ⟨Below.refl _ _, rfl⟩
      simp only [put_lit, List.set_cons_succ, List.set_cons_zero]
    apply walk_det
    · rfl
    · intro w2 hC hF
      have y0 := (hC.cell (p := ⟨p, 0, none⟩) hpl).trans c0
      simp only [upon]
      go_simp
      exact ⟨Below.refl _ _, rfl⟩
    simp only [put_lit, List.set_cons_succ, List.set_cons_zero]
    apply walk_det
    · rfl
    · intro w2 hC hF
      simp only [upon]
      go_simp
      exact ⟨Below.refl _ _, rfl⟩
    simp only [put_lit, List.set_cons_succ, List.set_cons_zero]
    apply walk_nil
    intro w7 hC7 _
    go_wp2_with fail
    go_returns
    exact ⟨rfl, .none h.out hC7⟩
  have hr' : ¬ ((d.room : Nat) : Int) < ((d.used + l.length : Nat) : Int) := by omega
  have hl24 : l.length ≤ 16777216 := by have := hw.room; omega
  by_cases h0 : d.fails = 0
  · have he : d.append x l = (d.crash d.keep, 51) := by unfold RD.append; rw [if_neg hd, if_neg ho, if_neg hr, if_pos h0]
    rw [he]
    have hdi := fun W (hW : Below w.heap.size w W) => diesR_0 W (h.below hW) hw (Nat.le_trans hn hW.size) h0
    unfold ofBlock at *
    replace h : Hid _ := h
    clear he hw hd hd' hBy ho ho' hr
    go_enter Tryz.func104, Tryz.ntmps104
    go_wp2_with (go_at_call 137; refine (hnm _).mono ?_; rintro e w3 ⟨rfl, hw3⟩; obtain rfl := hw3.symm)
    refine poised_whole (fun wz => Below w.heap.size w wz) (fun wy wz => Below w.heap.size wy wz) (by kernel_rfl) (by kernel_rfl) (by kernel_rfl) (fun _ _ h k => h.trans k) ((Below.refl _ _).drew) ?_
    apply Exists.intro
    apply walk_det
    · rfl
    · intro w2 hC hF
      simp only [upon]
      go_simp
      exact ⟨Below.refl _ _, rfl⟩
    simp only [put_lit, List.set_cons_succ, List.set_cons_zero]
    apply walk_det
    · rfl
    · intro w2 hC hF
      have y0 := (hC.cell (p := ⟨p, 0, none⟩) hpl).trans c0
      simp only [upon]
      go_simp
      exact still_call (hus w2 hC)
    simp only [put_lit, List.set_cons_succ, List.set_cons_zero]
    iterate 6
      apply walk_det
      · rfl
      · intro w2 hC hF
        simp only [upon]
        go_simp
        exact ⟨Below.refl _ _, rfl⟩
      simp only [put_lit, List.set_cons_succ, List.set_cons_zero]
    apply walk_det
    · rfl
    · intro w2 hC hF
      have y0 := (hC.cell (p := ⟨p, 0, none⟩) hpl).trans c0
      simp only [upon]
      go_simp
      exact ⟨Below.refl _ _, rfl⟩
    simp only [put_lit, List.set_cons_succ, List.set_cons_zero]
    apply walk_det
    · rfl
    · intro w2 hC hF
      simp only [upon]
      go_simp
      exact ⟨Below.refl _ _, rfl⟩
    simp only [put_lit, List.set_cons_succ, List.set_cons_zero]
    apply walk_nil
    intro w7 hC7 _
    go_wp2_with (go_at_call 139; refine (hdi w7 hC7).mono ?_; clear hdi; rintro e w4 ⟨rfl, h3⟩; replace h3 : Hid _ := h3)
    go_returns
    exact ⟨rfl, RTurns.step (Grown.of_below hC7) (fun k hk => .inl hk) h3.out⟩
  have he : d.append x l = ((d.tick.find x).1.grow (d.tick.find x).2 l, 0) := by unfold RD.append; rw [if_neg hd, if_neg ho, if_neg hr, if_neg h0]
  rw [he]
  have hdi := fun W (hW : Below w.heap.size w W) => diesR_1 W (h.below hW) h0 hw.fails
  have hwt := rwf_tick hw
  have hfi := fun W (hW : Below w.heap.size w W) => find_any r.nv d.now x n₀ W (h.below hW).now (by have := hw.now; omega)
  have hft : d.tick.files.length = d.files.length := rfl
  cases hf : fileR d x with
  | some i =>
    have hi := hw.look hf
    have hfi2 : d.tick.find x = (d.tick, i) := by unfold RD.find; rw [show fileR d.tick x = some i from hf]
    rw [hfi2]
    rw [idxOf_some hf] at hfi
    have hHL : (fileD d.tick i).b.length ≤ 16777216 := hwt.len _ (hwt.mem hi)
    unfold ofBlock at *
    have hidx : idxOf d.tick.now x = ((i : Nat) : Int) := idxOf_some hf
    replace hidx : Hid (idxOf d.tick.now x = ((i : Nat) : Int)) := hidx
    replace h : Hid _ := h
    clear he hd hd' ho ho' hr hf h0 hfi2
    go_enter Tryz.func104, Tryz.ntmps104
    go_wp2_with (go_at_call 137; refine (hnm _).mono ?_; rintro e w3 ⟨rfl, hw3⟩; obtain rfl := hw3.symm)
    refine poised_whole (fun wz => Below w.heap.size w wz) (fun wy wz => Below w.heap.size wy wz) (by kernel_rfl) (by kernel_rfl) (by kernel_rfl) (fun _ _ h k => h.trans k) ((Below.refl _ _).drew) ?_
    apply Exists.intro
    apply walk_det
    · rfl
    · intro w2 hC hF
      simp only [upon]
      go_simp
      exact ⟨Below.refl _ _, rfl⟩
    simp only [put_lit, List.set_cons_succ, List.set_cons_zero]
    apply walk_det
    · rfl
    · intro w2 hC hF
      have y0 := (hC.cell (p := ⟨p, 0, none⟩) hpl).trans c0
      simp only [upon]
      go_simp
      exact still_call (hus w2 hC)
    simp only [put_lit, List.set_cons_succ, List.set_cons_zero]
    iterate 6
      apply walk_det
      · rfl
      · intro w2 hC hF
        simp only [upon]
        go_simp
        exact ⟨Below.refl _ _, rfl⟩
      simp only [put_lit, List.set_cons_succ, List.set_cons_zero]
    apply walk_det
    · rfl
    · intro w2 hC hF
      have y0 := (hC.cell (p := ⟨p, 0, none⟩) hpl).trans c0
      simp only [upon]
      go_simp
      exact ⟨Below.refl _ _, rfl⟩
    simp only [put_lit, List.set_cons_succ, List.set_cons_zero]
    apply walk_det
    · rfl
    · intro w2 hC hF
      simp only [upon]
      go_simp
      exact ⟨Below.refl _ _, rfl⟩
    simp only [put_lit, List.set_cons_succ, List.set_cons_zero]
    apply walk_nil
    intro w7 hC7 _
    go_wp2_with (first
      | (go_at_call 139; refine (hdi w7 hC7).mono ?_; clear hdi; rintro e w4 ⟨rfl, h4, hG4, hz4⟩
         have c2' := (h4.cells).2.2.1
         have hfw : Calls Tryz.prog 140 #[r.nv, .string x] w4 fun e w' => e = .returned (.int .i64 (i : Nat)) ∧ w' = w4 := by
           have := find_any r.nv d.tick.now x n₀ w4 h4.now (by have := hw.now; show d.now.length ≤ _; omega)
           rw [show idxOf d.tick.now x = ((i : Nat) : Int) from hidx.out] at this
           exact this
         replace h4 : Hid _ := h4
         replace hG4 : Hid _ := hG4
         clear c0 c1 c2 c3 c4 c5 c6 c7)
      | (go_at_call 140; refine hfw.mono ?_; clear hfw; rintro e w5 ⟨rfl, hw5⟩; obtain rfl := hw5.symm))
    have hBw : Hid (RLies w4 p n₀ r d.tick) := h4.out
    obtain ⟨rB, hrB⟩ : ∃ rB : RRep, r = rB := ⟨_, rfl⟩
    obtain ⟨dB, hdB⟩ : ∃ dB : RD, d.tick = dB := ⟨_, rfl⟩
    have hGB : Grown (ownR p r d) w w4 := (Grown.of_below hC7).trans (hG4.out.mono (fun k hk => .inl hk)) (fun k hk => .inl hk)
    have hOB : ∀ k, ownR p rB dB k → ownR p r d k ∨ w.heap.size ≤ k := by rw [← hrB, ← hdB]; exact fun k hk => .inl hk
    have hixB : i < dB.files.length := by rw [← hdB]; exact hi
    have hlB : (fileD dB i).b.length ≤ 16777216 := by rw [← hdB]; exact hHL
    rw [hrB, hdB] at hBw
    have hByB := hBy w4 hGB
    obtain ⟨wB, hwB⟩ : ∃ wB : World, w4 = wB := ⟨_, rfl⟩
    rw [hwB] at hBw hGB hByB ⊢
    obtain ⟨e0, e1, e2, e3, e4, e5, e6, e7⟩ := hBw.out.cells
    have hplB := (Array.getElem?_eq_some_iff.1 hBw.out.top).1
    obtain ⟨gB, capB, eB, hgB, bB0, bB1⟩ := hBw.out.fileCells hixB
    have hdB' := hBw.out.data i hixB
    obtain ⟨bqB, bcB, hbeB⟩ := own_shape hdB'
    have hnB : n₀ ≤ wB.heap.size := Nat.le_trans hBw.out.base (Nat.le_of_lt hplB)
    rw [eB] at e1
    rw [hbeB] at bB0 hdB'
    have hilB : ((i : Nat) : Int) < (dB.files.length : Int) := by omega
    have hneF : ∀ k, (Value.slice bqB (fileD dB i).b.length bcB).ownBlock = some k → k ≠ gB ∧ k ≠ p := fun k hk => by
      have s1 := hBw.out.sB hixB (by rw [hbeB]; exact hk)
      exact ⟨fun e => by have s2 := hBw.out.sF (show rB.fv.ownBlock = some gB by rw [eB]; rfl); rw [e] at s1; omega, fun e => by have s2 := hBw.out.sP; rw [e] at s1; omega⟩
    have yB : ∀ W, wB.drew.grownBy W (Value.slice bqB (fileD dB i).b.length bcB).ownBlock → W.cell? ⟨p, 1, none⟩ = some (.slice (some ⟨gB, 0, none⟩) dB.files.length capB) ∧ W.cell? ⟨gB, i * 2, none⟩ = some (.slice bqB (fileD dB i).b.length bcB) ∧ W.frozen? ⟨gB, i * 2, none⟩ = false := fun W hW => by
      have a1 := hW.block p hplB (fun e => (hneF p e.symm).2 rfl)
      have a2 := hW.block gB hgB (fun e => (hneF gB e.symm).1 rfl)
      refine ⟨?_, ?_, ?_⟩
      · have := e1; unfold World.cell? at this ⊢; rw [a1]; exact this
      · have := bB0; unfold World.cell? at this ⊢; rw [a2]; exact this
      · have := free_row hBw.out.files eB (Below.refl _ _) (i * 2); unfold World.frozen? at this ⊢; rw [a2]; exact this
    have hdD : wB.drew.ownsRow n₀ 5 1 (.slice bqB (fileD dB i).b.length bcB) (fileD dB i).b.length (encB (fileD dB i).b) := hdB'.drew
    replace yB : Hid _ := yB
    replace hneF : Hid _ := hneF
    replace hdD : Hid (wB.drew.ownsRow n₀ 5 1 (.slice bqB (fileD dB i).b.length bcB) (fileD dB i).b.length (encB (fileD dB i).b)) := hdD
    have hByD : BytesIn wB.drew (Value.slice vq l.length vc) l := hByB
    replace hByD : Hid (BytesIn wB.drew (Value.slice vq l.length vc) l) := hByD
    replace hByB : Hid _ := hByB
    replace eB : Hid _ := eB
    replace hbeB : Hid _ := hbeB
    replace hrB : Hid _ := hrB
    replace hdB : Hid _ := hdB
    replace hwB : Hid _ := hwB
    replace hGB : Hid _ := hGB
    replace hOB : Hid _ := hOB
    clear e0 e2 e3 e4 e5 e6 e7 bB1 hdB'
    go_region_law (refine step_append_bytes rfl (.tmp 84) (.tmp 85) rfl n₀ (.slice bqB (fileD dB i).b.length bcB) (Value.slice vq l.length vc) (fileD dB i).b l (by simp [Act.eval]) (by simp [Act.eval]) hdD.out hByD.out (by omega) hnB ?_; intro v9 w9 ho9 hg9 hwh9; obtain ⟨q9, c9, rfl⟩ := own_shape ho9; have k1 := (yB.out w9 hg9).1; have k2 := (yB.out w9 hg9).2.1; have k3 := (yB.out w9 hg9).2.2)
    all_goals
      go_wp2
      go_returns
      have hg9' : wB.grownBy w9 (rB.bv i).ownBlock := by rw [hbeB.out]; exact ⟨hg9.os, hg9.tape, hg9.output, hg9.size, hg9.block⟩
      have hwh9' : ∀ k, (Value.slice q9 ((fileD dB i).b ++ l).length c9).ownBlock = some k → (rB.bv i).ownBlock = some k ∨ wB.heap.size ≤ k := fun k hk => by rw [hbeB.out]; exact hwh9 k hk
      have hrow9 : w9.ownsRow n₀ 175 2 rB.fv dB.files.length (encF rB.bv dB.files) := World.ownsRow.kept hBw.out.files hg9' (rows_ne hBw.out.files (hBw.out.data i hixB) (by decide))
      have hrow9' := hrow9
      rw [eB.out] at hrow9'
      obtain ⟨hst, hgr⟩ := World.ownsRow.stored hrow9' (i * 2) (.slice q9 ((fileD dB i).b ++ l).length c9)
      have hea := encF_at rB.bv dB.files hixB
      have hse := hBw.out.setF hixB (w' := w9.setCell ⟨gB, i * 2, none⟩ (.slice q9 ((fileD dB i).b ++ l).length c9)) (x := .slice q9 ((fileD dB i).b ++ l).length c9) (f := ⟨(fileD dB i).b ++ l, (fileD dB i).mark⟩)
        (by rw [set_same (k := i * 2 + 1) (by rw [List.getElem?_set_ne (by omega)]; exact hea.2), eB.out]; exact hst)
        (World.ownsRow.kept ho9 hgr (rows_ne ho9 hrow9' (by decide))) hwh9'
        (fun k hk h1 h2 => (hgr.block k (Nat.lt_of_lt_of_le hk hg9.size) (fun e2 => h1 (by rw [eB.out, e2]; rfl))).trans (hg9'.block k hk (fun e2 => h2 e2.symm)))
      have hll9 : ((fileD dB i).b ++ l).length = (fileD dB i).b.length + l.length := List.length_append
      rw [hll9] at hse
      rw [hdB.out]
      refine ⟨rfl, .of (d' := dB.grow i l) hse.1 ?_ ?_⟩
      · exact (hGB.out.trans (T := fun k => (rB.bv i).ownBlock = some k) (Grown.of_grownBy hg9' (fun k hk => .inl hk)) (fun x hx => hOB.out x (.inr (.inr (.inl ⟨i, hixB, hx⟩))))).setCell (p := ⟨gB, i * 2, none⟩) (hOB.out gB (.inr (.inl (by rw [eB.out]; rfl)))) _
      · intro k hk
        rcases hse.2 k hk with h1 | h1
        · exact hOB.out k h1
        · exact .inr (Nat.le_trans hGB.out.size h1)
  | none =>
    have hfi2 : d.tick.find x = (d.tick.born.renamed ⟨#[]⟩ x (some d.tick.files.length), d.tick.files.length) := by unfold RD.find; rw [show fileR d.tick x = none from hf]
    rw [hfi2]
    obtain ⟨i2, hi2, hz20, hz21, hz22⟩ := info_parts info175
    obtain ⟨i3, hi3, hz30, hz31, hz32⟩ := info_parts info178
    have hidx : idxOf d.tick.now x = -1 := idxOf_none hf
    replace hidx : Hid (idxOf d.tick.now x = -1) := hidx
    have hHL : (fileD (d.tick.born.renamed ⟨#[]⟩ x (some d.tick.files.length)) d.tick.files.length).b.length ≤ 16777216 := by
      have : fileD (d.tick.born.renamed ⟨#[]⟩ x (some d.tick.files.length)) d.tick.files.length = ⟨[], 0⟩ := by
        show (d.tick.files ++ ([⟨[], 0⟩] : List FileS)).getD d.tick.files.length ⟨[], 0⟩ = _
        simp [List.getD_eq_getElem?_getD]
      rw [this]; simp
    have hixN : d.tick.files.length < (d.tick.born.renamed ⟨#[]⟩ x (some d.tick.files.length)).files.length := by
      show _ < (d.tick.files ++ ([⟨[], 0⟩] : List FileS)).length
      simp
    have hl1 := hw.files
    have hl2 := hw.now
    have hl3 := hw.works
    unfold ofBlock at *
    replace h : Hid _ := h
    replace hHL : Hid _ := hHL
    replace hixN : Hid _ := hixN
    replace hft : Hid _ := hft
    replace hz20 : Hid _ := hz20
    replace hz21 : Hid _ := hz21
    replace hz22 : Hid _ := hz22
    replace hz30 : Hid _ := hz30
    replace hz31 : Hid _ := hz31
    replace hz32 : Hid _ := hz32
    clear he hd hd' ho ho' hr hf h0 hfi2 hfi
    go_enter Tryz.func104, Tryz.ntmps104
    go_wp2_with (go_at_call 137; refine (hnm _).mono ?_; rintro e w3 ⟨rfl, hw3⟩; obtain rfl := hw3.symm)
    refine poised_whole (fun wz => Below w.heap.size w wz) (fun wy wz => Below w.heap.size wy wz) (by kernel_rfl) (by kernel_rfl) (by kernel_rfl) (fun _ _ h k => h.trans k) ((Below.refl _ _).drew) ?_
    apply Exists.intro
    apply walk_det
    · rfl
    · intro w2 hC hF
      simp only [upon]
      go_simp
      exact ⟨Below.refl _ _, rfl⟩
    simp only [put_lit, List.set_cons_succ, List.set_cons_zero]
    apply walk_det
    · rfl
    · intro w2 hC hF
      have y0 := (hC.cell (p := ⟨p, 0, none⟩) hpl).trans c0
      simp only [upon]
      go_simp
      exact still_call (hus w2 hC)
    simp only [put_lit, List.set_cons_succ, List.set_cons_zero]
    iterate 6
      apply walk_det
      · rfl
      · intro w2 hC hF
        simp only [upon]
        go_simp
        exact ⟨Below.refl _ _, rfl⟩
      simp only [put_lit, List.set_cons_succ, List.set_cons_zero]
    apply walk_det
    · rfl
    · intro w2 hC hF
      have y0 := (hC.cell (p := ⟨p, 0, none⟩) hpl).trans c0
      simp only [upon]
      go_simp
      exact ⟨Below.refl _ _, rfl⟩
    simp only [put_lit, List.set_cons_succ, List.set_cons_zero]
    apply walk_det
    · rfl
    · intro w2 hC hF
      simp only [upon]
      go_simp
      exact ⟨Below.refl _ _, rfl⟩
    simp only [put_lit, List.set_cons_succ, List.set_cons_zero]
    apply walk_nil
    intro w7 hC7 _
    go_wp2_with (first
      | (go_at_call 139; refine (hdi w7 hC7).mono ?_; clear hdi; rintro e w4 ⟨rfl, h4, hG4, hz4⟩
         obtain ⟨fq, fc, hfe⟩ := own_shape h4.files
         obtain ⟨nq, nc, hne⟩ := own_shape h4.now
         obtain ⟨wq, wc, hwe⟩ := own_shape h4.works
         obtain ⟨b0, b1, b2, b3, b4, b5, b6, b7⟩ := h4.cells
         have hp4 := (Array.getElem?_eq_some_iff.1 h4.top).1
         have hn4 : n₀ ≤ w4.heap.size := Nat.le_trans h4.base (Nat.le_of_lt hp4)
         have hfw : Calls Tryz.prog 140 #[r.nv, .string x] w4 fun e w' => e = .returned (.int .i64 (-1)) ∧ w' = w4 := by
           have := find_any r.nv d.tick.now x n₀ w4 h4.now (by show d.now.length ≤ _; omega)
           rw [hidx.out] at this
           exact this
         rw [hfe] at b1
         rw [hne] at b2 hfw
         have hrow4 := own_kept h4.files ((Below.refl w4.heap.size w4).alloc (Nat.le_refl _) (.cells #[.slice none 0 0, .int .i64 0] 175))
         rw [hfe] at hrow4
         have hpf : (Value.slice fq d.tick.files.length fc).ownBlock ≠ some p := fun e => by have s1 := h4.sF (show r.fv.ownBlock = some p by rw [hfe]; exact e); have s2 := h4.sP; omega
         have hl4 : d.tick.files.length ≤ 1073741824 := hl1
         replace h4 : Hid _ := h4
         replace hG4 : Hid _ := hG4
         replace hfe : Hid _ := hfe
         replace hne : Hid _ := hne
         replace hwe : Hid _ := hwe
         replace hpf : Hid _ := hpf
         replace hrow4 : Hid ((w4.alloc (.cells #[.slice none 0 0, .int .i64 0] 175)).ownsRow n₀ 175 2 (.slice fq d.tick.files.length fc) d.tick.files.length (encF r.bv d.tick.files)) := hrow4
         clear c0 c1 c2 c3 c4 c5 c6 c7 b0 b3 b4 b5 b6 b7
         replace hz4 : Hid _ := hz4
         have k1 : True := trivial)
      | (go_at_call 140; refine hfw.mono ?_; clear hfw; rintro e w5 ⟨rfl, hw5⟩; obtain rfl := hw5.symm)
      | (clear k1; at_builtin; refine wpList_append_at _ rfl _ _ 150 rfl n₀ 175 i2 (.agg #[.slice none 0 0, .int .i64 0]) 2 32 Tryz.underlying150 hi2 hz20.out hz21.out hz22.out rfl (by decide) (.slice fq d.tick.files.length fc) d.tick.files.length (encF r.bv d.tick.files) rfl hrow4.out ⟨w4.heap.size, 0, none⟩ 1 1 [.slice none 0 0, .int .i64 0] rfl rfl (cells_new2 w4 _ _ 175) (one2b none 0 0 0) (by unfold maxLen; omega) (by omega) (by simp; omega) ?_
         intro v5 w5 ho5 hg5 hwh5
         obtain ⟨q5, c5, rfl⟩ := own_shape ho5
         have tA : w5.heap[p]? = some (topR d.tick r) := (hg5.block p (by simp; omega) (fun e => hpf.out e.symm)).trans ((Below.heap_alloc _ _ _ hp4).trans h4.out.top)
         have fA := free_of tA 1
         have yA := (cells8 tA).2.1
         have tB := setCell_heap (i := 1) (v := .slice q5 (d.tick.files.length + 1) c5) tA
         have hs5 : ∀ k, k < w4.heap.size → k ≠ p → r.fv.ownBlock ≠ some k → (w5.setCell ⟨p, 1, none⟩ (.slice q5 (d.tick.files.length + 1) c5)).heap[k]? = w4.heap[k]? := fun k hk hkp hkf =>
           (Below.heap_setCell _ _ _ _ hkp).trans ((hg5.block k (by simp; omega) (fun e => hkf (by rw [hfe.out]; exact e.symm))).trans (Below.heap_alloc _ _ _ hk))
         have hp5 : ∀ g, (Value.slice q5 (d.tick.files.length + 1) c5).ownBlock = some g → g ≠ p := fun g hg e => by
           rcases hwh5 g hg with h1 | h1
           · exact hpf.out (by rw [← e]; exact h1)
           · simp at h1; omega
         have hborn := h4.out.bornTo (w' := w5.setCell ⟨p, 1, none⟩ (.slice q5 (d.tick.files.length + 1) c5)) (fv := .slice q5 (d.tick.files.length + 1) c5) tB hs5
           (row_same ho5 (fun g hg => Below.heap_setCell _ _ _ _ (hp5 g hg)))
           (fun k hk => by
             rw [hfe.out]
             rcases hwh5 k hk with h1 | h1
             · exact .inl h1
             · right; simp at h1; omega)
         have hGb : Grown (ownR p r d) w (w5.setCell ⟨p, 1, none⟩ (.slice q5 (d.tick.files.length + 1) c5)) :=
           (((((Grown.of_below hC7).trans (T := ownR p r d) (hG4.out.mono (fun k hk => .inl hk)) (fun k hk => .inl hk)).alloc (.cells #[.slice none 0 0, .int .i64 0] 175)).trans (T := ownR p r d) (Grown.of_grownBy hg5 (fun k hk => .inl (.inr (.inl (by rw [hfe.out]; exact hk))))) (fun k hk => .inl hk)).setCell (p := ⟨p, 1, none⟩) (.inl (.inl rfl)) _)
         obtain ⟨w6, hw6⟩ : ∃ w6, w5.setCell ⟨p, 1, none⟩ (.slice q5 (d.tick.files.length + 1) c5) = w6 := ⟨_, rfl⟩
         have hz6 : w4.heap.size ≤ w6.heap.size := by
           rw [← hw6]; have := hg5.size; simp at this ⊢; omega
         rw [hw6] at hborn hGb
         obtain ⟨hbo, hboo⟩ := hborn
         obtain ⟨e0, e1, e2, e3, e4, e5, e6, e7⟩ := hbo.cells
         have hp6 := (Array.getElem?_eq_some_iff.1 hbo.top).1
         have hnow6 := hbo.now
         simp only at e2 e4 hnow6
         rw [hne.out] at e2 hnow6
         have hwi := with_any (.slice nq d.tick.now.length nc) d.tick.now x d.tick.files.length n₀ w6 hnow6 (by show d.now.length ≤ _; omega)
         have y2 := (cells8 tA).2.2.1
         rw [hne.out] at y2
         replace hbo : Hid (RLies w6 p n₀ { r with fv := .slice q5 (d.tick.files.length + 1) c5, bv := upd r.bv d.tick.files.length (.slice none 0 0) } d.tick.born) := hbo
         replace hboo : Hid _ := hboo
         replace hGb : Hid _ := hGb
         replace hw6 : Hid (w5.setCell ⟨p, 1, none⟩ (.slice q5 (d.tick.files.length + 1) c5) = w6) := hw6
         replace hz6 : Hid (w4.heap.size ≤ w6.heap.size) := hz6
         clear e0 e1 e2 e3 e4 e5 e6 e7 tA tB hs5 hp5 hnow6 hg5 hwh5 ho5 b1 b2
         have k2 : True := trivial)
      | (clear k2; rw [hw6.out]; go_at_call 141; refine hwi.mono ?_; clear hwi; rintro e w10 ⟨v10, rfl, h10, hb10⟩
         obtain ⟨q10, c10, rfl⟩ := own_shape h10
         have tC := (hb10.block p hp6).trans hbo.out.top
         have fC := free_of tC 2
         have tC' : w10.heap[p]? = some (.cells #[_, _, _, _, _, _, _, _] 154) := tC
         have x2 := (cells8 tC').2.2.1
         have x4 := (cells8 tC').2.2.2.2.1
         simp only at x4
         rw [hwe.out] at x4
         have tD := setCell_heap (i := 2) (v := .slice q10 (withN x d.tick.files.length d.tick.now).length c10) tC
         obtain ⟨wD, hwD⟩ : ∃ wD, w10.setCell ⟨p, 2, none⟩ (.slice q10 (withN x d.tick.files.length d.tick.now).length c10) = wD := ⟨_, rfl⟩
         have hzD : wD.heap.size = w10.heap.size := by rw [← hwD]; simp
         rw [hwD] at tD
         have tD' : wD.heap[p]? = some (.cells #[_, _, _, _, _, _, _, _] 154) := tD
         have z4 := (cells8 tD').2.2.2.2.1
         simp only at z4
         rw [hwe.out] at z4
         have hwp : ∀ g, r.wv.ownBlock = some g → g ≠ p := fun g hg e => by
           have s1 := hbo.out.sW (show ({ r with fv := .slice q5 (d.tick.files.length + 1) c5, bv := upd r.bv d.tick.files.length (.slice none 0 0) } : RRep).wv.ownBlock = some g from hg); have s2 := hbo.out.sP; rw [e] at s1; omega
         have hwr := own_kept (row_same (own_kept hbo.out.works hb10) (w' := wD) (fun g hg => by rw [← hwD]; exact Below.heap_setCell _ _ _ _ (hwp g hg))) ((Below.refl wD.heap.size wD).alloc (Nat.le_refl _) (.cells #[.string ⟨#[]⟩, .string x, .int .i64 (d.tick.files.length : Nat)] 178))
         simp only at hwr
         rw [hwe.out] at hwr
         have hcn : ∀ j u, [Value.string ⟨#[]⟩, .string x, .int .i64 (d.tick.files.length : Nat)][j]? = some u → (wD.alloc (.cells #[.string ⟨#[]⟩, .string x, .int .i64 (d.tick.files.length : Nat)] 178)).cell? ((⟨w10.heap.size, 0, none⟩ : Addr).add j) = some u := by
           rw [← hzD]; exact cells_new3 wD _ _ _ 178
         have hn10 : n₀ ≤ w10.heap.size := Nat.le_trans hn4 (Nat.le_trans hz6.out hb10.size)
         have hwl4 : d.tick.works.length ≤ 1073741824 := hl3
         have hpD : p < wD.heap.size := (Array.getElem?_eq_some_iff.1 tD).1
         replace h10 : Hid (NamesAt w10 w6.heap.size (.slice q10 (withN x d.tick.files.length d.tick.now).length c10) (withN x d.tick.files.length d.tick.now)) := h10
         replace hwr : Hid ((wD.alloc (.cells #[.string ⟨#[]⟩, .string x, .int .i64 (d.tick.files.length : Nat)] 178)).ownsRow n₀ 178 3 (.slice wq d.tick.works.length wc) d.tick.works.length (d.tick.works.flatMap encWR)) := hwr
         replace hcn : Hid _ := hcn
         replace hwD : Hid (w10.setCell ⟨p, 2, none⟩ (.slice q10 (withN x d.tick.files.length d.tick.now).length c10) = wD) := hwD
         replace hzD : Hid (wD.heap.size = w10.heap.size) := hzD
         replace tD : Hid _ := tD
         replace hwp : Hid _ := hwp
         clear tC tC' tD'
         have k3 : True := trivial)
      | (clear k3; rw [hwD.out]; at_builtin; refine wpList_append_at _ rfl _ _ 152 rfl n₀ 178 i3 (.agg #[.string ⟨#[]⟩, .string ⟨#[]⟩, .int .i64 0]) 3 40 Tryz.underlying152 hi3 hz30.out hz31.out hz32.out rfl (by decide) (.slice wq d.tick.works.length wc) d.tick.works.length (d.tick.works.flatMap encWR) rfl hwr.out ⟨w10.heap.size, 0, none⟩ 1 1 [.string ⟨#[]⟩, .string x, .int .i64 (d.tick.files.length : Nat)] rfl rfl hcn.out (one3 _ _ _) (by unfold maxLen; omega) (by omega) (by have := hzD.out; simp; omega) ?_
         intro v11 w11 ho11 hg11 hwh11
         obtain ⟨q11, c11, rfl⟩ := own_shape ho11
         have tE := (hg11.block p (by simp; omega) (fun e => hwp.out p (by rw [hwe.out]; exact e.symm) rfl)).trans ((Below.heap_alloc _ _ _ hpD).trans tD.out)
         have fE := free_of tE 4
         have tE' : w11.heap[p]? = some (.cells #[_, _, _, _, _, _, _, _] 154) := tE
         have r4 := (cells8 tE').2.2.2.2.1
         clear tE tE'))
    have hE := renamed_end hbo.out (⟨#[]⟩ : ByteArray) x (some d.tick.files.length) (w1 := w10) (w2 := wD.alloc (.cells #[.string ⟨#[]⟩, .string x, .int .i64 (d.tick.files.length : Nat)] 178)) (w3 := w11) (q := q10) (c := c10) (m := (withN x d.tick.files.length d.tick.now).length) (q' := q11) (c' := c11) hb10
      (h10.out.lower (Nat.le_trans hn4 hz6.out)) (fun g hg => .inr (World.ownsRow.lt h10.out g hg).1)
      (by rw [hwD.out]; exact (Below.refl w10.heap.size wD).alloc (Nat.le_of_eq hzD.out.symm) _)
      (by show World.grownBy _ _ r.wv.ownBlock; rw [hwe.out]; exact hg11) ho11
      (fun k hk => by
        show r.wv.ownBlock = some k ∨ _
        rw [hwe.out]
        rcases hwh11 k hk with h9 | h9
        · exact .inl h9
        · right
          have a1 := hb10.size; have a2 := hzD.out
          simp at h9; omega)
    obtain ⟨hE1, hE2, hE3, hE4⟩ := hE
    have hown : ∀ k, ownR p { r with fv := .slice q5 (d.tick.files.length + 1) c5, bv := upd r.bv d.tick.files.length (.slice none 0 0) } d.tick.born k → ownR p r d k ∨ w.heap.size ≤ k := fun k hk => (hboo.out k hk).imp id (fun h => by have := hC7.size; have := hz4.out; omega)
    have hGE := hGb.out.trans hE2 hown
    have hOE : ∀ k, ownR p _ (d.tick.born.renamed ⟨#[]⟩ x (some d.tick.files.length)) k → ownR p r d k ∨ w.heap.size ≤ k := fun k hk => (hE3 k hk).elim (hown k) (fun h => by have a1 := hC7.size; have a2 := hz4.out; have a3 := hz6.out; exact .inr (by omega))
    replace hE1 : Hid _ := hE1
    replace hGE : Hid _ := hGE
    replace hOE : Hid _ := hOE
    clear hE2 hE3 hE4 r4 fE hg11 hwh11 ho11 x2 x4 z4 fC
    have hBw : Hid (RLies (w11.setCell ⟨p, 4, none⟩ (.slice q11 (d.tick.works.length + 1) c11)) p n₀ { r with fv := .slice q5 (d.tick.files.length + 1) c5, bv := upd r.bv d.tick.files.length (.slice none 0 0), nv := .slice q10 (withN x d.tick.files.length d.tick.now).length c10, wv := .slice q11 (d.tick.works.length + 1) c11 } (d.tick.born.renamed ⟨#[]⟩ x (some d.tick.files.length))) := hE1.out
    obtain ⟨rB, hrB⟩ : ∃ rB : RRep, { r with fv := .slice q5 (d.tick.files.length + 1) c5, bv := upd r.bv d.tick.files.length (.slice none 0 0), nv := .slice q10 (withN x d.tick.files.length d.tick.now).length c10, wv := .slice q11 (d.tick.works.length + 1) c11 } = rB := ⟨_, rfl⟩
    obtain ⟨dB, hdB⟩ : ∃ dB : RD, (d.tick.born.renamed ⟨#[]⟩ x (some d.tick.files.length)) = dB := ⟨_, rfl⟩
    have hGB : Grown (ownR p r d) w (w11.setCell ⟨p, 4, none⟩ (.slice q11 (d.tick.works.length + 1) c11)) := hGE.out
    have hOB : ∀ k, ownR p rB dB k → ownR p r d k ∨ w.heap.size ≤ k := by rw [← hrB, ← hdB]; exact hOE.out
    have hixB : d.tick.files.length < dB.files.length := by rw [← hdB]; exact hixN.out
    have hlB : (fileD dB d.tick.files.length).b.length ≤ 16777216 := by rw [← hdB]; exact hHL.out
    rw [hrB, hdB] at hBw
    have hByB := hBy (w11.setCell ⟨p, 4, none⟩ (.slice q11 (d.tick.works.length + 1) c11)) hGB
    obtain ⟨wB, hwB⟩ : ∃ wB : World, (w11.setCell ⟨p, 4, none⟩ (.slice q11 (d.tick.works.length + 1) c11)) = wB := ⟨_, rfl⟩
    rw [hwB] at hBw hGB hByB ⊢
    obtain ⟨e0, e1, e2, e3, e4, e5, e6, e7⟩ := hBw.out.cells
    have hplB := (Array.getElem?_eq_some_iff.1 hBw.out.top).1
    obtain ⟨gB, capB, eB, hgB, bB0, bB1⟩ := hBw.out.fileCells hixB
    have hdB' := hBw.out.data d.tick.files.length hixB
    obtain ⟨bqB, bcB, hbeB⟩ := own_shape hdB'
    have hnB : n₀ ≤ wB.heap.size := Nat.le_trans hBw.out.base (Nat.le_of_lt hplB)
    rw [eB] at e1
    rw [hbeB] at bB0 hdB'
    have hilB : ((d.tick.files.length : Nat) : Int) < (dB.files.length : Int) := by omega
    have hneF : ∀ k, (Value.slice bqB (fileD dB d.tick.files.length).b.length bcB).ownBlock = some k → k ≠ gB ∧ k ≠ p := fun k hk => by
      have s1 := hBw.out.sB hixB (by rw [hbeB]; exact hk)
      exact ⟨fun e => by have s2 := hBw.out.sF (show rB.fv.ownBlock = some gB by rw [eB]; rfl); rw [e] at s1; omega, fun e => by have s2 := hBw.out.sP; rw [e] at s1; omega⟩
    have yB : ∀ W, wB.drew.grownBy W (Value.slice bqB (fileD dB d.tick.files.length).b.length bcB).ownBlock → W.cell? ⟨p, 1, none⟩ = some (.slice (some ⟨gB, 0, none⟩) dB.files.length capB) ∧ W.cell? ⟨gB, d.tick.files.length * 2, none⟩ = some (.slice bqB (fileD dB d.tick.files.length).b.length bcB) ∧ W.frozen? ⟨gB, d.tick.files.length * 2, none⟩ = false := fun W hW => by
      have a1 := hW.block p hplB (fun e => (hneF p e.symm).2 rfl)
      have a2 := hW.block gB hgB (fun e => (hneF gB e.symm).1 rfl)
      refine ⟨?_, ?_, ?_⟩
      · have := e1; unfold World.cell? at this ⊢; rw [a1]; exact this
      · have := bB0; unfold World.cell? at this ⊢; rw [a2]; exact this
      · have := free_row hBw.out.files eB (Below.refl _ _) (d.tick.files.length * 2); unfold World.frozen? at this ⊢; rw [a2]; exact this
    have hdD : wB.drew.ownsRow n₀ 5 1 (.slice bqB (fileD dB d.tick.files.length).b.length bcB) (fileD dB d.tick.files.length).b.length (encB (fileD dB d.tick.files.length).b) := hdB'.drew
    replace yB : Hid _ := yB
    replace hneF : Hid _ := hneF
    replace hdD : Hid (wB.drew.ownsRow n₀ 5 1 (.slice bqB (fileD dB d.tick.files.length).b.length bcB) (fileD dB d.tick.files.length).b.length (encB (fileD dB d.tick.files.length).b)) := hdD
    have hByD : BytesIn wB.drew (Value.slice vq l.length vc) l := hByB
    replace hByD : Hid (BytesIn wB.drew (Value.slice vq l.length vc) l) := hByD
    replace hByB : Hid _ := hByB
    replace eB : Hid _ := eB
    replace hbeB : Hid _ := hbeB
    replace hrB : Hid _ := hrB
    replace hdB : Hid _ := hdB
    replace hwB : Hid _ := hwB
    replace hGB : Hid _ := hGB
    replace hOB : Hid _ := hOB
    clear e0 e2 e3 e4 e5 e6 e7 bB1 hdB'
    go_region_law (refine step_append_bytes rfl (.tmp 84) (.tmp 85) rfl n₀ (.slice bqB (fileD dB d.tick.files.length).b.length bcB) (Value.slice vq l.length vc) (fileD dB d.tick.files.length).b l (by simp [Act.eval]) (by simp [Act.eval]) hdD.out hByD.out (by omega) hnB ?_; intro v9 w9 ho9 hg9 hwh9; obtain ⟨q9, c9, rfl⟩ := own_shape ho9; have k1 := (yB.out w9 hg9).1; have k2 := (yB.out w9 hg9).2.1; have k3 := (yB.out w9 hg9).2.2)
    all_goals
      go_wp2
      go_returns
      have hg9' : wB.grownBy w9 (rB.bv d.tick.files.length).ownBlock := by rw [hbeB.out]; exact ⟨hg9.os, hg9.tape, hg9.output, hg9.size, hg9.block⟩
      have hwh9' : ∀ k, (Value.slice q9 ((fileD dB d.tick.files.length).b ++ l).length c9).ownBlock = some k → (rB.bv d.tick.files.length).ownBlock = some k ∨ wB.heap.size ≤ k := fun k hk => by rw [hbeB.out]; exact hwh9 k hk
      have hrow9 : w9.ownsRow n₀ 175 2 rB.fv dB.files.length (encF rB.bv dB.files) := World.ownsRow.kept hBw.out.files hg9' (rows_ne hBw.out.files (hBw.out.data d.tick.files.length hixB) (by decide))
      have hrow9' := hrow9
      rw [eB.out] at hrow9'
      obtain ⟨hst, hgr⟩ := World.ownsRow.stored hrow9' (d.tick.files.length * 2) (.slice q9 ((fileD dB d.tick.files.length).b ++ l).length c9)
      have hea := encF_at rB.bv dB.files hixB
      have hse := hBw.out.setF hixB (w' := w9.setCell ⟨gB, d.tick.files.length * 2, none⟩ (.slice q9 ((fileD dB d.tick.files.length).b ++ l).length c9)) (x := .slice q9 ((fileD dB d.tick.files.length).b ++ l).length c9) (f := ⟨(fileD dB d.tick.files.length).b ++ l, (fileD dB d.tick.files.length).mark⟩)
        (by rw [set_same (k := d.tick.files.length * 2 + 1) (by rw [List.getElem?_set_ne (by omega)]; exact hea.2), eB.out]; exact hst)
        (World.ownsRow.kept ho9 hgr (rows_ne ho9 hrow9' (by decide))) hwh9'
        (fun k hk h1 h2 => (hgr.block k (Nat.lt_of_lt_of_le hk hg9.size) (fun e2 => h1 (by rw [eB.out, e2]; rfl))).trans (hg9'.block k hk (fun e2 => h2 e2.symm)))
      have hll9 : ((fileD dB d.tick.files.length).b ++ l).length = (fileD dB d.tick.files.length).b.length + l.length := List.length_append
      rw [hll9] at hse
      rw [hdB.out]
      refine ⟨rfl, .of (d' := dB.grow d.tick.files.length l) hse.1 ?_ ?_⟩
      · exact (hGB.out.trans (T := fun k => (rB.bv d.tick.files.length).ownBlock = some k) (Grown.of_grownBy hg9' (fun k hk => .inl hk)) (fun x hx => hOB.out x (.inr (.inr (.inl ⟨d.tick.files.length, hixB, hx⟩))))).setCell (p := ⟨gB, d.tick.files.length * 2, none⟩) (hOB.out gB (.inr (.inl (by rw [eB.out]; rfl)))) _
      · intro k hk
        rcases hse.2 k hk with h1 | h1
        · exact hOB.out k h1
        · exact .inr (Nat.le_trans hGB.out.size h1)
end Go.Proofs.YtmcmagplaflegaaGreat
