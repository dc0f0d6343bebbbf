/-
  THE LIBRARY's SORT BY A COMPARISON, AND ITS KIN, LAID AT THIS DUMP: the kit's contracts in this dump's numbers. Conditions: those of each theorem.
  THE FILES OF A MAP OF NAMES, collected in some order: maps.Values, slices.Collect. Conditions: those of each theorem.
  FILES, SORTED BY BIRTH: the comparison, and slices.SortedFunc. Conditions: those of each theorem.
  Crash. Conditions: those of each theorem.
-/
import Derived.Test.YtmcmagplaflegaaGreatX1
import Derived.Shelf.SlSortCmp.NoneTotal
import Derived.RangeFuncNested
import Derived.RangeFuncBound
import Derived.RangeFuncCalls
import Derived.RangeFuncLeaves
import Derived.RangeFuncWrites
import Derived.RangeFuncBox
import Derived.OwnWalkIn
import Derived.TacticsInMore
import Derived.LoopNIn
import Derived.LoopIn

namespace Go.Proofs.YtmcmagplaflegaaGreat
open Go Go.Shelf

def sortL_ren : Go.Shelf.Ren := ⟨fun | 6 => 93 | 15 => 132 | 14 => 131 | 28 => 154 | 29 => 155 | 20 => 146 | 21 => 147 | 22 => 148 | 23 => 149 | 24 => 150 | 25 => 151 | 26 => 152 | 27 => 153 | 46 => 166 | 47 => 167 | 48 => 168 | 49 => 169 | 50 => 170 | 57 => 175 | n => n, fun | 22 => 78 | 24 => 70 | 25 => 83 | 3 => 3 | 39 => 93 | 0 => 0 | 53 => 62 | 55 => 117 | 4 => 4 | 46 => 185 | 45 => 184 | 50 => 189 | 5 => 5 | 9 => 9 | 66 => 199 | 70 => 203 | 76 => 207 | 77 => 208 | n => n, fun | n => n⟩
theorem sortL : Go.Proofs.SlLaysF.n6 Tryz.prog sortL_ren := {
  mixed := by kernel_rfl
  f6 := ⟨Tryz.f93.name, by decide, Tryz.func93.trans (congrArg some (by kernel_rfl))⟩
  f14 := ⟨Tryz.f131.name, by decide, Tryz.func131.trans (congrArg some (by kernel_rfl))⟩
  f15 := Tryz.func132.trans (congrArg some (by kernel_rfl))
  f20 := ⟨Tryz.f146.name, by decide, Tryz.func146.trans (congrArg some (by kernel_rfl))⟩
  f21 := ⟨Tryz.f147.name, by decide, Tryz.func147.trans (congrArg some (by kernel_rfl))⟩
  f22 := ⟨Tryz.f148.name, by decide, Tryz.func148.trans (congrArg some (by kernel_rfl))⟩
  f23 := ⟨Tryz.f149.name, by decide, Tryz.func149.trans (congrArg some (by kernel_rfl))⟩
  f24 := ⟨Tryz.f150.name, by decide, Tryz.func150.trans (congrArg some (by kernel_rfl))⟩
  f25 := ⟨Tryz.f151.name, by decide, Tryz.func151.trans (congrArg some (by kernel_rfl))⟩
  f26 := ⟨Tryz.f152.name, by decide, Tryz.func152.trans (congrArg some (by kernel_rfl))⟩
  f27 := ⟨Tryz.f153.name, by decide, Tryz.func153.trans (congrArg some (by kernel_rfl))⟩
  f28 := Tryz.func154.trans (congrArg some (by kernel_rfl))
  f29 := Tryz.func155.trans (congrArg some (by kernel_rfl))
  f46 := ⟨Tryz.f166.name, by decide, Tryz.func166.trans (congrArg some (by kernel_rfl))⟩
  f47 := Tryz.func167.trans (congrArg some (by kernel_rfl))
  f48 := Tryz.func168.trans (congrArg some (by kernel_rfl))
  f49 := ⟨Tryz.f169.name, by decide, Tryz.func169.trans (congrArg some (by kernel_rfl))⟩
  f50 := ⟨Tryz.f170.name, by decide, Tryz.func170.trans (congrArg some (by kernel_rfl))⟩
  f57 := ⟨Tryz.f175.name, by decide, Tryz.func175.trans (congrArg some (by kernel_rfl))⟩
  t0 := Tryz.underlying0
  a0 := Tryz.isAgg0
  z0 := Tryz.sizeOf0
  v0 := Tryz.zeroValue0
  t3 := Tryz.underlying3
  a3 := Tryz.isAgg3
  z3 := Tryz.sizeOf3
  v3 := Tryz.zeroValue3
  t4 := Tryz.underlying4
  a4 := Tryz.isAgg4
  z4 := Tryz.sizeOf4
  v4 := Tryz.zeroValue4
  t5 := Tryz.underlying5
  a5 := Tryz.isAgg5
  z5 := Tryz.sizeOf5
  v5 := Tryz.zeroValue5
  t9 := Tryz.underlying9
  a9 := Tryz.isAgg9
  z9 := Tryz.sizeOf9
  v9 := Tryz.zeroValue9
  t22 := Tryz.underlying78
  a22 := Tryz.isAgg78
  z22 := Tryz.sizeOf78
  v22 := Tryz.zeroValue78
  a24 := Tryz.isAgg70
  z24 := Tryz.sizeOf70
  t25 := Tryz.underlying83
  a25 := Tryz.isAgg83
  z25 := Tryz.sizeOf83
  v25 := Tryz.zeroValue83
  t39 := Tryz.underlying93
  a39 := Tryz.isAgg93
  z39 := Tryz.sizeOf93
  v39 := Tryz.zeroValue93
  t45 := Tryz.underlying184
  a45 := Tryz.isAgg184
  z45 := Tryz.sizeOf184
  v45 := Tryz.zeroValue184
  t46 := Tryz.underlying185
  a46 := Tryz.isAgg185
  z46 := Tryz.sizeOf185
  v46 := Tryz.zeroValue185
  t50 := Tryz.underlying189
  a50 := Tryz.isAgg189
  z50 := Tryz.sizeOf189
  v50 := Tryz.zeroValue189
  t53 := Tryz.underlying62
  a53 := Tryz.isAgg62
  z53 := Tryz.sizeOf62
  v53 := Tryz.zeroValue62
  t55 := Tryz.underlying117
  a55 := Tryz.isAgg117
  z55 := Tryz.sizeOf117
  v55 := Tryz.zeroValue117
  t66 := Tryz.underlying199
  a66 := Tryz.isAgg199
  z66 := Tryz.sizeOf199
  v66 := Tryz.zeroValue199
  t70 := Tryz.underlying203
  a70 := Tryz.isAgg203
  z70 := Tryz.sizeOf203
  v70 := Tryz.zeroValue203
  t76 := Tryz.underlying207
  a76 := Tryz.isAgg207
  z76 := Tryz.sizeOf207
  v76 := Tryz.zeroValue207
  t77 := Tryz.underlying208
  a77 := Tryz.isAgg208
  z77 := Tryz.sizeOf208
  v77 := Tryz.zeroValue208 }

end Go.Proofs.YtmcmagplaflegaaGreat

namespace Go.Proofs.YtmcmagplaflegaaGreat
open Go Go.RowKit Go.MapL Go.Shelf
attribute [local go_sem] Oper.semAt_some

theorem rangeAt_walks {α β : Type} [DecidableEq α] {mk : α → Value} {mv : β → Value} {w w' : World} {r b : Nat} {l todo : List (α × β)} (h : RangeAt mk mv w r b l todo) (hk : KeepsWalks w w') : RangeAt mk mv w' r b l todo := by
  obtain ⟨h0, es, clock, since, seen, c0, h1, h2, h3, h4, h5, h6, h7⟩ := h
  exact ⟨h0, es, clock, since, seen, c0, hk.same _ _ h1 rfl, h2, h3, h4, h5, hk.same _ _ h6 rfl, h7⟩
theorem rangeAt_iter {α β : Type} [DecidableEq α] {mk : α → Value} {mv : β → Value} {w : World} {r b : Nat} {l todo : List (α × β)} (h : RangeAt mk mv w r b l todo) : ∃ o : Obj, w.heap[r]? = some o ∧ o.isWalk = true := by
  obtain ⟨h0, es, clock, since, seen, c0, h1, h2, h3, h4, h5, h6, h7⟩ := h
  exact ⟨_, h6, rfl⟩

set_option maxRecDepth 100000 in
set_option maxHeartbeats 2000000 in
theorem values1_in (l Bm b : Nat) (L : List (ByteArray × Nat)) (J Jx : List Nat → World → Prop)
    (hY : ∀ pre (x : Nat) W, J pre W → pre.length < L.length → YieldAt Fence.wide 1 Tryz.prog l #[ofBlock x] W fun e W' => (e = .returned (.bool true) ∧ J (pre ++ [x]) W' ∧ KeepsWalks W W') ∨ (e = .returned (.bool false) ∧ Jx (pre ++ [x]) W'))
    (W : World) (hJ : AbidesFrom W.heap.size J) (hm : W.cell? ⟨Bm, 0, none⟩ = some (.map (some b))) (hown : MapAt ofText ofBlock W b L) (h0 : J [] W) :
    CallsIn Fence.wide 2 Tryz.prog 94 #[.func (.yield l) #[] #[], .pointer (some ⟨Bm, 0, none⟩)] W fun e W' => (∃ v, e = .returned v) ∧ ((∃ xs, xs.Perm (L.map (·.2)) ∧ J xs W') ∨ (∃ pre, True ∧ Jx pre W')) := by
  refine callsIn_of_wp Tryz.func94 rfl trivial ?_ rfl
  simp only [Tryz.ntmps94, List.size_toArray, List.length_cons, List.length_nil, Nat.reduceAdd, Nat.reduceSub, Array.replicate_succ, Array.replicate_zero, List.push_toArray, List.append_toArray, List.nil_append, List.cons_append]
  gi_wp2_with (first
    | (gi_at_range; refine wpListIn_range_map _ rfl _ 41 rfl 9 70 Tryz.underlying41 b L rfl hown ?_; intro w0 hrg0 hg0 hs0)
    | gi_in)
  go_frame
  gi_loopw [4] (fun _ wr => ∃ todo done, RangeAt ofText ofBlock wr W.heap.size b L todo ∧ (done ++ todo).Perm L ∧ J (done.map (·.2)) wr) (fun _ wr => wr.rangeLeft b W.heap.size)
  case atStart =>
    exact ⟨_, [], hrg0, by simp, hJ [] W w0 none h0 hg0 (fun r e => by cases e)⟩
  case round =>
    obtain ⟨todo, done, hrg, hperm, hJs⟩ := hrel
    gi_wp2_with (first
      | (gi_at_next; refine wpListIn_next_map _ rfl _ rfl W.heap.size b L todo rfl hrg ?_ ?_)
      | gi_in)
    · intro h0
      subst h0
      gi_wp2
      go_end0
      exact ⟨⟨_, rfl⟩, .inl ⟨_, by rw [List.append_nil] at hperm; exact hperm.map _, hJs⟩⟩
    · intro x y todo' w2 hp hrg2 hg2 hs2 hen
      have hJ2 : J (done.map (·.2)) w2 := hJ _ wr w2 (some W.heap.size) hJs hg2 (fun r e => by cases e; exact ⟨Nat.le_refl _, rangeAt_iter hrg⟩)
      have hlen := hperm.length_eq
      have hlen2 := hp.length_eq
      obtain ⟨fn, tmps, assign, body, hy, hR⟩ := hY (done.map (·.2)) y w2 hJ2 (by simp at hlen hlen2 ⊢; omega)
      clear hs2 hlen hlen2
      simp only [ofBlock] at hen hy ⊢
      gi_wp2
      refine hR.mono ?_
      rintro e W3 (⟨rfl, hJ3, hk3⟩ | ⟨rfl, hJx3⟩)
      · gi_wp2
        have hrg3 := rangeAt_walks hrg2 hk3
        go_roundw
        case rel => exact ⟨todo', done ++ [(x, y)], hrg3, by refine List.Perm.trans ?_ hperm; rw [List.append_assoc]; exact (hp.symm.append_left done), by rw [List.map_append]; exact hJ3⟩
        case measure => rw [hrg3.left_eq, hrg.left_eq, hp.length_eq]; simp
      · gi_wp2
        refine bodyPost_ret (results_none rfl _ _ _) rfl ?_
        exact ⟨⟨_, rfl⟩, .inr ⟨_, trivial, hJx3⟩⟩

theorem values_stops (Bm b : Nat) (L : List (ByteArray × Nat)) (w : World) (hBm : Bm < w.heap.size) (hm : w.cell? ⟨Bm, 0, none⟩ = some (.map (some b))) (hown : MapAt ofText ofBlock w b L) :
    SeqStopsK Fence.wide 2 Tryz.prog 94 #[.pointer (some ⟨Bm, 0, none⟩)] (fun x : Nat => #[ofBlock x]) KeepsWalks (fun xs => xs.Perm (L.map (·.2))) (fun _ => True) L.length w :=
  fun l J Jx W hW hJ _ hY h0 => values1_in l Bm b L J Jx hY W hJ ((hW.cell (p := ⟨Bm, 0, none⟩) hBm).trans hm) (hown.same (hW.block b hown.lt)) h0
/-- The range over an iterator, where the activation that the assignment leaves is found by the walk. -/
theorem range_found {F : Fence} {n : Nat} {P : Program} {α : Type} {g : Operand} {ps : Array Tmp} {assign body : Code} {Q : Exit → Act → World → Prop} {a : Act} {w : World}
    (hro : F.round = none) (h1 : 1 ≤ n) {gf : Nat} {lb : Array Value} (hg : a.eval g = .func (.func gf) #[] lb) (hFg : F.fn gf) (eg : ∀ args w, (callFunc gf args).run P w = .ok (.enter gf args) w)
    {encs : α → Array Value} {Kp : World → World → Prop} {S Sp : List α → Prop} {N : Nat} {w0 : World} (hseq : SeqStopsK F (n - 1) P gf lb encs Kp S Sp N w0)
    (hKt : ∀ {A B C : World}, Kp A B → Kp B C → Kp A C) (hKb : ∀ (W : World) (l : Nat) (o o' : Obj), w.heap.size ≤ l → W.heap[l]? = some o → o.isCells = false → o.isWalk = false → Kp W (W.putObj l o')) (hb0 : Below w0.heap.size w0 w) (hps : ∀ x, (encs x).size = ps.size)
    (I : List α → World → Prop) (Ix : Code → List α → World → Prop) (hI : OwnFrom w.heap.size I) (hIx : ∀ c, OwnFrom w.heap.size (Ix c)) (h0 : I [] w)
    (h : ∃ a₁ : α → Act, (∀ (l : Nat) (x : α) (W : World) (K : Act → World → Prop), K (a₁ x) W →
        assign.wpIn (F.inRound l) (n - 1 - 1) P (Exit.then K (fun _ _ _ => False)) { tmps := (ps.zip (encs x)).foldl (fun t (p, v) => t.setIfInBounds p v) a.tmps, defers := [] } W) ∧
      (∀ (l : Nat) (pre : List α) (x : α) (W : World), I pre W → pre.length < N → body.wpIn (F.inRound l) (n - 1 - 1) P (ownPostG w.heap.size Kp I Ix (pre ++ [x]) W) (a₁ x) W) ∧
      (∀ (D : Nat) (xs : List α) (W : World), w.heap.size ≤ D → S xs → I xs W → W.heap[D]? = some (.deferred (some [])) → Q .normal { a with defers := { target := .collected D, args := #[] } :: a.defers } W) ∧
      ∀ (D : Nat) (c : Code) (pre : List α) (W : World), w.heap.size ≤ D → Sp pre → Ix c pre W → W.heap[D]? = some (.deferred (some [])) → c.wpIn F n P Q { a with defers := { target := .collected D, args := #[] } :: a.defers } W) :
    (Code.rangeFunc g ps assign body).wpIn F n P Q a w :=
  let ⟨a₁, ha, hb, hd, hs⟩ := h
  wpIn_rangeFunc_ownG hro h1 hg hFg eg hseq hKt hKb hb0 hps I Ix hI hIx h0 a₁ ha hb hd hs
theorem boxed_own {β : Type} (B : Nat) (t : TypeId) (v : β → Value) : Own (fun s W => Boxed W B t (v s)) := by
  intro s X Y row hv hg hrow
  refine hv.kept hg (fun e' => ?_)
  obtain ⟨o, ho, hc⟩ := hrow B e'.symm
  rw [show X.heap[B]? = _ from hv] at ho; cases ho; cases hc
theorem row_own {β : Type} (n₀ : Nat) (e : TypeId) (size : Nat) (v : Value) (k : Nat) (xs : List Value) : Own (fun (_ : β) W => W.ownsRow n₀ e size v k xs) := by
  rintro s X Y row hr hg hrow
  refine hr.kept hg ?_
  rcases hr.2 with ⟨rfl, _⟩ | ⟨g, cap, cur, rfl, _, hgb, _⟩
  · exact .inl rfl
  · refine .inr fun e' => ?_
    obtain ⟨o, ho, hc⟩ := hrow g (by simpa [Value.ownBlock] using e'.symm)
    rw [hgb] at ho; cases ho; cases hc
theorem own_pure {β : Type} (p : β → Prop) : Own (fun s (_ : World) => p s) := fun _ _ _ _ h _ _ => h
theorem own_and {β : Type} {I J : β → World → Prop} (h : Own I) (k : Own J) : Own (fun s W => I s W ∧ J s W) := fun s X Y row hs hg hr => ⟨h s X Y row hs.1 hg hr, k s X Y row hs.2 hg hr⟩


theorem boxed_same {W W' : World} {B : Nat} {t : TypeId} {v : Value} (h : Boxed W B t v) (hb : W'.heap[B]? = W.heap[B]?) : Boxed W' B t v := hb.trans h
theorem info70 : (Tryz.prog.info? 70).map (fun i => (i.zero, i.size, i.bytes)) = some (some (.pointer none), 1, 8) := by kernel_rfl

set_option maxRecDepth 100000 in
set_option maxHeartbeats 2000000 in
theorem collectV_any (Bm b : Nat) (L : List (ByteArray × Nat)) (w : World) (hm : w.cell? ⟨Bm, 0, none⟩ = some (.map (some b))) (hown : MapAt ofText ofBlock w b L) (hlen : L.length ≤ 1099511627776) :
    Calls Tryz.prog 130 #[.slice none 0 0, .func (.func 94) #[] #[.pointer (some ⟨Bm, 0, none⟩)]] w fun e W' => ∃ (v : Value) (xs : List Nat), e = .returned v ∧ xs.Perm (L.map (·.2)) ∧ W'.ownsRow w.heap.size 70 1 v xs.length (xs.map ofBlock) ∧ Below w.heap.size w W' := by
  obtain ⟨i0, hi, hz0, hz1, hz2⟩ := info_parts info70
  have hBm := lt_of_cell hm
  refine (callsIn_wide (n := 3)).1 ?_
  refine callsIn_of_wp_marks Tryz.func130 rfl trivial ?_ rfl
  simp only [Tryz.ntmps130, List.size_toArray, List.length_cons, List.length_nil, Nat.reduceAdd, Nat.reduceSub, Array.replicate_succ, Array.replicate_zero, List.push_toArray, List.append_toArray, List.nil_append, List.cons_append]
  obtain ⟨W0, hW0⟩ : ∃ W0 : World, w.alloc (.cells #[.slice none 0 0] 78) = W0 := ⟨_, rfl⟩
  have hz : W0.heap.size = w.heap.size + 1 := by rw [← hW0]; simp
  have hb : Below w.heap.size w W0 := by rw [← hW0]; exact (Below.refl _ w).alloc (Nat.le_refl _) _
  have bO : Boxed W0 w.heap.size 78 (.slice none 0 0) := by rw [← hW0]; exact Boxed.new w 78 (.slice none 0 0)
  have hm0 := (hb.cell (p := ⟨Bm, 0, none⟩) hBm).trans hm
  have hown0 := hown.same (hb.block b hown.lt)
  replace hz : Hid (W0.heap.size = w.heap.size + 1) := hz
  gi_wp2
  clear hW0
  refine range_found rfl (by omega) (gf := 94) (lb := #[.pointer (some ⟨Bm, 0, none⟩)]) rfl trivial (enters_of Tryz.func94 (by kernel_rfl) rfl)
    (values_stops Bm b L W0 (by have := hb.size; omega) hm0 hown0) walksK_t walksK_b (Below.refl _ _) (fun _ => rfl)
    (fun pre W => (∃ v, Boxed W w.heap.size 78 v ∧ W.ownsRow w.heap.size 70 1 v pre.length (pre.map ofBlock) ∧ True) ∧ Below w.heap.size w W)
    (fun _ _ _ => False)
    (OwnFrom.and (Own.from (holdsRow_own w.heap.size w.heap.size 78 70 1 (fun pre : List Nat => pre.length) (fun pre : List Nat => pre.map ofBlock) (fun _ _ => True)) _) (ownFrom_below (Nat.le_refl _) (by have := hz.out; omega)))
    (fun _ _ _ _ _ hs _ _ => hs)
    ⟨⟨_, bO, World.ownsRow_nil _ _ _ _, trivial⟩, hb⟩ ?_
  apply Exists.intro
  refine ⟨?assign, ?body, ?done, ?stop⟩
  case assign =>
    intro l x W K hK
    gi_wp2
    exact hK
  case body =>
    rintro l pre x W ⟨⟨v, hv, hrow, _⟩, hB⟩ hlt
    have hc := hv.cell
    have hzz := hz.out
    simp only [ofBlock]
    gi_wp2_with (gi_at_builtin; refine wpListIn_append_own _ rfl _ _ 78 rfl w.heap.size 70 i0 (.pointer none) 1 8 Tryz.underlying78 hi hz0 hz1 hz2 rfl (by decide) _ _ _ rfl (hrow.alloc _) ⟨W.heap.size, 0, none⟩ 1 1 [ofBlock x] rfl rfl (cell_one_new _ _ _) (by simp [ofBlock, Value.oneCell']) (by unfold maxLen; omega) (by omega) (by have := hB.size; simp; omega) ?_; intro v' w1 hown' hgrow _; obtain ⟨g', cap', rfl⟩ := ownsRow_succ hown'; obtain ⟨hv1, hv2, hr2, hk2, hb2⟩ := hv.appended (by decide) hrow hB.size (by omega) hown' hgrow; have hc1 := hv1.cell; have hf1 := hv1.frozen)
    exact ⟨hk2.from _, hk2.walks, ⟨_, hv2, by simpa using hr2, trivial⟩, hB.trans hb2⟩
  case done =>
    rintro D ys W hD hperm ⟨⟨v, hv, hrow, _⟩, hB⟩ hK
    have hc := hv.cell
    gi_wp2
    refine ⟨by simp, .inl ⟨_, _, rfl, run_takeDeferred hK, ?_⟩⟩
    exact ⟨_, results_tmp rfl _ _ _, v, ys, rfl, hperm, ownsRow_putObj hrow _ hK rfl, hB.trans (belowK_b (w := w) (Nat.le_refl _) W D _ _ (by have := hz.out; omega) hK rfl rfl)⟩
  case stop =>
    rintro D c pre W _ _ h _
    exact h.elim

set_option maxRecDepth 100000 in
theorem collect_any (Bm b : Nat) (L : List (ByteArray × Nat)) (w : World) (hm : w.cell? ⟨Bm, 0, none⟩ = some (.map (some b))) (hown : MapAt ofText ofBlock w b L) (hlen : L.length ≤ 1099511627776) :
    Calls Tryz.prog 92 #[.func (.func 94) #[] #[.pointer (some ⟨Bm, 0, none⟩)]] w fun e W' => ∃ (v : Value) (xs : List Nat), e = .returned v ∧ xs.Perm (L.map (·.2)) ∧ W'.ownsRow w.heap.size 70 1 v xs.length (xs.map ofBlock) ∧ Below w.heap.size w W' := by
  have hc := collectV_any Bm b L w hm hown hlen
  go_enter Tryz.func92, Tryz.ntmps92
  go_wp2_with (go_at_call 130; refine hc.mono ?_; rintro e w' ⟨v, xs, rfl, hp, hrow, hb⟩)
  go_returns
  exact ⟨_, _, rfl, hp, hrow, hb⟩

set_option maxRecDepth 100000 in
theorem values_any (b : Nat) (w : World) :
    Calls Tryz.prog 45 #[.map (some b)] w fun e w' => e = .returned (.func (.func 94) #[] #[.pointer (some ⟨w.heap.size, 0, none⟩)]) ∧ w' = w.alloc (.cells #[.map (some b)] 41) := by
  go_enter Tryz.func45, Tryz.ntmps45
  go_wp2
  go_returns
  exact ⟨rfl, rfl⟩
end Go.Proofs.YtmcmagplaflegaaGreat

namespace Go.Proofs.YtmcmagplaflegaaGreat
open Go Go.RowKit Go.MapL Go.Shelf Go.Poised Go.Sort

set_option maxRecDepth 100000 in
theorem isNaN_any (x : Int) (w : World) : Calls Tryz.prog 95 #[.int .i64 x] w fun e w' => e = .returned (.bool false) ∧ w' = w := by
  go_enter Tryz.func95, Tryz.ntmps95
  go_wp2
  go_returns
  exact ⟨rfl, rfl⟩

def cmpI (x y : Int) : Int := if x < y then -1 else if y < x then 1 else 0
set_option maxRecDepth 100000 in
theorem compare_any (x y : Int) (w : World) : Calls Tryz.prog 47 #[.int .i64 x, .int .i64 y] w fun e w' => e = .returned (.int .i64 (cmpI x y)) ∧ w' = w := by
  have hn := fun x => isNaN_any x w
  unfold cmpI
  by_cases h1 : x < y
  · have g1 : decide (x < y) = true := by simpa using h1
    rw [if_pos h1]
    go_enter Tryz.func47, Tryz.ntmps47
    go_wp2_with (go_at_call 95; refine (hn _).mono ?_; rintro e w' ⟨rfl, hw⟩; obtain rfl := hw.symm)
    go_returns
    exact ⟨rfl, rfl⟩
  · have g1 : decide (x < y) = false := by simpa using h1
    rw [if_neg h1]
    by_cases h2 : y < x
    · have g2 : decide (y < x) = true := by simpa using h2
      rw [if_pos h2]
      go_enter Tryz.func47, Tryz.ntmps47
      go_wp2_with (go_at_call 95; refine (hn _).mono ?_; rintro e w' ⟨rfl, hw⟩; obtain rfl := hw.symm)
      go_returns
      exact ⟨rfl, rfl⟩
    · have g2 : decide (y < x) = false := by simpa using h2
      rw [if_neg h2]
      go_enter Tryz.func47, Tryz.ntmps47
      go_wp2_with (go_at_call 95; refine (hn _).mono ?_; rintro e w' ⟨rfl, hw⟩; obtain rfl := hw.symm)
      go_returns
      exact ⟨rfl, rfl⟩

theorem drew_call {P : Program} {f : FuncId} {args : Array Value} {w : World} {v : Value} (h : Calls P f args w fun e w' => e = .returned v ∧ w' = w) :
    Calls P f args w fun e w' => e = .returned v ∧ ∃ q, w' = w.drewN q := h.mono fun _ _ ⟨he, hw⟩ => ⟨he, 0, hw⟩

set_option maxRecDepth 100000 in
set_option maxHeartbeats 2000000 in
theorem closure_any (a b : Nat) (i j : Nat) (bi bj : Value) (mi mj : Nat) (W : World) (ha : W.heap[a]? = some (fileAt i bi mi)) (hb : W.heap[b]? = some (fileAt j bj mj)) :
    Calls Tryz.prog 46 #[ofBlock a, ofBlock b] W fun e w' => e = .returned (.int .i64 (cmpI i j)) ∧ ∃ q, w' = W.drewN q := by
  have hcmp := fun w => compare_any i j w
  obtain ⟨c, hc⟩ : ∃ c, cmpI i j = c := ⟨_, rfl⟩
  rw [hc]
  simp only [hc] at hcmp
  clear hc
  have fa : ∀ q, (W.drewN q).heap[a]? = some (fileAt i bi mi) := fun _ => ha
  have fb : ∀ q, (W.drewN q).heap[b]? = some (fileAt j bj mj) := fun _ => hb
  unfold ofBlock
  go_enter Tryz.func46, Tryz.ntmps46
  go_wp2_with fail
  refine poised_whole (fun w' => ∃ q, w' = W.drewN q) (fun w1 w2 => ∃ q, w2 = w1.drewN q) (by kernel_rfl) (by kernel_rfl) (by kernel_rfl) (fun _ _ h k => by obtain ⟨q, rfl⟩ := h; obtain ⟨q', rfl⟩ := k; exact ⟨q + q', by simp [World.drewN, Nat.add_assoc]⟩) ⟨1, rfl⟩ ?_
  apply Exists.intro
  apply walk_det
  · rfl
  · intro w2 hC hF
    simp only [upon]
    go_simp
    exact ⟨⟨0, rfl⟩, rfl⟩
  simp only [put_lit, List.set_cons_succ, List.set_cons_zero]
  apply walk_det
  · rfl
  · intro w2 hC hF
    simp only [upon]
    go_simp
    exact ⟨⟨0, rfl⟩, rfl⟩
  simp only [put_lit, List.set_cons_succ, List.set_cons_zero]
  apply walk_det
  · rfl
  · intro w2 hC hF
    simp only [upon]
    go_simp
    exact ⟨⟨0, rfl⟩, rfl⟩
  simp only [put_lit, List.set_cons_succ, List.set_cons_zero]
  apply walk_det
  · rfl
  · intro w2 hC hF
    obtain ⟨q, rfl⟩ := hC
    obtain ⟨a0, a1, a2⟩ := cells3 (fa q)
    obtain ⟨b0, b1, b2⟩ := cells3 (fb q)
    simp only [upon]
    go_simp
    exact ⟨⟨0, rfl⟩, rfl⟩
  simp only [put_lit, List.set_cons_succ, List.set_cons_zero]
  apply walk_det
  · rfl
  · intro w2 hC hF
    simp only [upon]
    go_simp
    exact ⟨⟨0, rfl⟩, rfl⟩
  simp only [put_lit, List.set_cons_succ, List.set_cons_zero]
  apply walk_det
  · rfl
  · intro w2 hC hF
    simp only [upon]
    go_simp
    exact ⟨⟨0, rfl⟩, rfl⟩
  simp only [put_lit, List.set_cons_succ, List.set_cons_zero]
  apply walk_det
  · rfl
  · intro w2 hC hF
    simp only [upon]
    go_simp
    exact ⟨⟨0, rfl⟩, rfl⟩
  simp only [put_lit, List.set_cons_succ, List.set_cons_zero]
  apply walk_det
  · rfl
  · intro w2 hC hF
    obtain ⟨q, rfl⟩ := hC
    obtain ⟨a0, a1, a2⟩ := cells3 (fa q)
    obtain ⟨b0, b1, b2⟩ := cells3 (fb q)
    simp only [upon]
    go_simp
    exact ⟨⟨0, rfl⟩, rfl⟩
  simp only [put_lit, List.set_cons_succ, List.set_cons_zero]
  apply walk_det
  · rfl
  · intro w2 hC hF
    obtain ⟨q, rfl⟩ := hC
    obtain ⟨a0, a1, a2⟩ := cells3 (fa q)
    obtain ⟨b0, b1, b2⟩ := cells3 (fb q)
    simp only [upon]
    go_simp
    exact (hcmp _).mono (fun _ _ h => ⟨h.1, 0, h.2⟩)
  simp only [put_lit, List.set_cons_succ, List.set_cons_zero]
  apply walk_det
  · rfl
  · intro w2 hC hF
    simp only [upon]
    go_simp
    exact ⟨⟨0, rfl⟩, rfl⟩
  simp only [put_lit, List.set_cons_succ, List.set_cons_zero]
  apply walk_nil
  intro w2 hC _
  go_wp2
  go_returns
  exact ⟨rfl, hC⟩

/-- The births, rising. -/
def rising (l : List Nat) : List Nat := l.mergeSort (fun x y => decide (x ≤ y))
theorem rising_perm (l : List Nat) : (rising l).Perm l := List.mergeSort_perm _ _
theorem rising_of_perm {l m : List Nat} (h : l.Perm m) : rising l = rising m := by
  have hp : ∀ l : List Nat, List.Pairwise (fun a b => decide (a ≤ b) = true) (rising l) := fun l => List.pairwise_mergeSort (fun a b c h1 h2 => by simp at *; omega) (fun a b => by simp; omega) l
  refine List.Perm.eq_of_pairwise (le := fun a b => decide (a ≤ b) = true) (fun a b _ _ h1 h2 => by simp at *; omega) (hp l) (hp m) ?_
  exact ((rising_perm l).trans h).trans (rising_perm m).symm

/-- A file's birth. -/
abbrev Birth (s : DS) := { i : Nat // 1 ≤ i ∧ i ≤ s.births }
def cmpB (s : DS) (x y : Birth s) : Int := cmpI (x.1 : Nat) (y.1 : Nat)
theorem ltB (s : DS) (x y : Birth s) : ltOf (cmpB s) x y = decide (x.1 < y.1) := by
  unfold ltOf cmpB cmpI
  by_cases h1 : x.1 < y.1
  · have : ((x.1 : Nat) : Int) < (y.1 : Nat) := by omega
    simp [this, h1]
  · have h2 : ¬ ((x.1 : Nat) : Int) < (y.1 : Nat) := by omega
    by_cases h3 : ((y.1 : Nat) : Int) < (x.1 : Nat)
    · simp [h1, h2, h3]
    · simp [h1, h2, h3]
theorem swoB (s : DS) : SWO (ltOf (cmpB s)) := {
  irrefl := fun x => by rw [ltB]; simp
  trans := fun x y z h1 h2 => by rw [ltB] at *; simp at *; omega
  ntrans := fun x y z h1 h2 => by rw [ltB] at *; simp at *; omega }
theorem totB (s : DS) (x y : Birth s) (h1 : ltOf (cmpB s) x y = false) (h2 : ltOf (cmpB s) y x = false) : x = y := by
  rw [ltB] at *
  simp at *
  exact Subtype.ext (by omega)
theorem geB (s : DS) : (fun x y : Birth s => !ltOf (cmpB s) y x) = fun x y => decide (x.1 ≤ y.1) := by
  funext x y
  rw [ltB]
  by_cases h : x.1 ≤ y.1
  · have h' : ¬ y.1 < x.1 := by omega
    simp [h, h']
  · have h' : y.1 < x.1 := by omega
    simp [h, h']

theorem heap_sortWorld {α : Type} [Inhabited α] (enc : α → Value) (w : World) (blk off m : Nat) (dk : Array α) (os : Array Obj) (k : Nat) (hk : k < w.heap.size) (hne : k ≠ blk) : (sortWorld enc w blk off m dk os).heap[k]? = w.heap[k]? := by
  unfold sortWorld grow putRow mapBlock Sort.ahead
  show ((w.heap.modify blk _) ++ os)[k]? = _
  rw [Array.getElem?_append_left (by simpa using hk), Array.getElem?_modify, if_neg (Ne.symm hne)]
theorem heap_sortWorld_row {α : Type} [Inhabited α] (enc : α → Value) (w : World) (blk m : Nat) (dk : Array α) (os : Array Obj) (cs : Array Value) (t : TypeId) (hb : w.heap[blk]? = some (.cells cs t)) :
    (sortWorld enc w blk 0 m dk os).heap[blk]? = some (.cells (putCells enc 0 dk cs) t) := by
  have hk := (Array.getElem?_eq_some_iff.1 hb).1
  unfold sortWorld grow putRow mapBlock Sort.ahead
  show ((w.heap.modify blk _) ++ os)[blk]? = _
  rw [Array.getElem?_append_left (by simpa using hk), Array.getElem?_modify, if_pos rfl, hb]
  rfl
theorem size_sortWorld {α : Type} [Inhabited α] (enc : α → Value) (w : World) (blk off m : Nat) (dk : Array α) (os : Array Obj) : w.heap.size ≤ (sortWorld enc w blk off m dk os).heap.size := by
  unfold sortWorld grow putRow mapBlock Sort.ahead
  show _ ≤ ((w.heap.modify blk _) ++ os).size
  simp

set_option maxRecDepth 100000 in
set_option maxHeartbeats 2000000 in
/-- The sort: of files, whatever their order. -/
theorem sortF_any (W : World) (p n₀ : Nat) (r : Rep) (s : DS) (h : Lies W p n₀ r s) (n : Nat) (v : Value) (B : List Nat) (hB : ∀ i ∈ B, 1 ≤ i ∧ i ≤ s.births) (hlen : B.length ≤ 1099511627776)
    (hrow : W.ownsRow n 70 1 v B.length (B.map fun i => ofBlock (r.ad i))) (hn : n ≤ W.heap.size) :
    Calls Tryz.prog 93 #[v, .func (.func 46) #[] #[]] W fun e w' => e = .returned (.tuple #[]) ∧ w'.ownsRow n 70 1 v B.length ((rising B).map fun i => ofBlock (r.ad i)) ∧ Below n W w' := by
  rcases hrow.2 with ⟨rfl, h0⟩ | ⟨g, cap, cur, rfl, hng, hg, hc, hcm, hsz, ht⟩
  · obtain rfl : B = [] := List.length_eq_zero_iff.1 h0
    have := AnyF.slices_SortFunc_none (P := Tryz.prog) (ρ := sortL_ren) { sortL with } none 0 (.func (.func 46) #[] #[]) W
    refine this.mono ?_
    rintro e w' ⟨he, rfl⟩
    exact ⟨he, by simpa [rising] using World.ownsRow_nil w' n 70 1, Below.refl _ _⟩
  · by_cases hB0 : B = []
    · subst hB0
      have := AnyF.slices_SortFunc_none (P := Tryz.prog) (ρ := sortL_ren) { sortL with } (some ⟨g, 0, none⟩) cap (.func (.func 46) #[] #[]) W
      refine this.mono ?_
      rintro e w' ⟨he, rfl⟩
      exact ⟨he, by simpa [rising] using hrow, Below.refl _ _⟩
    · obtain ⟨i0, B0, rfl⟩ := List.exists_cons_of_ne_nil hB0
      haveI : Inhabited (Birth s) := ⟨⟨i0, hB i0 (.head _)⟩⟩
      obtain ⟨D, hD⟩ : ∃ D : List (Birth s), D.map (·.1) = i0 :: B0 := ⟨(i0 :: B0).pmap Subtype.mk hB, by rw [List.map_pmap]; simp⟩
      generalize i0 :: B0 = B at *
      have hDl : D.length = B.length := by rw [← hD]; simp
      have hgl := (Array.getElem?_eq_some_iff.1 hg).1
      let enc : Birth s → Value := fun x => ofBlock (r.ad x.1)
      have hcur : ∀ j, j < B.length → cur[j]? = some (ofBlock (r.ad (B.getD j 0))) := by
        intro j hj
        have h1 : cur[j]? = (cur.toList.take (B.length * 1))[j]? := by
          rw [List.getElem?_take, if_pos (by omega)]; simp
        rw [h1, ht, List.getElem?_map, List.getD_eq_getElem?_getD]
        simp [hj]
      have hDj : ∀ j, j < B.length → (D.toArray[j]!).1 = B.getD j 0 := by
        intro j hj
        rw [← hD]
        have hjD : j < D.length := by omega
        simp [List.getD_eq_getElem?_getD, hjD]
      have hH : Holds enc W g 0 D.toArray := by
        intro j hj
        have hj' : j < B.length := by simpa [hDl] using hj
        refine ⟨?_, by simp [World.frozen?, hg]⟩
        simp only [World.cell?, hg, Option.isSome_none, Bool.false_eq_true, if_false, Nat.zero_add]
        rw [hcur j hj', ← hDj j hj']
      have eg : ∀ args w, (callFunc 46 args).run Tryz.prog w = .ok (.enter 46 args) w := enters_of Tryz.func46 (by kernel_rfl) rfl
      have hfb : ∀ x : Birth s, r.ad x.1 ≠ g := fun x e => by
        have := h.sF x.2.1 x.2.2
        rw [e, sort_cells hg] at this; cases this
      have hfl : ∀ x : Birth s, r.ad x.1 < W.heap.size := fun x => (Array.getElem?_eq_some_iff.1 (h.file x.1 x.2.1 x.2.2)).1
      have hcmp : CmpReads Tryz.prog 46 #[] enc (cmpB s) g 0 D.toArray.size W := by
        intro m os dk hdk x y
        exact closure_any _ _ _ _ _ _ _ _ _ ((heap_sortWorld enc W g 0 m dk os _ (hfl x) (hfb x)).trans (h.file x.1 x.2.1 x.2.2)) ((heap_sortWorld enc W g 0 m dk os _ (hfl y) (hfb y)).trans (h.file y.1 y.2.1 y.2.2))
      have hS := Any.slices_SortFunc_total sortL enc (fun _ => rfl) (cmpB s) (swoB s) 46 #[] g 0 cap D.toArray W eg hcmp.lays hH hgl (by simp; omega) (totB s)
      rw [geB] at hS
      have hsize : D.toArray.size = B.length := by simpa using hDl
      rw [hsize] at hS
      refine hS.mono ?_
      rintro e w' ⟨he, m, os, rfl⟩
      obtain ⟨M, hM⟩ : ∃ M, D.mergeSort (fun x y => decide (x.1 ≤ y.1)) = M := ⟨_, rfl⟩
      have hMB : M.map (·.1) = rising B := by
        rw [← hM, List.map_mergeSort (s := fun x y => decide (x ≤ y)) (fun _ _ _ _ => rfl), hD]; rfl
      have hMl : M.length = B.length := by rw [← hM, List.length_mergeSort]; exact hDl
      have hlist : D.toArray.toList = D := rfl
      rw [hlist, hM]
      have hrowB := heap_sortWorld_row enc W g m M.toArray os cur 70 hg
      refine ⟨he, ⟨by simp [rising], .inr ⟨g, cap, _, rfl, hng, hrowB, hc, hcm, ?_, ?_⟩⟩, ?_⟩
      · simp [putCells, hsz]
      · rw [← hMB, List.map_map]
        apply List.ext_getElem?
        intro j
        rw [List.getElem?_take]
        by_cases hj : j < B.length
        · rw [if_pos (by omega)]
          have hjc : j < cur.size := by omega
          have hjM : j < M.length := by omega
          simp [putCells, hjc, hjM, enc]
        · rw [if_neg (by omega), List.getElem?_eq_none (by simp; omega)]
      · refine ⟨rfl, rfl, rfl, size_sortWorld _ _ _ _ _ _ _, fun k hk => ?_⟩
        by_cases hkg : k = g
        · omega
        · exact heap_sortWorld _ _ _ _ _ _ _ _ (by omega) hkg

set_option maxRecDepth 100000 in
set_option maxHeartbeats 2000000 in
/-- slices.SortedFunc(maps.Values(names), ..): the files, by birth. -/
theorem sortedFunc_any (w : World) (p n₀ : Nat) (r : Rep) (s : DS) (h : Lies w p n₀ r s) (Bm b : Nat) (L : List (ByteArray × Nat)) (hL : ∀ q ∈ L, 1 ≤ q.2 ∧ q.2 ≤ s.births) (hm : w.cell? ⟨Bm, 0, none⟩ = some (.map (some b))) (hown : MapAt ofText ofBlock w b (at_ r.ad L)) (hlen : L.length ≤ 1099511627776) :
    Calls Tryz.prog 44 #[.func (.func 94) #[] #[.pointer (some ⟨Bm, 0, none⟩)], .func (.func 46) #[] #[]] w fun e w' => ∃ v, e = .returned v ∧ w'.ownsRow w.heap.size 70 1 v L.length ((rising (L.map (·.2))).map fun i => ofBlock (r.ad i)) ∧ Below w.heap.size w w' := by
  have hc := collect_any Bm b (at_ r.ad L) w hm hown (by simpa [at_] using hlen)
  have hs : ∀ (W : World) (v : Value) (xs : List Nat), xs.Perm ((at_ r.ad L).map (·.2)) → W.ownsRow w.heap.size 70 1 v xs.length (xs.map ofBlock) → Below w.heap.size w W →
      Calls Tryz.prog 93 #[v, .func (.func 46) #[] #[]] W fun e w' => e = .returned (.tuple #[]) ∧ w'.ownsRow w.heap.size 70 1 v L.length ((rising (L.map (·.2))).map fun i => ofBlock (r.ad i)) ∧ Below w.heap.size W w' := by
    intro W v xs hp hrow hb
    have hx : ∀ x ∈ xs, ∃ q ∈ L, x = r.ad q.2 := fun x hx => by
      have := hp.subset hx
      simp only [at_, List.map_map, List.mem_map, Function.comp] at this
      obtain ⟨q, hq, rfl⟩ := this
      exact ⟨q, hq, rfl⟩
    obtain ⟨B, hB⟩ : ∃ B, xs.map (inv r s) = B := ⟨_, rfl⟩
    have hxB : xs = B.map r.ad := by
      rw [← hB, List.map_map]
      have : xs.map id = xs.map (r.ad ∘ inv r s) := List.map_congr_left (fun x hx' => ?_)
      · rw [← this, List.map_id]
      obtain ⟨q, hq, rfl⟩ := hx x hx'
      simp [inv_ad h q.2 (hL q hq).1 (hL q hq).2]
    have hBp : B.Perm (L.map (·.2)) := by
      rw [← hB]
      refine (hp.map (inv r s)).trans ?_
      rw [at_, List.map_map, List.map_map]
      refine List.Perm.of_eq (List.map_congr_left ?_)
      intro q hq
      exact inv_ad h q.2 (hL q hq).1 (hL q hq).2
    have hBl : B.length = L.length := by rw [hBp.length_eq]; simp
    have key := sortF_any W p n₀ r s (h.below hb) w.heap.size v B (fun i hi => by
      obtain ⟨q, hq, rfl⟩ := List.mem_map.1 (hBp.subset hi)
      exact hL q hq) (by omega) (by
      have e1 : xs.length = B.length := by rw [hxB]; simp
      have e2 : xs.map ofBlock = B.map fun i => ofBlock (r.ad i) := by rw [hxB, List.map_map]; rfl
      rw [← e1, ← e2]; exact hrow) hb.size
    rw [hBl, rising_of_perm hBp] at key
    exact key
  go_enter Tryz.func44, Tryz.ntmps44
  go_wp2_with (first | (go_at_call 92; refine hc.mono ?_; rintro e w1 ⟨v, xs, rfl, hp, hrow, hb⟩) | (go_at_call 93; refine (hs _ v xs hp hrow hb).mono ?_; rintro e w2 ⟨rfl, hrow2, hb2⟩))
  go_returns
  exact ⟨_, rfl, hrow2, hb.trans hb2⟩
end Go.Proofs.YtmcmagplaflegaaGreat

namespace Go.Proofs.YtmcmagplaflegaaGreat
open Go Go.RowKit Go.MapL Go.Poised

variable {p n₀ : Nat} {r : Rep} {s : DS}

def stepW (l : List (ByteArray × Nat)) (q : ByteArray × ByteArray × Option Nat) : List (ByteArray × Nat) := step q.1 q.2.1 q.2.2 l
/-- The names behind the first n works. -/
def after (s : DS) (n : Nat) : List (ByteArray × Nat) := (s.works.take n).foldl stepW s.kept
def crashFile (keep : List Int) (s : DS) (k i : Nat) : DS :=
  { s with file := upd s.file i ⟨(s.file i).b.take ((s.file i).mark + brought keep (1 + k) ((s.file i).b.length - (s.file i).mark)), (s.file i).mark + brought keep (1 + k) ((s.file i).b.length - (s.file i).mark)⟩ }
def crashFiles (keep : List Int) : DS → Nat → List Nat → DS
  | s, _, [] => s
  | s, k, i :: l => crashFiles keep (crashFile keep s k i) (k + 1) l
def DS.crash (s : DS) (keep : List Int) : DS :=
  if s.dead then s else
    { crashFiles keep s 0 (rising ((after s (brought keep 0 s.works.length)).map (·.2))) with
      names := after s (brought keep 0 s.works.length), kept := after s (brought keep 0 s.works.length), works := [], dead := true, fails := -1 }

theorem step_in {P : Nat → Prop} {a b : ByteArray} {f : Option Nat} {l : List (ByteArray × Nat)} (hl : ∀ q ∈ l, P q.2) (hf : ∀ i, f = some i → P i) : ∀ q ∈ step a b f l, P q.2 := by
  have hdel : ∀ l : List (ByteArray × Nat), (∀ q ∈ l, P q.2) → ∀ q ∈ del a l, P q.2 := by
    intro l
    induction l with
    | nil => intro _ q hq; cases hq
    | cons x l ih =>
      intro hl q hq
      obtain ⟨k, v⟩ := x
      unfold del at hq
      split at hq
      · exact hl q (.tail _ hq)
      · rcases List.mem_cons.1 hq with rfl | hq
        · exact hl _ (.head _)
        · exact ih (fun q hq => hl q (.tail _ hq)) q hq
  have hput : ∀ i, P i → ∀ l : List (ByteArray × Nat), (∀ q ∈ l, P q.2) → ∀ q ∈ put b i l, P q.2 := by
    intro i hi l
    induction l with
    | nil => intro _ q hq; simp [put] at hq; subst hq; exact hi
    | cons x l ih =>
      intro hl q hq
      obtain ⟨k, v⟩ := x
      unfold put at hq
      split at hq
      · rcases List.mem_cons.1 hq with rfl | hq
        · exact hi
        · exact hl q (.tail _ hq)
      · rcases List.mem_cons.1 hq with rfl | hq
        · exact hl _ (.head _)
        · exact ih (fun q hq => hl q (.tail _ hq)) q hq
  cases f with
  | none => exact hdel l hl
  | some i => exact hput i (hf i rfl) _ (hdel l hl)
theorem after_in (hwf : WF s) : ∀ n, ∀ q ∈ after s n, 1 ≤ q.2 ∧ q.2 ≤ s.births := by
  intro n
  unfold after
  have key : ∀ (ws : List (ByteArray × ByteArray × Option Nat)) (l : List (ByteArray × Nat)), (∀ q ∈ ws, ∀ i, q.2.2 = some i → 1 ≤ i ∧ i ≤ s.births) → (∀ q ∈ l, 1 ≤ q.2 ∧ q.2 ≤ s.births) → ∀ q ∈ ws.foldl stepW l, 1 ≤ q.2 ∧ q.2 ≤ s.births := by
    intro ws
    induction ws with
    | nil => intro l _ hl; exact hl
    | cons x ws ih =>
      intro l hw hl
      exact ih (stepW l x) (fun q hq => hw q (.tail _ hq)) (step_in (P := fun i => 1 ≤ i ∧ i ≤ s.births) hl (hw x (.head _)))
  exact key _ _ (fun q hq => hwf.works q (List.mem_of_mem_take hq)) hwf.kept
theorem step_len {β : Type} (a b : ByteArray) (f : Option β) (l : List (ByteArray × β)) : (step a b f l).length ≤ l.length + 1 := by
  have hdel : ∀ l : List (ByteArray × β), (del a l).length ≤ l.length := by
    intro l
    induction l with
    | nil => simp [del]
    | cons x l ih => obtain ⟨k, v⟩ := x; unfold del; split <;> simp <;> omega
  have hput : ∀ i, ∀ l : List (ByteArray × β), (put b i l).length ≤ l.length + 1 := by
    intro i l
    induction l with
    | nil => simp [put]
    | cons x l ih => obtain ⟨k, v⟩ := x; unfold put; split <;> simp <;> omega
  cases f with
  | none => have := hdel l; simp only [step]; omega
  | some i => have := hput i (del a l); have := hdel l; simp only [step]; omega
theorem after_len (n : Nat) (hk : s.kept.length ≤ 1073741824) (hw : s.works.length ≤ 1073741824) : (after s n).length ≤ 2147483648 := by
  unfold after
  have key : ∀ (ws : List (ByteArray × ByteArray × Option Nat)) (l : List (ByteArray × Nat)), (ws.foldl stepW l).length ≤ l.length + ws.length := by
    intro ws
    induction ws with
    | nil => intro l; simp
    | cons x ws ih => intro l; have := ih (stepW l x); have := step_len x.1 x.2.1 x.2.2 l; simp only [List.foldl_cons, List.length_cons]; unfold stepW at *; omega
  have := key (s.works.take n) s.kept
  have h2 : (s.works.take n).length ≤ s.works.length := by simp; omega
  omega
theorem own_cap {W : World} {n e size : Nat} {v : Value} {k : Nat} {xs : List Value} (h : W.ownsRow n e size v k xs) : ∃ p cap, v = .slice p k cap ∧ k ≤ cap := by
  rcases h.2 with ⟨rfl, rfl⟩ | ⟨g, cap, cur, rfl, _, _, hc, _⟩
  · exact ⟨none, 0, rfl, Nat.le_refl _⟩
  · exact ⟨_, _, rfl, hc⟩
theorem after_succ (k : Nat) (hk : k < s.works.length) : after s (k + 1) = stepW (after s k) (s.works[k]) := by
  unfold after
  rw [List.take_succ_eq_append_getElem hk, List.foldl_append]; rfl
/-- The cells of work k. -/
theorem works_cells {w : World} (h : Lies w p n₀ r s) (k : Nat) (hk : k < s.works.length) : ∃ g cap, r.wv = .slice (some ⟨g, 0, none⟩) s.works.length cap ∧
    w.cell? ⟨g, k * 3, none⟩ = some (.string (s.works[k]).1) ∧ w.cell? ⟨g, k * 3 + 1, none⟩ = some (.string (s.works[k]).2.1) ∧ w.cell? ⟨g, k * 3 + 2, none⟩ = some (ptrOf r.ad (s.works[k]).2.2) := by
  rcases h.works.2 with ⟨_, h0⟩ | ⟨g, cap, cur, hv, _, hg, hc, _, hsz, ht⟩
  · omega
  · have key : ∀ (l : List (ByteArray × ByteArray × Option Nat)) (k : Nat) (hk : k < l.length) (j : Nat), j < 3 → (l.flatMap (encW r.ad))[k * 3 + j]? = (encW r.ad l[k])[j]? := by
      intro l
      induction l with
      | nil => intro k hk; simp at hk
      | cons x l ih =>
        intro k hk j hj
        rw [List.flatMap_cons]
        have hl : (encW r.ad x).length = 3 := rfl
        cases k with
        | zero => rw [List.getElem?_append_left (by rw [hl]; omega)]; simp
        | succ k =>
          rw [List.getElem?_append_right (by rw [hl]; omega), hl, show (k + 1) * 3 + j - 3 = k * 3 + j by omega]
          exact ih k (by simpa using hk) j hj
    have hcell : ∀ j, j < 3 → w.cell? ⟨g, k * 3 + j, none⟩ = (encW r.ad (s.works[k]))[j]? := by
      intro j hj
      rw [← key s.works k hk j hj, ← ht]
      simp only [World.cell?, hg, Option.isSome_none, Bool.false_eq_true, if_false]
      rw [List.getElem?_take, if_pos (by omega)]; simp
    exact ⟨g, cap, hv, hcell 0 (by omega), hcell 1 (by omega), hcell 2 (by omega)⟩

theorem Turns.step {w w' w'' : World} {s' s'' : DS} {r' : Rep} (hG : Grown (foot p r s) w w') (hF : ∀ k, own p r' s' k → own p r s k ∨ w.heap.size ≤ k) (hF2 : ∀ k, foot p r' s' k → foot p r s k ∨ w.heap.size ≤ k) (h : Turns w' w'' p n₀ r' s' s'') : Turns w w'' p n₀ r s s'' := by
  obtain ⟨r2, h1, h2, h3⟩ := h
  refine ⟨r2, h1, hG.trans h2 hF2, fun k hk => ?_⟩
  rcases h3 k hk with h4 | h4
  · exact hF k h4
  · exact .inr (Nat.le_trans hG.size h4)

theorem own_kept {W W' : World} {n e size : Nat} {v : Value} {k : Nat} {xs : List Value} (h : W.ownsRow n e size v k xs) (hb : Below W.heap.size W W') : W'.ownsRow n e size v k xs :=
  row_same h (fun g hg => hb.block g (h.lt g hg).2)
theorem own_base' {w : World} {n m : Nat} {e : TypeId} {size k : Nat} {v : Value} {xs : List Value} (h : w.ownsRow n e size v k xs) (hm : m ≤ n) : w.ownsRow m e size v k xs := by
  refine ⟨h.1, ?_⟩
  rcases h.2 with h2 | ⟨g, cap, cur, h3, h4, r⟩
  · exact .inl h2
  · exact .inr ⟨g, cap, cur, h3, by omega, r⟩
theorem own_cell {W : World} {n e : Nat} {v : Value} {xs : List Value} (h : W.ownsRow n e 1 v xs.length xs) (k : Nat) (x : Value) (hk : xs[k]? = some x) : ∃ g cap, v = .slice (some ⟨g, 0, none⟩) xs.length cap ∧ W.cell? ⟨g, k, none⟩ = some x := by
  have hlt := (List.getElem?_eq_some_iff.1 hk).1
  rcases h.2 with ⟨_, h0⟩ | ⟨g, cap, cur, rfl, _, hg, hc, _, hsz, ht⟩
  · omega
  · refine ⟨g, cap, rfl, ?_⟩
    simp only [World.cell?, hg, Option.isSome_none, Bool.false_eq_true, if_false]
    have h1 : cur[k]? = (cur.toList.take (xs.length * 1))[k]? := by
      rw [List.getElem?_take, if_pos (by omega)]; simp
    rw [h1, ht, hk]
theorem crashFiles_snoc (keep : List Int) (i : Nat) : ∀ (l : List Nat) (s : DS) (j : Nat), crashFiles keep s j (l ++ [i]) = crashFile keep (crashFiles keep s j l) (j + l.length) i
  | [], _, _ => rfl
  | x :: l, s, j => by
    show crashFiles keep (crashFile keep s j x) (j + 1) (l ++ [i]) = _
    rw [crashFiles_snoc keep i l]
    show crashFile keep (crashFiles keep (crashFile keep s j x) (j + 1) l) (j + 1 + l.length) i = _
    rw [show j + 1 + l.length = j + (l.length + 1) by omega]; rfl
theorem upd_upd {β : Type} (f : Nat → β) (i : Nat) (a b : β) : upd (upd f i a) i b = upd f i b := by
  funext j
  by_cases hj : j = i
  · subst hj; simp
  · simp [upd_other _ _ hj]
theorem wf_crashFile (keep : List Int) (k i : Nat) (hwf : WF s) : WF (crashFile keep s k i) := {
  fails := hwf.fails
  keepB := hwf.keepB
  keepL := hwf.keepL
  room := hwf.room
  births := hwf.births
  names := hwf.names
  kept := hwf.kept
  works := hwf.works
  count := hwf.count
  bytes := fun j x hx => by
    by_cases hj : j = i
    · subst hj; simp only [crashFile, upd_same] at hx; exact hwf.bytes j x (List.mem_of_mem_take hx)
    · simp only [crashFile, upd_other _ _ hj] at hx; exact hwf.bytes j x hx
  len := fun j => by
    by_cases hj : j = i
    · subst hj; simp only [crashFile, upd_same, List.length_take]; have := hwf.len j; omega
    · simp only [crashFile, upd_other _ _ hj]; exact hwf.len j
  mark := fun j => by
    by_cases hj : j = i
    · subst hj
      simp only [crashFile, upd_same, List.length_take]
      have := hwf.mark j
      have := brought_le keep (1 + k) ((s.file j).b.length - (s.file j).mark)
      omega
    · simp only [crashFile, upd_other _ _ hj]; exact hwf.mark j }
theorem wf_crashFiles (keep : List Int) : ∀ (l : List Nat) (s : DS) (k : Nat), WF s → WF (crashFiles keep s k l)
  | [], _, _, h => h
  | x :: l, _, k, h => wf_crashFiles keep l _ _ (wf_crashFile keep k x h)
theorem crashFiles_same (keep : List Int) : ∀ (l : List Nat) (s : DS) (k : Nat), (crashFiles keep s k l).births = s.births ∧ (crashFiles keep s k l).room = s.room ∧ (crashFiles keep s k l).names = s.names ∧ (crashFiles keep s k l).kept = s.kept ∧ (crashFiles keep s k l).works = s.works ∧ (crashFiles keep s k l).dead = s.dead
  | [], _, _ => ⟨rfl, rfl, rfl, rfl, rfl, rfl⟩
  | x :: l, s, k => crashFiles_same keep l (crashFile keep s k x) (k + 1)

set_option maxRecDepth 100000 in
set_option maxHeartbeats 16000000 in
theorem crash_at (kv : Value) (keep : List Int) (w : World) (h : Lies w p n₀ r s) (hwf : WF s) (hk : s.kept.length ≤ 1073741824) (hn : n₀ ≤ w.heap.size) (hsep : ∀ w', Grown (foot p r s) w w' → IntsIn w' kv keep) :
    Calls Tryz.prog 9 #[ofBlock p, kv] w fun e w' => e = .returned (.tuple #[]) ∧ Turns w w' p n₀ r s (s.crash keep) := by
  have hL := h
  have ha := away_at w h
  have hfl := h.foot_lt
  have hol := h.own_lt
  have hcl := clone_any r.bk (at_ r.ad s.kept) w h.kept
  obtain ⟨c0, c1, c2, c3, c4, c5, c6, c7⟩ := h.cells
  have hwc := hwf.count
  obtain ⟨wq, wcap, hwv, hwcap⟩ := own_cap h.works
  unfold DS.crash
  unfold ofBlock at *
  cases hdd : s.dead
  · rw [hdd] at ha c5
    replace hdd : Hid (s.dead = false) := hdd
    go_enter Tryz.func9, Tryz.ntmps9
    go_wp2_with (first | (go_at_call 39; refine ha.mono ?_; rintro e w' ⟨rfl, hw⟩; obtain rfl := hw.symm) | (go_at_call 41; refine hcl.mono ?_; rintro e w1 ⟨rfl, hm1, hs1, hb1⟩))
    have h1 := hL.below hb1
    have hbr := fun W hW => brought_any kv keep 0 s.works.length (by omega) (by omega) W hW
    obtain ⟨n, hnb⟩ : ∃ n, brought keep 0 s.works.length = n := ⟨_, rfl⟩
    have hnle : n ≤ s.works.length := by rw [← hnb]; exact brought_le _ _ _
    rw [hnb] at hbr
    have hnle' : (n : Int) ≤ s.works.length := by omega
    have hncap : n ≤ wcap := by omega
    have hncap' : (n : Int) ≤ wcap := by omega
    replace hnb : Hid (brought keep 0 s.works.length = n) := hnb
    refine poised_whole (fun w' => Below w1.heap.size w1 w') (fun w w' => Below w1.heap.size w w') (by kernel_rfl) (by kernel_rfl) (by kernel_rfl) (fun _ _ h k => h.trans k) ((Below.refl _ _).drew) ?_
    apply Exists.intro
    apply walk_det
    · rfl
    · intro w2 hC hF
      simp only [upon]
      go_simp
      exact ⟨Below.refl _ _, rfl⟩
    simp only [put_lit, List.set_cons_succ, List.set_cons_zero]
    apply walk_det
    · rfl
    · intro w2 hC hF
      simp only [upon]
      go_simp
      exact ⟨Below.refl _ _, rfl⟩
    simp only [put_lit, List.set_cons_succ, List.set_cons_zero]
    apply walk_det
    · rfl
    · intro w2 hC hF
      simp only [upon]
      go_simp
      exact ⟨Below.refl _ _, rfl⟩
    simp only [put_lit, List.set_cons_succ, List.set_cons_zero]
    apply walk_det
    · rfl
    · intro w2 hC hF
      have h2 := h1.below hC
      obtain ⟨d0, d1, d2, d3, d4, d5, d6, d7⟩ := h2.cells
      rw [hwv] at d4
      simp only [upon]
      go_simp
      exact ⟨Below.refl _ _, rfl⟩
    simp only [put_lit, List.set_cons_succ, List.set_cons_zero]
    apply walk_det
    · rfl
    · intro w2 hC hF
      simp only [upon]
      go_simp
      exact ⟨Below.refl _ _, rfl⟩
    simp only [put_lit, List.set_cons_succ, List.set_cons_zero]
    apply walk_det
    · rfl
    · intro w2 hC hF
      simp only [upon]
      go_simp
      exact ⟨Below.refl _ _, rfl⟩
    simp only [put_lit, List.set_cons_succ, List.set_cons_zero]
    apply walk_det
    · rfl
    · intro w2 hC hF
      simp only [upon]
      go_simp
      exact ⟨Below.refl _ _, rfl⟩
    simp only [put_lit, List.set_cons_succ, List.set_cons_zero]
    apply walk_det
    · rfl
    · intro w2 hC hF
      simp only [upon]
      go_simp
      exact ⟨Below.refl _ _, rfl⟩
    simp only [put_lit, List.set_cons_succ, List.set_cons_zero]
    apply walk_det
    · rfl
    · intro w2 hC hF
      have h2 := h1.below hC
      obtain ⟨d0, d1, d2, d3, d4, d5, d6, d7⟩ := h2.cells
      rw [hwv] at d4
      simp only [upon]
      go_simp
      exact ⟨Below.refl _ _, rfl⟩
    simp only [put_lit, List.set_cons_succ, List.set_cons_zero]
    apply walk_det
    · rfl
    · intro w2 hC hF
      simp only [upon]
      go_simp
      exact ⟨Below.refl _ _, rfl⟩
    simp only [put_lit, List.set_cons_succ, List.set_cons_zero]
    apply walk_det
    · rfl
    · intro w2 hC hF
      have h2 := h1.below hC
      obtain ⟨d0, d1, d2, d3, d4, d5, d6, d7⟩ := h2.cells
      rw [hwv] at d4
      simp only [upon]
      go_simp
      exact still_call (hbr _ (hsep _ (Grown.of_below (hb1.trans (hC.mono (by omega))))))
    simp only [put_lit, List.set_cons_succ, List.set_cons_zero]
    apply walk_det
    · rfl
    · intro w2 hC hF
      simp only [upon]
      go_simp
      exact ⟨Below.refl _ _, rfl⟩
    simp only [put_lit, List.set_cons_succ, List.set_cons_zero]
    apply walk_det
    · rfl
    · intro w2 hC hF
      simp only [upon]
      go_simp
      exact ⟨Below.refl _ _, rfl⟩
    simp only [put_lit, List.set_cons_succ, List.set_cons_zero]
    apply walk_det
    · rfl
    · intro w2 hC hF
      simp only [upon]
      go_simp
      exact ⟨Below.refl _ _, rfl⟩
    simp only [put_lit, List.set_cons_succ, List.set_cons_zero]
    apply walk_nil
    intro w2 hC _
    have h2 := h1.below hC
    have hB2 : Below w.heap.size w w2 := hb1.trans (hC.mono (by omega))
    have hM2 := hm1.same (w' := w2) (hC.block _ (by omega))
    have hM2 : MapAt ofText ofBlock w2 w.heap.size (at_ r.ad s.kept) := hM2
    replace hs1 : Hid (w1.heap.size = w.heap.size + 1) := hs1
    clear c0 c1 c2 c3 c4 c5 c6 c7 ha hcl hbr
    go_wp2_with fail
    go_loopw [31] (fun i wr => ∃ k, k ≤ n ∧ i = .int .i64 k ∧ Lies wr p n₀ r s ∧ MapAt ofText ofBlock wr w.heap.size (at_ r.ad (after s k)) ∧ Below w.heap.size w wr) (fun i _ => n - (intOf i).toNat)
    case atStart => exact ⟨0, by omega, rfl, h2, hM2, hB2⟩
    case round =>
      obtain ⟨k, hkn, rfl, hLr, hMr, hBr⟩ := hrel
      by_cases hlt : k < n
      · have hkw : k < s.works.length := by omega
        obtain ⟨g, cap2, hv2, e0, e1, e2⟩ := works_cells hLr k hkw
        rw [hwv] at hv2
        cases hv2
        have hafter := after_succ k hkw
        rcases hwk : s.works[k] with ⟨x, y, f⟩
        rw [hwk] at e0 e1 e2 hafter
        have hd := fun W hm => does_any x y (f.map r.ad) w.heap.size (at_ r.ad (after s k)) W hm
        rw [← ptrOf_map] at hd
        obtain ⟨q, hq⟩ : ∃ q, ptrOf r.ad f = .pointer q := by cases f <;> exact ⟨_, rfl⟩
        rw [hq] at hd e2
        have hMr' : MapAt ofText ofBlock (wr.alloc (.cells #[.string x, .string y, .pointer q] 76)) w.heap.size (at_ r.ad (after s k)) := hMr.alloc _
        have hlt' : (k : Int) < n := by omega
        have hst : at_ r.ad (after s (k + 1)) = step x y (f.map r.ad) (at_ r.ad (after s k)) := by rw [hafter]; exact at_step _ _ _ _ _
        replace hst : Hid _ := hst
        clear hafter hwk hq
        go_wp2_with (go_at_call 43; refine (hd _ hMr').mono ?_; rintro e w5 ⟨rfl, hm5, hg5⟩)
        have hg6 : Grown (fun k => k = w.heap.size) wr w5 := ((Grown.refl _ _).alloc _).trans hg5 (fun _ hx => .inl hx)
        go_roundw
        case rel =>
          refine ⟨k + 1, by omega, by go_num, hLr.same (fun k hk => hg6.block k (hLr.own_lt k hk).1 (fun e => by have := (hol k hk).1; omega)), by rw [hst.out]; exact hm5, hBr.trans (hg6.below hBr.size (fun k hk => by omega))⟩
        case measure => simp [intOf]; omega
      · obtain rfl : k = n := by omega
        have hin := after_in hwf k
        have halen := after_len k hk hwc
        obtain ⟨al, hal⟩ : ∃ al, after s k = al := ⟨_, rfl⟩
        rw [hal] at hin halen hMr
        have hcell : (wr.alloc (.cells #[.map (some w.heap.size)] 41)).cell? ⟨wr.heap.size, 0, none⟩ = some (.map (some w.heap.size)) := (Boxed.new wr 41 (.map (some w.heap.size))).cell
        have hso := sortedFunc_any (wr.alloc (.cells #[.map (some w.heap.size)] 41)) p n₀ r s (hLr.alloc _) wr.heap.size w.heap.size al hin hcell (hMr.alloc _) (by omega)
        have hva := values_any w.heap.size wr
        replace hal : Hid (after s k = al) := hal
        clear hcell
        go_wp2_with (first | (go_at_call 45; refine hva.mono ?_; rintro e w6 ⟨rfl, rfl⟩) | (go_at_call 44; refine hso.mono ?_; rintro e w7 ⟨v, rfl, hrow7, hb7⟩; obtain ⟨vq, vcap, rfl⟩ := own_shape hrow7))
        have hB7 : Below w.heap.size w w7 := (hBr.alloc hBr.size _).trans (hb7.mono (by have := hBr.size; simp; omega))
        have hL7 := (hLr.alloc (.cells #[.map (some w.heap.size)] 41)).below hb7
        have hM7 := (hMr.alloc (.cells #[.map (some w.heap.size)] 41)).same (hb7.block _ (by have := hMr.lt; simp; omega))
        obtain ⟨fl, hfd⟩ : ∃ fl, rising (al.map (·.2)) = fl := ⟨_, rfl⟩
        have hfll : fl.length = al.length := by rw [← hfd, (rising_perm _).length_eq]; simp
        have hfin : ∀ i ∈ fl, 1 ≤ i ∧ i ≤ s.births := fun i hi => by
          rw [← hfd] at hi
          obtain ⟨q, hq, rfl⟩ := List.mem_map.1 ((rising_perm _).subset hi)
          exact hin q hq
        rw [hfd] at hrow7
        replace hfd : Hid (rising (al.map (·.2)) = fl) := hfd
        have hnbs : w.heap.size ≤ (wr.alloc (.cells #[.map (some w.heap.size)] 41)).heap.size := by have := hBr.size; simp; omega
        generalize (wr.alloc (.cells #[.map (some w.heap.size)] 41)).heap.size = nb at *
        clear hso hva hLr hMr hBr hb7
        rw [← hfll] at hrow7
        have hrow7' : w7.ownsRow nb 70 1 (.slice vq fl.length vcap) (fl.map fun i => ofBlock (r.ad i)).length (fl.map fun i => ofBlock (r.ad i)) := by rw [List.length_map]; exact hrow7
        clear hrow7
        have hvq : Hid (al.length = fl.length) := hfll.symm
        go_loopw [44] (fun i wr => ∃ (k : Nat) (rk : Rep), k ≤ fl.length ∧ i = .int .i64 k ∧ rk.ad = r.ad ∧ rk.kv = r.kv ∧ Lies wr p n₀ rk (crashFiles keep s 0 (fl.take k)) ∧ Grown (foot p r s) w wr ∧ (∀ x, foot p rk (crashFiles keep s 0 (fl.take k)) x → foot p r s x ∨ w.heap.size ≤ x) ∧
            MapAt ofText ofBlock wr w.heap.size (at_ r.ad al) ∧ wr.ownsRow nb 70 1 (.slice vq fl.length vcap) (fl.map fun i => ofBlock (r.ad i)).length (fl.map fun i => ofBlock (r.ad i))) (fun i _ => fl.length - (intOf i).toNat)
        case atStart => exact ⟨0, r, by omega, rfl, rfl, rfl, hL7, Grown.of_below hB7, fun _ hx => .inl hx, hM7, hrow7'⟩
        case round =>
          obtain ⟨k2, rk, hk2, rfl, hrad, hrkv, hLk, hGk, hFk, hMk, hrowk⟩ := hrel
          by_cases hlt : k2 < fl.length
          · obtain ⟨g, cap2, hv2, e0⟩ := own_cell hrowk k2 (ofBlock (r.ad fl[k2])) (by simp [hlt])
            simp only [List.length_map, Value.slice.injEq, true_and] at hv2
            obtain ⟨rfl, rfl⟩ := hv2
            obtain ⟨hi1, hi2⟩ := hfin fl[k2] (List.getElem_mem hlt)
            have hstep : crashFiles keep s 0 (fl.take (k2 + 1)) = crashFile keep (crashFiles keep s 0 (fl.take k2)) k2 fl[k2] := by
              rw [List.take_succ_eq_append_getElem hlt, crashFiles_snoc]
              simp [Nat.min_eq_left (Nat.le_of_lt hlt)]
            have hwk := wf_crashFiles keep (fl.take k2) s 0 hwf
            have hbk := (crashFiles_same keep (fl.take k2) s 0).1
            obtain ⟨sk, hsk⟩ : ∃ sk, crashFiles keep s 0 (fl.take k2) = sk := ⟨_, rfl⟩
            rw [hsk] at hLk hFk hstep hwk hbk
            replace hstep : Hid _ := hstep
            clear hsk
            obtain ⟨i, hie⟩ : ∃ i, fl[k2] = i := ⟨_, rfl⟩
            rw [hie] at e0 hi1 hi2 hstep
            have hi2' : i ≤ sk.births := by omega
            have hf := hLk.file i hi1 hi2'
            have hd := hLk.data i hi1 hi2'
            rw [hrad] at hf
            obtain ⟨bq, bcap, hbv, hbc⟩ := own_cap hd
            rw [hbv] at hf
            obtain ⟨f0, f1, f2⟩ := cells3 hf
            have z2 := free_of hf 2
            have hmk := hwk.mark i
            have hln := hwk.len i
            have hby := hwk.bytes i
            obtain ⟨mb, hmb⟩ : ∃ mb, brought keep (1 + k2) ((sk.file i).b.length - (sk.file i).mark) = mb := ⟨_, rfl⟩
            have hmble : mb ≤ (sk.file i).b.length - (sk.file i).mark := by rw [← hmb]; exact brought_le _ _ _
            have hbr := fun W hW => brought_any kv keep (1 + k2) ((sk.file i).b.length - (sk.file i).mark) (by omega) (by omega) W hW
            rw [hmb, show (((sk.file i).b.length - (sk.file i).mark : Nat) : Int) = ((sk.file i).b.length : Int) - (sk.file i).mark by omega, show ((1 + k2 : Nat) : Int) = 1 + (k2 : Int) by omega] at hbr
            obtain ⟨bl, hbl⟩ : ∃ bl, (sk.file i).b.length = bl := ⟨_, rfl⟩
            obtain ⟨mk, hmkd⟩ : ∃ mk, (sk.file i).mark = mk := ⟨_, rfl⟩
            replace hbv : Hid (rk.bv i = .slice bq (sk.file i).b.length bcap) := hbv
            replace hmb : Hid _ := hmb
            replace hie : Hid (fl[k2] = i) := hie
            have hBy := bytesIn_of_own hd hby (by omega)
            rw [hbv.out] at hBy
            rw [hbl] at hf f1 hmble hmk hln hbr hbc hBy
            rw [hmkd] at hf f2 hmble hmk hbr
            replace hbl : Hid _ := hbl
            replace hmkd : Hid _ := hmkd
            have g1 : IntKind.i64.wrap (1 + (k2 : Int)) = 1 + (k2 : Int) := IntWalk.i64_in _ (by omega)
            have g2 : IntKind.i64.wrap ((bl : Int) - mk) = (bl : Int) - mk := IntWalk.i64_in _ (by omega)
            obtain ⟨tm, htm⟩ : ∃ tm, mk + mb = tm := ⟨_, rfl⟩
            have g3 : IntKind.i64.wrap ((mk : Int) + mb) = (tm : Int) := by rw [IntWalk.i64_in _ (by omega)]; omega
            have htl : tm ≤ bl := by omega
            have htc : tm ≤ bcap := by omega
            have htc' : (tm : Int) ≤ bcap := by omega
            replace htm : Hid _ := htm
            simp only [ofBlock] at e0
            have hlt' : (k2 : Int) < fl.length := by omega
            go_wp2_with fail
            refine poised_then 21 (fun w' => Below wr.heap.size wr w') (fun w w' => Below wr.heap.size w w') (by kernel_rfl) (by kernel_rfl) (by kernel_rfl) (fun _ _ h k => h.trans k) ((Below.refl _ _).drew) ?_
            apply Exists.intro
            simp only [List.take_succ_cons, List.take_zero]
            apply walk_det
            · rfl
            · intro w2 hC hF
              simp only [upon]
              go_simp
              exact ⟨Below.refl _ _, rfl⟩
            simp only [put_lit, List.set_cons_succ, List.set_cons_zero]
            apply walk_det
            · rfl
            · intro w2 hC hF
              simp only [upon]
              go_simp
              exact ⟨Below.refl _ _, rfl⟩
            simp only [put_lit, List.set_cons_succ, List.set_cons_zero]
            apply walk_det
            · rfl
            · intro w2 hC hF
              simp only [upon]
              go_simp
              exact ⟨Below.refl _ _, rfl⟩
            simp only [put_lit, List.set_cons_succ, List.set_cons_zero]
            apply walk_det
            · rfl
            · intro w2 hC hF
              have hf2 := (hC.block _ (Array.getElem?_eq_some_iff.1 hf).1).trans hf
              obtain ⟨f0, f1, f2⟩ := cells3 hf2
              simp only [upon]
              go_simp
              exact ⟨Below.refl _ _, rfl⟩
            simp only [put_lit, List.set_cons_succ, List.set_cons_zero]
            apply walk_det
            · rfl
            · intro w2 hC hF
              simp only [upon]
              go_simp
              exact ⟨Below.refl _ _, rfl⟩
            simp only [put_lit, List.set_cons_succ, List.set_cons_zero]
            apply walk_det
            · rfl
            · intro w2 hC hF
              simp only [upon]
              go_simp
              exact ⟨Below.refl _ _, rfl⟩
            simp only [put_lit, List.set_cons_succ, List.set_cons_zero]
            apply walk_det
            · rfl
            · intro w2 hC hF
              simp only [upon]
              go_simp
              exact ⟨Below.refl _ _, rfl⟩
            simp only [put_lit, List.set_cons_succ, List.set_cons_zero]
            apply walk_det
            · rfl
            · intro w2 hC hF
              simp only [upon]
              go_simp
              exact ⟨Below.refl _ _, rfl⟩
            simp only [put_lit, List.set_cons_succ, List.set_cons_zero]
            apply walk_det
            · rfl
            · intro w2 hC hF
              simp only [upon]
              go_simp
              exact ⟨Below.refl _ _, rfl⟩
            simp only [put_lit, List.set_cons_succ, List.set_cons_zero]
            apply walk_det
            · rfl
            · intro w2 hC hF
              simp only [upon]
              go_simp
              exact ⟨Below.refl _ _, rfl⟩
            simp only [put_lit, List.set_cons_succ, List.set_cons_zero]
            apply walk_det
            · rfl
            · intro w2 hC hF
              have hf2 := (hC.block _ (Array.getElem?_eq_some_iff.1 hf).1).trans hf
              obtain ⟨f0, f1, f2⟩ := cells3 hf2
              simp only [upon]
              go_simp
              exact ⟨Below.refl _ _, rfl⟩
            simp only [put_lit, List.set_cons_succ, List.set_cons_zero]
            apply walk_det
            · rfl
            · intro w2 hC hF
              simp only [upon]
              go_simp
              exact ⟨Below.refl _ _, rfl⟩
            simp only [put_lit, List.set_cons_succ, List.set_cons_zero]
            apply walk_det
            · rfl
            · intro w2 hC hF
              simp only [upon]
              go_simp
              exact ⟨Below.refl _ _, rfl⟩
            simp only [put_lit, List.set_cons_succ, List.set_cons_zero]
            apply walk_det
            · rfl
            · intro w2 hC hF
              simp only [upon]
              go_simp
              exact ⟨Below.refl _ _, rfl⟩
            simp only [put_lit, List.set_cons_succ, List.set_cons_zero]
            apply walk_det
            · rfl
            · intro w2 hC hF
              simp only [upon]
              go_simp
              exact ⟨Below.refl _ _, rfl⟩
            simp only [put_lit, List.set_cons_succ, List.set_cons_zero]
            apply walk_det
            · rfl
            · intro w2 hC hF
              have hf2 := (hC.block _ (Array.getElem?_eq_some_iff.1 hf).1).trans hf
              obtain ⟨f0, f1, f2⟩ := cells3 hf2
              simp only [upon]
              go_simp
              exact ⟨Below.refl _ _, rfl⟩
            simp only [put_lit, List.set_cons_succ, List.set_cons_zero]
            apply walk_det
            · rfl
            · intro w2 hC hF
              simp only [upon]
              go_simp
              exact ⟨Below.refl _ _, rfl⟩
            simp only [put_lit, List.set_cons_succ, List.set_cons_zero]
            apply walk_det
            · rfl
            · intro w2 hC hF
              have hf2 := (hC.block _ (Array.getElem?_eq_some_iff.1 hf).1).trans hf
              obtain ⟨f0, f1, f2⟩ := cells3 hf2
              simp only [upon]
              go_simp
              exact still_call (hbr _ (hsep _ (hGk.step hC)))
            simp only [put_lit, List.set_cons_succ, List.set_cons_zero]
            apply walk_det
            · rfl
            · intro w2 hC hF
              simp only [upon]
              go_simp
              exact ⟨Below.refl _ _, rfl⟩
            simp only [put_lit, List.set_cons_succ, List.set_cons_zero]
            apply walk_det
            · rfl
            · intro w2 hC hF
              simp only [upon]
              go_simp
              exact ⟨Below.refl _ _, rfl⟩
            simp only [put_lit, List.set_cons_succ, List.set_cons_zero]
            apply walk_det
            · rfl
            · intro w2 hC hF
              simp only [upon]
              go_simp
              exact ⟨Below.refl _ _, rfl⟩
            simp only [put_lit, List.set_cons_succ, List.set_cons_zero]
            apply walk_nil
            intro w2 hC _
            simp only [List.drop_succ_cons, List.drop_zero]
            have hL8a := hLk.below hC
            have hf8a := (hC.block _ (Array.getElem?_eq_some_iff.1 hf).1).trans hf
            have hf8 : (w2.setCell ⟨r.ad i, 2, none⟩ (.int .i64 (tm : Int))).heap[r.ad i]? = some (fileAt i (.slice bq bl bcap) tm) := by rw [setCell_heap hf8a]; rfl
            have hL8 : Lies (w2.setCell ⟨r.ad i, 2, none⟩ (.int .i64 (tm : Int))) p n₀ { rk with bv := upd rk.bv i (rk.bv i) } { sk with file := upd sk.file i ⟨(sk.file i).b, tm⟩ } := by
              refine hL8a.setFile i hi1 hi2' (rk.bv i) ⟨(sk.file i).b, tm⟩ ?_ ?_ (fun k hk => .inl hk) ?_
              · rw [hrad, hf8, hbv.out, hbl.out]
              · refine row_same (hL8a.data i hi1 hi2') (fun g hg => Below.heap_setCell _ _ _ _ (fun e => ?_))
                have := hL8a.sB hi1 hi2' hg
                rw [e, ← hrad, hL8a.sF hi1 hi2'] at this; cases this
              · intro k hk g1 g2
                rw [hrad] at g1
                exact Below.heap_setCell _ _ _ _ g1
            have hzz := hC.size
            have hsz8 : (w2.setCell ⟨r.ad i, 2, none⟩ (.int .i64 (tm : Int))).heap.size = w2.heap.size := by simp
            have hBy8 : BytesIn (w2.setCell ⟨r.ad i, 2, none⟩ (.int .i64 (tm : Int))) (.slice bq tm bcap) ((sk.file i).b.take tm) := by
              have hd8 := hL8.data i hi1 hi2'
              simp only [upd_same] at hd8
              have h9 := bytesIn_of_own hd8 hby (by have := hbl.out; omega)
              rw [hbv.out, hbl.out] at h9
              obtain ⟨_, _, _, e9, h10, _⟩ := h9.take tm (by rw [hbl.out]; exact htl)
              cases e9
              exact h10
            have hG8 : Grown (foot p r s) w (w2.setCell ⟨r.ad i, 2, none⟩ (.int .i64 (tm : Int))) := (hGk.step hC).setCell (p := ⟨r.ad i, 2, none⟩) (by rw [← hrad]; exact (hFk _ (.inr (.inr (.inr (.inr ⟨i, hi1, hi2', .inl rfl⟩)))))) _
            have hri : sort wr (r.ad i) = 73 := by rw [← hrad]; exact hLk.sF hi1 hi2'
            have hne1 : w.heap.size ≠ r.ad i := fun e => by rw [← e, sort_map hMk] at hri; cases hri
            have hrow8 : (w2.setCell ⟨r.ad i, 2, none⟩ (.int .i64 (tm : Int))).ownsRow nb 70 1 (.slice (some ⟨g, 0, none⟩) fl.length vcap) (fl.map fun i => ofBlock (r.ad i)).length (fl.map fun i => ofBlock (r.ad i)) := by
              refine row_same (own_kept hrowk hC) (fun g' hg' => Below.heap_setCell _ _ _ _ (fun e => ?_))
              have := sort_row hrowk hg'
              rw [e, hri] at this; cases this
            have hM8 : MapAt ofText ofBlock (w2.setCell ⟨r.ad i, 2, none⟩ (.int .i64 (tm : Int))) w.heap.size (at_ r.ad al) := (hMk.same (hC.block _ hMk.lt)).same (Below.heap_setCell _ _ _ _ hne1)
            have htk : ((sk.file i).b.take tm).length = tm := by rw [List.length_take, hbl.out]; omega
            have hcl := fun W hW => cloneB_any (.slice bq tm bcap) ((sk.file i).b.take tm) W hW (by simp; omega)
            generalize hw8 : w2.setCell ⟨r.ad i, 2, none⟩ (.int .i64 (tm : Int)) = w8 at *
            clear f0 f1 f2 z2 hbr hL8a
            obtain ⟨m0, hm0, hm0'⟩ : ∃ m, m ≤ w8.heap.size ∧ w8.heap.size ≤ m := ⟨_, Nat.le_refl _, Nat.le_refl _⟩
            replace hsz8 : Hid _ := hsz8
            obtain ⟨y0, y1, y2⟩ := cells3 hf8a
            have yz := free_of hf8a 2
            go_wp2_with fail
            refine poised_then 13 (fun w' => Below w8.heap.size w8 w') (fun w w' => Below w.heap.size w w') (by kernel_rfl) (by kernel_rfl) (by kernel_rfl) (fun _ _ h k => h.trans (k.mono h.size)) ((Below.refl _ _).drew) ?_
            apply Exists.intro
            simp only [List.take_succ_cons, List.take_zero]
            apply walk_det
            · rfl
            · intro w2 hC hF
              simp only [upon]
              go_simp
              exact ⟨Below.refl _ _, rfl⟩
            simp only [put_lit, List.set_cons_succ, List.set_cons_zero]
            apply walk_det
            · rfl
            · intro w2 hC hF
              simp only [upon]
              go_simp
              exact ⟨Below.refl _ _, rfl⟩
            simp only [put_lit, List.set_cons_succ, List.set_cons_zero]
            apply walk_det
            · rfl
            · intro w2 hC hF
              simp only [upon]
              go_simp
              exact ⟨Below.refl _ _, rfl⟩
            simp only [put_lit, List.set_cons_succ, List.set_cons_zero]
            apply walk_det
            · rfl
            · intro w2 hC hF
              simp only [upon]
              go_simp
              exact ⟨Below.refl _ _, rfl⟩
            simp only [put_lit, List.set_cons_succ, List.set_cons_zero]
            apply walk_det
            · rfl
            · intro w2 hC hF
              have hf2 := (hC.block _ (Array.getElem?_eq_some_iff.1 hf8).1).trans hf8
              obtain ⟨f0, f1, f2⟩ := cells3 hf2
              simp only [upon]
              go_simp
              exact ⟨Below.refl _ _, rfl⟩
            simp only [put_lit, List.set_cons_succ, List.set_cons_zero]
            apply walk_det
            · rfl
            · intro w2 hC hF
              simp only [upon]
              go_simp
              exact ⟨Below.refl _ _, rfl⟩
            simp only [put_lit, List.set_cons_succ, List.set_cons_zero]
            apply walk_det
            · rfl
            · intro w2 hC hF
              simp only [upon]
              go_simp
              exact ⟨Below.refl _ _, rfl⟩
            simp only [put_lit, List.set_cons_succ, List.set_cons_zero]
            apply walk_det
            · rfl
            · intro w2 hC hF
              simp only [upon]
              go_simp
              exact ⟨Below.refl _ _, rfl⟩
            simp only [put_lit, List.set_cons_succ, List.set_cons_zero]
            apply walk_det
            · rfl
            · intro w2 hC hF
              have hf2 := (hC.block _ (Array.getElem?_eq_some_iff.1 hf8).1).trans hf8
              obtain ⟨f0, f1, f2⟩ := cells3 hf2
              simp only [upon]
              go_simp
              exact ⟨Below.refl _ _, rfl⟩
            simp only [put_lit, List.set_cons_succ, List.set_cons_zero]
            apply walk_det
            · rfl
            · intro w2 hC hF
              simp only [upon]
              go_simp
              exact ⟨Below.refl _ _, rfl⟩
            simp only [put_lit, List.set_cons_succ, List.set_cons_zero]
            apply walk_free (fun v w' => w'.ownsRow m0 5 1 v tm (encB ((sk.file i).b.take tm))) (fun _ _ _ hC hR h => own_kept h hR)
            · rfl
            · intro w2 hC hF
              simp only [upon]
              go_simp
              exact (hcl _ (hBy8.below hC)).mono (fun e w' hh => by obtain ⟨v', he, hr', hb'⟩ := hh; exact ⟨v', he, hb', by rw [htk] at hr'; exact own_base' hr' (Nat.le_trans hm0 hC.size)⟩)
            intro v
            simp only [put_lit, List.set_cons_succ, List.set_cons_zero]
            apply walk_det
            · rfl
            · intro w2 hC hF
              simp only [upon]
              go_simp
              exact ⟨Below.refl _ _, rfl⟩
            simp only [put_lit, List.set_cons_succ, List.set_cons_zero]
            apply walk_det
            · rfl
            · intro w2 hC hF
              simp only [upon]
              go_simp
              exact ⟨Below.refl _ _, rfl⟩
            simp only [put_lit, List.set_cons_succ, List.set_cons_zero]
            apply walk_nil
            intro w9 hC9 hF9
            simp only [List.drop_succ_cons, List.drop_zero]
            have hv9 : w9.ownsRow m0 5 1 _ tm (encB ((sk.file i).b.take tm)) := hF9 10
            obtain ⟨cq, ccap, rfl⟩ := own_shape hv9
            have hf9 := (hC9.block _ (Array.getElem?_eq_some_iff.1 hf8).1).trans hf8
            obtain ⟨x0, x1, x2⟩ := cells3 hf9
            have xz := free_of hf9 1
            clear yz y0 y1 y2
            go_wp2_with fail
            go_roundw
            case rel =>
              have hsz : w.heap.size ≤ m0 := Nat.le_trans hG8.size hm0'
              have hm0n : ∀ g, (Value.slice cq tm ccap).ownBlock = some g → m0 ≤ g := fun g hg => (hv9.lt g hg).1
              have hadlt : r.ad i < w8.heap.size := (Array.getElem?_eq_some_iff.1 hf8).1
              have hL10 := hL8.setFile (w' := w9.setCell ⟨r.ad i, 1, none⟩ (.slice cq tm ccap)) i hi1 hi2' (.slice cq tm ccap) ⟨(sk.file i).b.take tm, tm⟩ (by rw [hrad, setCell_heap hf9]; rfl)
                (by
                  rw [htk]
                  refine own_base' (row_same hv9 (fun g hg => Below.heap_setCell _ _ _ _ (fun e => ?_))) (Nat.le_trans hn hsz)
                  have := hm0n g hg
                  have : r.ad i = g := e.symm
                  omega)
                (fun k hk => .inr (by have := hm0n k hk; omega))
                (fun k hk g1 g2 => (Below.heap_setCell _ _ _ _ (fun e => g1 (by rw [hrad]; exact e))).trans (hC9.block k hk))
              rw [upd_upd, upd_upd] at hL10
              have hst : crashFile keep sk k2 i = { sk with file := upd sk.file i ⟨(sk.file i).b.take tm, tm⟩ } := by
                unfold crashFile; rw [hmb.out, hmkd.out, htm.out]
              refine ⟨k2 + 1, { rk with bv := upd rk.bv i (.slice cq tm ccap) }, by omega, by go_num, hrad, hrkv, ?_, ?_, ?_, ?_, ?_⟩
              · rw [hstep.out, hst]; exact hL10
              · exact (hG8.step hC9).setCell (p := ⟨r.ad i, 1, none⟩) (by rw [← hrad]; exact (hFk _ (.inr (.inr (.inr (.inr ⟨i, hi1, hi2', .inl rfl⟩)))))) _
              · rw [hstep.out, hst]
                intro x hx
                rcases foot_file (w := w) (r := rk) (s := sk) hi1 hi2' (fun k hk => .inr (by have := hm0n k hk; omega)) x hx with h4 | h4
                · exact hFk x h4
                · exact .inr h4
              · exact (hM8.same (hC9.block _ hM8.lt)).same (Below.heap_setCell _ _ _ _ hne1)
              · refine row_same (own_kept hrow8 hC9) (fun g' hg' => Below.heap_setCell _ _ _ _ (fun e => ?_))
                have := sort_row hrowk hg'
                rw [e, hri] at this; cases this
            case measure => simp [intOf]; omega
          · obtain rfl : k2 = fl.length := by omega
            rw [List.take_length] at hLk hFk
            clear hrowk hrow7'
            obtain ⟨sk, hsk⟩ : ∃ sk, crashFiles keep s 0 fl = sk := ⟨_, rfl⟩
            rw [hsk] at hLk hFk
            replace hsk : Hid (crashFiles keep s 0 fl = sk) := hsk
            have hcl := clone_any w.heap.size (at_ r.ad al) wr hMk
            clear hvq
            go_wp2_with (go_at_call 41; refine hcl.mono ?_; rintro e w10 ⟨rfl, hm10, hs10, hb10⟩; have h10 := hLk.below hb10; obtain ⟨d0, d1, d2, d3, d4, d5, d6, d7⟩ := h10.cells; have z2 := h10.free 2; have z3 := h10.free 3; have z4 := h10.free 4; have z5 := h10.free 5; have z6 := h10.free 6)
            go_returns
            have hpw := hL.foot_lt p (.inl rfl)
            have hsz := hGk.size
            have hp1 : w.heap.size ≠ p := by omega
            have hp2 : wr.heap.size ≠ p := by omega
            refine ⟨rfl, { rk with bn := w.heap.size, bk := wr.heap.size, wv := .slice none 0 0 }, ?_, (((((hGk.step hb10).setCell (p := ⟨p, 2, none⟩) (.inl (.inl rfl)) _).setCell (p := ⟨p, 3, none⟩) (.inl (.inl rfl)) _).setCell (p := ⟨p, 4, none⟩) (.inl (.inl rfl)) _).setCell (p := ⟨p, 5, none⟩) (.inl (.inl rfl)) _).setCell (p := ⟨p, 6, none⟩) (.inl (.inl rfl)) _, ?_⟩
            · rw [hnb.out, hal.out, hfd.out, hsk.out]
              refine h10.setAll w.heap.size wr.heap.size al al true (-1) ?_ ?_ (fun e => by have := hMk.lt; omega) hn (Nat.le_trans hn hsz) ?_ ?_
              · rw [hrad]
                refine (hMk.same (hb10.block _ hMk.lt)).same ?_
                rw [Below.heap_setCell _ _ _ _ hp1, Below.heap_setCell _ _ _ _ hp1, Below.heap_setCell _ _ _ _ hp1, Below.heap_setCell _ _ _ _ hp1, Below.heap_setCell _ _ _ _ hp1]
              · rw [hrad]
                refine hm10.same ?_
                rw [Below.heap_setCell _ _ _ _ hp2, Below.heap_setCell _ _ _ _ hp2, Below.heap_setCell _ _ _ _ hp2, Below.heap_setCell _ _ _ _ hp2, Below.heap_setCell _ _ _ _ hp2]
              · rw [setCell_heap (setCell_heap (setCell_heap (setCell_heap (setCell_heap h10.top))))]; rfl
              · intro k _ hk
                rw [Below.heap_setCell _ _ _ _ hk, Below.heap_setCell _ _ _ _ hk, Below.heap_setCell _ _ _ _ hk, Below.heap_setCell _ _ _ _ hk, Below.heap_setCell _ _ _ _ hk]
            · rw [hnb.out, hal.out, hfd.out, hsk.out]
              refine own_of hrkv ?_
              rintro k (h | h | h | h | ⟨j, g1, g2, h⟩)
              · exact .inl (.inl h)
              · exact .inr (by rw [h]; exact Nat.le_refl _)
              · exact .inr (by rw [h]; exact hsz)
              · cases h
              · exact hFk _ (.inr (.inr (.inr (.inr ⟨j, g1, g2, h⟩))))
  · rw [hdd] at ha
    go_enter Tryz.func9, Tryz.ntmps9
    go_wp2_with (go_at_call 39; refine ha.mono ?_; rintro e w' ⟨rfl, rfl⟩)
    go_returns
    exact ⟨rfl, Turns.none hL (Below.refl _ _)⟩

theorem intsIn_of_own {W : World} {n : Nat} {v : Value} {l : List Int} (h : W.ownsRow n 3 1 v l.length (encI l)) (hb : ∀ x ∈ l, -9223372036854775808 ≤ x ∧ x ≤ 9223372036854775807) (hl : l.length ≤ 9223372036854775807) : IntsIn W v l := by
  refine ⟨hb, hl, ?_⟩
  rcases h.2 with ⟨rfl, h0⟩ | ⟨g, cap, cur, rfl, _, hg, hc, _, hsz, ht⟩
  · exact .inl ⟨rfl, List.length_eq_zero_iff.1 h0⟩
  · refine .inr (.inr ⟨g, 0, cap, rfl, fun k hk => ?_⟩)
    rw [Nat.zero_add]
    simp only [World.cell?, hg, Option.isSome_none, Bool.false_eq_true, if_false]
    have h1 : cur[k]? = (cur.toList.take (l.length * 1))[k]? := by
      rw [List.getElem?_take, if_pos (by omega)]; simp
    rw [h1, ht]
    unfold encI
    rw [List.getElem?_map, List.getD_eq_getElem?_getD, List.getElem?_eq_getElem hk]; rfl
theorem Lies.keepIn {w w' : World} (h : Lies w p n₀ r s) (hwf : WF s) (hG : Grown (foot p r s) w w') : IntsIn w' r.kv s.keep :=
  intsIn_of_own (row_same h.keep (fun g hg => hG.block g (h.keep.lt g hg).2 (h.notV hg))) hwf.keepB (by have := hwf.keepL; omega)

set_option maxRecDepth 100000 in
theorem dies_yes (w : World) (h : Lies w p n₀ r s) (hwf : WF s) (hk : s.kept.length ≤ 1073741824) (hn : n₀ ≤ w.heap.size) (hf : s.fails = 0) : Calls Tryz.prog 52 #[ofBlock p] w fun e w' => e = .returned (.bool true) ∧ Turns w w' p n₀ r s (s.crash s.keep) := by
  obtain ⟨c0, c1, c2, c3, c4, c5, c6, c7⟩ := h.cells
  have hc := crash_at r.kv s.keep w h hwf hk hn (fun w' hG => h.keepIn hwf hG)
  rw [hf] at c6
  replace hf : Hid _ := hf
  obtain ⟨kq, kcap, hkv⟩ := own_shape h.keep
  rw [hkv] at hc c7
  replace hkv : Hid _ := hkv
  unfold ofBlock at *
  go_enter Tryz.func52, Tryz.ntmps52
  go_wp2_with (go_at_call 9; refine hc.mono ?_; rintro e w' ⟨rfl, ht⟩)
  go_returns
  exact ⟨rfl, ht⟩
end Go.Proofs.YtmcmagplaflegaaGreat
