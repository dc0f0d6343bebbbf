import Derived.RangeFuncWrites
import Derived.Test.YtgopahmhniphbaaDoorL3
namespace Go.Proofs.YtgopahmhniphbaaDoor
open Go.RowKit Sp Go.Poised Go.Shelf
attribute [local go_sem] Oper.semAt_some

/-- Least, the program's and the document's, answer the same. -/
theorem leasts (s : S) : ∃ (x : Nat) (b : Bool), (∀ w, Tab w → Calls Tryd.prog 22 #[sv s] w fun e w' => e = .returned (.tuple #[.int .u8 x, .bool b]) ∧ Below w.heap.size w w') ∧
    ∀ w, Calls Tryd.prog 26 #[sv s] w fun e w' => e = .returned (.tuple #[.int .u8 x, .bool b]) ∧ Below w.heap.size w w' := by
  cases hb : bl s with
  | nil =>
    have h0 := bl_nil hb
    exact ⟨0, false, fun w _ => h0 ▸ least_none w, fun w => by have := refLeast_none s hb w; exact this⟩
  | cons c r =>
    have hn0 : s ≠ 0#256 := by
      intro e; rw [e, bl_zero] at hb; cases hb
    exact ⟨c, true, fun w hT => least_some s c r hb hn0 w hT, fun w => refLeast_some s c r hb w⟩

theorem own_shape {W : World} {n : Nat} {v : Value} {l : List Nat} (h : W.ownsRow n 5 1 v l.length (enc l)) : ∃ p cap, v = .slice p l.length cap := by
  rcases h.2 with ⟨rfl, h0⟩ | ⟨g, cap, cur, rfl, _⟩
  · exact ⟨none, 0, by rw [h0]⟩
  · exact ⟨_, _, rfl⟩

/-- The range over an iterator, where the activation that the assignment leaves is found by the walk. -/
theorem range_found {F : Fence} {n : Nat} {P : Program} {α : Type} {g : Operand} {ps : Array Tmp} {assign body : Code} {Q : Exit → Act → World → Prop} {a : Act} {w : World}
    (hro : F.round = none) (h1 : 1 ≤ n) {gf : Nat} {lb : Array Value} (hg : a.eval g = .func (.func gf) #[] lb) (hFg : F.fn gf) (eg : ∀ args w, (callFunc gf args).run P w = .ok (.enter gf args) w)
    {encs : α → Array Value} {Kp : World → World → Prop} {S Sp : List α → Prop} {N : Nat} {w0 : World} (hseq : SeqStopsK F (n - 1) P gf lb encs Kp S Sp N w0)
    (hKt : ∀ {A B C : World}, Kp A B → Kp B C → Kp A C) (hKb : ∀ (W : World) (l : Nat) (o o' : Obj), w.heap.size ≤ l → W.heap[l]? = some o → o.isCells = false → o.isWalk = false → Kp W (W.putObj l o')) (hb0 : Below w0.heap.size w0 w) (hps : ∀ x, (encs x).size = ps.size)
    (I : List α → World → Prop) (Ix : Code → List α → World → Prop) (hI : OwnFrom w.heap.size I) (hIx : ∀ c, OwnFrom w.heap.size (Ix c)) (h0 : I [] w)
    (h : ∃ a₁ : α → Act, (∀ (l : Nat) (x : α) (W : World) (K : Act → World → Prop), K (a₁ x) W →
        assign.wpIn (F.inRound l) (n - 1 - 1) P (Exit.then K (fun _ _ _ => False)) { tmps := (ps.zip (encs x)).foldl (fun t (p, v) => t.setIfInBounds p v) a.tmps, defers := [] } W) ∧
      (∀ (l : Nat) (pre : List α) (x : α) (W : World), I pre W → pre.length < N → body.wpIn (F.inRound l) (n - 1 - 1) P (ownPostG w.heap.size Kp I Ix (pre ++ [x]) W) (a₁ x) W) ∧
      (∀ (D : Nat) (xs : List α) (W : World), w.heap.size ≤ D → S xs → I xs W → W.heap[D]? = some (.deferred (some [])) → Q .normal { a with defers := { target := .collected D, args := #[] } :: a.defers } W) ∧
      ∀ (D : Nat) (c : Code) (pre : List α) (W : World), w.heap.size ≤ D → Sp pre → Ix c pre W → W.heap[D]? = some (.deferred (some [])) → c.wpIn F n P Q { a with defers := { target := .collected D, args := #[] } :: a.defers } W) :
    (Code.rangeFunc g ps assign body).wpIn F n P Q a w :=
  let ⟨a₁, ha, hb, hd, hs⟩ := h
  wpIn_rangeFunc_ownG hro h1 hg hFg eg hseq hKt hKb hb0 hps I Ix hI hIx h0 a₁ ha hb hd hs
theorem boxed_own {β : Type} (B : Nat) (t : TypeId) (v : β → Value) : Own (fun s W => Boxed W B t (v s)) := by
  intro s X Y row hv hg hrow
  refine hv.kept hg (fun e' => ?_)
  obtain ⟨o, ho, hc⟩ := hrow B e'.symm
  rw [show X.heap[B]? = _ from hv] at ho; cases ho; cases hc
theorem row_own {β : Type} (n₀ : Nat) (e : TypeId) (size : Nat) (v : Value) (k : Nat) (xs : List Value) : Own (fun (_ : β) W => W.ownsRow n₀ e size v k xs) := by
  rintro s X Y row hr hg hrow
  refine hr.kept hg ?_
  rcases hr.2 with ⟨rfl, _⟩ | ⟨g, cap, cur, rfl, _, hgb, _⟩
  · exact .inl rfl
  · refine .inr fun e' => ?_
    obtain ⟨o, ho, hc⟩ := hrow g (by simpa [Value.ownBlock] using e'.symm)
    rw [hgb] at ho; cases ho; cases hc
theorem own_pure {β : Type} (p : β → Prop) : Own (fun s (_ : World) => p s) := fun _ _ _ _ h _ _ => h
theorem own_and {β : Type} {I J : β → World → Prop} (h : Own I) (k : Own J) : Own (fun s W => I s W ∧ J s W) := fun s X Y row hs hg hr => ⟨h s X Y row hs.1 hg hr, k s X Y row hs.2 hg hr⟩

theorem boxed_same {W W' : World} {B : Nat} {t : TypeId} {v : Value} (h : Boxed W B t v) (hb : W'.heap[B]? = W.heap[B]?) : Boxed W' B t v := hb.trans h

set_option maxRecDepth 100000 in
set_option maxHeartbeats 8000000 in
theorem setsTell_any (s : S) (c : Nat) (many : Int) (w : World) (hc : c < 256) (hm : (Lit.int .i64 many).wf = true) (hT : Tab w) :
    Calls Tryd.prog 7 #[sv s, .int .u8 c, .int .i64 many] w fun e w' => e = .returned (.bool true) ∧ Below w.heap.size w w' := by
  have hm1 : -9223372036854775808 ≤ many ∧ many ≤ 9223372036854775807 := by
    simp [Lit.wf, IntKind.min, IntKind.max, IntKind.signed, IntKind.bits] at hm
    omega
  obtain ⟨x, b, hL1, hL2⟩ := leasts s
  have hlen : (bl s).length ≤ 256 := blTo_len s 4
  have hl0 := fun w => len_any s w
  rw [cnt_bl] at hl0
  have hA := fun w => refAll_any s w
  have hH := fun w => has_any s c hc w
  have hH' := fun w => refHas_any s c hc w
  unfold sv at *
  refine (callsIn_wide (n := 3)).1 ?_
  refine callsIn_of_wp_marks Tryd.func7 rfl trivial ?_ rfl
  refine wpIn_wide.2 ?_
  simp only [Tryd.ntmps7, List.size_toArray, List.length_cons, List.length_nil, Nat.reduceAdd, Nat.reduceSub, Array.replicate_succ, Array.replicate_zero, List.push_toArray, List.append_toArray, List.nil_append, List.cons_append]
  go_wp2_with fail
  refine (hA _).mono ?_
  rintro e w1 ⟨v, rfl, hrow, hb1⟩
  obtain ⟨p, cap, rfl⟩ := own_shape hrow
  have hs0 : SetAt ((w.alloc (boxOf s)).alloc (.cells #[.bool false] 4)) w.heap.size s := (SetAt.box w s).alloc _
  have hr0 : Boxed ((w.alloc (boxOf s)).alloc (.cells #[.bool false] 4)) (w.heap.size + 1) 4 (.bool false) := by
    have h := Boxed.new (w.alloc (boxOf s)) 4 (.bool false)
    simp only [World.size_alloc] at h
    exact h
  have hb0 : Below w.heap.size w ((w.alloc (boxOf s)).alloc (.cells #[.bool false] 4)) := balloc (balloc (Below.refl _ _) _) _
  have hs1 := (hs0.same (hb1.block _ hs0.lt)).alloc (.cells #[.slice p (bl s).length cap] 30)
  have hr1 := (boxed_same hr0 (hb1.block _ hr0.lt)).alloc (.cells #[.slice p (bl s).length cap] 30)
  have hw1 := Boxed.new w1 30 (.slice p (bl s).length cap)
  have hB1 := balloc (bnext hb0 hb1) (.cells #[.slice p (bl s).length cap] 30)
  have hrow1 := hrow.alloc (.cells #[.slice p (bl s).length cap] 30)
  have hz1 := hb1.size
  simp only [World.size_alloc] at hz1
  obtain ⟨c0, c1, c2, c3⟩ := hs1.cell
  go_wp2_with fail
  refine (hL1 _ (hT.below hB1 hT.lt)).mono ?_
  rintro e w2 ⟨rfl, hb2⟩
  have hs2 := hs1.same (hb2.block _ hs1.lt)
  have hr2 := boxed_same hr1 (hb2.block _ hr1.lt)
  have hw2 := boxed_same hw1 (hb2.block _ hw1.lt)
  have hB2 := bnext hB1 hb2
  have hrow2 := own_below hrow1 hb2
  clear c0 c1 c2 c3
  obtain ⟨c0, c1, c2, c3⟩ := hs2.cell
  go_wp2_with fail
  refine (hL2 _).mono ?_
  rintro e w3 ⟨rfl, hb3⟩
  have hs := hs2.same (hb3.block _ hs2.lt)
  have hr := boxed_same hr2 (hb3.block _ hr2.lt)
  have hw := boxed_same hw2 (hb3.block _ hw2.lt)
  have hB3 := bnext hB2 hb3
  have hrow3 := own_base (own_below hrow2 hb3) (m := w.heap.size) (by simp; omega)
  clear c0 c1 c2 c3 hs1 hr1 hw1 hs2 hr2 hw2 hrow1 hrow2 hrow hs0 hr0 hb0
  generalize w1.heap.size = N7 at *
  go_wp2_with fail
  refine poised_whole (fun w' => Below w3.heap.size w3 w') (fun w w' => Below w3.heap.size w w') (by kernel_rfl) (by kernel_rfl) (by kernel_rfl) (fun _ _ h k => h.trans k) ((Below.refl _ _).drew) ?_
  apply Exists.intro
  apply walk_det
  · rfl
  · intro w2 hC hF
    obtain ⟨c0, c1, c2, c3⟩ := (hs.same (hC.block _ hs.lt)).cell
    have g7 := (boxed_same hw (hC.block _ hw.lt)).cell
    simp only [upon]
    go_simp
    exact ⟨Below.refl _ _, rfl⟩
  simp only [put_lit, List.set_cons_succ, List.set_cons_zero]
  apply walk_det
  · rfl
  · intro w2 hC hF
    simp only [upon]
    go_simp
    exact ⟨Below.refl _ _, rfl⟩
  simp only [put_lit, List.set_cons_succ, List.set_cons_zero]
  apply walk_det
  · rfl
  · intro w2 hC hF
    obtain ⟨c0, c1, c2, c3⟩ := (hs.same (hC.block _ hs.lt)).cell
    have g7 := (boxed_same hw (hC.block _ hw.lt)).cell
    simp only [upon]
    go_simp
    exact up_call (hH _) hC.size
  simp only [put_lit, List.set_cons_succ, List.set_cons_zero]
  apply walk_det
  · rfl
  · intro w2 hC hF
    obtain ⟨c0, c1, c2, c3⟩ := (hs.same (hC.block _ hs.lt)).cell
    have g7 := (boxed_same hw (hC.block _ hw.lt)).cell
    simp only [upon]
    go_simp
    exact ⟨Below.refl _ _, rfl⟩
  simp only [put_lit, List.set_cons_succ, List.set_cons_zero]
  apply walk_det
  · rfl
  · intro w2 hC hF
    simp only [upon]
    go_simp
    exact ⟨Below.refl _ _, rfl⟩
  simp only [put_lit, List.set_cons_succ, List.set_cons_zero]
  apply walk_det
  · rfl
  · intro w2 hC hF
    obtain ⟨c0, c1, c2, c3⟩ := (hs.same (hC.block _ hs.lt)).cell
    have g7 := (boxed_same hw (hC.block _ hw.lt)).cell
    simp only [upon]
    go_simp
    exact up_call (hH' _) hC.size
  simp only [put_lit, List.set_cons_succ, List.set_cons_zero]
  apply walk_det
  · rfl
  · intro w2 hC hF
    simp only [upon]
    go_simp
    exact ⟨Below.refl _ _, rfl⟩
  simp only [put_lit, List.set_cons_succ, List.set_cons_zero]
  apply walk_det
  · rfl
  · intro w2 hC hF
    simp only [upon]
    go_simp
    exact ⟨Below.refl _ _, rfl⟩
  simp only [put_lit, List.set_cons_succ, List.set_cons_zero]
  apply walk_det
  · rfl
  · intro w2 hC hF
    obtain ⟨c0, c1, c2, c3⟩ := (hs.same (hC.block _ hs.lt)).cell
    have g7 := (boxed_same hw (hC.block _ hw.lt)).cell
    simp only [upon]
    go_simp
    exact ⟨Below.refl _ _, rfl⟩
  simp only [put_lit, List.set_cons_succ, List.set_cons_zero]
  apply walk_det
  · rfl
  · intro w2 hC hF
    obtain ⟨c0, c1, c2, c3⟩ := (hs.same (hC.block _ hs.lt)).cell
    have g7 := (boxed_same hw (hC.block _ hw.lt)).cell
    simp only [upon]
    go_simp
    exact up_call (hl0 _) hC.size
  simp only [put_lit, List.set_cons_succ, List.set_cons_zero]
  apply walk_det
  · rfl
  · intro w2 hC hF
    obtain ⟨c0, c1, c2, c3⟩ := (hs.same (hC.block _ hs.lt)).cell
    have g7 := (boxed_same hw (hC.block _ hw.lt)).cell
    simp only [upon]
    go_simp
    exact ⟨Below.refl _ _, rfl⟩
  simp only [put_lit, List.set_cons_succ, List.set_cons_zero]
  apply walk_det
  · rfl
  · intro w2 hC hF
    simp only [upon]
    go_simp
    exact ⟨Below.refl _ _, rfl⟩
  simp only [put_lit, List.set_cons_succ, List.set_cons_zero]
  apply walk_det
  · rfl
  · intro w2 hC hF
    simp only [upon]
    go_simp
    exact ⟨Below.refl _ _, rfl⟩
  simp only [put_lit, List.set_cons_succ, List.set_cons_zero]
  apply walk_det
  · rfl
  · intro w2 hC hF
    simp only [upon]
    go_simp
    exact ⟨Below.refl _ _, rfl⟩
  simp only [put_lit, List.set_cons_succ, List.set_cons_zero]
  apply walk_det
  · rfl
  · intro w2 hC hF
    simp only [upon]
    go_simp
    exact ⟨Below.refl _ _, rfl⟩
  simp only [put_lit, List.set_cons_succ, List.set_cons_zero]
  apply walk_det
  · rfl
  · intro w2 hC hF
    simp only [upon]
    go_simp
    exact ⟨Below.refl _ _, rfl⟩
  simp only [put_lit, List.set_cons_succ, List.set_cons_zero]
  apply walk_det
  · rfl
  · intro w2 hC hF
    simp only [upon]
    go_simp
    exact ⟨Below.refl _ _, rfl⟩
  simp only [put_lit, List.set_cons_succ, List.set_cons_zero]
  apply walk_det
  · rfl
  · intro w2 hC hF
    simp only [upon]
    go_simp
    exact ⟨Below.refl _ _, rfl⟩
  simp only [put_lit, List.set_cons_succ, List.set_cons_zero]
  apply walk_det
  · rfl
  · intro w2 hC hF
    simp only [upon]
    go_simp
    exact ⟨Below.refl _ _, rfl⟩
  simp only [put_lit, List.set_cons_succ, List.set_cons_zero]
  apply walk_det
  · rfl
  · intro w2 hC hF
    simp only [upon]
    go_simp
    exact ⟨Below.refl _ _, rfl⟩
  simp only [put_lit, List.set_cons_succ, List.set_cons_zero]
  apply walk_det
  · rfl
  · intro w2 hC hF
    simp only [upon]
    go_simp
    exact ⟨Below.refl _ _, rfl⟩
  simp only [put_lit, List.set_cons_succ, List.set_cons_zero]
  apply walk_det
  · rfl
  · intro w2 hC hF
    simp only [upon]
    go_simp
    exact ⟨Below.refl _ _, rfl⟩
  simp only [put_lit, List.set_cons_succ, List.set_cons_zero]
  apply walk_det
  · rfl
  · intro w2 hC hF
    simp only [upon]
    go_simp
    exact ⟨Below.refl _ _, rfl⟩
  simp only [put_lit, List.set_cons_succ, List.set_cons_zero]
  apply walk_det
  · rfl
  · intro w2 hC hF
    simp only [upon]
    go_simp
    exact ⟨Below.refl _ _, rfl⟩
  simp only [put_lit, List.set_cons_succ, List.set_cons_zero]
  apply walk_nil
  intro w2 hC _
  have hs4 := hs.same (hC.block _ hs.lt)
  have hr4 := boxed_same hr (hC.block _ hr.lt)
  have hw4 := boxed_same hw (hC.block _ hw.lt)
  have hB4 := bnext hB3 hC
  have hrow4 := own_below hrow3 hC
  clear hs hr hw hB3 hrow3
  obtain ⟨c0, c1, c2, c3⟩ := hs4.cell
  have g7 := hw4.cell
  have hBr := fun w => bring_any many ((bl s).length + 1) (by omega) (by omega) hm1.1 hm1.2 w
  obtain ⟨n, hn⟩ : ∃ n : Nat, many % ((bl s).length + 1) = n := ⟨(many % ((bl s).length + 1)).toNat, by have := Int.emod_nonneg many (b := (bl s).length + 1) (by omega); omega⟩
  have hnl : n ≤ (bl s).length := by have := Int.emod_lt_of_pos many (b := (bl s).length + 1) (by omega); omega
  rw [hn] at hBr
  have hnil : ∀ (w : World) (n : Nat), (binOp .eql 43 (.func (.func 33) #[] #[.pointer (some ⟨n, 0, none⟩)]) .nilFunc).run Tryd.prog w = .ok (.bool false) w := fun _ _ => by kernel_rfl
  go_wp2_with fail
  refine (hBr _).mono ?_
  rintro e w5 ⟨rfl, rfl⟩
  have hs5 := (hs4.alloc (.cells #[.int .i64 n] 3)).alloc (.cells #[.int .i64 0] 3)
  have hs6 := hs5.alloc (boxOf s)
  clear c0 c1 c2 c3
  obtain ⟨c0, c1, c2, c3⟩ := hs5.cell
  obtain ⟨d0, d1, d2, d3⟩ := hs6.cell
  go_wp2_with (go_at_call 30; refine (all_any s _).mono ?_; rintro e w' ⟨rfl, rfl⟩)
  have hW : ∃ W0 : World, (((w5.alloc (.cells #[.int .i64 n] 3)).alloc (.cells #[.int .i64 0] 3)).alloc (boxOf s)).alloc (boxOf s) = W0 := ⟨_, rfl⟩
  obtain ⟨W0, hW0⟩ := hW
  have hz : W0.heap.size = w5.heap.size + 4 := by rw [← hW0]; simp
  have hb5 : Below w5.heap.size w5 W0 := by rw [← hW0]; exact balloc (balloc (balloc (balloc (Below.refl _ _) _) _) _) _
  have hB5 := bnext hB4 hb5
  have hrow5 := own_below hrow4 hb5
  have hr5 := boxed_same hr4 (hb5.block _ hr4.lt)
  have hw5 := boxed_same hw4 (hb5.block _ hw4.lt)
  have hn5 : Boxed W0 w5.heap.size 3 (.int .i64 n) := by
    rw [← hW0]; exact (((Boxed.new w5 3 (.int .i64 n)).alloc _).alloc _).alloc _
  have ha5 : Boxed W0 (w5.heap.size + 1) 3 (.int .i64 0) := by
    rw [← hW0]
    have h := Boxed.new (w5.alloc (.cells #[.int .i64 n] 3)) 3 (.int .i64 0)
    simp only [World.size_alloc] at h
    exact (h.alloc _).alloc _
  have hset : SetAt W0 (w5.heap.size + 1 + 1 + 1) s := by
    rw [← hW0]
    have h := SetAt.box (((w5.alloc (.cells #[.int .i64 n] 3)).alloc (.cells #[.int .i64 0] 3)).alloc (boxOf s)) s
    simp only [World.size_alloc] at h
    exact h
  have hT0 : Tab W0 := hT.below hB5 hT.lt
  show Code.wp _ _ _ _ ((((w5.alloc (.cells #[.int .i64 n] 3)).alloc (.cells #[.int .i64 0] 3)).alloc (boxOf s)).alloc (boxOf s))
  rw [hW0]
  clear hW0 hs5 hs6 c0 c1 c2 c3 d0 d1 d2 d3 hA hL1 hL2 hl0 hH hH' hBr hs4
  have hzz : w.heap.size + 1 < w5.heap.size := by have := hr4.lt; omega
  have h7z : N7 < w5.heap.size := hw4.lt
  refine (wpIn_wide (n := 3)).1 ?_
  refine range_found rfl (by omega) (gf := 33) (lb := #[.pointer (some ⟨w5.heap.size + 1 + 1 + 1, 0, none⟩)]) rfl trivial (enters_of Tryd.func33 (by kernel_rfl) rfl)
    (all_stops (w5.heap.size + 1 + 1 + 1) s W0 hset hT0) belowK_t (belowK_b (by omega)) (Below.refl _ _) (fun _ => rfl)
    (fun pre W => (Boxed W (w.heap.size + 1) 4 (.bool false) ∧ Boxed W N7 30 (.slice p (bl s).length cap) ∧ W.ownsRow w.heap.size 5 1 (.slice p (bl s).length cap) (bl s).length (enc (bl s)) ∧ Boxed W w5.heap.size 3 (.int .i64 n) ∧ Boxed W (w5.heap.size + 1) 3 (.int .i64 pre.length) ∧ (pre.length ≤ n ∧ pre = (bl s).take pre.length)) ∧ Below w.heap.size w W)
    (fun j pre W => ((j = .exit 0 ∧ ∃ pre' x, pre = pre' ++ [x] ∧ Boxed W (w.heap.size + 1) 4 (.bool false) ∧ Boxed W w5.heap.size 3 (.int .i64 n) ∧ Boxed W (w5.heap.size + 1) 3 (.int .i64 n)) ∨ (j = .ret ∧ ¬ pre <+: bl s)) ∧ Below w.heap.size w W)
    (OwnFrom.and (Own.from (own_and (boxed_own _ _ _) (own_and (boxed_own _ _ _) (own_and (row_own _ _ _ _ _ _) (own_and (boxed_own _ _ _) (own_and (boxed_own _ _ (fun pre : List Nat => .int .i64 pre.length)) (own_pure _)))))) _) (ownFrom_below (Nat.le_refl _) (by omega)))
    (fun j => OwnFrom.and (Own.from (fun s A B row hs hg hr => by
      rcases hs with ⟨hj, pre', x, hp, h1, h2, h3⟩ | hs
      · exact .inl ⟨hj, pre', x, hp, boxed_own (β := Unit) _ _ (fun _ => _) () A B row h1 hg hr, boxed_own (β := Unit) _ _ (fun _ => _) () A B row h2 hg hr, boxed_own (β := Unit) _ _ (fun _ => _) () A B row h3 hg hr⟩
      · exact .inr hs) _) (ownFrom_below (Nat.le_refl _) (by omega)))
    ⟨⟨hr5, hw5, hrow5, hn5, ha5, by simp, by simp⟩, hB5⟩ ?_
  apply Exists.intro
  refine ⟨?assign, ?body, ?done, ?stop⟩
  case assign =>
    intro l x W K hK
    gi_wp2
    exact hK
  case body =>
    rintro l pre y W ⟨⟨hr, hw, hrow, hn, ha, hle, hpre⟩, hB⟩ _
    replace hpre : Hid (pre = (bl s).take pre.length) := hpre
    have hnc := hn.cell
    have hac := ha.cell
    by_cases e1 : pre.length = n
    · subst e1
      gi_wp2
      exact ⟨KeepsFrom.refl _ _, .inl ⟨rfl, pre, y, rfl, hr, hn, ha⟩, hB⟩
    · have hne : bl s ≠ [] := by intro e0; rw [e0] at hnl; simp at hnl; omega
      obtain ⟨g, cap', hp, hR⟩ := own_row hrow hne
      cases hp
      have hwc := hw.cell
      have hrc := hr.cell
      have hrf := hr.frozen
      have haf := ha.frozen
      have hxc := hR pre.length (by omega)
      have q1 : decide (pre.length = n) = false := by simp; omega
      have q2 : decide ((bl s).length ≤ pre.length) = false := by simp; omega
      have q3 : pre.length < (bl s).length := by omega
      have q4 : (pre.length : Int) < (bl s).length := by omega
      obtain ⟨z, hz⟩ : ∃ z, (bl s).getD pre.length 0 = z := ⟨_, rfl⟩
      rw [hz] at hxc
      replace hz : Hid ((bl s).getD pre.length 0 = z) := hz
      by_cases hx : y = z
      · subst hx
        gi_wp2
        refine ⟨(KeepsOthers.setCell _ _ _).from _, (Below.refl 1 W).setCell (p := ⟨w5.heap.size + 1, 0, none⟩) (by simp) _, ⟨boxed_same hr (Below.heap_setCell _ _ _ _ (by simp; omega)), boxed_same hw (Below.heap_setCell _ _ _ _ (by simp; omega)), hrow.kept (grownBy_setCell' _ _ _) (.inr (ha.not_row (by decide) hrow).symm), boxed_same hn (Below.heap_setCell _ _ _ _ (by simp)), ?_, ?_, ?_⟩, hB.setCell (p := ⟨w5.heap.size + 1, 0, none⟩) (by simp; omega) _⟩
        · simpa using ha.set (.int .i64 (pre.length + 1))
        · simp; omega
        · have := take_snoc (bl s) pre.length q3
          rw [← hpre.out, hz.out] at this
          simp only [List.length_append, List.length_cons, List.length_nil, Nat.zero_add]
          exact this.symm
      · have q6 : ((y : Int) != (z : Int)) = true := by simp; omega
        gi_wp2
        refine ⟨(KeepsOthers.setCell _ _ _).from _, .inr ⟨rfl, fun hp => hx ?_⟩, hB.setCell (p := ⟨w.heap.size + 1, 0, none⟩) (by simp) _⟩
        obtain ⟨r, hr⟩ := hp
        rw [← hz.out, ← hr, List.getD_eq_getElem?_getD]
        simp
  case done =>
    rintro D ys W hD rfl ⟨⟨hr, hw, hrow, hn, ha, hle, -⟩, hB⟩ hK
    obtain rfl : n = (bl s).length := by omega
    have hnc := hn.cell
    have hac := ha.cell
    go_wp2_with fail
    refine (works_any _ (hT.below hB hT.lt)).mono ?_
    rintro e w6 ⟨rfl, hb6⟩
    have hr6 := boxed_same hr (hb6.block _ hr.lt)
    have hrc := hr6.cell
    have hrf := hr6.frozen
    have hK6 := (hb6.block _ (Array.getElem?_eq_some_iff.1 hK).1).trans hK
    go_wp2
    have hK7 := (Below.heap_setCell w6 ⟨w.heap.size + 1, 0, none⟩ (.bool true) D (by simp; omega)).trans hK6
    refine ⟨by simp, .inl ⟨_, _, rfl, run_takeDeferred hK7, ?_⟩⟩
    have hc8 := cell_kept (hr6.set (.bool true)).cell (grownBy_putObj' _ D (.deferred none)) (fun r e => by cases e; exact ⟨_, hK7, rfl⟩)
    refine ⟨.bool true, ?_, rfl, ((bnext hB hb6).setCell (p := ⟨w.heap.size + 1, 0, none⟩) (by simp) _).trans (belowK_b (w := w) (Nat.le_refl _) _ D _ _ (by omega) hK7 rfl rfl)⟩
    simp [results, Tryd.f7, go_sem, hc8]
  case stop =>
    rintro D j pre W hD hpre ⟨⟨rfl, pre', x, rfl, hr, hn, ha⟩ | ⟨rfl, hs⟩, hB⟩ hK
    · refine wpIn_wide.2 ?_
      have hnc := hn.cell
      have hac := ha.cell
      go_wp2_with fail
      refine (works_any _ (hT.below hB hT.lt)).mono ?_
      rintro e w6 ⟨rfl, hb6⟩
      have hr6 := boxed_same hr (hb6.block _ hr.lt)
      have hrc := hr6.cell
      have hrf := hr6.frozen
      have hK6 := (hb6.block _ (Array.getElem?_eq_some_iff.1 hK).1).trans hK
      go_wp2
      have hK7 := (Below.heap_setCell w6 ⟨w.heap.size + 1, 0, none⟩ (.bool true) D (by simp; omega)).trans hK6
      refine ⟨by simp, .inl ⟨_, _, rfl, run_takeDeferred hK7, ?_⟩⟩
      have hc8 := cell_kept (hr6.set (.bool true)).cell (grownBy_putObj' _ D (.deferred none)) (fun r e => by cases e; exact ⟨_, hK7, rfl⟩)
      refine ⟨.bool true, ?_, rfl, ((bnext hB hb6).setCell (p := ⟨w.heap.size + 1, 0, none⟩) (by simp) _).trans (belowK_b (w := w) (Nat.le_refl _) _ D _ _ (by omega) hK7 rfl rfl)⟩
      simp [results, Tryd.f7, go_sem, hc8]
    · exact absurd hpre hs
end Go.Proofs.YtgopahmhniphbaaDoor
