/-
  Crash. Conditions: those of each theorem.
-/
import Derived.Test.YtbkkcbdbdogloaaSb
namespace Go.Proofs.Ytbkkcbdbdogloaa
open Go Go.RowKit Go.MapL Go.Poised

variable {p n₀ : Nat} {r : Rep} {s : DS}

def stepW (l : List (ByteArray × Nat)) (q : ByteArray × ByteArray × Option Nat) : List (ByteArray × Nat) := step q.1 q.2.1 q.2.2 l
/-- The names behind the first n works. -/
def after (s : DS) (n : Nat) : List (ByteArray × Nat) := (s.works.take n).foldl stepW s.kept
def crashFile (keep : List Int) (s : DS) (k i : Nat) : DS :=
  { s with file := upd s.file i ⟨(s.file i).b.take ((s.file i).mark + brought keep (1 + k) ((s.file i).b.length - (s.file i).mark)), (s.file i).mark + brought keep (1 + k) ((s.file i).b.length - (s.file i).mark)⟩ }
def crashFiles (keep : List Int) : DS → Nat → List Nat → DS
  | s, _, [] => s
  | s, k, i :: l => crashFiles keep (crashFile keep s k i) (k + 1) l
def DS.crash (s : DS) (keep : List Int) : DS :=
  if s.dead then s else
    { crashFiles keep s 0 (rising ((after s (brought keep 0 s.works.length)).map (·.2))) with
      names := after s (brought keep 0 s.works.length), kept := after s (brought keep 0 s.works.length), works := [], dead := true }

theorem step_in {P : Nat → Prop} {a b : ByteArray} {f : Option Nat} {l : List (ByteArray × Nat)} (hl : ∀ q ∈ l, P q.2) (hf : ∀ i, f = some i → P i) : ∀ q ∈ step a b f l, P q.2 := by
  have hdel : ∀ l : List (ByteArray × Nat), (∀ q ∈ l, P q.2) → ∀ q ∈ del a l, P q.2 := by
    intro l
    induction l with
    | nil => intro _ q hq; cases hq
    | cons x l ih =>
      intro hl q hq
      obtain ⟨k, v⟩ := x
      unfold del at hq
      split at hq
      · exact hl q (.tail _ hq)
      · rcases List.mem_cons.1 hq with rfl | hq
        · exact hl _ (.head _)
        · exact ih (fun q hq => hl q (.tail _ hq)) q hq
  have hput : ∀ i, P i → ∀ l : List (ByteArray × Nat), (∀ q ∈ l, P q.2) → ∀ q ∈ put b i l, P q.2 := by
    intro i hi l
    induction l with
    | nil => intro _ q hq; simp [put] at hq; subst hq; exact hi
    | cons x l ih =>
      intro hl q hq
      obtain ⟨k, v⟩ := x
      unfold put at hq
      split at hq
      · rcases List.mem_cons.1 hq with rfl | hq
        · exact hi
        · exact hl q (.tail _ hq)
      · rcases List.mem_cons.1 hq with rfl | hq
        · exact hl _ (.head _)
        · exact ih (fun q hq => hl q (.tail _ hq)) q hq
  cases f with
  | none => exact hdel l hl
  | some i => exact hput i (hf i rfl) _ (hdel l hl)
theorem after_in (hwf : WF s) : ∀ n, ∀ q ∈ after s n, 1 ≤ q.2 ∧ q.2 ≤ s.births := by
  intro n
  unfold after
  have key : ∀ (ws : List (ByteArray × ByteArray × Option Nat)) (l : List (ByteArray × Nat)), (∀ q ∈ ws, ∀ i, q.2.2 = some i → 1 ≤ i ∧ i ≤ s.births) → (∀ q ∈ l, 1 ≤ q.2 ∧ q.2 ≤ s.births) → ∀ q ∈ ws.foldl stepW l, 1 ≤ q.2 ∧ q.2 ≤ s.births := by
    intro ws
    induction ws with
    | nil => intro l _ hl; exact hl
    | cons x ws ih =>
      intro l hw hl
      exact ih (stepW l x) (fun q hq => hw q (.tail _ hq)) (step_in (P := fun i => 1 ≤ i ∧ i ≤ s.births) hl (hw x (.head _)))
  exact key _ _ (fun q hq => hwf.works q (List.mem_of_mem_take hq)) hwf.kept
theorem step_len {β : Type} (a b : ByteArray) (f : Option β) (l : List (ByteArray × β)) : (step a b f l).length ≤ l.length + 1 := by
  have hdel : ∀ l : List (ByteArray × β), (del a l).length ≤ l.length := by
    intro l
    induction l with
    | nil => simp [del]
    | cons x l ih => obtain ⟨k, v⟩ := x; unfold del; split <;> simp <;> omega
  have hput : ∀ i, ∀ l : List (ByteArray × β), (put b i l).length ≤ l.length + 1 := by
    intro i l
    induction l with
    | nil => simp [put]
    | cons x l ih => obtain ⟨k, v⟩ := x; unfold put; split <;> simp <;> omega
  cases f with
  | none => have := hdel l; simp only [step]; omega
  | some i => have := hput i (del a l); have := hdel l; simp only [step]; omega
theorem after_len (n : Nat) (hk : s.kept.length ≤ 1073741824) (hw : s.works.length ≤ 1073741824) : (after s n).length ≤ 2147483648 := by
  unfold after
  have key : ∀ (ws : List (ByteArray × ByteArray × Option Nat)) (l : List (ByteArray × Nat)), (ws.foldl stepW l).length ≤ l.length + ws.length := by
    intro ws
    induction ws with
    | nil => intro l; simp
    | cons x ws ih => intro l; have := ih (stepW l x); have := step_len x.1 x.2.1 x.2.2 l; simp only [List.foldl_cons, List.length_cons]; unfold stepW at *; omega
  have := key (s.works.take n) s.kept
  have h2 : (s.works.take n).length ≤ s.works.length := by simp; omega
  omega
theorem own_cap {W : World} {n e size : Nat} {v : Value} {k : Nat} {xs : List Value} (h : W.ownsRow n e size v k xs) : ∃ p cap, v = .slice p k cap ∧ k ≤ cap := by
  rcases h.2 with ⟨rfl, rfl⟩ | ⟨g, cap, cur, rfl, _, _, hc, _⟩
  · exact ⟨none, 0, rfl, Nat.le_refl _⟩
  · exact ⟨_, _, rfl, hc⟩
theorem after_succ (k : Nat) (hk : k < s.works.length) : after s (k + 1) = stepW (after s k) (s.works[k]) := by
  unfold after
  rw [List.take_succ_eq_append_getElem hk, List.foldl_append]; rfl
/-- The cells of work k. -/
theorem works_cells {w : World} (h : Lies w p n₀ r s) (k : Nat) (hk : k < s.works.length) : ∃ g cap, r.wv = .slice (some ⟨g, 0, none⟩) s.works.length cap ∧
    w.cell? ⟨g, k * 3, none⟩ = some (.string (s.works[k]).1) ∧ w.cell? ⟨g, k * 3 + 1, none⟩ = some (.string (s.works[k]).2.1) ∧ w.cell? ⟨g, k * 3 + 2, none⟩ = some (ptrOf r.ad (s.works[k]).2.2) := by
  rcases h.works.2 with ⟨_, h0⟩ | ⟨g, cap, cur, hv, _, hg, hc, _, hsz, ht⟩
  · omega
  · have key : ∀ (l : List (ByteArray × ByteArray × Option Nat)) (k : Nat) (hk : k < l.length) (j : Nat), j < 3 → (l.flatMap (encW r.ad))[k * 3 + j]? = (encW r.ad l[k])[j]? := by
      intro l
      induction l with
      | nil => intro k hk; simp at hk
      | cons x l ih =>
        intro k hk j hj
        rw [List.flatMap_cons]
        have hl : (encW r.ad x).length = 3 := rfl
        cases k with
        | zero => rw [List.getElem?_append_left (by rw [hl]; omega)]; simp
        | succ k =>
          rw [List.getElem?_append_right (by rw [hl]; omega), hl, show (k + 1) * 3 + j - 3 = k * 3 + j by omega]
          exact ih k (by simpa using hk) j hj
    have hcell : ∀ j, j < 3 → w.cell? ⟨g, k * 3 + j, none⟩ = (encW r.ad (s.works[k]))[j]? := by
      intro j hj
      rw [← key s.works k hk j hj, ← ht]
      simp only [World.cell?, hg, Option.isSome_none, Bool.false_eq_true, if_false]
      rw [List.getElem?_take, if_pos (by omega)]; simp
    exact ⟨g, cap, hv, hcell 0 (by omega), hcell 1 (by omega), hcell 2 (by omega)⟩

theorem Turns.step {w w' w'' : World} {s' s'' : DS} {r' : Rep} (hG : Grown (foot p r s) w w') (hF : ∀ k, foot p r' s' k → foot p r s k ∨ w.heap.size ≤ k) (h : Turns w' w'' p n₀ r' s' s'') : Turns w w'' p n₀ r s s'' := by
  obtain ⟨r2, h1, h2, h3⟩ := h
  refine ⟨r2, h1, hG.trans h2 hF, fun k hk => ?_⟩
  rcases h3 k hk with h4 | h4
  · exact hF k h4
  · exact .inr (Nat.le_trans hG.size h4)

theorem own_kept {W W' : World} {n e size : Nat} {v : Value} {k : Nat} {xs : List Value} (h : W.ownsRow n e size v k xs) (hb : Below W.heap.size W W') : W'.ownsRow n e size v k xs :=
  row_same h (fun g hg => hb.block g (h.lt g hg).2)
theorem own_base' {w : World} {n m : Nat} {e : TypeId} {size k : Nat} {v : Value} {xs : List Value} (h : w.ownsRow n e size v k xs) (hm : m ≤ n) : w.ownsRow m e size v k xs := by
  refine ⟨h.1, ?_⟩
  rcases h.2 with h2 | ⟨g, cap, cur, h3, h4, r⟩
  · exact .inl h2
  · exact .inr ⟨g, cap, cur, h3, by omega, r⟩
theorem own_cell {W : World} {n e : Nat} {v : Value} {xs : List Value} (h : W.ownsRow n e 1 v xs.length xs) (k : Nat) (x : Value) (hk : xs[k]? = some x) : ∃ g cap, v = .slice (some ⟨g, 0, none⟩) xs.length cap ∧ W.cell? ⟨g, k, none⟩ = some x := by
  have hlt := (List.getElem?_eq_some_iff.1 hk).1
  rcases h.2 with ⟨_, h0⟩ | ⟨g, cap, cur, rfl, _, hg, hc, _, hsz, ht⟩
  · omega
  · refine ⟨g, cap, rfl, ?_⟩
    simp only [World.cell?, hg, Option.isSome_none, Bool.false_eq_true, if_false]
    have h1 : cur[k]? = (cur.toList.take (xs.length * 1))[k]? := by
      rw [List.getElem?_take, if_pos (by omega)]; simp
    rw [h1, ht, hk]
theorem crashFiles_snoc (keep : List Int) (i : Nat) : ∀ (l : List Nat) (s : DS) (j : Nat), crashFiles keep s j (l ++ [i]) = crashFile keep (crashFiles keep s j l) (j + l.length) i
  | [], _, _ => rfl
  | x :: l, s, j => by
    show crashFiles keep (crashFile keep s j x) (j + 1) (l ++ [i]) = _
    rw [crashFiles_snoc keep i l]
    show crashFile keep (crashFiles keep (crashFile keep s j x) (j + 1) l) (j + 1 + l.length) i = _
    rw [show j + 1 + l.length = j + (l.length + 1) by omega]; rfl
theorem upd_upd {β : Type} (f : Nat → β) (i : Nat) (a b : β) : upd (upd f i a) i b = upd f i b := by
  funext j
  by_cases hj : j = i
  · subst hj; simp
  · simp [upd_other _ _ hj]
theorem wf_crashFile (keep : List Int) (k i : Nat) (hwf : WF s) : WF (crashFile keep s k i) := {
  room := hwf.room
  births := hwf.births
  names := hwf.names
  kept := hwf.kept
  works := hwf.works
  count := hwf.count
  bytes := fun j x hx => by
    by_cases hj : j = i
    · subst hj; simp only [crashFile, upd_same] at hx; exact hwf.bytes j x (List.mem_of_mem_take hx)
    · simp only [crashFile, upd_other _ _ hj] at hx; exact hwf.bytes j x hx
  len := fun j => by
    by_cases hj : j = i
    · subst hj; simp only [crashFile, upd_same, List.length_take]; have := hwf.len j; omega
    · simp only [crashFile, upd_other _ _ hj]; exact hwf.len j
  mark := fun j => by
    by_cases hj : j = i
    · subst hj
      simp only [crashFile, upd_same, List.length_take]
      have := hwf.mark j
      have := brought_le keep (1 + k) ((s.file j).b.length - (s.file j).mark)
      omega
    · simp only [crashFile, upd_other _ _ hj]; exact hwf.mark j }
theorem wf_crashFiles (keep : List Int) : ∀ (l : List Nat) (s : DS) (k : Nat), WF s → WF (crashFiles keep s k l)
  | [], _, _, h => h
  | x :: l, _, k, h => wf_crashFiles keep l _ _ (wf_crashFile keep k x h)
theorem crashFiles_same (keep : List Int) : ∀ (l : List Nat) (s : DS) (k : Nat), (crashFiles keep s k l).births = s.births ∧ (crashFiles keep s k l).room = s.room ∧ (crashFiles keep s k l).names = s.names ∧ (crashFiles keep s k l).kept = s.kept ∧ (crashFiles keep s k l).works = s.works ∧ (crashFiles keep s k l).dead = s.dead
  | [], _, _ => ⟨rfl, rfl, rfl, rfl, rfl, rfl⟩
  | x :: l, s, k => crashFiles_same keep l (crashFile keep s k x) (k + 1)

set_option maxRecDepth 100000 in
set_option maxHeartbeats 16000000 in
theorem crash_at (kv : Value) (keep : List Int) (w : World) (h : Lies w p n₀ r s) (hwf : WF s) (hk : s.kept.length ≤ 1073741824) (hn : n₀ ≤ w.heap.size) (hsep : ∀ w', Grown (foot p r s) w w' → IntsIn w' kv keep) :
    Calls Try.prog 15 #[ofBlock p, kv] w fun e w' => e = .returned (.tuple #[]) ∧ Turns w w' p n₀ r s (s.crash keep) := by
  have hL := h
  have ha := away_at w h
  have hfl := h.foot_lt
  have hcl := clone_any r.bk (at_ r.ad s.kept) w h.kept
  obtain ⟨c0, c1, c2, c3, c4, c5, c6, c7⟩ := h.cells
  have hwc := hwf.count
  obtain ⟨wq, wcap, hwv, hwcap⟩ := own_cap h.works
  unfold DS.crash
  unfold ofBlock at *
  cases hdd : s.dead
  · rw [hdd] at ha c5
    replace hdd : Hid (s.dead = false) := hdd
    go_enter Try.func15, Try.ntmps15
    go_wp2_with (first | (go_at_call 30; refine ha.mono ?_; rintro e w' ⟨rfl, hw⟩; obtain rfl := hw.symm) | (go_at_call 36; refine hcl.mono ?_; rintro e w1 ⟨rfl, hm1, hs1, hb1⟩))
    have h1 := hL.below hb1
    have hbr := fun W hW => brought_any kv keep 0 s.works.length (by omega) (by omega) W hW
    obtain ⟨n, hnb⟩ : ∃ n, brought keep 0 s.works.length = n := ⟨_, rfl⟩
    have hnle : n ≤ s.works.length := by rw [← hnb]; exact brought_le _ _ _
    rw [hnb] at hbr
    have hnle' : (n : Int) ≤ s.works.length := by omega
    have hncap : n ≤ wcap := by omega
    have hncap' : (n : Int) ≤ wcap := by omega
    replace hnb : Hid (brought keep 0 s.works.length = n) := hnb
    refine poised_whole (fun w' => Below w1.heap.size w1 w') (fun w w' => Below w1.heap.size w w') (by kernel_rfl) (by kernel_rfl) (by kernel_rfl) (fun _ _ h k => h.trans k) ((Below.refl _ _).drew) ?_
    apply Exists.intro
    apply walk_det
    · rfl
    · intro w2 hC hF
      simp only [upon]
      go_simp
      exact ⟨Below.refl _ _, rfl⟩
    simp only [put_lit, List.set_cons_succ, List.set_cons_zero]
    apply walk_det
    · rfl
    · intro w2 hC hF
      simp only [upon]
      go_simp
      exact ⟨Below.refl _ _, rfl⟩
    simp only [put_lit, List.set_cons_succ, List.set_cons_zero]
    apply walk_det
    · rfl
    · intro w2 hC hF
      simp only [upon]
      go_simp
      exact ⟨Below.refl _ _, rfl⟩
    simp only [put_lit, List.set_cons_succ, List.set_cons_zero]
    apply walk_det
    · rfl
    · intro w2 hC hF
      have h2 := h1.below hC
      obtain ⟨d0, d1, d2, d3, d4, d5, d6, d7⟩ := h2.cells
      rw [hwv] at d4
      simp only [upon]
      go_simp
      exact ⟨Below.refl _ _, rfl⟩
    simp only [put_lit, List.set_cons_succ, List.set_cons_zero]
    apply walk_det
    · rfl
    · intro w2 hC hF
      simp only [upon]
      go_simp
      exact ⟨Below.refl _ _, rfl⟩
    simp only [put_lit, List.set_cons_succ, List.set_cons_zero]
    apply walk_det
    · rfl
    · intro w2 hC hF
      simp only [upon]
      go_simp
      exact ⟨Below.refl _ _, rfl⟩
    simp only [put_lit, List.set_cons_succ, List.set_cons_zero]
    apply walk_det
    · rfl
    · intro w2 hC hF
      simp only [upon]
      go_simp
      exact ⟨Below.refl _ _, rfl⟩
    simp only [put_lit, List.set_cons_succ, List.set_cons_zero]
    apply walk_det
    · rfl
    · intro w2 hC hF
      simp only [upon]
      go_simp
      exact ⟨Below.refl _ _, rfl⟩
    simp only [put_lit, List.set_cons_succ, List.set_cons_zero]
    apply walk_det
    · rfl
    · intro w2 hC hF
      have h2 := h1.below hC
      obtain ⟨d0, d1, d2, d3, d4, d5, d6, d7⟩ := h2.cells
      rw [hwv] at d4
      simp only [upon]
      go_simp
      exact ⟨Below.refl _ _, rfl⟩
    simp only [put_lit, List.set_cons_succ, List.set_cons_zero]
    apply walk_det
    · rfl
    · intro w2 hC hF
      simp only [upon]
      go_simp
      exact ⟨Below.refl _ _, rfl⟩
    simp only [put_lit, List.set_cons_succ, List.set_cons_zero]
    apply walk_det
    · rfl
    · intro w2 hC hF
      have h2 := h1.below hC
      obtain ⟨d0, d1, d2, d3, d4, d5, d6, d7⟩ := h2.cells
      rw [hwv] at d4
      simp only [upon]
      go_simp
      exact still_call (hbr _ (hsep _ (Grown.of_below (hb1.trans (hC.mono (by omega))))))
    simp only [put_lit, List.set_cons_succ, List.set_cons_zero]
    apply walk_det
    · rfl
    · intro w2 hC hF
      simp only [upon]
      go_simp
      exact ⟨Below.refl _ _, rfl⟩
    simp only [put_lit, List.set_cons_succ, List.set_cons_zero]
    apply walk_det
    · rfl
    · intro w2 hC hF
      simp only [upon]
      go_simp
      exact ⟨Below.refl _ _, rfl⟩
    simp only [put_lit, List.set_cons_succ, List.set_cons_zero]
    apply walk_det
    · rfl
    · intro w2 hC hF
      simp only [upon]
      go_simp
      exact ⟨Below.refl _ _, rfl⟩
    simp only [put_lit, List.set_cons_succ, List.set_cons_zero]
    apply walk_nil
    intro w2 hC _
    have h2 := h1.below hC
    have hB2 : Below w.heap.size w w2 := hb1.trans (hC.mono (by omega))
    have hM2 := hm1.same (w' := w2) (hC.block _ (by omega))
    have hM2 : MapAt ofText ofBlock w2 w.heap.size (at_ r.ad s.kept) := hM2
    replace hs1 : Hid (w1.heap.size = w.heap.size + 1) := hs1
    clear c0 c1 c2 c3 c4 c5 c6 c7 ha hcl hbr
    go_wp2_with fail
    go_loopw [31] (fun i wr => ∃ k, k ≤ n ∧ i = .int .i64 k ∧ Lies wr p n₀ r s ∧ MapAt ofText ofBlock wr w.heap.size (at_ r.ad (after s k)) ∧ Below w.heap.size w wr) (fun i _ => n - (intOf i).toNat)
    case atStart => exact ⟨0, by omega, rfl, h2, hM2, hB2⟩
    case round =>
      obtain ⟨k, hkn, rfl, hLr, hMr, hBr⟩ := hrel
      by_cases hlt : k < n
      · have hkw : k < s.works.length := by omega
        obtain ⟨g, cap2, hv2, e0, e1, e2⟩ := works_cells hLr k hkw
        rw [hwv] at hv2
        cases hv2
        have hafter := after_succ k hkw
        rcases hwk : s.works[k] with ⟨x, y, f⟩
        rw [hwk] at e0 e1 e2 hafter
        have hd := fun W hm => does_any x y (f.map r.ad) w.heap.size (at_ r.ad (after s k)) W hm
        rw [← ptrOf_map] at hd
        obtain ⟨q, hq⟩ : ∃ q, ptrOf r.ad f = .pointer q := by cases f <;> exact ⟨_, rfl⟩
        rw [hq] at hd e2
        have hMr' : MapAt ofText ofBlock (wr.alloc (.cells #[.string x, .string y, .pointer q] 70)) w.heap.size (at_ r.ad (after s k)) := hMr.alloc _
        have hlt' : (k : Int) < n := by omega
        have hst : at_ r.ad (after s (k + 1)) = step x y (f.map r.ad) (at_ r.ad (after s k)) := by rw [hafter]; exact at_step _ _ _ _ _
        replace hst : Hid _ := hst
        clear hafter hwk hq
        go_wp2_with (go_at_call 39; refine (hd _ hMr').mono ?_; rintro e w5 ⟨rfl, hm5, hg5⟩)
        have hg6 : Grown (fun k => k = w.heap.size) wr w5 := ((Grown.refl _ _).alloc _).trans hg5 (fun _ hx => .inl hx)
        go_roundw
        case rel =>
          refine ⟨k + 1, by omega, by go_num, hLr.same (fun k hk => hg6.block k (hLr.foot_lt k hk).1 (fun e => by have := (hfl k hk).1; omega)), by rw [hst.out]; exact hm5, hBr.trans (hg6.below hBr.size (fun k hk => by omega))⟩
        case measure => simp [intOf]; omega
      · obtain rfl : k = n := by omega
        have hin := after_in hwf k
        have halen := after_len k hk hwc
        obtain ⟨al, hal⟩ : ∃ al, after s k = al := ⟨_, rfl⟩
        rw [hal] at hin halen hMr
        have hcell : (wr.alloc (.cells #[.map (some w.heap.size)] 55)).cell? ⟨wr.heap.size, 0, none⟩ = some (.map (some w.heap.size)) := (Boxed.new wr 55 (.map (some w.heap.size))).cell
        have hso := sortedFunc_any (wr.alloc (.cells #[.map (some w.heap.size)] 55)) p n₀ r s (hLr.alloc _) wr.heap.size w.heap.size al hin hcell (hMr.alloc _) (by omega)
        have hva := values_any w.heap.size wr
        replace hal : Hid (after s k = al) := hal
        clear hcell
        go_wp2_with (first | (go_at_call 41; refine hva.mono ?_; rintro e w6 ⟨rfl, rfl⟩) | (go_at_call 40; refine hso.mono ?_; rintro e w7 ⟨v, rfl, hrow7, hb7⟩; obtain ⟨vq, vcap, rfl⟩ := own_shape hrow7))
        have hB7 : Below w.heap.size w w7 := (hBr.alloc hBr.size _).trans (hb7.mono (by have := hBr.size; simp; omega))
        have hL7 := (hLr.alloc (.cells #[.map (some w.heap.size)] 55)).below hb7
        have hM7 := (hMr.alloc (.cells #[.map (some w.heap.size)] 55)).same (hb7.block _ (by have := hMr.lt; simp; omega))
        obtain ⟨fl, hfd⟩ : ∃ fl, rising (al.map (·.2)) = fl := ⟨_, rfl⟩
        have hfll : fl.length = al.length := by rw [← hfd, (rising_perm _).length_eq]; simp
        have hfin : ∀ i ∈ fl, 1 ≤ i ∧ i ≤ s.births := fun i hi => by
          rw [← hfd] at hi
          obtain ⟨q, hq, rfl⟩ := List.mem_map.1 ((rising_perm _).subset hi)
          exact hin q hq
        rw [hfd] at hrow7
        replace hfd : Hid (rising (al.map (·.2)) = fl) := hfd
        have hnbs : w.heap.size ≤ (wr.alloc (.cells #[.map (some w.heap.size)] 55)).heap.size := by have := hBr.size; simp; omega
        generalize (wr.alloc (.cells #[.map (some w.heap.size)] 55)).heap.size = nb at *
        clear hso hva hLr hMr hBr hb7
        rw [← hfll] at hrow7
        have hrow7' : w7.ownsRow nb 65 1 (.slice vq fl.length vcap) (fl.map fun i => ofBlock (r.ad i)).length (fl.map fun i => ofBlock (r.ad i)) := by rw [List.length_map]; exact hrow7
        clear hrow7
        have hvq : Hid (al.length = fl.length) := hfll.symm
        go_loopw [44] (fun i wr => ∃ (k : Nat) (rk : Rep), k ≤ fl.length ∧ i = .int .i64 k ∧ rk.ad = r.ad ∧ Lies wr p n₀ rk (crashFiles keep s 0 (fl.take k)) ∧ Grown (foot p r s) w wr ∧ (∀ x, foot p rk (crashFiles keep s 0 (fl.take k)) x → foot p r s x ∨ w.heap.size ≤ x) ∧
            MapAt ofText ofBlock wr w.heap.size (at_ r.ad al) ∧ wr.ownsRow nb 65 1 (.slice vq fl.length vcap) (fl.map fun i => ofBlock (r.ad i)).length (fl.map fun i => ofBlock (r.ad i))) (fun i _ => fl.length - (intOf i).toNat)
        case atStart => exact ⟨0, r, by omega, rfl, rfl, hL7, Grown.of_below hB7, fun _ hx => .inl hx, hM7, hrow7'⟩
        case round =>
          obtain ⟨k2, rk, hk2, rfl, hrad, hLk, hGk, hFk, hMk, hrowk⟩ := hrel
          by_cases hlt : k2 < fl.length
          · obtain ⟨g, cap2, hv2, e0⟩ := own_cell hrowk k2 (ofBlock (r.ad fl[k2])) (by simp [hlt])
            simp only [List.length_map, Value.slice.injEq, true_and] at hv2
            obtain ⟨rfl, rfl⟩ := hv2
            obtain ⟨hi1, hi2⟩ := hfin fl[k2] (List.getElem_mem hlt)
            have hstep : crashFiles keep s 0 (fl.take (k2 + 1)) = crashFile keep (crashFiles keep s 0 (fl.take k2)) k2 fl[k2] := by
              rw [List.take_succ_eq_append_getElem hlt, crashFiles_snoc]
              simp [Nat.min_eq_left (Nat.le_of_lt hlt)]
            have hwk := wf_crashFiles keep (fl.take k2) s 0 hwf
            have hbk := (crashFiles_same keep (fl.take k2) s 0).1
            obtain ⟨sk, hsk⟩ : ∃ sk, crashFiles keep s 0 (fl.take k2) = sk := ⟨_, rfl⟩
            rw [hsk] at hLk hFk hstep hwk hbk
            replace hstep : Hid _ := hstep
            clear hsk
            obtain ⟨i, hie⟩ : ∃ i, fl[k2] = i := ⟨_, rfl⟩
            rw [hie] at e0 hi1 hi2 hstep
            have hi2' : i ≤ sk.births := by omega
            have hf := hLk.file i hi1 hi2'
            have hd := hLk.data i hi1 hi2'
            rw [hrad] at hf
            obtain ⟨bq, bcap, hbv, hbc⟩ := own_cap hd
            rw [hbv] at hf
            obtain ⟨f0, f1, f2⟩ := cells3 hf
            have z2 := free_of hf 2
            have hmk := hwk.mark i
            have hln := hwk.len i
            have hby := hwk.bytes i
            obtain ⟨mb, hmb⟩ : ∃ mb, brought keep (1 + k2) ((sk.file i).b.length - (sk.file i).mark) = mb := ⟨_, rfl⟩
            have hmble : mb ≤ (sk.file i).b.length - (sk.file i).mark := by rw [← hmb]; exact brought_le _ _ _
            have hbr := fun W hW => brought_any kv keep (1 + k2) ((sk.file i).b.length - (sk.file i).mark) (by omega) (by omega) W hW
            rw [hmb, show (((sk.file i).b.length - (sk.file i).mark : Nat) : Int) = ((sk.file i).b.length : Int) - (sk.file i).mark by omega, show ((1 + k2 : Nat) : Int) = 1 + (k2 : Int) by omega] at hbr
            obtain ⟨bl, hbl⟩ : ∃ bl, (sk.file i).b.length = bl := ⟨_, rfl⟩
            obtain ⟨mk, hmkd⟩ : ∃ mk, (sk.file i).mark = mk := ⟨_, rfl⟩
            replace hbv : Hid (rk.bv i = .slice bq (sk.file i).b.length bcap) := hbv
            replace hmb : Hid _ := hmb
            replace hie : Hid (fl[k2] = i) := hie
            have hBy := bytesIn_of_own hd hby (by omega)
            rw [hbv.out] at hBy
            rw [hbl] at hf f1 hmble hmk hln hbr hbc hBy
            rw [hmkd] at hf f2 hmble hmk hbr
            replace hbl : Hid _ := hbl
            replace hmkd : Hid _ := hmkd
            have g1 : IntKind.i64.wrap (1 + (k2 : Int)) = 1 + (k2 : Int) := IntWalk.i64_in _ (by omega)
            have g2 : IntKind.i64.wrap ((bl : Int) - mk) = (bl : Int) - mk := IntWalk.i64_in _ (by omega)
            obtain ⟨tm, htm⟩ : ∃ tm, mk + mb = tm := ⟨_, rfl⟩
            have g3 : IntKind.i64.wrap ((mk : Int) + mb) = (tm : Int) := by rw [IntWalk.i64_in _ (by omega)]; omega
            have htl : tm ≤ bl := by omega
            have htc : tm ≤ bcap := by omega
            have htc' : (tm : Int) ≤ bcap := by omega
            replace htm : Hid _ := htm
            simp only [ofBlock] at e0
            have hlt' : (k2 : Int) < fl.length := by omega
            go_wp2_with fail
            refine poised_then 21 (fun w' => Below wr.heap.size wr w') (fun w w' => Below wr.heap.size w w') (by kernel_rfl) (by kernel_rfl) (by kernel_rfl) (fun _ _ h k => h.trans k) ((Below.refl _ _).drew) ?_
            apply Exists.intro
            simp only [List.take_succ_cons, List.take_zero]
            apply walk_det
            · rfl
            · intro w2 hC hF
              simp only [upon]
              go_simp
              exact ⟨Below.refl _ _, rfl⟩
            simp only [put_lit, List.set_cons_succ, List.set_cons_zero]
            apply walk_det
            · rfl
            · intro w2 hC hF
              simp only [upon]
              go_simp
              exact ⟨Below.refl _ _, rfl⟩
            simp only [put_lit, List.set_cons_succ, List.set_cons_zero]
            apply walk_det
            · rfl
            · intro w2 hC hF
              simp only [upon]
              go_simp
              exact ⟨Below.refl _ _, rfl⟩
            simp only [put_lit, List.set_cons_succ, List.set_cons_zero]
            apply walk_det
            · rfl
            · intro w2 hC hF
              have hf2 := (hC.block _ (Array.getElem?_eq_some_iff.1 hf).1).trans hf
              obtain ⟨f0, f1, f2⟩ := cells3 hf2
              simp only [upon]
              go_simp
              exact ⟨Below.refl _ _, rfl⟩
            simp only [put_lit, List.set_cons_succ, List.set_cons_zero]
            apply walk_det
            · rfl
            · intro w2 hC hF
              simp only [upon]
              go_simp
              exact ⟨Below.refl _ _, rfl⟩
            simp only [put_lit, List.set_cons_succ, List.set_cons_zero]
            apply walk_det
            · rfl
            · intro w2 hC hF
              simp only [upon]
              go_simp
              exact ⟨Below.refl _ _, rfl⟩
            simp only [put_lit, List.set_cons_succ, List.set_cons_zero]
            apply walk_det
            · rfl
            · intro w2 hC hF
              simp only [upon]
              go_simp
              exact ⟨Below.refl _ _, rfl⟩
            simp only [put_lit, List.set_cons_succ, List.set_cons_zero]
            apply walk_det
            · rfl
            · intro w2 hC hF
              simp only [upon]
              go_simp
              exact ⟨Below.refl _ _, rfl⟩
            simp only [put_lit, List.set_cons_succ, List.set_cons_zero]
            apply walk_det
            · rfl
            · intro w2 hC hF
              simp only [upon]
              go_simp
              exact ⟨Below.refl _ _, rfl⟩
            simp only [put_lit, List.set_cons_succ, List.set_cons_zero]
            apply walk_det
            · rfl
            · intro w2 hC hF
              simp only [upon]
              go_simp
              exact ⟨Below.refl _ _, rfl⟩
            simp only [put_lit, List.set_cons_succ, List.set_cons_zero]
            apply walk_det
            · rfl
            · intro w2 hC hF
              have hf2 := (hC.block _ (Array.getElem?_eq_some_iff.1 hf).1).trans hf
              obtain ⟨f0, f1, f2⟩ := cells3 hf2
              simp only [upon]
              go_simp
              exact ⟨Below.refl _ _, rfl⟩
            simp only [put_lit, List.set_cons_succ, List.set_cons_zero]
            apply walk_det
            · rfl
            · intro w2 hC hF
              simp only [upon]
              go_simp
              exact ⟨Below.refl _ _, rfl⟩
            simp only [put_lit, List.set_cons_succ, List.set_cons_zero]
            apply walk_det
            · rfl
            · intro w2 hC hF
              simp only [upon]
              go_simp
              exact ⟨Below.refl _ _, rfl⟩
            simp only [put_lit, List.set_cons_succ, List.set_cons_zero]
            apply walk_det
            · rfl
            · intro w2 hC hF
              simp only [upon]
              go_simp
              exact ⟨Below.refl _ _, rfl⟩
            simp only [put_lit, List.set_cons_succ, List.set_cons_zero]
            apply walk_det
            · rfl
            · intro w2 hC hF
              simp only [upon]
              go_simp
              exact ⟨Below.refl _ _, rfl⟩
            simp only [put_lit, List.set_cons_succ, List.set_cons_zero]
            apply walk_det
            · rfl
            · intro w2 hC hF
              have hf2 := (hC.block _ (Array.getElem?_eq_some_iff.1 hf).1).trans hf
              obtain ⟨f0, f1, f2⟩ := cells3 hf2
              simp only [upon]
              go_simp
              exact ⟨Below.refl _ _, rfl⟩
            simp only [put_lit, List.set_cons_succ, List.set_cons_zero]
            apply walk_det
            · rfl
            · intro w2 hC hF
              simp only [upon]
              go_simp
              exact ⟨Below.refl _ _, rfl⟩
            simp only [put_lit, List.set_cons_succ, List.set_cons_zero]
            apply walk_det
            · rfl
            · intro w2 hC hF
              have hf2 := (hC.block _ (Array.getElem?_eq_some_iff.1 hf).1).trans hf
              obtain ⟨f0, f1, f2⟩ := cells3 hf2
              simp only [upon]
              go_simp
              exact still_call (hbr _ (hsep _ (hGk.step hC)))
            simp only [put_lit, List.set_cons_succ, List.set_cons_zero]
            apply walk_det
            · rfl
            · intro w2 hC hF
              simp only [upon]
              go_simp
              exact ⟨Below.refl _ _, rfl⟩
            simp only [put_lit, List.set_cons_succ, List.set_cons_zero]
            apply walk_det
            · rfl
            · intro w2 hC hF
              simp only [upon]
              go_simp
              exact ⟨Below.refl _ _, rfl⟩
            simp only [put_lit, List.set_cons_succ, List.set_cons_zero]
            apply walk_det
            · rfl
            · intro w2 hC hF
              simp only [upon]
              go_simp
              exact ⟨Below.refl _ _, rfl⟩
            simp only [put_lit, List.set_cons_succ, List.set_cons_zero]
            apply walk_nil
            intro w2 hC _
            simp only [List.drop_succ_cons, List.drop_zero]
            have hL8a := hLk.below hC
            have hf8a := (hC.block _ (Array.getElem?_eq_some_iff.1 hf).1).trans hf
            have hf8 : (w2.setCell ⟨r.ad i, 2, none⟩ (.int .i64 (tm : Int))).heap[r.ad i]? = some (fileAt i (.slice bq bl bcap) tm) := by rw [setCell_heap hf8a]; rfl
            have hL8 : Lies (w2.setCell ⟨r.ad i, 2, none⟩ (.int .i64 (tm : Int))) p n₀ { rk with bv := upd rk.bv i (rk.bv i) } { sk with file := upd sk.file i ⟨(sk.file i).b, tm⟩ } := by
              refine hL8a.setFile i hi1 hi2' (rk.bv i) ⟨(sk.file i).b, tm⟩ ?_ ?_ (fun k hk => .inl hk) ?_
              · rw [hrad, hf8, hbv.out, hbl.out]
              · refine row_same (hL8a.data i hi1 hi2') (fun g hg => Below.heap_setCell _ _ _ _ (fun e => ?_))
                have := hL8a.sB hi1 hi2' hg
                rw [e, ← hrad, hL8a.sF hi1 hi2'] at this; cases this
              · intro k hk g1 g2
                rw [hrad] at g1
                exact Below.heap_setCell _ _ _ _ g1
            have hzz := hC.size
            have hsz8 : (w2.setCell ⟨r.ad i, 2, none⟩ (.int .i64 (tm : Int))).heap.size = w2.heap.size := by simp
            have hBy8 : BytesIn (w2.setCell ⟨r.ad i, 2, none⟩ (.int .i64 (tm : Int))) (.slice bq tm bcap) ((sk.file i).b.take tm) := by
              have hd8 := hL8.data i hi1 hi2'
              simp only [upd_same] at hd8
              have h9 := bytesIn_of_own hd8 hby (by have := hbl.out; omega)
              rw [hbv.out, hbl.out] at h9
              obtain ⟨_, _, _, e9, h10, _⟩ := h9.take tm (by rw [hbl.out]; exact htl)
              cases e9
              exact h10
            have hG8 : Grown (foot p r s) w (w2.setCell ⟨r.ad i, 2, none⟩ (.int .i64 (tm : Int))) := (hGk.step hC).setCell (p := ⟨r.ad i, 2, none⟩) (by rw [← hrad]; exact (hFk _ (.inr (.inr (.inr (.inr ⟨i, hi1, hi2', .inl rfl⟩)))))) _
            have hri : sort wr (r.ad i) = 68 := by rw [← hrad]; exact hLk.sF hi1 hi2'
            have hne1 : w.heap.size ≠ r.ad i := fun e => by rw [← e, sort_map hMk] at hri; cases hri
            have hrow8 : (w2.setCell ⟨r.ad i, 2, none⟩ (.int .i64 (tm : Int))).ownsRow nb 65 1 (.slice (some ⟨g, 0, none⟩) fl.length vcap) (fl.map fun i => ofBlock (r.ad i)).length (fl.map fun i => ofBlock (r.ad i)) := by
              refine row_same (own_kept hrowk hC) (fun g' hg' => Below.heap_setCell _ _ _ _ (fun e => ?_))
              have := sort_row hrowk hg'
              rw [e, hri] at this; cases this
            have hM8 : MapAt ofText ofBlock (w2.setCell ⟨r.ad i, 2, none⟩ (.int .i64 (tm : Int))) w.heap.size (at_ r.ad al) := (hMk.same (hC.block _ hMk.lt)).same (Below.heap_setCell _ _ _ _ hne1)
            have htk : ((sk.file i).b.take tm).length = tm := by rw [List.length_take, hbl.out]; omega
            have hcl := fun W hW => cloneB_any (.slice bq tm bcap) ((sk.file i).b.take tm) W hW (by simp; omega)
            generalize hw8 : w2.setCell ⟨r.ad i, 2, none⟩ (.int .i64 (tm : Int)) = w8 at *
            clear f0 f1 f2 z2 hbr hL8a
            obtain ⟨m0, hm0, hm0'⟩ : ∃ m, m ≤ w8.heap.size ∧ w8.heap.size ≤ m := ⟨_, Nat.le_refl _, Nat.le_refl _⟩
            replace hsz8 : Hid _ := hsz8
            obtain ⟨y0, y1, y2⟩ := cells3 hf8a
            have yz := free_of hf8a 2
            go_wp2_with fail
            refine poised_then 13 (fun w' => Below w8.heap.size w8 w') (fun w w' => Below w.heap.size w w') (by kernel_rfl) (by kernel_rfl) (by kernel_rfl) (fun _ _ h k => h.trans (k.mono h.size)) ((Below.refl _ _).drew) ?_
            apply Exists.intro
            simp only [List.take_succ_cons, List.take_zero]
            apply walk_det
            · rfl
            · intro w2 hC hF
              simp only [upon]
              go_simp
              exact ⟨Below.refl _ _, rfl⟩
            simp only [put_lit, List.set_cons_succ, List.set_cons_zero]
            apply walk_det
            · rfl
            · intro w2 hC hF
              simp only [upon]
              go_simp
              exact ⟨Below.refl _ _, rfl⟩
            simp only [put_lit, List.set_cons_succ, List.set_cons_zero]
            apply walk_det
            · rfl
            · intro w2 hC hF
              simp only [upon]
              go_simp
              exact ⟨Below.refl _ _, rfl⟩
            simp only [put_lit, List.set_cons_succ, List.set_cons_zero]
            apply walk_det
            · rfl
            · intro w2 hC hF
              simp only [upon]
              go_simp
              exact ⟨Below.refl _ _, rfl⟩
            simp only [put_lit, List.set_cons_succ, List.set_cons_zero]
            apply walk_det
            · rfl
            · intro w2 hC hF
              have hf2 := (hC.block _ (Array.getElem?_eq_some_iff.1 hf8).1).trans hf8
              obtain ⟨f0, f1, f2⟩ := cells3 hf2
              simp only [upon]
              go_simp
              exact ⟨Below.refl _ _, rfl⟩
            simp only [put_lit, List.set_cons_succ, List.set_cons_zero]
            apply walk_det
            · rfl
            · intro w2 hC hF
              simp only [upon]
              go_simp
              exact ⟨Below.refl _ _, rfl⟩
            simp only [put_lit, List.set_cons_succ, List.set_cons_zero]
            apply walk_det
            · rfl
            · intro w2 hC hF
              simp only [upon]
              go_simp
              exact ⟨Below.refl _ _, rfl⟩
            simp only [put_lit, List.set_cons_succ, List.set_cons_zero]
            apply walk_det
            · rfl
            · intro w2 hC hF
              simp only [upon]
              go_simp
              exact ⟨Below.refl _ _, rfl⟩
            simp only [put_lit, List.set_cons_succ, List.set_cons_zero]
            apply walk_det
            · rfl
            · intro w2 hC hF
              have hf2 := (hC.block _ (Array.getElem?_eq_some_iff.1 hf8).1).trans hf8
              obtain ⟨f0, f1, f2⟩ := cells3 hf2
              simp only [upon]
              go_simp
              exact ⟨Below.refl _ _, rfl⟩
            simp only [put_lit, List.set_cons_succ, List.set_cons_zero]
            apply walk_det
            · rfl
            · intro w2 hC hF
              simp only [upon]
              go_simp
              exact ⟨Below.refl _ _, rfl⟩
            simp only [put_lit, List.set_cons_succ, List.set_cons_zero]
            apply walk_free (fun v w' => w'.ownsRow m0 5 1 v tm (encB ((sk.file i).b.take tm))) (fun _ _ _ hC hR h => own_kept h hR)
            · rfl
            · intro w2 hC hF
              simp only [upon]
              go_simp
              exact (hcl _ (hBy8.below hC)).mono (fun e w' hh => by obtain ⟨v', he, hr', hb'⟩ := hh; exact ⟨v', he, hb', by rw [htk] at hr'; exact own_base' hr' (Nat.le_trans hm0 hC.size)⟩)
            intro v
            simp only [put_lit, List.set_cons_succ, List.set_cons_zero]
            apply walk_det
            · rfl
            · intro w2 hC hF
              simp only [upon]
              go_simp
              exact ⟨Below.refl _ _, rfl⟩
            simp only [put_lit, List.set_cons_succ, List.set_cons_zero]
            apply walk_det
            · rfl
            · intro w2 hC hF
              simp only [upon]
              go_simp
              exact ⟨Below.refl _ _, rfl⟩
            simp only [put_lit, List.set_cons_succ, List.set_cons_zero]
            apply walk_nil
            intro w9 hC9 hF9
            simp only [List.drop_succ_cons, List.drop_zero]
            have hv9 : w9.ownsRow m0 5 1 _ tm (encB ((sk.file i).b.take tm)) := hF9 10
            obtain ⟨cq, ccap, rfl⟩ := own_shape hv9
            have hf9 := (hC9.block _ (Array.getElem?_eq_some_iff.1 hf8).1).trans hf8
            obtain ⟨x0, x1, x2⟩ := cells3 hf9
            have xz := free_of hf9 1
            clear yz y0 y1 y2
            go_wp2_with fail
            go_roundw
            case rel =>
              have hsz : w.heap.size ≤ m0 := Nat.le_trans hG8.size hm0'
              have hm0n : ∀ g, (Value.slice cq tm ccap).ownBlock = some g → m0 ≤ g := fun g hg => (hv9.lt g hg).1
              have hadlt : r.ad i < w8.heap.size := (Array.getElem?_eq_some_iff.1 hf8).1
              have hL10 := hL8.setFile (w' := w9.setCell ⟨r.ad i, 1, none⟩ (.slice cq tm ccap)) i hi1 hi2' (.slice cq tm ccap) ⟨(sk.file i).b.take tm, tm⟩ (by rw [hrad, setCell_heap hf9]; rfl)
                (by
                  rw [htk]
                  refine own_base' (row_same hv9 (fun g hg => Below.heap_setCell _ _ _ _ (fun e => ?_))) (Nat.le_trans hn hsz)
                  have := hm0n g hg
                  have : r.ad i = g := e.symm
                  omega)
                (fun k hk => .inr (by have := hm0n k hk; omega))
                (fun k hk g1 g2 => (Below.heap_setCell _ _ _ _ (fun e => g1 (by rw [hrad]; exact e))).trans (hC9.block k hk))
              rw [upd_upd, upd_upd] at hL10
              have hst : crashFile keep sk k2 i = { sk with file := upd sk.file i ⟨(sk.file i).b.take tm, tm⟩ } := by
                unfold crashFile; rw [hmb.out, hmkd.out, htm.out]
              refine ⟨k2 + 1, { rk with bv := upd rk.bv i (.slice cq tm ccap) }, by omega, by go_num, hrad, ?_, ?_, ?_, ?_, ?_⟩
              · rw [hstep.out, hst]; exact hL10
              · exact (hG8.step hC9).setCell (p := ⟨r.ad i, 1, none⟩) (by rw [← hrad]; exact (hFk _ (.inr (.inr (.inr (.inr ⟨i, hi1, hi2', .inl rfl⟩)))))) _
              · rw [hstep.out, hst]
                intro x hx
                rcases foot_file (w := w) (r := rk) (s := sk) hi1 hi2' (fun k hk => .inr (by have := hm0n k hk; omega)) x hx with h4 | h4
                · exact hFk x h4
                · exact .inr h4
              · exact (hM8.same (hC9.block _ hM8.lt)).same (Below.heap_setCell _ _ _ _ hne1)
              · refine row_same (own_kept hrow8 hC9) (fun g' hg' => Below.heap_setCell _ _ _ _ (fun e => ?_))
                have := sort_row hrowk hg'
                rw [e, hri] at this; cases this
            case measure => simp [intOf]; omega
          · obtain rfl : k2 = fl.length := by omega
            rw [List.take_length] at hLk hFk
            clear hrowk hrow7'
            obtain ⟨sk, hsk⟩ : ∃ sk, crashFiles keep s 0 fl = sk := ⟨_, rfl⟩
            rw [hsk] at hLk hFk
            replace hsk : Hid (crashFiles keep s 0 fl = sk) := hsk
            have hcl := clone_any w.heap.size (at_ r.ad al) wr hMk
            clear hvq
            go_wp2_with (go_at_call 36; refine hcl.mono ?_; rintro e w10 ⟨rfl, hm10, hs10, hb10⟩; have h10 := hLk.below hb10; obtain ⟨d0, d1, d2, d3, d4, d5, d6, d7⟩ := h10.cells; have z2 := h10.free 2; have z3 := h10.free 3; have z4 := h10.free 4; have z5 := h10.free 5; have z6 := h10.free 6)
            go_returns
            have hpw := hL.foot_lt p (.inl rfl)
            have hsz := hGk.size
            have hp1 : w.heap.size ≠ p := by omega
            have hp2 : wr.heap.size ≠ p := by omega
            refine ⟨rfl, { rk with bn := w.heap.size, bk := wr.heap.size, wv := .slice none 0 0 }, ?_, (((((hGk.step hb10).setCell (p := ⟨p, 2, none⟩) (.inl (.inl rfl)) _).setCell (p := ⟨p, 3, none⟩) (.inl (.inl rfl)) _).setCell (p := ⟨p, 4, none⟩) (.inl (.inl rfl)) _).setCell (p := ⟨p, 5, none⟩) (.inl (.inl rfl)) _).setCell (p := ⟨p, 6, none⟩) (.inl (.inl rfl)) _, ?_⟩
            · rw [hnb.out, hal.out, hfd.out, hsk.out]
              refine h10.setAll w.heap.size wr.heap.size al al true ?_ ?_ (fun e => by have := hMk.lt; omega) hn (Nat.le_trans hn hsz) ?_ ?_
              · rw [hrad]
                refine (hMk.same (hb10.block _ hMk.lt)).same ?_
                rw [Below.heap_setCell _ _ _ _ hp1, Below.heap_setCell _ _ _ _ hp1, Below.heap_setCell _ _ _ _ hp1, Below.heap_setCell _ _ _ _ hp1, Below.heap_setCell _ _ _ _ hp1]
              · rw [hrad]
                refine hm10.same ?_
                rw [Below.heap_setCell _ _ _ _ hp2, Below.heap_setCell _ _ _ _ hp2, Below.heap_setCell _ _ _ _ hp2, Below.heap_setCell _ _ _ _ hp2, Below.heap_setCell _ _ _ _ hp2]
              · rw [setCell_heap (setCell_heap (setCell_heap (setCell_heap (setCell_heap h10.top))))]; rfl
              · intro k _ hk
                rw [Below.heap_setCell _ _ _ _ hk, Below.heap_setCell _ _ _ _ hk, Below.heap_setCell _ _ _ _ hk, Below.heap_setCell _ _ _ _ hk, Below.heap_setCell _ _ _ _ hk]
            · rw [hnb.out, hal.out, hfd.out, hsk.out]
              rintro k (h | h | h | h | ⟨j, g1, g2, h⟩)
              · exact .inl (.inl h)
              · exact .inr (by rw [h]; exact Nat.le_refl _)
              · exact .inr (by rw [h]; exact hsz)
              · cases h
              · exact hFk _ (.inr (.inr (.inr (.inr ⟨j, g1, g2, h⟩))))
  · rw [hdd] at ha
    go_enter Try.func15, Try.ntmps15
    go_wp2_with (go_at_call 30; refine ha.mono ?_; rintro e w' ⟨rfl, rfl⟩)
    go_returns
    exact ⟨rfl, Turns.none hL (Below.refl _ _)⟩
end Go.Proofs.Ytbkkcbdbdogloaa
