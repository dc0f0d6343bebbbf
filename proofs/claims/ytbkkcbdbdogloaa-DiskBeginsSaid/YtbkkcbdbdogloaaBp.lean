/-
  A BEGINNING OF WHAT A FILE HAD: in plain Lean, and in memory. Conditions: those of each theorem.
-/
import Derived.Test.YtbkkcbdbdogloaaPb
import Derived.Test.YtbkkcbdbdogloaaPc
import Derived.Test.YtbkkcbdbdogloaaFa
namespace Go.Proofs.Ytbkkcbdbdogloaa
open Go Go.RowKit Go.MapL Go.Poised
variable {p n₀ : Nat} {r : Rep} {s : DS}

/-- A deed turns no bytes but those of the file that it names. -/
theorem act_files {m : Nat} (_ : Sound m s) (k : Nat) (x y : ByteArray) (l : List Nat) (i : Nat) (h2 : i ≤ (act s k x y l).1.births) :
    (i ≤ s.births ∧ ((act s k x y l).1.file i).b = (s.file i).b) ∨ MapL.look x (act s k x y l).1.names = some i := by
  revert h2
  unfold act
  split
  · unfold DS.append
    split
    · exact fun h2 => .inl ⟨h2, rfl⟩
    · split
      · exact fun h2 => .inl ⟨h2, rfl⟩
      · split
        · exact fun h2 => .inl ⟨h2, rfl⟩
        · intro h2
          have hn := find_name s x
          unfold DS.find at *
          cases hf : fileOf s x with
          | some j =>
            rw [hf] at h2 hn
            by_cases hij : i = j
            · subst hij; exact .inr hn
            · exact .inl ⟨h2, by show (upd s.file j _ i).b = _; rw [upd_other _ _ hij]⟩
          | none =>
            rw [hf] at h2 hn
            by_cases hij : i = s.births + 1
            · subst hij; exact .inr hn
            · refine .inl ⟨by have : i ≤ s.births + 1 := h2; omega, ?_⟩
              show (upd (upd s.file (s.births + 1) ⟨[], 0⟩) (s.births + 1) _ i).b = _
              rw [upd_other _ _ hij, upd_other _ _ hij]
  · unfold DS.sync
    split
    · exact fun h2 => .inl ⟨h2, rfl⟩
    · rename_i j _
      intro h2
      refine .inl ⟨h2, ?_⟩
      by_cases hij : i = j
      · subst hij; simp only [upd_same]
      · simp only [upd_other _ _ hij]
  · unfold DS.rename
    split
    · exact fun h2 => .inl ⟨h2, rfl⟩
    · split <;> exact fun h2 => .inl ⟨h2, rfl⟩
  · unfold DS.remove
    split <;> exact fun h2 => .inl ⟨h2, rfl⟩
  · unfold DS.syncNames
    split <;> exact fun h2 => .inl ⟨h2, rfl⟩
theorem crash_take (keep : List Int) (i : Nat) : ∀ (l : List Nat) (s : DS) (k : Nat), ∃ n, ((crashFiles keep s k l).file i).b = (s.file i).b.take n
  | [], s, _ => ⟨(s.file i).b.length, by show (s.file i).b = _; rw [List.take_length]⟩
  | j :: l, s, k => by
    obtain ⟨n, h⟩ := crash_take keep i l (crashFile keep s k j) (k + 1)
    show ∃ n, ((crashFiles keep (crashFile keep s k j) (k + 1) l).file i).b = _
    rw [h]
    by_cases hij : i = j
    · subst hij
      refine ⟨min n ((s.file i).mark + brought keep (1 + k) ((s.file i).b.length - (s.file i).mark)), ?_⟩
      show (upd s.file i _ i).b.take n = _
      rw [upd_same, List.take_take]
    · exact ⟨n, by show (upd s.file j _ i).b.take n = _; rw [upd_other _ _ hij]⟩
/-- What is read behind a fall is a beginning of what a file had. -/
theorem crash_begins (hwf : WF s) (hd : s.dead = false) (keep : List Int) {x : ByteArray} (hx : x ∈ namesOf (s.crash keep).boot) : ∃ i n, 1 ≤ i ∧ i ≤ s.births ∧ (readRes (s.crash keep).boot x).1 = (s.file i).b.take n := by
  have hc := names_read (s := (s.crash keep).boot) rfl hx
  unfold readRes at hc ⊢
  have hl : (s.crash keep).boot.dead = false := rfl
  rw [hl] at hc ⊢
  simp only [Bool.false_eq_true, if_false] at hc ⊢
  cases hf : fileOf (s.crash keep).boot x with
  | none => rw [hf] at hc; simp at hc
  | some i =>
    have hin : (x, i) ∈ (s.crash keep).boot.names := look_mem hf
    have hcr : (s.crash keep).boot.names = after s (brought keep 0 s.works.length) := by unfold DS.crash; rw [hd]; rfl
    rw [hcr] at hin
    have hr := after_in hwf _ _ hin
    obtain ⟨n, hn⟩ := crash_take keep i (rising ((after s (brought keep 0 s.works.length)).map (·.2))) s 0
    refine ⟨i, n, hr.1, hr.2, ?_⟩
    rw [← hn]
    unfold DS.crash
    rw [hd]
    rfl

/-- Is one a beginning of another? -/
def pre (b q : List Nat) : Bool := decide (b.length ≤ q.length) && decide (b = q.take b.length)
theorem pre_take (q : List Nat) (n : Nat) : pre (q.take n) q = true := by
  unfold pre
  simp only [Bool.and_eq_true, decide_eq_true_eq]
  refine ⟨by simp; omega, ?_⟩
  rw [List.length_take, List.take_eq_take_iff]; omega

def hadK (fb : Nat) (U : Nat → Value) (L : Nat → List (Value × List Nat)) (g : Nat) : Prop := g = fb ∨ ∃ c, c < 3 ∧ rowsK (U c) (L c) g
/-- Three lists of rows lie in an array. -/
structure Had (w : World) (p n₀ : Nat) (r : Rep) (s : DS) (fb : Nat) (L : Nat → List (Value × List Nat)) (U : Nat → Value) : Prop where
  arr : ∃ cs : Array Value, w.heap[fb]? = some (.cells cs 43) ∧ ∀ c, c < 3 → cs[c]? = some (U c)
  rows : ∀ c, c < 3 → RowsAt w n₀ (U c) (L c)
  apart : ∀ c c', c < 3 → c' < 3 → c ≠ c' → ∀ g, rowK (U c) g → ¬ rowK (U c') g
  side : Beside w p r s (hadK fb U L)
  base : n₀ ≤ fb
variable {fb : Nat} {L : Nat → List (Value × List Nat)} {U : Nat → Value}
theorem Had.new {w : World} (hL : Lies w p n₀ r s) (hn : n₀ ≤ w.heap.size) : Had (w.alloc (.cells #[.slice none 0 0, .slice none 0 0, .slice none 0 0] 43)) p n₀ r s w.heap.size (fun _ => []) (fun _ => .slice none 0 0) := {
  arr := ⟨_, heap_new _ _, fun c hc => by match c, hc with | 0, _ => rfl | 1, _ => rfl | 2, _ => rfl⟩
  rows := fun _ _ => RowsAt.nil _ _
  apart := fun c c' _ _ _ g hg => by cases hg
  side := hL.beside (fun g hg => by
    rcases hg with rfl | ⟨c, _, h⟩
    · simp
    · exact absurd h rowsK_nil)
  base := hn }
theorem Had.same {w w' : World} {r' : Rep} {s' : DS} (h : Had w p n₀ r s fb L U) (hs : ∀ g, hadK fb U L g → w'.heap[g]? = w.heap[g]?) (hb : Beside w' p r' s' (hadK fb U L)) : Had w' p n₀ r' s' fb L U := {
  arr := by obtain ⟨cs, h1, h2⟩ := h.arr; exact ⟨cs, (hs fb (.inl rfl)).trans h1, h2⟩
  rows := fun c hc => (h.rows c hc).same (fun g hg => hs g (.inr ⟨c, hc, hg⟩))
  apart := h.apart
  side := hb
  base := h.base }
theorem Had.below {w w' : World} (h : Had w p n₀ r s fb L U) (hb : Below w.heap.size w w') : Had w' p n₀ r s fb L U := h.same (fun g hg => hb.block g (h.side g hg).1) (h.side.below hb)
theorem Had.turn {w w' : World} {s' : DS} (hL : Lies w p n₀ r s) (hn : n₀ ≤ w.heap.size) (h : Had w p n₀ r s fb L U) (ht : Turns w w' p n₀ r s s') : ∃ r', Lies w' p n₀ r' s' ∧ Had w' p n₀ r' s' fb L U ∧ Below n₀ w w' := by
  obtain ⟨r', h1, h2, h3, h4⟩ := turn_live hL hn h.side ht
  exact ⟨r', h1, h.same h3 h2, h4⟩
theorem Had.cell {w : World} (h : Had w p n₀ r s fb L U) {c : Nat} (hc : c < 3) : w.cell? ⟨fb, c, none⟩ = some (U c) ∧ w.frozen? ⟨fb, c, none⟩ = false := by
  obtain ⟨cs, h1, h2⟩ := h.arr
  exact ⟨by simp [World.cell?, h1, h2 c hc], free_of h1 c⟩
theorem Had.ne {w : World} (h : Had w p n₀ r s fb L U) {c : Nat} (hc : c < 3) {g : Nat} (hg : rowsK (U c) (L c) g) : g ≠ fb := by
  obtain ⟨cs, h1, _⟩ := h.arr
  have e2 := sort_cells h1
  rintro rfl
  rcases hg with hg | ⟨q, hq, hg⟩
  · have e1 := sort_row (h.rows c hc).row hg; omega
  · have e1 := sort_row ((h.rows c hc).each q hq) hg; omega
theorem Had.push {w w' : World} (h : Had w p n₀ r s fb L U) (hL : Lies w p n₀ r s) {c : Nat} (hc : c < 3) {v u' : Value} {b : List Nat} (hv : w.ownsRow n₀ 5 1 v b.length (encB b)) (hvs : Beside w p r s (rowK v)) (hr : w'.ownsRow n₀ 28 1 u' ((L c).length + 1) ((L c).map (·.1) ++ [v])) (hg : w.grownBy w' (U c).ownBlock)
    (hw : ∀ k, u'.ownBlock = some k → (U c).ownBlock = some k ∨ w.heap.size ≤ k) : Lies (w'.setCell ⟨fb, c, none⟩ u') p n₀ r s ∧ Had (w'.setCell ⟨fb, c, none⟩ u') p n₀ r s fb (upd L c (L c ++ [(v, b)])) (upd U c u') := by
  obtain ⟨cs, h1, h2⟩ := h.arr
  have hUc : ∀ g, rowK (U c) g → g ≠ fb := fun g hg2 => h.ne hc (.inl hg2)
  have h1' := (hg.block fb (h.side fb (.inl rfl)).1 (fun e => hUc fb e.symm rfl)).trans h1
  have hset : ∀ k, k ≠ fb → (w'.setCell ⟨fb, c, none⟩ u').heap[k]? = w'.heap[k]? := fun k hk => Below.heap_setCell _ _ _ _ hk
  have hUL : Beside w p r s (rowsK (U c) (L c)) := h.side.mono (fun g hg2 => .inr ⟨c, hc, hg2⟩)
  have hnew := (h.rows c hc).push hv hr hg
  have hbs := beside_push (b := b) hL hUL hvs hr hg hw
  have hne2 : ∀ g, rowsK u' (L c ++ [(v, b)]) g → g ≠ fb := fun g hg2 => by
    have e2 := sort_cells h1'
    rintro rfl
    rcases hg2 with hg2 | ⟨q, hq, hg2⟩
    · have e1 := sort_row hr hg2; omega
    · have e1 := sort_row (hnew.each q hq) hg2; omega
  have hrow : ∀ x, x < 3 → x ≠ c → ∀ g, rowsK (U x) (L x) g → some g ≠ (U c).ownBlock := fun x hx hxc g hg2 e => by
    rcases hg2 with hg2 | ⟨q, hq, hg2⟩
    · exact h.apart x c hx hc hxc g hg2 e.symm
    · exact sorts (h.rows c hc).row ((h.rows x hx).each q hq) e.symm hg2
  refine ⟨(hL.grown hg (hUL.mono (fun g hg2 => .inl hg2))).same (fun k hk => hset k (fun e => (h.side fb (.inl rfl)).2 (e ▸ hk))), {
    arr := ⟨_, setCell_heap h1', set_get h2 hc⟩
    rows := fun x hx => ?_
    apart := fun x x' hx hx' hxx g hg1 hg2 => ?_
    side := fun g hg1 => ?_
    base := h.base }⟩
  · by_cases hxc : x = c
    · subst hxc; rw [upd_same, upd_same]; exact hnew.same (fun g hg2 => hset g (hne2 g hg2))
    · rw [upd_other _ _ hxc, upd_other _ _ hxc]
      exact (h.rows x hx).same (fun g hg2 => (hset g (h.ne hx hg2)).trans (hg.block g ((h.rows x hx).lt hg2).2 (hrow x hx hxc g hg2)))
  · have key : ∀ x, x < 3 → x ≠ c → ∀ g, rowK u' g → ¬ rowK (U x) g := fun x hx hxa g h5 h6 => by
      rcases hw g h5 with h7 | h7
      · exact h.apart c x hc hx (fun e => hxa e.symm) g h7 h6
      · have := ((h.rows x hx).row.lt g h6).2; omega
    by_cases hxc : x = c
    · subst hxc; rw [upd_same] at hg1; rw [upd_other _ _ (fun e => hxx e.symm)] at hg2
      exact key x' hx' (fun e => hxx e.symm) g hg1 hg2
    · rw [upd_other _ _ hxc] at hg1
      by_cases hxc' : x' = c
      · subst hxc'; rw [upd_same] at hg2; exact key x hx hxc g hg2 hg1
      · rw [upd_other _ _ hxc'] at hg2; exact h.apart x x' hx hx' hxx g hg1 hg2
  · rw [show (w'.setCell ⟨fb, c, none⟩ u').heap.size = w'.heap.size from size_setCell _ _ _]
    rcases hg1 with rfl | ⟨x, hx, hg1⟩
    · have := h.side g (.inl rfl); exact ⟨Nat.lt_of_lt_of_le this.1 hg.size, this.2⟩
    · by_cases hxc : x = c
      · subst hxc; rw [upd_same, upd_same] at hg1; exact hbs g hg1
      · rw [upd_other _ _ hxc, upd_other _ _ hxc] at hg1
        have := h.side g (.inr ⟨x, hx, hg1⟩); exact ⟨Nat.lt_of_lt_of_le this.1 hg.size, this.2⟩
end Go.Proofs.Ytbkkcbdbdogloaa
