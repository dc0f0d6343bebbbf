/-
  THREE PLAIN FILES beside a disk. Conditions: those of each theorem.
-/
import Derived.Test.YtbkkcbdbdogloaaRl
namespace Go.Proofs.Ytbkkcbdbdogloaa
open Go Go.RowKit Go.MapL Go.Poised
variable {p n₀ : Nat} {r : Rep} {s : DS} {fb ib : Nat} {F : Nat → List Nat} {I : Nat → Bool} {V : Nat → Value}

def arrK (fb ib : Nat) (V : Nat → Value) (g : Nat) : Prop := g = fb ∨ g = ib ∨ ∃ c, c < 3 ∧ rowK (V c) g
/-- Files' rows lie in an array at fb, whether they are there in one at ib. -/
structure Arr (w : World) (p n₀ : Nat) (r : Rep) (s : DS) (fb ib : Nat) (F : Nat → List Nat) (I : Nat → Bool) (V : Nat → Value) : Prop where
  files : ∃ cs : Array Value, w.heap[fb]? = some (.cells cs 47) ∧ ∀ c, c < 3 → cs[c]? = some (V c)
  is : ∃ cs : Array Value, w.heap[ib]? = some (.cells cs 48) ∧ ∀ c, c < 3 → cs[c]? = some (.bool (I c))
  rows : ∀ c, c < 3 → w.ownsRow n₀ 5 1 (V c) (F c).length (encB (F c))
  apart : ∀ c c', c < 3 → c' < 3 → c ≠ c' → ∀ g, rowK (V c) g → ¬ rowK (V c') g
  side : Beside w p r s (arrK fb ib V)
  baseF : n₀ ≤ fb
  baseI : n₀ ≤ ib
theorem Arr.new {w : World} (hL : Lies w p n₀ r s) (hn : n₀ ≤ w.heap.size) : Arr ((w.alloc (.cells #[.slice none 0 0, .slice none 0 0, .slice none 0 0] 47)).alloc (.cells #[.bool false, .bool false, .bool false] 48)) p n₀ r s w.heap.size (w.heap.size + 1) (fun _ => []) (fun _ => false) (fun _ => .slice none 0 0) := {
  files := ⟨_, (heap_old (by simp)).trans (heap_new _ _), fun c hc => by match c, hc with | 0, _ => rfl | 1, _ => rfl | 2, _ => rfl⟩
  is := ⟨_, by have := heap_new (w.alloc (.cells #[.slice none 0 0, .slice none 0 0, .slice none 0 0] 47)) (.cells #[.bool false, .bool false, .bool false] 48); simpa using this, fun c hc => by match c, hc with | 0, _ => rfl | 1, _ => rfl | 2, _ => rfl⟩
  rows := fun c _ => World.ownsRow_nil _ _ _ _
  apart := fun c c' _ _ _ g hg => by cases hg
  side := hL.beside (fun g hg => by
    rcases hg with rfl | rfl | ⟨c, _, h⟩
    · simp; omega
    · simp
    · cases h)
  baseF := hn
  baseI := Nat.le_succ_of_le hn }
theorem Arr.same {w w' : World} {r' : Rep} {s' : DS} (h : Arr w p n₀ r s fb ib F I V) (hs : ∀ g, arrK fb ib V g → w'.heap[g]? = w.heap[g]?) (hb : Beside w' p r' s' (arrK fb ib V)) : Arr w' p n₀ r' s' fb ib F I V := {
  files := by obtain ⟨cs, h1, h2⟩ := h.files; exact ⟨cs, (hs fb (.inl rfl)).trans h1, h2⟩
  is := by obtain ⟨cs, h1, h2⟩ := h.is; exact ⟨cs, (hs ib (.inr (.inl rfl))).trans h1, h2⟩
  rows := fun c hc => row_same (h.rows c hc) (fun g hg => hs g (.inr (.inr ⟨c, hc, hg⟩)))
  apart := h.apart
  side := hb
  baseF := h.baseF
  baseI := h.baseI }
theorem Arr.lt {w : World} (h : Arr w p n₀ r s fb ib F I V) {g : Nat} (hg : arrK fb ib V g) : g < w.heap.size := (h.side g hg).1
theorem Arr.below {w w' : World} (h : Arr w p n₀ r s fb ib F I V) (hb : Below w.heap.size w w') : Arr w' p n₀ r s fb ib F I V := h.same (fun g hg => hb.block g (h.lt hg)) (h.side.below hb)
theorem Arr.turn {w w' : World} {s' : DS} (hL : Lies w p n₀ r s) (hn : n₀ ≤ w.heap.size) (h : Arr w p n₀ r s fb ib F I V) (ht : Turns w w' p n₀ r s s') : ∃ r', Lies w' p n₀ r' s' ∧ Arr w' p n₀ r' s' fb ib F I V ∧ Below n₀ w w' := by
  obtain ⟨r', h1, h2, h3, h4⟩ := turn_live hL hn h.side ht
  exact ⟨r', h1, h.same h3 h2, h4⟩
theorem Arr.cellF {w : World} (h : Arr w p n₀ r s fb ib F I V) {c : Nat} (hc : c < 3) : w.cell? ⟨fb, c, none⟩ = some (V c) ∧ w.frozen? ⟨fb, c, none⟩ = false := by
  obtain ⟨cs, h1, h2⟩ := h.files
  exact ⟨by simp [World.cell?, h1, h2 c hc], free_of h1 c⟩
theorem Arr.cellI {w : World} (h : Arr w p n₀ r s fb ib F I V) {c : Nat} (hc : c < 3) : w.cell? ⟨ib, c, none⟩ = some (.bool (I c)) ∧ w.frozen? ⟨ib, c, none⟩ = false := by
  obtain ⟨cs, h1, h2⟩ := h.is
  exact ⟨by simp [World.cell?, h1, h2 c hc], free_of h1 c⟩
theorem Arr.ne {w : World} (h : Arr w p n₀ r s fb ib F I V) : fb ≠ ib := by
  obtain ⟨cs, h1, _⟩ := h.files
  obtain ⟨cs', h2, _⟩ := h.is
  intro e
  rw [e, h2] at h1
  cases h1
theorem Arr.rowF {w : World} (h : Arr w p n₀ r s fb ib F I V) {c : Nat} (hc : c < 3) {g : Nat} (hg : rowK (V c) g) : g ≠ fb ∧ g ≠ ib := by
  have e1 := sort_row (h.rows c hc) hg
  obtain ⟨cs, h1, _⟩ := h.files
  obtain ⟨cs', h2, _⟩ := h.is
  exact ⟨fun e => (by rw [e, sort_cells h1] at e1; cases e1), fun e => (by rw [e, sort_cells h2] at e1; cases e1)⟩
theorem Arr.rebuild {w w' : World} {F' : Nat → List Nat} {I' : Nat → Bool} {V' : Nat → Value} (h : Arr w p n₀ r s fb ib F I V) (hf : ∃ cs : Array Value, w'.heap[fb]? = some (.cells cs 47) ∧ ∀ c, c < 3 → cs[c]? = some (V' c)) (hi : ∃ cs : Array Value, w'.heap[ib]? = some (.cells cs 48) ∧ ∀ c, c < 3 → cs[c]? = some (.bool (I' c)))
    (hsz : w.heap.size ≤ w'.heap.size) (hr : ∀ c, c < 3 → w'.ownsRow n₀ 5 1 (V' c) (F' c).length (encB (F' c))) (ha : ∀ c c', c < 3 → c' < 3 → c ≠ c' → ∀ g, rowK (V' c) g → ¬ rowK (V' c') g) (hs : ∀ c, c < 3 → ∀ g, rowK (V' c) g → ¬ foot p r s g) : Arr w' p n₀ r s fb ib F' I' V' := {
  files := hf
  is := hi
  rows := hr
  apart := ha
  side := fun g hg => by
    rcases hg with rfl | rfl | ⟨c, hc, hg⟩
    · have := h.side g (.inl rfl); exact ⟨Nat.lt_of_lt_of_le this.1 hsz, this.2⟩
    · have := h.side g (.inr (.inl rfl)); exact ⟨Nat.lt_of_lt_of_le this.1 hsz, this.2⟩
    · exact ⟨((hr c hc).lt g hg).2, hs c hc g hg⟩
  baseF := h.baseF
  baseI := h.baseI }
theorem set_get {cs : Array Value} {X : Nat → Value} {a : Nat} {v : Value} (h : ∀ c, c < 3 → cs[c]? = some (X c)) (ha : a < 3) : ∀ c, c < 3 → (cs.setIfInBounds a v)[c]? = some (upd X a v c) := by
  intro c hc
  have hs : a < cs.size := (Array.getElem?_eq_some_iff.1 (h a ha)).1
  by_cases hca : c = a
  · subst hca; rw [upd_same]; simp [hs]
  · rw [upd_other _ _ hca, Array.getElem?_setIfInBounds_ne (fun e => hca e.symm)]; exact h c hc
theorem set_getI {cs : Array Value} {X : Nat → Bool} {a : Nat} {v : Bool} (h : ∀ c, c < 3 → cs[c]? = some (.bool (X c))) (ha : a < 3) : ∀ c, c < 3 → (cs.setIfInBounds a (.bool v))[c]? = some (.bool (upd X a v c)) := by
  intro c hc
  rw [set_get (X := fun c => .bool (X c)) h ha c hc]
  by_cases hca : c = a
  · subst hca; rw [upd_same, upd_same]
  · rw [upd_other _ _ hca, upd_other _ _ hca]
theorem size_setCell (w : World) (p : Addr) (v : Value) : (w.setCell p v).heap.size = w.heap.size := by simp [World.setCell]
/-- File a is gone. -/
theorem Arr.gone {w : World} (h : Arr w p n₀ r s fb ib F I V) (hL : Lies w p n₀ r s) {a : Nat} (ha : a < 3) :
    Lies ((w.setCell ⟨fb, a, none⟩ (.slice none 0 0)).setCell ⟨ib, a, none⟩ (.bool false)) p n₀ r s ∧ Arr ((w.setCell ⟨fb, a, none⟩ (.slice none 0 0)).setCell ⟨ib, a, none⟩ (.bool false)) p n₀ r s fb ib (upd F a []) (upd I a false) (upd V a (.slice none 0 0)) := by
  obtain ⟨cs, h1, h2⟩ := h.files
  obtain ⟨cs', h3, h4⟩ := h.is
  have hne := h.ne
  have hother : ∀ k, k ≠ fb → k ≠ ib → ((w.setCell ⟨fb, a, none⟩ (.slice none 0 0)).setCell ⟨ib, a, none⟩ (.bool false)).heap[k]? = w.heap[k]? := fun k hk1 hk2 => (Below.heap_setCell _ _ _ _ hk2).trans (Below.heap_setCell _ _ _ _ hk1)
  refine ⟨hL.same (fun k hk => hother k (fun e => (h.side fb (.inl rfl)).2 (e ▸ hk)) (fun e => (h.side ib (.inr (.inl rfl))).2 (e ▸ hk))), h.rebuild ⟨_, (Below.heap_setCell _ _ _ _ hne).trans (setCell_heap h1), set_get h2 ha⟩ ⟨_, setCell_heap ((Below.heap_setCell _ _ _ _ (Ne.symm hne)).trans h3), set_getI h4 ha⟩ (by simp) ?_ ?_ ?_⟩
  · intro c hc
    by_cases hca : c = a
    · subst hca; rw [upd_same, upd_same]; exact World.ownsRow_nil _ _ _ _
    · rw [upd_other _ _ hca, upd_other _ _ hca]
      exact row_same (h.rows c hc) (fun g hg => hother g (h.rowF hc hg).1 (h.rowF hc hg).2)
  · intro c c' hc hc' hcc g hg hg'
    by_cases hca : c = a
    · subst hca; rw [upd_same] at hg; cases hg
    · by_cases hca' : c' = a
      · subst hca'; rw [upd_same] at hg'; cases hg'
      · rw [upd_other _ _ hca] at hg; rw [upd_other _ _ hca'] at hg'
        exact h.apart c c' hc hc' hcc g hg hg'
  · intro c hc g hg
    by_cases hca : c = a
    · subst hca; rw [upd_same] at hg; cases hg
    · rw [upd_other _ _ hca] at hg
      exact (h.side g (.inr (.inr ⟨c, hc, hg⟩))).2
/-- File a is b now. -/
theorem Arr.moved {w : World} (h : Arr w p n₀ r s fb ib F I V) (hL : Lies w p n₀ r s) {a b : Nat} (ha : a < 3) (hb : b < 3) (hab : a ≠ b) :
    Lies ((((w.setCell ⟨fb, b, none⟩ (V a)).setCell ⟨ib, b, none⟩ (.bool true)).setCell ⟨fb, a, none⟩ (.slice none 0 0)).setCell ⟨ib, a, none⟩ (.bool false)) p n₀ r s ∧
    Arr ((((w.setCell ⟨fb, b, none⟩ (V a)).setCell ⟨ib, b, none⟩ (.bool true)).setCell ⟨fb, a, none⟩ (.slice none 0 0)).setCell ⟨ib, a, none⟩ (.bool false)) p n₀ r s fb ib (upd (upd F b (F a)) a []) (upd (upd I b true) a false) (upd (upd V b (V a)) a (.slice none 0 0)) := by
  obtain ⟨cs, h1, h2⟩ := h.files
  obtain ⟨cs', h3, h4⟩ := h.is
  have hne := h.ne
  have hother : ∀ k, k ≠ fb → k ≠ ib → ((((w.setCell ⟨fb, b, none⟩ (V a)).setCell ⟨ib, b, none⟩ (.bool true)).setCell ⟨fb, a, none⟩ (.slice none 0 0)).setCell ⟨ib, a, none⟩ (.bool false)).heap[k]? = w.heap[k]? := fun k hk1 hk2 =>
    (Below.heap_setCell _ _ _ _ hk2).trans ((Below.heap_setCell _ _ _ _ hk1).trans ((Below.heap_setCell _ _ _ _ hk2).trans (Below.heap_setCell _ _ _ _ hk1)))
  have hV : ∀ c, c < 3 → c ≠ a → (upd (upd V b (V a)) a (.slice none 0 0) c = V (if c = b then a else c)) ∧ upd (upd F b (F a)) a [] c = F (if c = b then a else c) := fun c hc hca => by
    rw [upd_other _ _ hca, upd_other _ _ hca]
    by_cases hcb : c = b
    · subst hcb; rw [upd_same, upd_same, if_pos rfl]; exact ⟨rfl, rfl⟩
    · rw [upd_other _ _ hcb, upd_other _ _ hcb, if_neg hcb]; exact ⟨rfl, rfl⟩
  have hlt : ∀ c, c < 3 → (if c = b then a else c) < 3 := fun c hc => by split <;> assumption
  refine ⟨hL.same (fun k hk => hother k (fun e => (h.side fb (.inl rfl)).2 (e ▸ hk)) (fun e => (h.side ib (.inr (.inl rfl))).2 (e ▸ hk))),
    h.rebuild ⟨_, (Below.heap_setCell _ _ _ _ hne).trans (setCell_heap ((Below.heap_setCell _ _ _ _ hne).trans (setCell_heap h1))), set_get (set_get h2 hb) ha⟩ ⟨_, setCell_heap ((Below.heap_setCell _ _ _ _ (Ne.symm hne)).trans (setCell_heap ((Below.heap_setCell _ _ _ _ (Ne.symm hne)).trans h3))), set_getI (set_getI h4 hb) ha⟩ (by simp) ?_ ?_ ?_⟩
  · intro c hc
    by_cases hca : c = a
    · subst hca; rw [upd_same, upd_same]; exact World.ownsRow_nil _ _ _ _
    · rw [(hV c hc hca).1, (hV c hc hca).2]
      exact row_same (h.rows _ (hlt c hc)) (fun g hg => hother g (h.rowF (hlt c hc) hg).1 (h.rowF (hlt c hc) hg).2)
  · intro c c' hc hc' hcc g hg hg'
    by_cases hca : c = a
    · subst hca; rw [upd_same] at hg; cases hg
    · by_cases hca' : c' = a
      · subst hca'; rw [upd_same] at hg'; cases hg'
      · rw [(hV c hc hca).1] at hg; rw [(hV c' hc' hca').1] at hg'
        refine h.apart _ _ (hlt c hc) (hlt c' hc') ?_ g hg hg'
        by_cases e1 : c = b
        · rw [if_pos e1]
          rw [if_neg (fun e2 => hcc (e1.trans e2.symm))]; exact fun e => hca' e.symm
        · rw [if_neg e1]
          by_cases e2 : c' = b
          · rw [if_pos e2]; exact hca
          · rw [if_neg e2]; exact hcc
  · intro c hc g hg
    by_cases hca : c = a
    · subst hca; rw [upd_same] at hg; cases hg
    · rw [(hV c hc hca).1] at hg
      exact (h.side g (.inr (.inr ⟨_, hlt c hc, hg⟩))).2
/-- File a has more. -/
theorem Arr.appended {w w' : World} (h : Arr w p n₀ r s fb ib F I V) (hL : Lies w p n₀ r s) {a : Nat} (ha : a < 3) {v' : Value} {m : List Nat} (hr : w'.ownsRow n₀ 5 1 v' (F a ++ m).length (encB (F a ++ m))) (hg : w.grownBy w' (V a).ownBlock) (hw : ∀ k, v'.ownBlock = some k → (V a).ownBlock = some k ∨ w.heap.size ≤ k) :
    Lies ((w'.setCell ⟨fb, a, none⟩ v').setCell ⟨ib, a, none⟩ (.bool true)) p n₀ r s ∧ Arr ((w'.setCell ⟨fb, a, none⟩ v').setCell ⟨ib, a, none⟩ (.bool true)) p n₀ r s fb ib (upd F a (F a ++ m)) (upd I a true) (upd V a v') := by
  obtain ⟨cs, h1, h2⟩ := h.files
  obtain ⟨cs', h3, h4⟩ := h.is
  have hne := h.ne
  have hfb : some fb ≠ (V a).ownBlock := fun e => (h.rowF ha e.symm).1 rfl
  have hib : some ib ≠ (V a).ownBlock := fun e => (h.rowF ha e.symm).2 rfl
  have h1' := (hg.block fb (h.lt (.inl rfl)) hfb).trans h1
  have h3' := (hg.block ib (h.lt (.inr (.inl rfl))) hib).trans h3
  have hr1 : ∀ g, rowK v' g → g ≠ fb ∧ g ≠ ib := fun g hg2 => by
    have e1 := sort_row hr hg2
    exact ⟨fun e => (by rw [e, sort_cells h1'] at e1; cases e1), fun e => (by rw [e, sort_cells h3'] at e1; cases e1)⟩
  have hnew : ∀ g, rowK v' g → ¬ foot p r s g := fun g hg2 hf => by
    rcases hw g hg2 with h5 | h5
    · exact (h.side g (.inr (.inr ⟨a, ha, h5⟩))).2 hf
    · have := (hL.foot_lt g hf).1; omega
  have hset : ∀ k, k ≠ fb → k ≠ ib → ((w'.setCell ⟨fb, a, none⟩ v').setCell ⟨ib, a, none⟩ (.bool true)).heap[k]? = w'.heap[k]? := fun k hk1 hk2 => (Below.heap_setCell _ _ _ _ hk2).trans (Below.heap_setCell _ _ _ _ hk1)
  refine ⟨hL.same (fun k hk => (hset k (fun e => (h.side fb (.inl rfl)).2 (e ▸ hk)) (fun e => (h.side ib (.inr (.inl rfl))).2 (e ▸ hk))).trans (hg.block k (hL.foot_lt k hk).1 (fun e => (h.side k (.inr (.inr ⟨a, ha, e.symm⟩))).2 hk))),
    h.rebuild ⟨_, (Below.heap_setCell _ _ _ _ hne).trans (setCell_heap h1'), set_get h2 ha⟩ ⟨_, setCell_heap ((Below.heap_setCell _ _ _ _ (Ne.symm hne)).trans h3'), set_getI h4 ha⟩ (by simp only [size_setCell]; exact hg.size) ?_ ?_ ?_⟩
  · intro c hc
    by_cases hca : c = a
    · subst hca; rw [upd_same, upd_same]
      exact row_same hr (fun g hg2 => hset g (hr1 g hg2).1 (hr1 g hg2).2)
    · rw [upd_other _ _ hca, upd_other _ _ hca]
      exact row_same (h.rows c hc) (fun g hg2 => (hset g (h.rowF hc hg2).1 (h.rowF hc hg2).2).trans (hg.block g ((h.rows c hc).lt g hg2).2 (fun e => h.apart c a hc ha hca g hg2 e.symm)))
  · intro c c' hc hc' hcc g hg1 hg2
    have key : ∀ x, x < 3 → x ≠ a → ∀ g, rowK v' g → ¬ rowK (V x) g := fun x hx hxa g h5 h6 => by
      rcases hw g h5 with h7 | h7
      · exact h.apart a x ha hx (fun e => hxa e.symm) g h7 h6
      · have := ((h.rows x hx).lt g h6).2; omega
    by_cases hca : c = a
    · subst hca; rw [upd_same] at hg1; rw [upd_other _ _ (fun e => hcc e.symm)] at hg2
      exact key c' hc' (fun e => hcc e.symm) g hg1 hg2
    · rw [upd_other _ _ hca] at hg1
      by_cases hca' : c' = a
      · subst hca'; rw [upd_same] at hg2; exact key c hc hca g hg2 hg1
      · rw [upd_other _ _ hca'] at hg2; exact h.apart c c' hc hc' hcc g hg1 hg2
  · intro c hc g hg1
    by_cases hca : c = a
    · subst hca; rw [upd_same] at hg1; exact hnew g hg1
    · rw [upd_other _ _ hca] at hg1
      exact (h.side g (.inr (.inr ⟨c, hc, hg1⟩))).2
theorem Arr.drew {w : World} (h : Arr w p n₀ r s fb ib F I V) : Arr w.drew p n₀ r s fb ib F I V := h.same (fun _ _ => rfl) h.side
theorem below_drewK {B : Nat} {a w : World} (h : Below B a w) (n : Nat) : Below B a (w.drewN n) := h.trans ⟨rfl, rfl, rfl, Nat.le_refl _, fun _ _ => rfl⟩
theorem near_bytes {w : World} {d : Dd} {q : Option Addr} {cap : Nat} (h : BytesIn w (.slice q d.b.length cap) d.b) : BytesIn w (.slice q (min d.b.length 30) cap) d.near.b := by
  obtain ⟨_, _, _, e, h5, _⟩ := h.take (min d.b.length 30) (by omega)
  cases e
  have : d.near.b = d.b.take (min d.b.length 30) := by
    show d.b.take 30 = _
    rw [List.take_eq_take_iff]; omega
  rw [this]; exact h5
theorem run_name {c : Nat} (hc : c < 3) (W : World) : (convert 28 9 (.slice (some ⟨W.heap.size, 0, none⟩) 1 1)).run Try.prog (W.alloc (.cells #[.int .u8 (97 + (c : Int))] 5)) = .ok (.string (nm c)) (W.alloc (.cells #[.int .u8 (97 + (c : Int))] 5)) := by
  have h3 : c % 3 = c := Nat.mod_eq_of_lt hc
  have e : nm c = txt [97 + c] := by unfold nm; rw [h3]
  rw [e]
  refine run_string_of _ _ [97 + c] ⟨by intro x hx; simp at hx; omega, by simp, .inr (.inr ⟨W.heap.size, 0, 1, rfl, fun k hk => ?_⟩)⟩
  obtain rfl : k = 0 := by simp at hk; omega
  simp only [World.cell?, heap_new, List.getD_cons_zero]
  simp
theorem step_append_bytes {ops : Array Oper} {o : Oper} {a : Act} {w : World} {K : Act → World → Prop} {Q : Exit → Act → World → Prop} {E : Prop} (hg : o.guard = none) (sl x : Operand) (ho : o.op = .call { callee := .builtin .append, args := #[sl, x], argTypes := #[28, 28] })
    (base : Nat) (v u : Value) (l m : List Nat) (hs : a.eval sl = v) (hx : a.eval x = u) (hown : w.ownsRow base 5 1 v l.length (encB l)) (hu : BytesIn w u m) (hlen : l.length + m.length ≤ 140737488355328) (hbase : base ≤ w.heap.size)
    (h : ∀ v' w', w'.ownsRow base 5 1 v' (l ++ m).length (encB (l ++ m)) → w.grownBy w' v.ownBlock → (∀ k, v'.ownBlock = some k → v.ownBlock = some k ∨ w.heap.size ≤ k) → K (a.put o.dst v') w') :
    if Region.wanted o (yielded ops a.tmps) = true then Oper.wp Try.prog o a w K Q else E := by
  have hw : Region.wanted o (yielded ops a.tmps) = true := by simp [Region.wanted, hg]
  rw [if_pos hw]
  obtain ⟨v', w', hr, h2, h3, h4⟩ := run_append_bytes w base o.type v u l m hown hu hlen hbase
  unfold Oper.wp execOp
  simp only [ho, resolve, invoke, builtin, Sem.run_bind, Sem.run_pure, Result.andThen_ok, List.map_toArray, List.map_cons, List.map_nil, hs, hx, hr]
  exact h v' w' h2 h3 h4
end Go.Proofs.Ytbkkcbdbdogloaa
