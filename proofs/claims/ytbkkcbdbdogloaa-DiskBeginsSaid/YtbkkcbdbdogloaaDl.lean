/-
  HOW A DISK IN MEMORY TURNS: one part at a time. Conditions: those of each theorem.
-/
import Derived.Test.YtbkkcbdbdogloaaDd
namespace Go.Proofs.Ytbkkcbdbdogloaa
open Go Go.RowKit Go.MapL

/-- What sort of block lies there: blocks of unlike sorts are unlike. -/
def sort (w : World) (k : Nat) : Nat :=
  match w.heap[k]? with
  | some (.map _ _) => 0
  | some (.cells _ t _) => t + 1
  | _ => 1000000

section
variable {w w' : World} {p n₀ : Nat} {r : Rep} {s : DS}

theorem sort_cells {k : Nat} {cs : Array Value} {t : TypeId} {fz : Nat × Nat} (h : w.heap[k]? = some (.cells cs t fz)) : sort w k = t + 1 := by simp [sort, h]
theorem sort_map {mk : ByteArray → Value} {mv : Nat → Value} {k : Nat} {l : List (ByteArray × Nat)} (h : MapAt mk mv w k l) : sort w k = 0 := by
  obtain ⟨es, c, h, _⟩ := h
  simp [sort, h]
theorem sort_row {n e size m : Nat} {v : Value} {xs : List Value} (h : w.ownsRow n e size v m xs) {k : Nat} (hk : v.ownBlock = some k) : sort w k = e + 1 := by
  rcases h.2 with ⟨rfl, _⟩ | ⟨g, cap, cur, rfl, _, hg, _⟩
  · cases hk
  · simp [Value.ownBlock] at hk
    subst hk
    exact sort_cells hg

theorem Lies.sP (h : Lies w p n₀ r s) : sort w p = 59 := sort_cells h.top
theorem Lies.sN (h : Lies w p n₀ r s) : sort w r.bn = 0 := sort_map h.names
theorem Lies.sK (h : Lies w p n₀ r s) : sort w r.bk = 0 := sort_map h.kept
theorem Lies.sW (h : Lies w p n₀ r s) {k : Nat} (hk : r.wv.ownBlock = some k) : sort w k = 71 := sort_row h.works hk
theorem Lies.sF (h : Lies w p n₀ r s) {i : Nat} (h1 : 1 ≤ i) (h2 : i ≤ s.births) : sort w (r.ad i) = 68 := sort_cells (h.file i h1 h2)
theorem Lies.sB (h : Lies w p n₀ r s) {i : Nat} (h1 : 1 ≤ i) (h2 : i ≤ s.births) {k : Nat} (hk : (r.bv i).ownBlock = some k) : sort w k = 6 := sort_row (h.data i h1 h2) hk

/-- The names have turned. -/
theorem Lies.setNames (h : Lies w p n₀ r s) (l : List (ByteArray × Nat)) (hn : MapAt ofText ofBlock w' r.bn (at_ r.ad l)) (hs : ∀ k, k < w.heap.size → k ≠ r.bn → w'.heap[k]? = w.heap[k]?) : Lies w' p n₀ r { s with names := l } := by
  have hb : ∀ k, foot p r s k → k ≠ r.bn → w'.heap[k]? = w.heap[k]? := fun k hk hne => hs k (h.foot_lt k hk).1 hne
  have ne : ∀ {k m}, sort w k = m → m ≠ 0 → k ≠ r.bn := fun hk hm e => hm (by rw [← hk, e, h.sN])
  exact {
    top := (hb _ (.inl rfl) (ne h.sP (by decide))).trans h.top
    names := hn
    kept := h.kept.same (hb _ (.inr (.inr (.inl rfl))) h.apart.symm)
    works := row_same h.works (fun g hg => hb _ (.inr (.inr (.inr (.inl hg)))) (ne (h.sW hg) (by decide)))
    file := fun i h1 h2 => (hb _ (.inr (.inr (.inr (.inr ⟨i, h1, h2, .inl rfl⟩)))) (ne (h.sF h1 h2) (by decide))).trans (h.file i h1 h2)
    data := fun i h1 h2 => row_same (h.data i h1 h2) (fun g hg => hb _ (.inr (.inr (.inr (.inr ⟨i, h1, h2, .inr hg⟩)))) (ne (h.sB h1 h2 hg) (by decide)))
    apart := h.apart
    adInj := h.adInj
    rowInj := h.rowInj
    baseP := h.baseP
    baseN := h.baseN
    baseK := h.baseK
    baseF := h.baseF }

/-- The disk's own block has turned, and the works' row with it (and nothing else of the disk). -/
theorem Lies.setTop (h : Lies w p n₀ r s) (wv : Value) (works : List (ByteArray × ByteArray × Option Nat)) (dead : Bool)
    (ht : w'.heap[p]? = some (Ytbkkcbdbdogloaa.top { s with works := works, dead := dead } { r with wv := wv })) (hw : w'.ownsRow n₀ 70 3 wv works.length (works.flatMap (encW r.ad)))
    (hs : ∀ k, k < w.heap.size → k ≠ p → r.wv.ownBlock ≠ some k → w'.heap[k]? = w.heap[k]?) : Lies w' p n₀ { r with wv := wv } { s with works := works, dead := dead } := by
  have hb : ∀ k, foot p r s k → sort w k ≠ 59 → sort w k ≠ 71 → w'.heap[k]? = w.heap[k]? := fun k hk h1 h2 => hs k (h.foot_lt k hk).1 (fun e => h1 (by rw [e]; exact h.sP)) (fun e => h2 (h.sW e))
  exact {
    top := ht
    names := h.names.same (hb _ (.inr (.inl rfl)) (by rw [h.sN]; decide) (by rw [h.sN]; decide))
    kept := h.kept.same (hb _ (.inr (.inr (.inl rfl))) (by rw [h.sK]; decide) (by rw [h.sK]; decide))
    works := hw
    file := fun i h1 h2 => (hb _ (.inr (.inr (.inr (.inr ⟨i, h1, h2, .inl rfl⟩)))) (by rw [h.sF h1 h2]; decide) (by rw [h.sF h1 h2]; decide)).trans (h.file i h1 h2)
    data := fun i h1 h2 => row_same (h.data i h1 h2) (fun g hg => hb _ (.inr (.inr (.inr (.inr ⟨i, h1, h2, .inr hg⟩)))) (by rw [h.sB h1 h2 hg]; decide) (by rw [h.sB h1 h2 hg]; decide))
    apart := h.apart
    adInj := h.adInj
    rowInj := h.rowInj
    baseP := h.baseP
    baseN := h.baseN
    baseK := h.baseK
    baseF := h.baseF }

def upd {β : Type} (f : Nat → β) (i : Nat) (v : β) : Nat → β := fun k => if k = i then v else f k
@[simp] theorem upd_same {β : Type} (f : Nat → β) (i : Nat) (v : β) : upd f i v i = v := by simp [upd]
theorem upd_other {β : Type} (f : Nat → β) {i k : Nat} (v : β) (h : k ≠ i) : upd f i v k = f k := by simp [upd, h]

/-- One file has turned. -/
theorem Lies.setFile (h : Lies w p n₀ r s) (i : Nat) (h1 : 1 ≤ i) (h2 : i ≤ s.births) (bv : Value) (f : FileS) (hf : w'.heap[r.ad i]? = some (fileAt i bv f.mark)) (hd : w'.ownsRow n₀ 5 1 bv f.b.length (encB f.b))
    (hnew : ∀ k, bv.ownBlock = some k → (r.bv i).ownBlock = some k ∨ w.heap.size ≤ k)
    (hs : ∀ k, k < w.heap.size → k ≠ r.ad i → (r.bv i).ownBlock ≠ some k → w'.heap[k]? = w.heap[k]?) : Lies w' p n₀ { r with bv := upd r.bv i bv } { s with file := upd s.file i f } := by
  have hb : ∀ k, foot p r s k → sort w k ≠ 68 → sort w k ≠ 6 → w'.heap[k]? = w.heap[k]? := fun k hk g1 g2 => hs k (h.foot_lt k hk).1 (fun e => g1 (by rw [e]; exact h.sF h1 h2)) (fun e => g2 (h.sB h1 h2 e))
  exact {
    top := (hb _ (.inl rfl) (by rw [h.sP]; decide) (by rw [h.sP]; decide)).trans h.top
    names := h.names.same (hb _ (.inr (.inl rfl)) (by rw [h.sN]; decide) (by rw [h.sN]; decide))
    kept := h.kept.same (hb _ (.inr (.inr (.inl rfl))) (by rw [h.sK]; decide) (by rw [h.sK]; decide))
    works := row_same h.works (fun g hg => hb _ (.inr (.inr (.inr (.inl hg)))) (by rw [h.sW hg]; decide) (by rw [h.sW hg]; decide))
    file := fun j g1 g2 => by
      by_cases hj : j = i
      · subst hj; simpa using hf
      · simp only [upd_other _ _ hj]
        exact (hs _ (h.foot_lt _ (.inr (.inr (.inr (.inr ⟨j, g1, g2, .inl rfl⟩))))).1 (fun e => hj (h.adInj j i g1 g2 h1 h2 e)) (fun e => by have := h.sB h1 h2 e; rw [h.sF g1 g2] at this; cases this)).trans (h.file j g1 g2)
    data := fun j g1 g2 => by
      by_cases hj : j = i
      · subst hj; simpa using hd
      · simp only [upd_other _ _ hj]
        refine row_same (h.data j g1 g2) (fun g hg => hs _ (h.foot_lt _ (.inr (.inr (.inr (.inr ⟨j, g1, g2, .inr hg⟩))))).1 (fun e => ?_) (fun e => ?_))
        · have := h.sB g1 g2 hg; rw [e, h.sF h1 h2] at this; cases this
        · exact h.rowInj j i g1 g2 h1 h2 hj (by rw [hg]; simp) (hg.trans e.symm)
    apart := h.apart
    adInj := h.adInj
    rowInj := fun j l g1 g2 g3 g4 hjl hn => by
      by_cases hj : j = i
      · subst hj
        have hl : l ≠ j := fun e => hjl e.symm
        simp only [upd_same, upd_other _ _ hl] at hn ⊢
        intro e
        obtain ⟨k, hk⟩ := Option.ne_none_iff_exists'.1 hn
        have hk2 := e.symm.trans hk
        rcases hnew k hk with h3 | h3
        · exact h.rowInj j l g1 g2 g3 g4 hjl (by rw [h3]; simp) (h3.trans hk2.symm)
        · have := (h.foot_lt k (.inr (.inr (.inr (.inr ⟨l, g3, g4, .inr hk2⟩))))).1
          omega
      · by_cases hl : l = i
        · subst hl
          simp only [upd_same, upd_other _ _ hj] at hn ⊢
          intro e
          obtain ⟨k, hk⟩ := Option.ne_none_iff_exists'.1 hn
          have hk2 := e.symm.trans hk
          rcases hnew k hk2 with h3 | h3
          · exact h.rowInj j l g1 g2 g3 g4 hjl hn (hk.trans h3.symm)
          · have := (h.foot_lt k (.inr (.inr (.inr (.inr ⟨j, g1, g2, .inr hk⟩))))).1
            omega
        · simp only [upd_other _ _ hj, upd_other _ _ hl] at hn ⊢
          exact h.rowInj j l g1 g2 g3 g4 hjl hn
    baseP := h.baseP
    baseN := h.baseN
    baseK := h.baseK
    baseF := h.baseF }

theorem at_upd {ad : Nat → Nat} {i v : Nat} {l : List (ByteArray × Nat)} (h : ∀ p ∈ l, p.2 ≠ i) : at_ (upd ad i v) l = at_ ad l := by
  unfold at_
  apply List.map_congr_left
  intro p hp
  rw [upd_other _ _ (h p hp)]
theorem encW_upd {ad : Nat → Nat} {i v : Nat} {l : List (ByteArray × ByteArray × Option Nat)} (h : ∀ p ∈ l, p.2.2 ≠ some i) : l.flatMap (encW (upd ad i v)) = l.flatMap (encW ad) := by
  induction l with
  | nil => rfl
  | cons q l ih =>
    rw [List.flatMap_cons, List.flatMap_cons, ih (fun p hp => h p (.tail _ hp))]
    congr 1
    obtain ⟨a, b, f⟩ := q
    have := h _ (.head _)
    cases f with
    | none => rfl
    | some j =>
      have : j ≠ i := fun e => this (by rw [e])
      simp [encW, ptrOf, upd_other _ _ this]

/-- A file is born. -/
theorem Lies.born (h : Lies w p n₀ r s) (hwf : WF s) (B : Nat) (hB : w.heap.size ≤ B) (hn : n₀ ≤ B) (ht : w'.heap[p]? = some (Ytbkkcbdbdogloaa.top { s with births := s.births + 1 } r)) (hf : w'.heap[B]? = some (fileAt (s.births + 1) (.slice none 0 0) 0))
    (hs : ∀ k, k < w.heap.size → k ≠ p → w'.heap[k]? = w.heap[k]?) :
    Lies w' p n₀ { r with ad := upd r.ad (s.births + 1) B, bv := upd r.bv (s.births + 1) (.slice none 0 0) } { s with births := s.births + 1, file := upd s.file (s.births + 1) ⟨[], 0⟩ } := by
  have hb : ∀ k, foot p r s k → sort w k ≠ 59 → w'.heap[k]? = w.heap[k]? := fun k hk g1 => hs k (h.foot_lt k hk).1 (fun e => g1 (by rw [e]; exact h.sP))
  have ho : ∀ i, i ≤ s.births → i ≠ s.births + 1 := fun i hi => by omega
  have hlt : ∀ i, 1 ≤ i → i ≤ s.births → r.ad i < w.heap.size := fun i g1 g2 => (h.foot_lt _ (.inr (.inr (.inr (.inr ⟨i, g1, g2, .inl rfl⟩))))).1
  exact {
    top := ht
    names := by rw [at_upd (fun p hp => ho _ (hwf.names p hp).2)]; exact h.names.same (hb _ (.inr (.inl rfl)) (by rw [h.sN]; decide))
    kept := by rw [at_upd (fun p hp => ho _ (hwf.kept p hp).2)]; exact h.kept.same (hb _ (.inr (.inr (.inl rfl))) (by rw [h.sK]; decide))
    works := by
      rw [encW_upd (fun p hp e => ho _ (hwf.works p hp _ e).2 rfl)]
      exact row_same h.works (fun g hg => hb _ (.inr (.inr (.inr (.inl hg)))) (by rw [h.sW hg]; decide))
    file := fun j g1 g2 => by
      by_cases hj : j = s.births + 1
      · subst hj; simpa using hf
      · have g2 : j ≤ s.births := by have : j ≤ s.births + 1 := g2; omega
        simp only [upd_other _ _ hj]
        exact (hb _ (.inr (.inr (.inr (.inr ⟨j, g1, g2, .inl rfl⟩)))) (by rw [h.sF g1 g2]; decide)).trans (h.file j g1 g2)
    data := fun j g1 g2 => by
      by_cases hj : j = s.births + 1
      · subst hj; simp only [upd_same]; exact World.ownsRow_nil _ _ _ _
      · have g2 : j ≤ s.births := by have : j ≤ s.births + 1 := g2; omega
        simp only [upd_other _ _ hj]
        exact row_same (h.data j g1 g2) (fun g hg => hb _ (.inr (.inr (.inr (.inr ⟨j, g1, g2, .inr hg⟩)))) (by rw [h.sB g1 g2 hg]; decide))
    apart := h.apart
    adInj := fun i j g1 g2 g3 g4 e => by
      have g2 : i ≤ s.births + 1 := g2
      have g4 : j ≤ s.births + 1 := g4
      by_cases hi : i = s.births + 1
      · by_cases hj : j = s.births + 1
        · rw [hi, hj]
        · subst hi
          simp only [upd_same, upd_other _ _ hj] at e
          have := hlt j g3 (by omega)
          omega
      · by_cases hj : j = s.births + 1
        · subst hj
          simp only [upd_same, upd_other _ _ hi] at e
          have := hlt i g1 (by omega)
          omega
        · simp only [upd_other _ _ hi, upd_other _ _ hj] at e
          exact h.adInj i j g1 (by omega) g3 (by omega) e
    rowInj := fun i j g1 g2 g3 g4 hij hn => by
      have g2 : i ≤ s.births + 1 := g2
      have g4 : j ≤ s.births + 1 := g4
      by_cases hi : i = s.births + 1
      · subst hi; simp [Value.ownBlock] at hn
      · by_cases hj : j = s.births + 1
        · subst hj
          simp only [upd_same, upd_other _ _ hi] at hn ⊢
          exact hn
        · simp only [upd_other _ _ hi, upd_other _ _ hj] at hn ⊢
          exact h.rowInj i j g1 (by omega) g3 (by omega) hij hn
    baseP := h.baseP
    baseN := h.baseN
    baseK := h.baseK
    baseF := fun j g1 g2 => by
      have g2 : j ≤ s.births + 1 := g2
      by_cases hj : j = s.births + 1
      · subst hj; simpa using hn
      · simp only [upd_other _ _ hj]; exact h.baseF j g1 (by omega) }
end
end Go.Proofs.Ytbkkcbdbdogloaa
