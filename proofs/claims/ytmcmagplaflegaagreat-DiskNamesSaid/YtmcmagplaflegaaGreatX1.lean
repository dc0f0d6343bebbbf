/-
  HOW A DISK IN MEMORY TURNS: one part at a time. Conditions: those of each theorem.
  A WORK ON NAMES, done and noted. Conditions: those of each theorem.
  THE ROOM THAT IS USED. Conditions: those of each theorem.
  THE ROOM THAT IS USED, walked. Conditions: those of each theorem.
  THE DISK's METHODS. Conditions: those of each theorem.
-/
import Derived.Test.YtmcmagplaflegaaGreatX0
import Derived.Deep.RegionLaw
import Derived.RegionTactic
import Derived.Carry
import Derived.ChangeAlike

namespace Go.Proofs.YtmcmagplaflegaaGreat
open Go Go.RowKit Go.MapL

/-- What sort of block lies there: blocks of unlike sorts are unlike. -/
def sort (w : World) (k : Nat) : Nat :=
  match w.heap[k]? with
  | some (.map _ _) => 0
  | some (.cells _ t _) => t + 1
  | _ => 1000000

section
variable {w w' : World} {p n₀ : Nat} {r : Rep} {s : DS}

theorem sort_cells {k : Nat} {cs : Array Value} {t : TypeId} {fz : Nat × Nat} (h : w.heap[k]? = some (.cells cs t fz)) : sort w k = t + 1 := by simp [sort, h]
theorem sort_map {mk : ByteArray → Value} {mv : Nat → Value} {k : Nat} {l : List (ByteArray × Nat)} (h : MapAt mk mv w k l) : sort w k = 0 := by
  obtain ⟨es, c, h, _⟩ := h
  simp [sort, h]
theorem sort_row {n e size m : Nat} {v : Value} {xs : List Value} (h : w.ownsRow n e size v m xs) {k : Nat} (hk : v.ownBlock = some k) : sort w k = e + 1 := by
  rcases h.2 with ⟨rfl, _⟩ | ⟨g, cap, cur, rfl, _, hg, _⟩
  · cases hk
  · simp [Value.ownBlock] at hk
    subst hk
    exact sort_cells hg

theorem Lies.sP (h : Lies w p n₀ r s) : sort w p = 46 := sort_cells h.top
theorem Lies.sN (h : Lies w p n₀ r s) : sort w r.bn = 0 := sort_map h.names
theorem Lies.sK (h : Lies w p n₀ r s) : sort w r.bk = 0 := sort_map h.kept
theorem Lies.sW (h : Lies w p n₀ r s) {k : Nat} (hk : r.wv.ownBlock = some k) : sort w k = 77 := sort_row h.works hk
theorem Lies.sF (h : Lies w p n₀ r s) {i : Nat} (h1 : 1 ≤ i) (h2 : i ≤ s.births) : sort w (r.ad i) = 73 := sort_cells (h.file i h1 h2)
theorem Lies.sB (h : Lies w p n₀ r s) {i : Nat} (h1 : 1 ≤ i) (h2 : i ≤ s.births) {k : Nat} (hk : (r.bv i).ownBlock = some k) : sort w k = 6 := sort_row (h.data i h1 h2) hk

theorem Lies.sV (h : Lies w p n₀ r s) {k : Nat} (hk : r.kv.ownBlock = some k) : sort w k = 4 := sort_row h.keep hk
theorem Lies.notV (h : Lies w p n₀ r s) {k : Nat} (hk : r.kv.ownBlock = some k) : ¬ foot p r s k := by
  have e := h.sV hk
  rintro (rfl | rfl | rfl | h1 | ⟨i, h1, h2, rfl | h3⟩)
  · rw [h.sP] at e; cases e
  · rw [h.sN] at e; cases e
  · rw [h.sK] at e; cases e
  · rw [h.sW h1] at e; cases e
  · rw [h.sF h1 h2] at e; cases e
  · rw [h.sB h1 h2 h3] at e; cases e

/-- The names have turned. -/
theorem Lies.setNames (h : Lies w p n₀ r s) (l : List (ByteArray × Nat)) (hn : MapAt ofText ofBlock w' r.bn (at_ r.ad l)) (hs : ∀ k, k < w.heap.size → k ≠ r.bn → w'.heap[k]? = w.heap[k]?) : Lies w' p n₀ r { s with names := l } := by
  have hb : ∀ k, foot p r s k → k ≠ r.bn → w'.heap[k]? = w.heap[k]? := fun k hk hne => hs k (h.foot_lt k hk).1 hne
  have ne : ∀ {k m}, sort w k = m → m ≠ 0 → k ≠ r.bn := fun hk hm e => hm (by rw [← hk, e, h.sN])
  exact {
    top := (hb _ (.inl rfl) (ne h.sP (by decide))).trans h.top
    names := hn
    kept := h.kept.same (hb _ (.inr (.inr (.inl rfl))) h.apart.symm)
    works := row_same h.works (fun g hg => hb _ (.inr (.inr (.inr (.inl hg)))) (ne (h.sW hg) (by decide)))
    file := fun i h1 h2 => (hb _ (.inr (.inr (.inr (.inr ⟨i, h1, h2, .inl rfl⟩)))) (ne (h.sF h1 h2) (by decide))).trans (h.file i h1 h2)
    data := fun i h1 h2 => row_same (h.data i h1 h2) (fun g hg => hb _ (.inr (.inr (.inr (.inr ⟨i, h1, h2, .inr hg⟩)))) (ne (h.sB h1 h2 hg) (by decide)))
    keep := row_same h.keep (fun g hg => hs g (h.keep.lt g hg).2 (ne (h.sV hg) (by decide)))
    apart := h.apart
    adInj := h.adInj
    rowInj := h.rowInj
    baseP := h.baseP
    baseN := h.baseN
    baseK := h.baseK
    baseF := h.baseF }

/-- The disk's own block has turned, and the works' row with it (and nothing else of the disk). -/
theorem Lies.setTop (h : Lies w p n₀ r s) (wv : Value) (works : List (ByteArray × ByteArray × Option Nat)) (dead : Bool) (fails : Int)
    (ht : w'.heap[p]? = some (YtmcmagplaflegaaGreat.top { s with works := works, dead := dead, fails := fails } { r with wv := wv })) (hw : w'.ownsRow n₀ 76 3 wv works.length (works.flatMap (encW r.ad)))
    (hs : ∀ k, k < w.heap.size → k ≠ p → r.wv.ownBlock ≠ some k → w'.heap[k]? = w.heap[k]?) : Lies w' p n₀ { r with wv := wv } { s with works := works, dead := dead, fails := fails } := by
  have hb : ∀ k, foot p r s k → sort w k ≠ 46 → sort w k ≠ 77 → w'.heap[k]? = w.heap[k]? := fun k hk h1 h2 => hs k (h.foot_lt k hk).1 (fun e => h1 (by rw [e]; exact h.sP)) (fun e => h2 (h.sW e))
  exact {
    top := ht
    names := h.names.same (hb _ (.inr (.inl rfl)) (by rw [h.sN]; decide) (by rw [h.sN]; decide))
    kept := h.kept.same (hb _ (.inr (.inr (.inl rfl))) (by rw [h.sK]; decide) (by rw [h.sK]; decide))
    works := hw
    file := fun i h1 h2 => (hb _ (.inr (.inr (.inr (.inr ⟨i, h1, h2, .inl rfl⟩)))) (by rw [h.sF h1 h2]; decide) (by rw [h.sF h1 h2]; decide)).trans (h.file i h1 h2)
    data := fun i h1 h2 => row_same (h.data i h1 h2) (fun g hg => hb _ (.inr (.inr (.inr (.inr ⟨i, h1, h2, .inr hg⟩)))) (by rw [h.sB h1 h2 hg]; decide) (by rw [h.sB h1 h2 hg]; decide))
    keep := row_same h.keep (fun g hg => hs g (h.keep.lt g hg).2 (fun e => by have := h.sV hg; rw [e, h.sP] at this; cases this) (fun e => by have := h.sV hg; rw [h.sW e] at this; cases this))
    apart := h.apart
    adInj := h.adInj
    rowInj := h.rowInj
    baseP := h.baseP
    baseN := h.baseN
    baseK := h.baseK
    baseF := h.baseF }

def upd {β : Type} (f : Nat → β) (i : Nat) (v : β) : Nat → β := fun k => if k = i then v else f k
@[simp] theorem upd_same {β : Type} (f : Nat → β) (i : Nat) (v : β) : upd f i v i = v := by simp [upd]
theorem upd_other {β : Type} (f : Nat → β) {i k : Nat} (v : β) (h : k ≠ i) : upd f i v k = f k := by simp [upd, h]

/-- One file has turned. -/
theorem Lies.setFile (h : Lies w p n₀ r s) (i : Nat) (h1 : 1 ≤ i) (h2 : i ≤ s.births) (bv : Value) (f : FileS) (hf : w'.heap[r.ad i]? = some (fileAt i bv f.mark)) (hd : w'.ownsRow n₀ 5 1 bv f.b.length (encB f.b))
    (hnew : ∀ k, bv.ownBlock = some k → (r.bv i).ownBlock = some k ∨ w.heap.size ≤ k)
    (hs : ∀ k, k < w.heap.size → k ≠ r.ad i → (r.bv i).ownBlock ≠ some k → w'.heap[k]? = w.heap[k]?) : Lies w' p n₀ { r with bv := upd r.bv i bv } { s with file := upd s.file i f } := by
  have hb : ∀ k, foot p r s k → sort w k ≠ 73 → sort w k ≠ 6 → w'.heap[k]? = w.heap[k]? := fun k hk g1 g2 => hs k (h.foot_lt k hk).1 (fun e => g1 (by rw [e]; exact h.sF h1 h2)) (fun e => g2 (h.sB h1 h2 e))
  exact {
    top := (hb _ (.inl rfl) (by rw [h.sP]; decide) (by rw [h.sP]; decide)).trans h.top
    names := h.names.same (hb _ (.inr (.inl rfl)) (by rw [h.sN]; decide) (by rw [h.sN]; decide))
    kept := h.kept.same (hb _ (.inr (.inr (.inl rfl))) (by rw [h.sK]; decide) (by rw [h.sK]; decide))
    works := row_same h.works (fun g hg => hb _ (.inr (.inr (.inr (.inl hg)))) (by rw [h.sW hg]; decide) (by rw [h.sW hg]; decide))
    file := fun j g1 g2 => by
      by_cases hj : j = i
      · subst hj; simpa using hf
      · simp only [upd_other _ _ hj]
        exact (hs _ (h.foot_lt _ (.inr (.inr (.inr (.inr ⟨j, g1, g2, .inl rfl⟩))))).1 (fun e => hj (h.adInj j i g1 g2 h1 h2 e)) (fun e => by have := h.sB h1 h2 e; rw [h.sF g1 g2] at this; cases this)).trans (h.file j g1 g2)
    data := fun j g1 g2 => by
      by_cases hj : j = i
      · subst hj; simpa using hd
      · simp only [upd_other _ _ hj]
        refine row_same (h.data j g1 g2) (fun g hg => hs _ (h.foot_lt _ (.inr (.inr (.inr (.inr ⟨j, g1, g2, .inr hg⟩))))).1 (fun e => ?_) (fun e => ?_))
        · have := h.sB g1 g2 hg; rw [e, h.sF h1 h2] at this; cases this
        · exact h.rowInj j i g1 g2 h1 h2 hj (by rw [hg]; simp) (hg.trans e.symm)
    keep := row_same h.keep (fun g hg => hs g (h.keep.lt g hg).2 (fun e => by have := h.sV hg; rw [e, h.sF h1 h2] at this; cases this) (fun e => by have := h.sV hg; rw [h.sB h1 h2 e] at this; cases this))
    apart := h.apart
    adInj := h.adInj
    rowInj := fun j l g1 g2 g3 g4 hjl hn => by
      by_cases hj : j = i
      · subst hj
        have hl : l ≠ j := fun e => hjl e.symm
        simp only [upd_same, upd_other _ _ hl] at hn ⊢
        intro e
        obtain ⟨k, hk⟩ := Option.ne_none_iff_exists'.1 hn
        have hk2 := e.symm.trans hk
        rcases hnew k hk with h3 | h3
        · exact h.rowInj j l g1 g2 g3 g4 hjl (by rw [h3]; simp) (h3.trans hk2.symm)
        · have := (h.foot_lt k (.inr (.inr (.inr (.inr ⟨l, g3, g4, .inr hk2⟩))))).1
          omega
      · by_cases hl : l = i
        · subst hl
          simp only [upd_same, upd_other _ _ hj] at hn ⊢
          intro e
          obtain ⟨k, hk⟩ := Option.ne_none_iff_exists'.1 hn
          have hk2 := e.symm.trans hk
          rcases hnew k hk2 with h3 | h3
          · exact h.rowInj j l g1 g2 g3 g4 hjl hn (hk.trans h3.symm)
          · have := (h.foot_lt k (.inr (.inr (.inr (.inr ⟨j, g1, g2, .inr hk⟩))))).1
            omega
        · simp only [upd_other _ _ hj, upd_other _ _ hl] at hn ⊢
          exact h.rowInj j l g1 g2 g3 g4 hjl hn
    baseP := h.baseP
    baseN := h.baseN
    baseK := h.baseK
    baseF := h.baseF }

theorem at_upd {ad : Nat → Nat} {i v : Nat} {l : List (ByteArray × Nat)} (h : ∀ p ∈ l, p.2 ≠ i) : at_ (upd ad i v) l = at_ ad l := by
  unfold at_
  apply List.map_congr_left
  intro p hp
  rw [upd_other _ _ (h p hp)]
theorem encW_upd {ad : Nat → Nat} {i v : Nat} {l : List (ByteArray × ByteArray × Option Nat)} (h : ∀ p ∈ l, p.2.2 ≠ some i) : l.flatMap (encW (upd ad i v)) = l.flatMap (encW ad) := by
  induction l with
  | nil => rfl
  | cons q l ih =>
    rw [List.flatMap_cons, List.flatMap_cons, ih (fun p hp => h p (.tail _ hp))]
    congr 1
    obtain ⟨a, b, f⟩ := q
    have := h _ (.head _)
    cases f with
    | none => rfl
    | some j =>
      have : j ≠ i := fun e => this (by rw [e])
      simp [encW, ptrOf, upd_other _ _ this]

/-- A file is born. -/
theorem Lies.born (h : Lies w p n₀ r s) (hwf : WF s) (B : Nat) (hB : w.heap.size ≤ B) (hn : n₀ ≤ B) (ht : w'.heap[p]? = some (YtmcmagplaflegaaGreat.top { s with births := s.births + 1 } r)) (hf : w'.heap[B]? = some (fileAt (s.births + 1) (.slice none 0 0) 0))
    (hs : ∀ k, k < w.heap.size → k ≠ p → w'.heap[k]? = w.heap[k]?) :
    Lies w' p n₀ { r with ad := upd r.ad (s.births + 1) B, bv := upd r.bv (s.births + 1) (.slice none 0 0) } { s with births := s.births + 1, file := upd s.file (s.births + 1) ⟨[], 0⟩ } := by
  have hb : ∀ k, foot p r s k → sort w k ≠ 46 → w'.heap[k]? = w.heap[k]? := fun k hk g1 => hs k (h.foot_lt k hk).1 (fun e => g1 (by rw [e]; exact h.sP))
  have ho : ∀ i, i ≤ s.births → i ≠ s.births + 1 := fun i hi => by omega
  have hlt : ∀ i, 1 ≤ i → i ≤ s.births → r.ad i < w.heap.size := fun i g1 g2 => (h.foot_lt _ (.inr (.inr (.inr (.inr ⟨i, g1, g2, .inl rfl⟩))))).1
  exact {
    top := ht
    names := by rw [at_upd (fun p hp => ho _ (hwf.names p hp).2)]; exact h.names.same (hb _ (.inr (.inl rfl)) (by rw [h.sN]; decide))
    kept := by rw [at_upd (fun p hp => ho _ (hwf.kept p hp).2)]; exact h.kept.same (hb _ (.inr (.inr (.inl rfl))) (by rw [h.sK]; decide))
    works := by
      rw [encW_upd (fun p hp e => ho _ (hwf.works p hp _ e).2 rfl)]
      exact row_same h.works (fun g hg => hb _ (.inr (.inr (.inr (.inl hg)))) (by rw [h.sW hg]; decide))
    file := fun j g1 g2 => by
      by_cases hj : j = s.births + 1
      · subst hj; simpa using hf
      · have g2 : j ≤ s.births := by have : j ≤ s.births + 1 := g2; omega
        simp only [upd_other _ _ hj]
        exact (hb _ (.inr (.inr (.inr (.inr ⟨j, g1, g2, .inl rfl⟩)))) (by rw [h.sF g1 g2]; decide)).trans (h.file j g1 g2)
    data := fun j g1 g2 => by
      by_cases hj : j = s.births + 1
      · subst hj; simp only [upd_same]; exact World.ownsRow_nil _ _ _ _
      · have g2 : j ≤ s.births := by have : j ≤ s.births + 1 := g2; omega
        simp only [upd_other _ _ hj]
        exact row_same (h.data j g1 g2) (fun g hg => hb _ (.inr (.inr (.inr (.inr ⟨j, g1, g2, .inr hg⟩)))) (by rw [h.sB g1 g2 hg]; decide))
    keep := row_same h.keep (fun g hg => hs g (h.keep.lt g hg).2 (fun e => by have := h.sV hg; rw [e, h.sP] at this; cases this))
    apart := h.apart
    adInj := fun i j g1 g2 g3 g4 e => by
      have g2 : i ≤ s.births + 1 := g2
      have g4 : j ≤ s.births + 1 := g4
      by_cases hi : i = s.births + 1
      · by_cases hj : j = s.births + 1
        · rw [hi, hj]
        · subst hi
          simp only [upd_same, upd_other _ _ hj] at e
          have := hlt j g3 (by omega)
          omega
      · by_cases hj : j = s.births + 1
        · subst hj
          simp only [upd_same, upd_other _ _ hi] at e
          have := hlt i g1 (by omega)
          omega
        · simp only [upd_other _ _ hi, upd_other _ _ hj] at e
          exact h.adInj i j g1 (by omega) g3 (by omega) e
    rowInj := fun i j g1 g2 g3 g4 hij hn => by
      have g2 : i ≤ s.births + 1 := g2
      have g4 : j ≤ s.births + 1 := g4
      by_cases hi : i = s.births + 1
      · subst hi; simp [Value.ownBlock] at hn
      · by_cases hj : j = s.births + 1
        · subst hj
          simp only [upd_same, upd_other _ _ hi] at hn ⊢
          exact hn
        · simp only [upd_other _ _ hi, upd_other _ _ hj] at hn ⊢
          exact h.rowInj i j g1 (by omega) g3 (by omega) hij hn
    baseP := h.baseP
    baseN := h.baseN
    baseK := h.baseK
    baseF := fun j g1 g2 => by
      have g2 : j ≤ s.births + 1 := g2
      by_cases hj : j = s.births + 1
      · subst hj; simpa using hn
      · simp only [upd_other _ _ hj]; exact h.baseF j g1 (by omega) }
end
end Go.Proofs.YtmcmagplaflegaaGreat

namespace Go.Proofs.YtmcmagplaflegaaGreat
open Go Go.RowKit Go.MapL Go.Poised

theorem at_put (ad : Nat → Nat) (a : ByteArray) (i : Nat) : ∀ l, at_ ad (put a i l) = put a (ad i) (at_ ad l)
  | [] => rfl
  | (k, v) :: l => by
    unfold put at_
    by_cases h : k = a
    · simp [h]
    · have := at_put ad a i l
      unfold at_ at this
      simp [h, this]
theorem at_del (ad : Nat → Nat) (a : ByteArray) : ∀ l, at_ ad (del a l) = del a (at_ ad l)
  | [] => rfl
  | (k, v) :: l => by
    unfold del at_
    by_cases h : k = a
    · simp [h]
    · have := at_del ad a l
      unfold at_ at this
      simp [h, this]
theorem at_step (ad : Nat → Nat) (a b : ByteArray) (f : Option Nat) (l : List (ByteArray × Nat)) : at_ ad (step a b f l) = step a b (f.map ad) (at_ ad l) := by
  cases f with
  | none => exact at_del ad a l
  | some i => simp only [step, Option.map_some]; rw [at_put, at_del]
theorem ptrOf_map (ad : Nat → Nat) (f : Option Nat) : ptrOf ad f = ptrOf id (f.map ad) := by cases f <;> rfl

theorem info76 : (Tryz.prog.info? 76).map (fun i => (i.zero, i.size, i.bytes)) = some (some (.agg #[.string ⟨#[]⟩, .string ⟨#[]⟩, .pointer none]), 3, 40) := by kernel_rfl

/-- An append of one thing the call owns, as a step of a region that draws. -/
theorem step_append_own {P : Program} {ops : Array Oper} {o : Oper} {a : Act} {w : World} {K : Act → World → Prop} {Q : Exit → Act → World → Prop} {E : Prop}
    (hg : o.guard = none) (s x : Operand) (t : TypeId) (ho : o.op = .call { callee := .builtin .append, args := #[s, x], argTypes := #[t, t] })
    (base : Nat) (e : TypeId) (i : TypeInfo) (z : Value) (size bytes : Nat) (ht : P.underlying t = some (.slice e)) (hi : P.info? e = some i) (hz : i.zero = some z)
    (hsize : i.size = size) (hby : i.bytes = bytes) (hzs : z.cells.size = size) (hsz : 0 < size)
    (v : Value) (n : Nat) (xs : List Value) (hs : a.eval s = v) (hown : w.ownsRow base e size v n xs)
    (ad : Addr) (m c : Nat) (news : List Value) (hx : a.eval x = .slice (some ad) m c) (hl : news.length = m * size) (hnews : ∀ j u, news[j]? = some u → w.cell? (ad.add j) = some u) (h1 : ∀ u ∈ news, u.oneCell' = true)
    (h63 : n + m ≤ maxLen) (hbytes : (n + m) * bytes ≤ 140737488355328) (hbase : base ≤ w.heap.size)
    (h : ∀ v' w', w'.ownsRow base e size v' (n + m) (xs ++ news) → w.grownBy w' v.ownBlock → (∀ k, v'.ownBlock = some k → v.ownBlock = some k ∨ w.heap.size ≤ k) → K (a.put o.dst v') w') :
    if Region.wanted o (yielded ops a.tmps) = true then Oper.wp P o a w K Q else E := by
  have hw : Region.wanted o (yielded ops a.tmps) = true := by simp [Region.wanted, hg]
  rw [if_pos hw]
  obtain ⟨v', w', hr, h2, h3, h4⟩ := run_append_where (P := P) w base t o.type e i z size bytes ht hi hz hsize hby hzs hsz v n xs hown ad m c news hl hnews h1 h63 hbytes hbase
  unfold Oper.wp execOp
  simp only [ho, resolve, invoke, builtin, Sem.run_bind, Sem.run_pure, Result.andThen_ok, List.map_toArray, List.map_cons, List.map_nil, hs, hx, hr]
  exact h v' w' h2 h3 h4

theorem cells_new3 (w : World) (x y z : Value) (t : TypeId) : ∀ j u, [x, y, z][j]? = some u → (w.alloc (.cells #[x, y, z] t)).cell? ((⟨w.heap.size, 0, none⟩ : Addr).add j) = some u := by
  intro j u hj
  obtain ⟨c0, c1, c2⟩ := cells3 (heap_new w (.cells #[x, y, z] t))
  rw [Addr.add_lit, Nat.zero_add]
  match j, hj with
  | 0, hj => simp at hj; subst hj; exact c0
  | 1, hj => simp at hj; subst hj; exact c1
  | 2, hj => simp at hj; subst hj; exact c2
theorem ownsRow_succ' {W : World} {base : Nat} {e : TypeId} {size : Nat} {v : Value} {k : Nat} {xs : List Value} (h : W.ownsRow base e size v (k + 1) xs) : ∃ g cap, v = .slice (some ⟨g, 0, none⟩) (k + 1) cap := by
  rcases h.2 with ⟨_, h0⟩ | ⟨g, cap, _, rfl, _⟩
  · omega
  · exact ⟨g, cap, rfl⟩
theorem setCell_heap {w : World} {p i : Nat} {cs : Array Value} {t : TypeId} {fz : Nat × Nat} {v : Value} (h : w.heap[p]? = some (.cells cs t fz)) : (w.setCell ⟨p, i, none⟩ v).heap[p]? = some (.cells (cs.setIfInBounds i v) t fz) := by
  simp [World.setCell, Array.getElem?_modify, h]

def DS.renamed (s : DS) (a b : ByteArray) (f : Option Nat) : DS := { s with names := step a b f s.names, works := s.works ++ [(a, b, f)] }

set_option maxHeartbeats 4000000 in
set_option maxRecDepth 100000 in
theorem renamed_any (a b : ByteArray) (f : Option Nat) (w : World) (p n₀ : Nat) (r : Rep) (s : DS) (h : Lies w p n₀ r s) (hc : s.works.length < 1073741824) (hn : n₀ ≤ w.heap.size) :
    Calls Tryz.prog 53 #[ofBlock p, .agg #[.string a, .string b, ptrOf r.ad f]] w fun e w' => e = .returned (.tuple #[]) ∧
      ∃ wv', Lies w' p n₀ { r with wv := wv' } (s.renamed a b f) ∧ Grown (foot p r s) w w' ∧ ∀ k, wv'.ownBlock = some k → r.wv.ownBlock = some k ∨ w.heap.size ≤ k := by
  have hfl := h.foot_lt
  obtain ⟨c0, c1, c2, c3, c4, c5, c6, c7⟩ := h.cells
  have hd := fun w hm => does_any a b (f.map r.ad) r.bn (at_ r.ad s.names) w hm
  rw [← ptrOf_map] at hd
  have hbx := heap_new w (.cells #[.string a, .string b, ptrOf r.ad f] 76)
  have h1 := h.alloc (.cells #[.string a, .string b, ptrOf r.ad f] 76)
  obtain ⟨q, hq⟩ : ∃ q, ptrOf r.ad f = .pointer q := by cases f <;> exact ⟨_, rfl⟩
  rw [hq] at hd hbx h1 ⊢
  replace hq : Hid (ptrOf r.ad f = .pointer q) := hq
  obtain ⟨w0, hw0⟩ : ∃ w0, w.alloc (.cells #[.string a, .string b, .pointer q] 76) = w0 := ⟨_, rfl⟩
  have hz0 : w0.heap.size = w.heap.size + 1 := by rw [← hw0]; simp
  have hB0 : Below w.heap.size w w0 := by rw [← hw0]; exact (Below.refl _ _).alloc (Nat.le_refl _) _
  unfold ofBlock at *
  go_enter Tryz.func53, Tryz.ntmps53
  go_wp2_with fail
  rw [hw0] at hbx h1
  refine poised_then 5 (fun w' => Below w0.heap.size w0 w') (fun w w' => Below w0.heap.size w w') (by kernel_rfl) (by kernel_rfl) (by kernel_rfl) (fun _ _ h k => h.trans k) ((Below.refl _ _).drew) ?_
  apply Exists.intro
  simp only [List.take_succ_cons, List.take_zero]
  apply walk_det
  · rfl
  · intro w2 hC hF
    have h2 := h1.below hC
    obtain ⟨d0, d1, d2, d3, d4, d5, d6, d7⟩ := h2.cells
    have hbx2 := (hC.block _ (by omega)).trans hbx
    obtain ⟨e0, e1, e2⟩ := cells3 hbx2
    simp only [upon]
    go_simp
    exact ⟨Below.refl _ _, rfl⟩
  simp only [put_lit, List.set_cons_succ, List.set_cons_zero]
  apply walk_det
  · rfl
  · intro w2 hC hF
    simp only [upon]
    go_simp
    exact ⟨Below.refl _ _, rfl⟩
  simp only [put_lit, List.set_cons_succ, List.set_cons_zero]
  apply walk_det
  · rfl
  · intro w2 hC hF
    simp only [upon]
    go_simp
    exact ⟨Below.refl _ _, rfl⟩
  simp only [put_lit, List.set_cons_succ, List.set_cons_zero]
  apply walk_det
  · rfl
  · intro w2 hC hF
    simp only [upon]
    go_simp
    exact ⟨Below.refl _ _, rfl⟩
  simp only [put_lit, List.set_cons_succ, List.set_cons_zero]
  apply walk_det
  · rfl
  · intro w2 hC hF
    have h2 := h1.below hC
    obtain ⟨d0, d1, d2, d3, d4, d5, d6, d7⟩ := h2.cells
    have hbx2 := (hC.block _ (by omega)).trans hbx
    obtain ⟨e0, e1, e2⟩ := cells3 hbx2
    simp only [upon]
    go_simp
    exact ⟨Below.refl _ _, rfl⟩
  simp only [put_lit, List.set_cons_succ, List.set_cons_zero]
  apply walk_nil
  intro w2 hC _
  simp only [List.drop_succ_cons, List.drop_zero]
  have h2 := h1.below hC
  have hbx2 := (hC.block _ (by omega)).trans hbx
  have hz2 := hC.size
  go_wp2_with fail
  refine (hd _ h2.names).mono ?_
  rintro e w3 ⟨rfl, hm3, hg3⟩
  have h3 := h2.setNames (step a b f s.names) (by rw [at_step]; exact hm3) (fun k hk hne => hg3.block k hk hne)
  have hbn : r.bn ≠ w.heap.size := by have := (hfl r.bn (.inr (.inl rfl))).1; omega
  have hbx3 := (hg3.block w.heap.size (by omega) (fun e => hbn e.symm)).trans hbx2
  have hz3 := hg3.size
  have hG3 : Grown (foot p r s) w w3 := ((Grown.of_below hB0).step (by rw [show w0.heap.size = w0.heap.size from rfl]; exact hC)).trans hg3 (fun x hx => .inl (by subst hx; exact .inr (.inl rfl)))
  obtain ⟨d0, d1, d2, d3, d4, d5, d6, d7⟩ := h3.cells
  obtain ⟨e0, e1, e2⟩ := cells3 hbx3
  clear c0 c1 c2 c3 c4 c5 c6 c7 hd hbx2 h2 hbx h1 hm3
  generalize hN : w.heap.size = N at *
  go_wp2_with fail
  obtain ⟨i0, hi, hz0', hz1, hz2'⟩ := info_parts info76
  have h4 : Lies (w3.alloc (.cells #[.string a, .string b, .pointer q] 76)).drew p n₀ r { s with names := step a b f s.names } := (h3.alloc _).drew
  have h4' : Lies (w3.alloc (.cells #[.string a, .string b, .pointer q] 76)) p n₀ r { s with names := step a b f s.names } := h3.alloc _
  obtain ⟨f0, f1, f2, f3, f4, f5, f6, f7⟩ := h4'.cells
  have hne : some p ≠ r.wv.ownBlock := fun e => by have := h4.sW e.symm; rw [h4.sP] at this; cases this
  have hpw : p < (w3.alloc (.cells #[.string a, .string b, .pointer q] 76)).drew.heap.size := (h4.foot_lt p (.inl rfl)).1
  go_region_law (refine step_append_own rfl (.tmp 14) (.tmp 16) 42 rfl n₀ 76 i0 (.agg #[.string ⟨#[]⟩, .string ⟨#[]⟩, .pointer none]) 3 40 Tryz.underlying42 hi hz0' hz1 hz2' rfl (by decide) r.wv s.works.length _ (by simp [Act.eval]) h4.works ⟨w3.heap.size, 0, none⟩ 1 1 [.string a, .string b, .pointer q] (by simp [Act.eval]) rfl (cells_new3 w3 _ _ _ 76) (by simp [Value.oneCell']) (by unfold maxLen; omega) (by omega) (by simp; omega) ?_; intro v' w4 ho hg hwhere; obtain ⟨g, cap', rfl⟩ := ownsRow_succ' ho; have k1 := hg.cell f4 hne; have k2 := (World.frozen?_of_block (a := ⟨p, 4, none⟩) (hg.block p hpw hne)).trans (h4.free 4))
  all_goals
    go_wp2
    go_returns
    refine ⟨rfl, .slice (some ⟨g, 0, none⟩) (s.works.length + 1) cap', ?_, ?_, ?_⟩
    · have hgp : g ≠ p := fun e => by
        have h5 := sort_row ho (k := g) rfl
        have h6 := (hg.block p hpw hne).trans h4.top
        rw [e, sort_cells h6] at h5
        cases h5
      refine h4.setTop (.slice (some ⟨g, 0, none⟩) (s.works.length + 1) cap') (s.works ++ [(a, b, f)]) s.dead s.fails ?_ ?_ ?_
      · rw [setCell_heap ((hg.block p hpw hne).trans h4.top)]
        rfl
      · have hlen : (s.works ++ [(a, b, f)]).length = s.works.length + 1 := by simp
        have hfm : (s.works ++ [(a, b, f)]).flatMap (encW r.ad) = s.works.flatMap (encW r.ad) ++ [.string a, .string b, .pointer q] := by simp [encW, hq.out]
        rw [hlen, hfm]
        refine row_same ho (fun k hk => Below.heap_setCell _ _ _ _ ?_)
        simp [Value.ownBlock] at hk
        subst hk
        exact hgp
      · intro k hk h1 h2
        exact (Below.heap_setCell _ _ _ _ h1).trans (hg.block k hk (fun e => h2 e.symm))
    · refine ((hG3.alloc _).drew.trans (Grown.of_grownBy hg (S := foot p r s) ?_) (fun _ hx => .inl hx)).setCell (.inl (.inl rfl)) _
      intro k hk
      exact .inl (.inr (.inr (.inr (.inl hk))))
    · intro k hk
      rw [← hN]
      rcases hwhere k hk with h7 | h7
      · exact .inl h7
      · simp at h7; exact .inr (by omega)
end Go.Proofs.YtmcmagplaflegaaGreat

namespace Go.MapL
theorem RangeAt.left_eq {α β : Type} [DecidableEq α] {mk : α → Value} {mv : β → Value} {w : World} {r b : Nat} {l todo : List (α × β)} (h : RangeAt mk mv w r b l todo) : w.rangeLeft b r = todo.length := by
  obtain ⟨_, es, clock, since, seen, c0, hb, _, _, _, _, hr, _, _, hl⟩ := h
  have := congrArg List.length hl
  simp [World.rangeLeft, hb, hr] at this ⊢
  exact this
end Go.MapL
namespace Go.Proofs.YtmcmagplaflegaaGreat
open Go Go.RowKit Go.MapL Go.Poised

def unitV (_ : Unit) : Value := .agg #[]
def setL (D : List Nat) : List (Nat × Unit) := D.map fun b => (b, ())
theorem put_set (b : Nat) (D : List Nat) : put b () (setL D) = setL (if b ∈ D then D else D ++ [b]) := by
  induction D with
  | nil => rfl
  | cons x D ih =>
    unfold setL put
    by_cases h : x = b
    · subst h; simp
    · simp only [List.map_cons, h, if_false]
      have hb : ¬ b = x := fun e => h e.symm
      have : put b () (List.map (fun b => (b, ())) D) = setL (if b ∈ D then D else D ++ [b]) := ih
      rw [this]
      by_cases hm : b ∈ D
      · simp [hm, setL]
      · simp [hm, hb, setL]

/-- Is it a file that has a name, or one that was kept? -/
def held (s : DS) (i : Nat) : Bool := (s.names ++ s.kept).any fun p => p.2 == i
def usedOf (s : DS) : Nat := ((List.range s.births).map fun j => if held s (j + 1) then (s.file (j + 1)).b.length else 0).sum

theorem getD_cell {w : World} {B : Nat} {x y : Value} {t : TypeId} (h : w.heap[B]? = some (.cells #[x, y] t)) : w.cell? ⟨B, 0, none⟩ = some x ∧ w.cell? ⟨B, 1, none⟩ = some y := by
  simp [World.cell?, h]
/-- The pairs of the first k maps. -/
def upTo (s : DS) : Nat → List (ByteArray × Nat)
  | 0 => []
  | 1 => s.names
  | _ => s.names ++ s.kept

/-- Whose block it is. -/
def inv (r : Rep) (s : DS) (b : Nat) : Nat := (((List.range s.births).find? fun j => r.ad (j + 1) == b).map (· + 1)).getD 0
theorem inv_ad {w : World} {p n₀ : Nat} {r : Rep} {s : DS} (h : Lies w p n₀ r s) (i : Nat) (h1 : 1 ≤ i) (h2 : i ≤ s.births) : inv r s (r.ad i) = i := by
  unfold inv
  cases hf : (List.range s.births).find? fun j => r.ad (j + 1) == r.ad i with
  | none =>
    rw [List.find?_eq_none] at hf
    have := hf (i - 1) (by simp; omega)
    rw [show i - 1 + 1 = i by omega] at this
    simp at this
  | some j =>
    have h3 := List.find?_some hf
    have h4 := List.mem_of_find?_eq_some hf
    simp at h3 h4
    simpa using h.adInj (j + 1) i (by omega) (by omega) h1 h2 h3

theorem sum_filter {α : Type} (q : α → Bool) (f : α → Nat) : ∀ l : List α, ((l.filter q).map f).sum = (l.map fun x => if q x then f x else 0).sum
  | [] => rfl
  | x :: l => by
    have := sum_filter q f l
    by_cases h : q x <;> simp [h, this]
theorem sum_le {α : Type} (f : α → Nat) (m : Nat) (h : ∀ x, f x ≤ m) : ∀ l : List α, (l.map f).sum ≤ l.length * m
  | [] => by simp
  | x :: l => by
    have h1 := sum_le f m h l
    have h2 := h x
    simp only [List.map_cons, List.sum_cons, List.length_cons, Nat.add_mul, Nat.one_mul]
    omega
/-- The blocks of the files that are held, each once: their sizes together are the room that is used. -/
theorem used_sum {w : World} {p n₀ : Nat} {r : Rep} {s : DS} (h : Lies w p n₀ r s) (hwf : WF s) (D : List Nat) (hnd : D.Nodup) (hm : ∀ b, b ∈ D ↔ ∃ q ∈ upTo s 2, b = r.ad q.2) :
    (D.map fun b => (s.file (inv r s b)).b.length).sum = usedOf s ∧ D.length ≤ s.births := by
  have hheld : ∀ i, held s i = true ↔ ∃ q ∈ upTo s 2, q.2 = i := by
    intro i
    show ((s.names ++ s.kept).any fun p => p.2 == i) = true ↔ ∃ q ∈ s.names ++ s.kept, q.2 = i
    rw [List.any_eq_true]
    constructor
    · rintro ⟨q, hq, h⟩; exact ⟨q, hq, by simpa using h⟩
    · rintro ⟨q, hq, h⟩; exact ⟨q, hq, by simpa using h⟩
  have hD : D.Perm (((List.range s.births).filter fun j => held s (j + 1)).map fun j => r.ad (j + 1)) := by
    rw [List.perm_ext_iff_of_nodup hnd]
    · intro b
      rw [hm b, List.mem_map]
      constructor
      · rintro ⟨q, hq, rfl⟩
        have hb : 1 ≤ q.2 ∧ q.2 ≤ s.births := by
          rcases List.mem_append.1 hq with hq | hq
          · exact hwf.names q hq
          · exact hwf.kept q hq
        refine ⟨q.2 - 1, ?_, by rw [show q.2 - 1 + 1 = q.2 by omega]⟩
        rw [List.mem_filter]
        refine ⟨by simp; omega, ?_⟩
        rw [show q.2 - 1 + 1 = q.2 by omega, hheld]
        exact ⟨q, hq, rfl⟩
      · rintro ⟨j, hj, rfl⟩
        rw [List.mem_filter] at hj
        obtain ⟨q, hq, hj2⟩ := (hheld _).1 hj.2
        exact ⟨q, hq, by rw [hj2]⟩
    · have key : ∀ l : List Nat, l.Nodup → (∀ j ∈ l, j < s.births) → (l.map fun j => r.ad (j + 1)).Nodup := by
        intro l
        induction l with
        | nil => intro _ _; simp
        | cons x l ih =>
          intro hn hl
          simp only [List.nodup_cons] at hn
          simp only [List.map_cons, List.nodup_cons]
          refine ⟨?_, ih hn.2 (fun j hj => hl j (.tail _ hj))⟩
          intro hx
          obtain ⟨y, hy, e⟩ := List.mem_map.1 hx
          have h1 := hl x (.head _)
          have h2 := hl y (.tail _ hy)
          have := h.adInj (y + 1) (x + 1) (by omega) (by omega) (by omega) (by omega) e
          exact hn.1 (by rw [show x = y by omega]; exact hy)
      exact key _ (List.nodup_range.filter _) (fun j hj => by rw [List.mem_filter] at hj; simpa using hj.1)
  constructor
  · rw [(hD.map _).sum_nat, List.map_map, sum_filter]
    unfold usedOf
    congr 1
    apply List.map_congr_left
    intro j hj
    simp at hj
    simp only [Function.comp]
    rw [inv_ad h (j + 1) (by omega) (by omega)]
  · rw [hD.length_eq, List.length_map]
    exact Nat.le_trans (List.length_filter_le _ _) (by simp)
end Go.Proofs.YtmcmagplaflegaaGreat

namespace Go.Proofs.YtmcmagplaflegaaGreat
open Go Go.RowKit Go.MapL Go.Poised

theorem info72 : (Tryz.prog.info? 72).map (fun i => i.size) = some 3 := by kernel_rfl
theorem finds65 (W : World) : Finds Tryz.prog 70 ofBlock W (Plain W) := by
  have h := info72
  cases hi : Tryz.prog.info? 72 with
  | none => rw [hi] at h; cases h
  | some i => rw [hi] at h; simp at h; exact finds_block Tryz.underlying70 hi (by omega) W
theorem own_shape {W : World} {n e size : Nat} {v : Value} {k : Nat} {xs : List Value} (h : W.ownsRow n e size v k xs) : ∃ p cap, v = .slice p k cap := by
  rcases h.2 with ⟨rfl, rfl⟩ | ⟨g, cap, cur, rfl, _⟩
  · exact ⟨none, 0, rfl⟩
  · exact ⟨_, _, rfl⟩

set_option maxHeartbeats 8000000 in
set_option maxRecDepth 100000 in
theorem used_any (w : World) (p n₀ : Nat) (r : Rep) (s : DS) (h : Lies w p n₀ r s) (hwf : WF s) :
    Calls Tryz.prog 51 #[ofBlock p] w fun e w' => e = .returned (.int .i64 (usedOf s)) ∧ Below w.heap.size w w' := by
  have hfl := h.foot_lt
  have hol := h.own_lt
  have hin : ∀ k, ∀ q ∈ upTo s k, 1 ≤ q.2 ∧ q.2 ≤ s.births := by
    intro k q hq
    match k, hq with
    | 0, hq => cases hq
    | 1, hq => exact hwf.names q hq
    | k + 2, hq => rcases List.mem_append.1 hq with hq | hq; exact hwf.names q hq; exact hwf.kept q hq
  have hfile : ∀ W, Lies W p n₀ r s → ∀ i, 1 ≤ i ∧ i ≤ s.births → Plain W (r.ad i) := fun W hL i hi => ⟨_, _, hL.file i hi.1 hi.2⟩
  have h1 := h.alloc (.map #[] 0)
  obtain ⟨c0, c1, c2, c3, c4, c5, c6, c7⟩ := h1.cells
  have hA : MapAt ofBlock unitV (w.alloc (.map #[] 0)) w.heap.size (setL []) := MapAt.new w
  have hB1 : Below w.heap.size w (w.alloc (.map #[] 0)) := (Below.refl _ _).alloc (Nat.le_refl _) _
  have hz1 : (w.alloc (.map #[] 0)).heap.size = w.heap.size + 1 := by simp
  obtain ⟨w1, hw1⟩ : ∃ w1, w.alloc (.map #[] 0) = w1 := ⟨_, rfl⟩
  rw [hw1] at h1 c0 c1 c2 c3 c4 c5 c6 c7 hA hB1 hz1
  replace hz1 : Hid (w1.heap.size = w.heap.size + 1) := hz1
  have hmk := @run_makeMap Tryz.prog
  unfold ofBlock
  go_enter Tryz.func51, Tryz.ntmps51
  go_wp2_with fail
  go_region
  go_wp2_with fail
  clear c0 c1 c2 c3 c4 c5 c6 c7 hmk hw1
  have h2 := (h1.alloc (.cells #[.map (some r.bn), .map (some r.bk)] 41)).drew
  have hA2 := (hA.alloc (.cells #[.map (some r.bn), .map (some r.bk)] 41))
  have hB2 : Below w.heap.size w (w1.alloc (.cells #[.map (some r.bn), .map (some r.bk)] 41)).drew := ((hB1.alloc hB1.size _)).drew
  have hcs2 := heap_new w1 (.cells #[.map (some r.bn), .map (some r.bk)] 41)
  generalize hw2 : (w1.alloc (.cells #[.map (some r.bn), .map (some r.bk)] 41)).drew = w2 at *
  go_loopw [21] (fun i wr => ∃ (k : Nat) (D : List Nat), k ≤ 2 ∧ i = .int .i64 k ∧ Lies wr p n₀ r s ∧ MapAt ofBlock unitV wr w.heap.size (setL D) ∧ D.Nodup ∧ (∀ b, b ∈ D ↔ ∃ q ∈ upTo s k, b = r.ad q.2) ∧
      wr.heap[w1.heap.size]? = some (.cells #[.map (some r.bn), .map (some r.bk)] 41) ∧ Below w.heap.size w wr) (fun i _ => 2 - (intOf i).toNat)
  case atStart =>
    refine ⟨0, [], by omega, rfl, h2, ?_, by simp, by simp [upTo], ?_, hB2⟩
    · rw [← hw2]; exact hA2.same rfl
    · rw [← hw2]; exact hcs2
  case round =>
    obtain ⟨k, D, hk, rfl, hL, hM, hnd, hmem, hcs, hB⟩ := hrel
    generalize wr = wo at *
    have hcl := getD_cell hcs
    have hlt1 : w1.heap.size < wo.heap.size := (Array.getElem?_eq_some_iff.1 hcs).1
    rcases (by omega : k = 0 ∨ k = 1 ∨ k = 2) with hk0 | hk0 | hk0
    · -- number 0
      obtain rfl : k = 0 := by omega
      have g0 := hcl.1
      go_wp2_with (first | (at_range; refine wpList_range_map _ rfl _ 41 rfl 9 70 Tryz.underlying41 r.bn _ rfl hL.names ?_; intro w3 hrg0 hg0 hs0) | go_in)
      try go_frame
      have hbn3 : r.bn < wo.heap.size := hL.names.lt
      have hA3 : w.heap.size < wo.heap.size := hM.lt
      have hbA : r.bn ≠ w.heap.size := by have := (hfl r.bn (by simp [foot])).1; omega
      have hB3 : Below wo.heap.size wo w3 := (Below.refl _ _).grown hg0 (Nat.le_refl _) (by simp)
      go_loopw [7] (fun _ wi => ∃ todo done D', RangeAt ofText ofBlock wi wo.heap.size r.bn (at_ r.ad s.names) todo ∧ (done ++ todo).Perm (at_ r.ad s.names) ∧ Lies wi p n₀ r s ∧ MapAt ofBlock unitV wi w.heap.size (setL D') ∧ D'.Nodup ∧ (∀ b, b ∈ D' ↔ b ∈ D ∨ ∃ q ∈ done, b = q.2) ∧ wi.heap[w1.heap.size]? = some (.cells #[.map (some r.bn), .map (some r.bk)] 41) ∧ Below w.heap.size w wi ∧ wo.heap.size < wi.heap.size)
        (fun _ wi => wi.rangeLeft r.bn wo.heap.size)
      case atStart =>
        exact ⟨_, [], D, hrg0, by simp, hL.below hB3, hM.same (hB3.block _ hM.lt), hnd, by simp, (hB3.block _ hlt1).trans hcs, hB.trans (hB3.mono hB.size), by omega⟩
      case round =>
        obtain ⟨todo, done, D', hrg, hperm, hLi, hMi, hndi, hmi, hcsi, hBi, hzi⟩ := hrel
        have hMplain : ∀ q ∈ setL D', Plain wr q.1 := by
          intro q hq
          unfold setL at hq
          obtain ⟨b, hb, rfl⟩ := List.mem_map.1 hq
          rcases (hmi b).1 hb with hb | ⟨q2, hq2, rfl⟩
          · obtain ⟨q3, hq3, rfl⟩ := (hmem b).1 hb
            exact hfile wr hLi q3.2 (hin _ q3 hq3)
          · have : q2 ∈ at_ r.ad s.names := hperm.subset (List.mem_append_left _ hq2)
            obtain ⟨q', hq', rfl⟩ := List.mem_map.1 this
            exact hfile wr hLi q'.2 (hwf.names q' hq')
        go_wp2_with (first
          | (at_next; refine wpList_next_map _ rfl _ rfl wo.heap.size r.bn (at_ r.ad s.names) todo rfl hrg ?_ ?_)
          | go_in)
        · intro h0
          subst h0
          go_wp2
          go_roundw
          case rel =>
            refine ⟨0 + 1, D', by omega, by go_num, hLi, hMi, hndi, ?_, hcsi, hBi⟩
            intro b
            rw [List.append_nil] at hperm
            rw [hmi b, hmem b]
            have hd : (∃ q ∈ done, b = q.2) ↔ ∃ q ∈ s.names, b = r.ad q.2 := by
              constructor
              · rintro ⟨q, hq, rfl⟩
                obtain ⟨q', hq', rfl⟩ := List.mem_map.1 (hperm.subset hq)
                exact ⟨q', hq', rfl⟩
              · rintro ⟨q, hq, rfl⟩
                exact ⟨_, hperm.symm.subset (List.mem_map.2 ⟨q, hq, rfl⟩), rfl⟩
            rw [hd]
            simp [upTo]
          case measure => simp [intOf]
        · intro x y todo' w4 hp hrg1 hg1 hs1 hen
          have hL4 := hLi.same (w' := w4) (fun k hk => hg1.block k (hLi.own_lt k hk).1 (by intro e; have := (hL.own_lt _ hk).1; have := Option.some.inj e; omega))
          have hM4 := hMi.same (w' := w4) (hg1.block _ hMi.lt (by intro e; have := Option.some.inj e; omega))
          have hxy : (x, y) ∈ at_ r.ad s.names := hperm.subset (List.mem_append_right _ (hp.symm.subset (.head _)))
          have hMp4 : ∀ q ∈ setL D', Plain w4 q.1 := by
            intro q hq
            obtain ⟨c, t, hc⟩ := hMplain q hq
            refine ⟨c, t, (hg1.block q.1 ((Array.getElem?_eq_some_iff.1 hc).1) ?_).trans hc⟩
            intro e
            have := hrg.2
            obtain ⟨es, clock, since, seen, c0, _, _, _, _, _, hr, _⟩ := this
            rw [← Option.some.inj e, hc] at hr
            cases hr
          have hpy : Plain w4 y := by
            obtain ⟨q', hq', e⟩ := List.mem_map.1 hxy
            simp only [Prod.mk.injEq] at e
            rw [← e.2]
            exact hfile w4 hL4 q'.2 (hwf.names q' hq')
          go_wp2_with (first
            | (at_mapUpdate; refine wpList_update_map _ rfl _ _ _ 141 rfl 70 143 Tryz.underlying141 (finds65 _) w.heap.size (setL D') rfl hM4 y () rfl rfl hpy hMp4 ?_; intro w5 hM5 hg5 hs5; try go_frame)
            | go_in)
          rw [put_set] at hM5
          have hrg5 := hrg1.same (w' := w5) (hg5.block _ hrg1.lt (by intro e; have := Option.some.inj e; omega)) (hg5.block _ hrg1.map.lt (by intro e; exact hbA (Option.some.inj e)))
          have hL5 := hL4.same (w' := w5) (fun k hk => hg5.block k (hL4.own_lt k hk).1 (by intro e; have := (hol _ hk).1; have := Option.some.inj e; omega))
          have hcs5 := ((hg5.block w1.heap.size (by have := (Array.getElem?_eq_some_iff.1 hcsi).1; omega) (by intro e; have := hz1.out; have := Option.some.inj e; omega)).trans (hg1.block w1.heap.size (Array.getElem?_eq_some_iff.1 hcsi).1 (by intro e; have := Option.some.inj e; omega))).trans hcsi
          go_roundw
          case rel =>
            refine ⟨todo', done ++ [(x, y)], if y ∈ D' then D' else D' ++ [y], hrg5, ?_, hL5, hM5, ?_, ?_, hcs5, (hBi.grown hg1 hBi.size (by intro k e; have := Option.some.inj e; omega)).grown hg5 (by have := hBi.size; omega) (by intro k e; have := Option.some.inj e; omega), by omega⟩
            · refine List.Perm.trans ?_ hperm
              rw [List.append_assoc]
              exact (hp.symm.append_left done)
            · split
              · exact hndi
              · rename_i hy
                rw [List.nodup_append]
                exact ⟨hndi, by simp, fun a ha b hb e => by simp at hb; subst hb; subst e; exact hy ha⟩
            · intro b
              have hm : (b ∈ if y ∈ D' then D' else D' ++ [y]) ↔ b ∈ D' ∨ b = y := by
                split
                · rename_i hy
                  constructor
                  · exact .inl
                  · rintro (h | rfl)
                    · exact h
                    · exact hy
                · simp
              rw [hm, hmi b]
              constructor
              · rintro ((h | ⟨q, h1, h2⟩) | rfl)
                · exact .inl h
                · exact .inr ⟨q, by simp [h1], h2⟩
                · exact .inr ⟨(x, b), by simp, rfl⟩
              · rintro (h | ⟨q, h1, h2⟩)
                · exact .inl (.inl h)
                · rw [List.mem_append, List.mem_singleton] at h1
                  rcases h1 with h1 | rfl
                  · exact .inl (.inr ⟨q, h1, h2⟩)
                  · exact .inr h2
          case measure =>
            rw [hrg5.left_eq, hrg.left_eq, hp.length_eq]
            simp
    · -- number 1
      obtain rfl : k = 1 := by omega
      have g1 := hcl.2
      go_wp2_with (first | (at_range; refine wpList_range_map _ rfl _ 41 rfl 9 70 Tryz.underlying41 r.bk _ rfl hL.kept ?_; intro w3 hrg0 hg0 hs0) | go_in)
      try go_frame
      have hbn3 : r.bk < wo.heap.size := hL.kept.lt
      have hA3 : w.heap.size < wo.heap.size := hM.lt
      have hbA : r.bk ≠ w.heap.size := by have := (hfl r.bk (by simp [foot])).1; omega
      have hB3 : Below wo.heap.size wo w3 := (Below.refl _ _).grown hg0 (Nat.le_refl _) (by simp)
      go_loopw [7] (fun _ wi => ∃ todo done D', RangeAt ofText ofBlock wi wo.heap.size r.bk (at_ r.ad s.kept) todo ∧ (done ++ todo).Perm (at_ r.ad s.kept) ∧ Lies wi p n₀ r s ∧ MapAt ofBlock unitV wi w.heap.size (setL D') ∧ D'.Nodup ∧ (∀ b, b ∈ D' ↔ b ∈ D ∨ ∃ q ∈ done, b = q.2) ∧ wi.heap[w1.heap.size]? = some (.cells #[.map (some r.bn), .map (some r.bk)] 41) ∧ Below w.heap.size w wi ∧ wo.heap.size < wi.heap.size)
        (fun _ wi => wi.rangeLeft r.bk wo.heap.size)
      case atStart =>
        exact ⟨_, [], D, hrg0, by simp, hL.below hB3, hM.same (hB3.block _ hM.lt), hnd, by simp, (hB3.block _ hlt1).trans hcs, hB.trans (hB3.mono hB.size), by omega⟩
      case round =>
        obtain ⟨todo, done, D', hrg, hperm, hLi, hMi, hndi, hmi, hcsi, hBi, hzi⟩ := hrel
        have hMplain : ∀ q ∈ setL D', Plain wr q.1 := by
          intro q hq
          unfold setL at hq
          obtain ⟨b, hb, rfl⟩ := List.mem_map.1 hq
          rcases (hmi b).1 hb with hb | ⟨q2, hq2, rfl⟩
          · obtain ⟨q3, hq3, rfl⟩ := (hmem b).1 hb
            exact hfile wr hLi q3.2 (hin _ q3 hq3)
          · have : q2 ∈ at_ r.ad s.kept := hperm.subset (List.mem_append_left _ hq2)
            obtain ⟨q', hq', rfl⟩ := List.mem_map.1 this
            exact hfile wr hLi q'.2 (hwf.kept q' hq')
        go_wp2_with (first
          | (at_next; refine wpList_next_map _ rfl _ rfl wo.heap.size r.bk (at_ r.ad s.kept) todo rfl hrg ?_ ?_)
          | go_in)
        · intro h0
          subst h0
          go_wp2
          go_roundw
          case rel =>
            refine ⟨1 + 1, D', by omega, by go_num, hLi, hMi, hndi, ?_, hcsi, hBi⟩
            intro b
            rw [List.append_nil] at hperm
            rw [hmi b, hmem b]
            have hd : (∃ q ∈ done, b = q.2) ↔ ∃ q ∈ s.kept, b = r.ad q.2 := by
              constructor
              · rintro ⟨q, hq, rfl⟩
                obtain ⟨q', hq', rfl⟩ := List.mem_map.1 (hperm.subset hq)
                exact ⟨q', hq', rfl⟩
              · rintro ⟨q, hq, rfl⟩
                exact ⟨_, hperm.symm.subset (List.mem_map.2 ⟨q, hq, rfl⟩), rfl⟩
            rw [hd]
            simp only [upTo, List.mem_append]; constructor; · rintro (⟨q, h1, h2⟩ | ⟨q, h1, h2⟩); exact ⟨q, .inl h1, h2⟩; exact ⟨q, .inr h1, h2⟩
            · rintro ⟨q, h1 | h1, h2⟩; exact .inl ⟨q, h1, h2⟩; exact .inr ⟨q, h1, h2⟩
          case measure => simp [intOf]
        · intro x y todo' w4 hp hrg1 hg1 hs1 hen
          have hL4 := hLi.same (w' := w4) (fun k hk => hg1.block k (hLi.own_lt k hk).1 (by intro e; have := (hL.own_lt _ hk).1; have := Option.some.inj e; omega))
          have hM4 := hMi.same (w' := w4) (hg1.block _ hMi.lt (by intro e; have := Option.some.inj e; omega))
          have hxy : (x, y) ∈ at_ r.ad s.kept := hperm.subset (List.mem_append_right _ (hp.symm.subset (.head _)))
          have hMp4 : ∀ q ∈ setL D', Plain w4 q.1 := by
            intro q hq
            obtain ⟨c, t, hc⟩ := hMplain q hq
            refine ⟨c, t, (hg1.block q.1 ((Array.getElem?_eq_some_iff.1 hc).1) ?_).trans hc⟩
            intro e
            have := hrg.2
            obtain ⟨es, clock, since, seen, c0, _, _, _, _, _, hr, _⟩ := this
            rw [← Option.some.inj e, hc] at hr
            cases hr
          have hpy : Plain w4 y := by
            obtain ⟨q', hq', e⟩ := List.mem_map.1 hxy
            simp only [Prod.mk.injEq] at e
            rw [← e.2]
            exact hfile w4 hL4 q'.2 (hwf.kept q' hq')
          go_wp2_with (first
            | (at_mapUpdate; refine wpList_update_map _ rfl _ _ _ 141 rfl 70 143 Tryz.underlying141 (finds65 _) w.heap.size (setL D') rfl hM4 y () rfl rfl hpy hMp4 ?_; intro w5 hM5 hg5 hs5; try go_frame)
            | go_in)
          rw [put_set] at hM5
          have hrg5 := hrg1.same (w' := w5) (hg5.block _ hrg1.lt (by intro e; have := Option.some.inj e; omega)) (hg5.block _ hrg1.map.lt (by intro e; exact hbA (Option.some.inj e)))
          have hL5 := hL4.same (w' := w5) (fun k hk => hg5.block k (hL4.own_lt k hk).1 (by intro e; have := (hol _ hk).1; have := Option.some.inj e; omega))
          have hcs5 := ((hg5.block w1.heap.size (by have := (Array.getElem?_eq_some_iff.1 hcsi).1; omega) (by intro e; have := hz1.out; have := Option.some.inj e; omega)).trans (hg1.block w1.heap.size (Array.getElem?_eq_some_iff.1 hcsi).1 (by intro e; have := Option.some.inj e; omega))).trans hcsi
          go_roundw
          case rel =>
            refine ⟨todo', done ++ [(x, y)], if y ∈ D' then D' else D' ++ [y], hrg5, ?_, hL5, hM5, ?_, ?_, hcs5, (hBi.grown hg1 hBi.size (by intro k e; have := Option.some.inj e; omega)).grown hg5 (by have := hBi.size; omega) (by intro k e; have := Option.some.inj e; omega), by omega⟩
            · refine List.Perm.trans ?_ hperm
              rw [List.append_assoc]
              exact (hp.symm.append_left done)
            · split
              · exact hndi
              · rename_i hy
                rw [List.nodup_append]
                exact ⟨hndi, by simp, fun a ha b hb e => by simp at hb; subst hb; subst e; exact hy ha⟩
            · intro b
              have hm : (b ∈ if y ∈ D' then D' else D' ++ [y]) ↔ b ∈ D' ∨ b = y := by
                split
                · rename_i hy
                  constructor
                  · exact .inl
                  · rintro (h | rfl)
                    · exact h
                    · exact hy
                · simp
              rw [hm, hmi b]
              constructor
              · rintro ((h | ⟨q, h1, h2⟩) | rfl)
                · exact .inl h
                · exact .inr ⟨q, by simp [h1], h2⟩
                · exact .inr ⟨(x, b), by simp, rfl⟩
              · rintro (h | ⟨q, h1, h2⟩)
                · exact .inl (.inl h)
                · rw [List.mem_append, List.mem_singleton] at h1
                  rcases h1 with h1 | rfl
                  · exact .inl (.inr ⟨q, h1, h2⟩)
                  · exact .inr h2
          case measure =>
            rw [hrg5.left_eq, hrg.left_eq, hp.length_eq]
            simp
    · obtain rfl : k = 2 := by omega
      obtain ⟨husum, hulen⟩ := used_sum h hwf D hnd hmem
      replace husum : Hid _ := husum
      obtain ⟨L, hLd⟩ : ∃ L : Nat → Nat, (fun b => (s.file (inv r s b)).b.length) = L := ⟨_, rfl⟩
      have hLle : ∀ b, L b ≤ 16777216 := fun b => by rw [← hLd]; exact hwf.len _
      have hLad : ∀ i, 1 ≤ i → i ≤ s.births → L (r.ad i) = (s.file i).b.length := fun i h1 h2 => by rw [← hLd]; simp only [inv_ad h i h1 h2]
      rw [hLd] at husum
      have hbirths := hwf.births
      go_wp2_with (first | (at_range; refine wpList_range_map _ rfl _ 141 rfl 70 143 Tryz.underlying141 w.heap.size _ rfl hM ?_; intro w3 hrg0 hg0 hs0) | go_in)
      try go_frame
      have hA3 : w.heap.size < wo.heap.size := hM.lt
      have hB3 : Below wo.heap.size wo w3 := (Below.refl _ _).grown hg0 (Nat.le_refl _) (by simp)
      go_loopw [8] (fun n wi => ∃ todo done, RangeAt ofBlock unitV wi wo.heap.size w.heap.size (setL D) todo ∧ (done ++ todo).Perm (setL D) ∧ n = .int .i64 ((done.map fun q => L q.1).sum : Nat) ∧ Lies wi p n₀ r s ∧ Below w.heap.size w wi ∧ wo.heap.size < wi.heap.size)
        (fun _ wi => wi.rangeLeft w.heap.size wo.heap.size)
      case atStart =>
        exact ⟨_, [], hrg0, by simp, rfl, hL.below hB3, hB.trans (hB3.mono hB.size), by omega⟩
      case round =>
        obtain ⟨todo, done, hrg, hperm, rfl, hLi, hBi, hzi⟩ := hrel
        have hlen := hperm.length_eq
        have hsl : (setL D).length = D.length := by simp [setL]
        have hsum := sum_le (fun q : Nat × Unit => L q.1) 16777216 (fun q => hLle q.1) done
        have hdl : done.length ≤ 1073741824 := by rw [List.length_append] at hlen; omega
        go_wp2_with (first
          | (at_next; refine wpList_next_map _ rfl _ rfl wo.heap.size w.heap.size (setL D) todo rfl hrg ?_ ?_)
          | go_in)
        · intro h0
          subst h0
          go_wp2
          go_returns
          refine ⟨?_, hBi⟩
          rw [List.append_nil] at hperm
          have := (hperm.map fun q => L q.1).sum_nat
          rw [this]
          have h3 := husum.out
          rw [← h3]
          simp [setL, Function.comp_def]
        · intro x y todo' w4 hp hrg1 hg1 hs1 hen
          have hL4 := hLi.same (w' := w4) (fun k hk => hg1.block k (hLi.own_lt k hk).1 (by intro e; have := (hL.own_lt _ hk).1; have := Option.some.inj e; omega))
          have hxy : (x, y) ∈ setL D := hperm.subset (List.mem_append_right _ (hp.symm.subset (.head _)))
          obtain ⟨i, hi1, hi2, rfl⟩ : ∃ i, 1 ≤ i ∧ i ≤ s.births ∧ x = r.ad i := by
            obtain ⟨b, hb, e⟩ := List.mem_map.1 hxy
            simp only [Prod.mk.injEq] at e
            obtain ⟨q, hq, hb2⟩ := (hmem b).1 hb
            exact ⟨q.2, (hin _ q hq).1, (hin _ q hq).2, by rw [← e.1, hb2]⟩
          have hf4 := hL4.file i hi1 hi2
          have hd4 := hL4.data i hi1 hi2
          obtain ⟨q1, cap1, hbv⟩ := own_shape hd4
          rw [hbv] at hf4
          obtain ⟨f0, f1, f2⟩ := cells3 hf4
          replace hbv : Hid _ := hbv
          have hll := hLad i hi1 hi2
          have hle1 := hLle (r.ad i)
          rw [← hll] at f1
          replace hll : Hid _ := hll
          obtain ⟨m, hm⟩ : ∃ m, (done.map fun q => L q.1).sum = m := ⟨_, rfl⟩
          simp only [hm] at hsum
          have hsum' : m ≤ 18014398509481984 := Nat.le_trans hsum (by omega)
          simp only [hm]
          clear hsum hlen hsl husum hLle hLad
          simp only [ofBlock, unitV] at hen ⊢
          go_wp2_with fail
          go_roundw
          case rel =>
            refine ⟨todo', done ++ [(r.ad i, y)], hrg1, ?_, ?_, hL4, hBi.grown hg1 hBi.size (by intro k e; have := Option.some.inj e; omega), by omega⟩
            · refine List.Perm.trans ?_ hperm
              rw [List.append_assoc]
              exact (hp.symm.append_left done)
            · rw [List.map_append, List.sum_append, hm]
              go_num
          case measure =>
            rw [hrg1.left_eq, hrg.left_eq, hp.length_eq]
            simp
end Go.Proofs.YtmcmagplaflegaaGreat

namespace Go.Proofs.YtmcmagplaflegaaGreat
open Go Go.RowKit Go.MapL Go.Poised

variable {p n₀ : Nat} {r : Rep} {s : DS}

/-- One work nearer to the fall. -/
def DS.tick (s : DS) : DS := { s with fails := if 0 < s.fails then s.fails - 1 else s.fails }
theorem tick_off (h : s.fails ≤ 0) : s.tick = s := by
  unfold DS.tick; rw [if_neg (by omega)]
theorem foot_top {r : Rep} {s : DS} {_ : Value} {works : List (ByteArray × ByteArray × Option Nat)} {dead : Bool} {fails : Int} : ∀ k, foot p { r with wv := r.wv } { s with works := works, dead := dead, fails := fails } k → foot p r s k := fun _ h => h
theorem own_of {r r' : Rep} {s s' : DS} {n : Nat} (hv : r'.kv = r.kv) (hf : ∀ k, foot p r' s' k → foot p r s k ∨ n ≤ k) : ∀ k, own p r' s' k → own p r s k ∨ n ≤ k := by
  rintro k (h | h)
  · exact (hf k h).imp .inl id
  · rw [hv] at h; exact .inl (.inr h)
set_option maxRecDepth 100000 in
theorem dies_no (w : World) (h : Lies w p n₀ r s) (hf : s.fails ≠ 0) (hf1 : -1 ≤ s.fails ∧ s.fails ≤ 9223372036854775807) : Calls Tryz.prog 52 #[ofBlock p] w fun e w' => e = .returned (.bool false) ∧ Lies w' p n₀ r s.tick ∧ Grown (fun k => k = p) w w' ∧ w'.heap.size = w.heap.size := by
  obtain ⟨c0, c1, c2, c3, c4, c5, c6, c7⟩ := h.cells
  have z6 := h.free 6
  have hL := h
  unfold ofBlock at *
  by_cases hp : 0 < s.fails
  · obtain ⟨f, hfe⟩ : ∃ f, s.fails = f := ⟨_, rfl⟩
    rw [hfe] at c6 hf hf1 hp
    have g1 : IntKind.i64.wrap (f - 1) = f - 1 := IntWalk.i64_in _ (by omega)
    have hfe' : Hid (s.fails = f) := hfe
    clear hfe
    go_enter Tryz.func52, Tryz.ntmps52
    go_wp2
    go_returns
    refine ⟨rfl, ?_, (Grown.refl (fun k => k = p) _).setCell (p := ⟨p, 6, none⟩) (.inl rfl) _, by simp⟩
    have key := hL.setTop (w' := w.setCell ⟨p, 6, none⟩ (.int .i64 (f - 1))) r.wv s.works s.dead (f - 1) ?_ ?_ ?_
    · unfold DS.tick; rw [hfe'.out, if_pos hp]; exact key
    · rw [setCell_heap hL.top]; rfl
    · refine row_same hL.works (fun g hg => Below.heap_setCell _ _ _ _ (fun e => ?_))
      have := hL.sW hg; rw [e, hL.sP] at this; cases this
    · intro k _ h1 _
      exact Below.heap_setCell _ _ _ _ h1
  · have hm : s.fails = -1 := by omega
    have ht : s.tick = s := tick_off (by omega)
    rw [hm] at c6
    rw [ht]
    clear hf hf1 hp hm ht
    go_enter Tryz.func52, Tryz.ntmps52
    go_wp2
    go_returns
    exact ⟨rfl, hL, Grown.refl _ _, rfl⟩

set_option maxRecDepth 100000 in
theorem dead_at (w : World) (h : Lies w p n₀ r s) : Calls Tryz.prog 21 #[ofBlock p] w fun e w' => e = .returned (.bool s.dead) ∧ w' = w := by
  obtain ⟨c0, c1, c2, c3, c4, c5, c6, c7⟩ := h.cells
  have hn := none_at w h
  unfold ofBlock at *
  go_enter Tryz.func21, Tryz.ntmps21
  go_wp2_with (go_at_call 49; refine hn.mono ?_; rintro e w' ⟨rfl, rfl⟩)
  go_returns
  exact ⟨rfl, rfl⟩

set_option maxRecDepth 100000 in
theorem boot_at (w : World) (h : Lies w p n₀ r s) : Calls Tryz.prog 11 #[ofBlock p] w fun e w' => e = .returned (.tuple #[]) ∧ Lies w' p n₀ r { s with dead := false, fails := -1 } ∧ Grown (fun k => k = p) w w' := by
  obtain ⟨c0, c1, c2, c3, c4, c5, c6, c7⟩ := h.cells
  have hn := none_at w h
  have z5 := h.free 5
  have z6 := h.free 6
  have hp : p < w.heap.size := (h.foot_lt p (.inl rfl)).1
  unfold ofBlock at *
  go_enter Tryz.func11, Tryz.ntmps11
  go_wp2_with (go_at_call 49; refine hn.mono ?_; rintro e w' ⟨rfl, rfl⟩)
  go_returns
  refine ⟨rfl, ?_, ((Grown.refl (fun k => k = p) _).setCell (p := ⟨p, 5, none⟩) (.inl rfl) _).setCell (p := ⟨p, 6, none⟩) (.inl rfl) _⟩
  refine h.setTop r.wv s.works false (-1) ?_ ?_ ?_
  · rw [setCell_heap (setCell_heap h.top)]
    rfl
  · refine row_same h.works (fun g hg => ?_)
    have : g ≠ p := fun e => by have := h.sW hg; rw [e, h.sP] at this; cases this
    rw [Below.heap_setCell _ _ _ _ this, Below.heap_setCell _ _ _ _ this]
  · intro k hk h1 h2
    rw [Below.heap_setCell _ _ _ _ h1, Below.heap_setCell _ _ _ _ h1]

/-- The bytes of a file, behind its name. -/
def fileOf (s : DS) (x : ByteArray) : Option Nat := MapL.look x s.names
theorem look_at (ad : Nat → Nat) (x : ByteArray) : ∀ l, MapL.look x (at_ ad l) = (MapL.look x l).map ad
  | [] => rfl
  | (k, v) :: l => by
    have := look_at ad x l
    unfold at_ at this ⊢
    by_cases h : k = x <;> simp [MapL.look, h, this]
theorem look_mem {β : Type} {x : ByteArray} {v : β} : ∀ {l : List (ByteArray × β)}, MapL.look x l = some v → (x, v) ∈ l
  | [], h => by cases h
  | (k, u) :: l, h => by
    unfold MapL.look at h
    split at h
    · rename_i hk; cases h; simp [hk]
    · exact .tail _ (look_mem h)
theorem zero70 (w : World) : (zeroValue 70).run Tryz.prog w = .ok (.pointer none) w := by
  kernel_rfl

theorem lookup_at {w : World} (h : Lies w p n₀ r s) (x : ByteArray) : (Instr.lookup 41 (.map (some r.bn)) (.string x) false).run Tryz.prog w = .ok (ptrOf r.ad (fileOf s x)) w := by
  have := h.names.lookup (P := Tryz.prog) (finds_text Tryz.underlying9 w) Tryz.underlying41 (zero70 w) x trivial (fun _ _ => trivial)
  rw [look_at] at this
  have e : ofText x = .string x := rfl
  rw [e] at this
  rw [this]
  unfold fileOf
  cases MapL.look x s.names <;> rfl
/-- What a method has made of a disk. -/
def Turns (w w' : World) (p n₀ : Nat) (r : Rep) (s s' : DS) : Prop :=
  ∃ r', Lies w' p n₀ r' s' ∧ Grown (foot p r s) w w' ∧ ∀ k, own p r' s' k → own p r s k ∨ w.heap.size ≤ k
theorem Turns.none {w w' : World} (h : Lies w p n₀ r s) (hb : Below w.heap.size w w') : Turns w w' p n₀ r s s :=
  ⟨r, h.below hb, Grown.of_below hb, fun _ hk => .inl hk⟩

/-- Names, kept names and works are laid anew. -/
theorem Lies.setAll {w w' : World} (h : Lies w p n₀ r s) (bn bk : Nat) (names kept : List (ByteArray × Nat)) (dead : Bool) (fails : Int) (hn : MapAt ofText ofBlock w' bn (at_ r.ad names)) (hk : MapAt ofText ofBlock w' bk (at_ r.ad kept)) (hne : bn ≠ bk) (h1 : n₀ ≤ bn) (h2 : n₀ ≤ bk)
    (ht : w'.heap[p]? = some (YtmcmagplaflegaaGreat.top { s with names := names, kept := kept, works := [], dead := dead, fails := fails } { r with bn := bn, bk := bk, wv := .slice none 0 0 })) (hs : ∀ k, k < w.heap.size → k ≠ p → w'.heap[k]? = w.heap[k]?) :
    Lies w' p n₀ { r with bn := bn, bk := bk, wv := .slice none 0 0 } { s with names := names, kept := kept, works := [], dead := dead, fails := fails } := by
  have hb : ∀ k, foot p r s k → sort w k ≠ 46 → w'.heap[k]? = w.heap[k]? := fun k hk g1 => hs k (h.foot_lt k hk).1 (fun e => g1 (by rw [e]; exact h.sP))
  exact {
    top := ht
    names := hn
    kept := hk
    works := World.ownsRow_nil _ _ _ _
    file := fun i h1 h2 => (hb _ (.inr (.inr (.inr (.inr ⟨i, h1, h2, .inl rfl⟩)))) (by rw [h.sF h1 h2]; decide)).trans (h.file i h1 h2)
    data := fun i h1 h2 => row_same (h.data i h1 h2) (fun g hg => hb _ (.inr (.inr (.inr (.inr ⟨i, h1, h2, .inr hg⟩)))) (by rw [h.sB h1 h2 hg]; decide))
    keep := row_same h.keep (fun g hg => hs g (h.keep.lt g hg).2 (fun e => by have := h.sV hg; rw [e, h.sP] at this; cases this))
    apart := hne
    adInj := h.adInj
    rowInj := h.rowInj
    baseP := h.baseP
    baseN := h1
    baseK := h2
    baseF := h.baseF }

theorem foot_file {r : Rep} {s : DS} {i : Nat} {bv : Value} {f : FileS} {w : World} (h1 : 1 ≤ i) (h2 : i ≤ s.births) (hnew : ∀ k, bv.ownBlock = some k → (r.bv i).ownBlock = some k ∨ w.heap.size ≤ k) :
    ∀ k, foot p { r with bv := upd r.bv i bv } { s with file := upd s.file i f } k → foot p r s k ∨ w.heap.size ≤ k := by
  rintro k (h | h | h | h | ⟨j, g1, g2, h | h⟩)
  · exact .inl (.inl h)
  · exact .inl (.inr (.inl h))
  · exact .inl (.inr (.inr (.inl h)))
  · exact .inl (.inr (.inr (.inr (.inl h))))
  · exact .inl (.inr (.inr (.inr (.inr ⟨j, g1, g2, .inl h⟩))))
  · by_cases hj : j = i
    · subst hj
      simp only [upd_same] at h
      rcases hnew k h with h | h
      · exact .inl (.inr (.inr (.inr (.inr ⟨j, g1, g2, .inr h⟩))))
      · exact .inr h
    · simp only [upd_other _ _ hj] at h
      exact .inl (.inr (.inr (.inr (.inr ⟨j, g1, g2, .inr h⟩))))

theorem up_call {P : Program} {f : FuncId} {args : Array Value} {w : World} {v : Value} {n : Nat} (h : Calls P f args w fun e w' => e = .returned v ∧ Below w.heap.size w w') (hn : n ≤ w.heap.size) :
    Calls P f args w fun e w' => e = .returned v ∧ Below n w w' := h.mono fun _ _ ⟨he, hb⟩ => ⟨he, hb.mono hn⟩
theorem still_call {P : Program} {f : FuncId} {args : Array Value} {w : World} {v : Value} {n : Nat} (h : Calls P f args w fun e w' => e = .returned v ∧ w' = w) :
    Calls P f args w fun e w' => e = .returned v ∧ Below n w w' := h.mono fun _ _ ⟨he, hw⟩ => ⟨he, by rw [hw]; exact Below.refl _ _⟩

end Go.Proofs.YtmcmagplaflegaaGreat
