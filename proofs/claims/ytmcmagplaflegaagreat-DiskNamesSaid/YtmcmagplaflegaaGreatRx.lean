/-
  THE DOCUMENT'S DISK: a work on names, walked; how it lies in memory. Conditions: those of each theorem.
-/
import Derived.Test.YtmcmagplaflegaaGreatRw
namespace Go.Proofs.YtmcmagplaflegaaGreat
open Go Go.RowKit Go.MapL Go.Poised

def fInt : Option Nat → Int
  | none => -1
  | some i => (i : Int)
theorem text_nil (x : ByteArray) : (x.toList == []) = decide (x = ⟨#[]⟩) := by
  have := text_eq x ⟨#[]⟩
  have e : (⟨#[]⟩ : ByteArray).toList = [] := by rw [Lib.toList_data]
  rw [e] at this
  exact this
theorem doesR_len (m : NL) (q : ByteArray × ByteArray × Option Nat) : (doesR m q).length ≤ m.length + 1 := by
  have hw : ∀ (x : ByteArray) (l : NL), (without x l).length ≤ l.length := without_len
  have h1 : (if q.1 = ⟨#[]⟩ then m else without q.1 m).length ≤ m.length := by
    split
    · exact Nat.le_refl _
    · exact hw _ _
  unfold doesR
  split
  · exact Nat.le_succ_of_le h1
  · unfold withN
    rw [(insN_perm _ _ _).length_eq, List.length_cons]
    exact Nat.succ_le_succ (Nat.le_trans (hw _ _) h1)
set_option maxRecDepth 100000 in
set_option maxHeartbeats 4000000 in
theorem doesR_any (v : Value) (m : NL) (a b : ByteArray) (f : Option Nat) (n₀ : Nat) (w : World) (h : NamesAt w n₀ v m) (hn : n₀ ≤ w.heap.size) (hlen : m.length ≤ 1099511627776) :
    Calls Tryz.prog 142 #[v, .agg #[.string a, .string b, .int .i64 (fInt f)]] w fun e w' => ∃ v', e = .returned v' ∧ NamesAt w' n₀ v' (doesR m (a, b, f)) ∧ Below w.heap.size w w' ∧ ∀ g, v'.ownBlock = some g → v.ownBlock = some g ∨ w.heap.size ≤ g := by
  have hal := (Below.refl w.heap.size w).alloc (Nat.le_refl _) (.cells #[.string a, .string b, .int .i64 (fInt f)] 178)
  obtain ⟨z0, z1, z2⟩ := cells3 (heap_new w (.cells #[.string a, .string b, .int .i64 (fInt f)] 178))
  have hwo := without_any v m a n₀ _ (h.below hal) hlen
  by_cases ha : a = ⟨#[]⟩
  · have hb : (a.toList == []) = true := by rw [text_nil, decide_eq_true ha]
    have hb2 : (a.toList != []) = false := by simp only [bne, hb]; rfl
    clear hwo
    cases f with
    | none =>
      have he : doesR m (a, b, none) = m := by unfold doesR; simp only; rw [if_pos ha]
      rw [he]
      clear he ha
      simp only [fInt] at *
      go_enter Tryz.func142, Tryz.ntmps142
      go_wp2_with fail
      go_returns
      exact ⟨_, rfl, h.below hal, hal, fun g hg => .inl hg⟩
    | some i =>
      have he : doesR m (a, b, some i) = withN b i m := by unfold doesR; simp only; rw [if_pos ha]
      rw [he]
      clear he ha
      simp only [fInt] at *
      have hwi := with_any v m b i n₀ _ (h.below hal) hlen
      replace h : Hid _ := h
      replace hal : Hid _ := hal
      go_enter Tryz.func142, Tryz.ntmps142
      go_wp2_with (go_at_call 141; refine hwi.mono ?_; clear hwi; rintro e w2 ⟨v2, rfl, h2, hb2⟩)
      go_returns
      exact ⟨_, rfl, h2.lower (by simp; omega), hal.out.trans (hb2.mono (by simp)), fun g hg => .inr (by have := (World.ownsRow.lt h2 g hg).1; simp at this; omega)⟩
  · have hb : (a.toList == []) = false := by rw [text_nil, decide_eq_false ha]
    have hb2 : (a.toList != []) = true := by simp only [bne, hb]; rfl
    cases f with
    | none =>
      have he : doesR m (a, b, none) = without a m := by unfold doesR; simp only; rw [if_neg ha]
      rw [he]
      clear he ha
      simp only [fInt] at *
      replace h : Hid _ := h
      replace hal : Hid _ := hal
      go_enter Tryz.func142, Tryz.ntmps142
      go_wp2_with (go_at_call 165; refine hwo.mono ?_; clear hwo; rintro e w2 ⟨v2, rfl, h2, hb2⟩; have y2 := (hb2.cell (p := ⟨w.heap.size, 2, none⟩) (by simp)).trans z2)
      go_returns
      exact ⟨_, rfl, h2.lower (by simp; omega), hal.out.trans (hb2.mono (by simp)), fun g hg => .inr (by have := (World.ownsRow.lt h2 g hg).1; simp at this; omega)⟩
    | some i =>
      have he : doesR m (a, b, some i) = withN b i (without a m) := by unfold doesR; simp only; rw [if_neg ha]
      rw [he]
      clear he ha
      simp only [fInt] at *
      have hwl := without_len a m
      replace h : Hid _ := h
      replace hal : Hid _ := hal
      go_enter Tryz.func142, Tryz.ntmps142
      go_wp2_with (first
        | (go_at_call 165; refine hwo.mono ?_; clear hwo; rintro e w2 ⟨v2, rfl, h2, hb2⟩; have y1 := (hb2.cell (p := ⟨w.heap.size, 1, none⟩) (by simp)).trans z1; have y2 := (hb2.cell (p := ⟨w.heap.size, 2, none⟩) (by simp)).trans z2)
        | (go_at_call 141; refine (with_any _ _ b i _ _ h2 (by omega)).mono ?_; rintro e w3 ⟨v3, rfl, h3, hb3⟩))
      go_returns
      have := hb2.size
      exact ⟨_, rfl, h3.lower (by simp at this; omega), hal.out.trans ((hb2.trans (hb3.mono hb2.size)).mono (by simp)), fun g hg => .inr (by have h9 := (World.ownsRow.lt h3 g hg).1; simp at this; omega)⟩
/-! ### where it lies -/
structure RRep where
  fv : Value
  bv : Nat → Value
  nv : Value
  kv : Value
  wv : Value
  pv : Value
def encF1 (bv : Nat → Value) (l : List FileS) (i : Nat) : List Value := [bv i, .int .i64 ((l.getD i ⟨[], 0⟩).mark : Nat)]
def encF (bv : Nat → Value) (l : List FileS) : List Value := (List.range l.length).flatMap (encF1 bv l)
def encWR (q : ByteArray × ByteArray × Option Nat) : List Value := [.string q.1, .string q.2.1, .int .i64 (fInt q.2.2)]
def topR (d : RD) (r : RRep) : Obj := .cells #[.int .i64 d.room, r.fv, r.nv, r.kv, r.wv, .bool d.dead, .int .i64 d.fails, r.pv] 154
/-- The document's disk d lies at block p; all its blocks are n₀ or beyond. -/
structure RLies (w : World) (p n₀ : Nat) (r : RRep) (d : RD) : Prop where
  top : w.heap[p]? = some (topR d r)
  files : w.ownsRow n₀ 175 2 r.fv d.files.length (encF r.bv d.files)
  data : ∀ i, i < d.files.length → w.ownsRow n₀ 5 1 (r.bv i) (fileD d i).b.length (encB (fileD d i).b)
  rowInj : ∀ i j, i < d.files.length → j < d.files.length → i ≠ j → (r.bv i).ownBlock ≠ none → (r.bv i).ownBlock ≠ (r.bv j).ownBlock
  now : NamesAt w n₀ r.nv d.now
  kept : NamesAt w n₀ r.kv d.kept
  works : w.ownsRow n₀ 178 3 r.wv d.works.length (d.works.flatMap encWR)
  keep : w.ownsRow n₀ 3 1 r.pv d.keep.length (encI d.keep)
  base : n₀ ≤ p
/-- Its blocks. -/
def ownR (p : Nat) (r : RRep) (d : RD) (k : Nat) : Prop :=
  k = p ∨ r.fv.ownBlock = some k ∨ (∃ i, i < d.files.length ∧ (r.bv i).ownBlock = some k) ∨ r.nv.ownBlock = some k ∨ r.kv.ownBlock = some k ∨ r.wv.ownBlock = some k ∨ r.pv.ownBlock = some k
variable {w w' : World} {p n₀ : Nat} {r : RRep} {d : RD}
theorem RLies.same (h : RLies w p n₀ r d) (hb : ∀ k, ownR p r d k → w'.heap[k]? = w.heap[k]?) : RLies w' p n₀ r d where
  top := (hb _ (.inl rfl)).trans h.top
  files := row_same h.files (fun g hg => hb g (.inr (.inl hg)))
  data := fun i hi => row_same (h.data i hi) (fun g hg => hb g (.inr (.inr (.inl ⟨i, hi, hg⟩))))
  rowInj := h.rowInj
  now := row_same h.now (fun g hg => hb g (.inr (.inr (.inr (.inl hg)))))
  kept := row_same h.kept (fun g hg => hb g (.inr (.inr (.inr (.inr (.inl hg))))))
  works := row_same h.works (fun g hg => hb g (.inr (.inr (.inr (.inr (.inr (.inl hg)))))))
  keep := row_same h.keep (fun g hg => hb g (.inr (.inr (.inr (.inr (.inr (.inr hg)))))))
  base := h.base
theorem RLies.lt (h : RLies w p n₀ r d) : ∀ k, ownR p r d k → n₀ ≤ k ∧ k < w.heap.size := by
  rintro k (rfl | hk | ⟨i, hi, hk⟩ | hk | hk | hk | hk)
  · exact ⟨h.base, (Array.getElem?_eq_some_iff.1 h.top).1⟩
  · exact h.files.lt k hk
  · exact (h.data i hi).lt k hk
  · exact World.ownsRow.lt h.now k hk
  · exact World.ownsRow.lt h.kept k hk
  · exact h.works.lt k hk
  · exact h.keep.lt k hk
theorem RLies.below (h : RLies w p n₀ r d) (hb : Below w.heap.size w w') : RLies w' p n₀ r d := h.same (fun k hk => hb.block k (h.lt k hk).2)
theorem cells8 {w : World} {B : Nat} {a b c d e f g h : Value} {t : TypeId} (hh : w.heap[B]? = some (.cells #[a, b, c, d, e, f, g, h] t)) : w.cell? ⟨B, 0, none⟩ = some a ∧ w.cell? ⟨B, 1, none⟩ = some b ∧ w.cell? ⟨B, 2, none⟩ = some c ∧ w.cell? ⟨B, 3, none⟩ = some d ∧ w.cell? ⟨B, 4, none⟩ = some e ∧ w.cell? ⟨B, 5, none⟩ = some f ∧ w.cell? ⟨B, 6, none⟩ = some g ∧ w.cell? ⟨B, 7, none⟩ = some h := by
  simp [World.cell?, hh]
/-- How great it may be. -/
structure RWF (d : RD) : Prop where
  room : d.room ≤ 16777216
  files : d.files.length ≤ 1073741824
  now : d.now.length ≤ 1073741824
  kept : d.kept.length ≤ 1073741824
  works : d.works.length ≤ 1073741824
  low : ∀ q ∈ d.works, ∀ i, q.2.2 = some i → i < d.files.length
  lowN : ∀ q ∈ d.now, q.2 < d.files.length
  lowK : ∀ q ∈ d.kept, q.2 < d.files.length
  bytes : ∀ f ∈ d.files, ∀ x ∈ f.b, x < 256
  len : ∀ f ∈ d.files, f.b.length ≤ 16777216
  mark : ∀ f ∈ d.files, f.mark ≤ f.b.length
  fails : -1 ≤ d.fails ∧ d.fails ≤ 9223372036854775807
  keepB : ∀ x ∈ d.keep, -9223372036854775808 ≤ x ∧ x ≤ 9223372036854775807
  keepL : d.keep.length ≤ 17592186044416
end Go.Proofs.YtmcmagplaflegaaGreat
