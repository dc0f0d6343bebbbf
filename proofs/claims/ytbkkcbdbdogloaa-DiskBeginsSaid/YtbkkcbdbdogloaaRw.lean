/-
  WHAT LIES BESIDE A DISK STAYS: blocks that are not the disk's own. Conditions: those of each theorem.
-/
import Derived.Test.YtbkkcbdbdogloaaNl
namespace Go.Proofs.Ytbkkcbdbdogloaa
open Go Go.RowKit Go.MapL Go.Poised
variable {p n₀ : Nat} {r : Rep} {s : DS}

/-- The blocks K are there, and none is the disk's. -/
def Beside (w : World) (p : Nat) (r : Rep) (s : DS) (K : Nat → Prop) : Prop := ∀ g, K g → g < w.heap.size ∧ ¬ foot p r s g
theorem Turns.beside {w w' : World} {s' : DS} {K : Nat → Prop} (hK : Beside w p r s K) (h : Turns w w' p n₀ r s s') :
    ∃ r', Lies w' p n₀ r' s' ∧ Beside w' p r' s' K ∧ (∀ g, K g → w'.heap[g]? = w.heap[g]?) ∧ w.heap.size ≤ w'.heap.size := by
  obtain ⟨r', h1, h2, h3⟩ := h
  refine ⟨r', h1, fun g hg => ⟨Nat.lt_of_lt_of_le (hK g hg).1 h2.size, fun hf => ?_⟩, fun g hg => h2.block g (hK g hg).1 (hK g hg).2, h2.size⟩
  rcases h3 g hf with h4 | h4
  · exact (hK g hg).2 h4
  · have := (hK g hg).1; omega
theorem Beside.below {w w' : World} {K : Nat → Prop} (hK : Beside w p r s K) (hb : Below w.heap.size w w') : Beside w' p r s K := fun g hg => ⟨Nat.lt_of_lt_of_le (hK g hg).1 hb.size, (hK g hg).2⟩
theorem Beside.mono {w : World} {K K' : Nat → Prop} (hK : Beside w p r s K) (h : ∀ g, K' g → K g) : Beside w p r s K' := fun g hg => hK g (h g hg)
theorem Beside.or {w : World} {K K' : Nat → Prop} (h : Beside w p r s K) (h' : Beside w p r s K') : Beside w p r s (fun g => K g ∨ K' g) := fun g hg => hg.elim (h g) (h' g)
/-- What is made behind a disk lies beside it. -/
theorem Lies.beside {w w' : World} (h : Lies w p n₀ r s) {K : Nat → Prop} (hK : ∀ g, K g → w.heap.size ≤ g ∧ g < w'.heap.size) : Beside w' p r s K :=
  fun g hg => ⟨(hK g hg).2, fun hf => by have := (h.foot_lt g hf).1; have := (hK g hg).1; omega⟩
theorem Lies.besideOld {w : World} (h : Lies w p n₀ r s) (hn : n₀ ≤ w.heap.size) : Beside w p r s (fun g => g < n₀) :=
  fun g hg => ⟨by omega, fun hf => by have := (h.foot_lt g hf).2; omega⟩
/-- The block of a row. -/
def rowK (v : Value) (g : Nat) : Prop := v.ownBlock = some g
theorem own_beside {w w' : World} {n e size k : Nat} {v : Value} {xs : List Value} (h : Lies w p n₀ r s) (hv : w'.ownsRow n e size v k xs) (hn : w.heap.size ≤ n) : Beside w' p r s (rowK v) :=
  h.beside fun g hg => ⟨Nat.le_trans hn (hv.lt g hg).1, (hv.lt g hg).2⟩
theorem turn_live {w w' : World} {s' : DS} {K : Nat → Prop} (hL : Lies w p n₀ r s) (hn : n₀ ≤ w.heap.size) (hK : Beside w p r s K) (h : Turns w w' p n₀ r s s') :
    ∃ r', Lies w' p n₀ r' s' ∧ Beside w' p r' s' K ∧ (∀ g, K g → w'.heap[g]? = w.heap[g]?) ∧ Below n₀ w w' := by
  have hb := h.below hL hn
  obtain ⟨r', h1, h2, h3, _⟩ := h.beside hK
  exact ⟨r', h1, h2, h3, hb⟩

/-- Some bytes, made by a text of the program, are appended. -/
theorem append_made {w : World} (x : ByteArray) (l : List Nat) (fz : Nat × Nat) (hl : ∀ z ∈ l, z < 256) (hl2 : l.length ≤ 1000) {m : Nat} (hL : Lies w p n₀ r s) (hs : Sound m s) (hm : m < 536870912) (hn : n₀ ≤ w.heap.size) :
    Calls Try.prog 11 #[ofBlock p, .string x, .slice (some ⟨w.heap.size, 0, none⟩) l.length l.length] (w.alloc (.cells (encB l).toArray 5 fz)) fun e w' => e = .returned (.int .i64 (s.append x l).2) ∧ (∃ r', Lies w' p n₀ r' (s.append x l).1) ∧ Below n₀ w w' := by
  have hB : Below w.heap.size w (w.alloc (.cells (encB l).toArray 5 fz)) := (Below.refl _ _).alloc (Nat.le_refl _) _
  have hL1 := hL.below hB
  have hn1 : n₀ ≤ (w.alloc (.cells (encB l).toArray 5 fz)).heap.size := Nat.le_trans hn hB.size
  refine (append_at x _ l _ hL1 hs.wf (by have := hs.nb; omega) (by have := hs.nw; omega) (by omega) hn1 ?_).mono ?_
  · intro w' hg
    refine bytes_row (W := w') (B := w.heap.size) (n := l.length) (fz := fz) l ?_ hl (by omega)
    refine (hg.block _ (by simp) (fun hf => ?_)).trans (heap_new _ _)
    have := (hL.foot_lt _ hf).1
    omega
  · rintro e w' ⟨rfl, ht⟩
    obtain ⟨h1, h2⟩ := ht.here hL1 hn1
    exact ⟨rfl, h1, (hB.mono hn).trans h2⟩
end Go.Proofs.Ytbkkcbdbdogloaa
