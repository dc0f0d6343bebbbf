/-
  TWO DISKS SIDE BY SIDE: the program's and the document's. Conditions: those of each theorem.
-/
import Derived.Test.YtmcmagplaflegaaGreatRl
namespace Go.Proofs.YtmcmagplaflegaaGreat
open Go Go.RowKit Go.MapL Go.Poised

variable {pd pu n₀ m m' : Nat} {s s' : DS} {d d' : RD} {w w' : World} {K K' : Nat → Prop}
/-- The program's disk lies at pd, the document's at pu; neither has a block of the other's, nor one of K. -/
structure Both (w : World) (pd pu n₀ m : Nat) (s : DS) (d : RD) (K : Nat → Prop) : Prop where
  ex : ∃ r r', Lies w pd n₀ r s ∧ RLies w pu n₀ r' d ∧ (∀ g, own pd r s g → ¬ ownR pu r' d g) ∧ ∀ g, K g → g < w.heap.size ∧ ¬ own pd r s g ∧ ¬ ownR pu r' d g
  sl : Sound m s
  sr : RSound m d
  base : n₀ ≤ w.heap.size
theorem Both.lt (h : Both w pd pu n₀ m s d K) : ∀ g, K g → g < w.heap.size := fun g hg => by
  obtain ⟨_, _, _, _, _, hK⟩ := h.ex
  exact (hK g hg).1
theorem Both.kept (h : Both w pd pu n₀ m s d K) (hb : Below w.heap.size w w') : Kept K n₀ w w' := .of_below hb h.base h.lt
theorem Both.more (h : Both w pd pu n₀ m s d K) (hb : Below w.heap.size w w') (hK : ∀ g, K' g → K g ∨ (w.heap.size ≤ g ∧ g < w'.heap.size)) : Both w' pd pu n₀ m s d K' := by
  obtain ⟨r, r', hL, hR, hd, h1⟩ := h.ex
  refine ⟨⟨r, r', hL.below hb, hR.below hb, hd, fun g hg => ?_⟩, h.sl, h.sr, Nat.le_trans h.base hb.size⟩
  rcases hK g hg with h2 | h2
  · exact ⟨Nat.lt_of_lt_of_le (h1 g h2).1 hb.size, (h1 g h2).2⟩
  · exact ⟨h2.2, fun ho => by have := (hL.own_lt g ho).1; omega, fun ho => by have := (hR.lt g ho).2; omega⟩
theorem Both.below (h : Both w pd pu n₀ m s d K) (hb : Below w.heap.size w w') : Both w' pd pu n₀ m s d K := h.more hb (fun _ hg => .inl hg)
theorem Both.sub (h : Both w pd pu n₀ m s d K) (hK : ∀ g, K' g → K g) : Both w pd pu n₀ m s d K' := by
  obtain ⟨r, r', hL, hR, hd, h1⟩ := h.ex
  exact ⟨⟨r, r', hL, hR, hd, fun g hg => h1 g (hK g hg)⟩, h.sl, h.sr, h.base⟩
theorem Both.mono (h : Both w pd pu n₀ m s d K) (hm : m ≤ m') : Both w pd pu n₀ m' s d K := ⟨h.ex, h.sl.mono hm, h.sr.mono hm, h.base⟩
theorem Both.set (h : Both w pd pu n₀ m s d K) (hs : ∀ g, g < w.heap.size → ¬ K g → w'.heap[g]? = w.heap[g]?) (hz : w.heap.size ≤ w'.heap.size) : Both w' pd pu n₀ m s d K := by
  obtain ⟨r, r', hL, hR, hd, h1⟩ := h.ex
  refine ⟨⟨r, r', hL.same (fun k hk => hs k (hL.own_lt k hk).1 (fun hg => (h1 k hg).2.1 hk)), hR.same (fun k hk => hs k (hR.lt k hk).2 (fun hg => (h1 k hg).2.2 hk)), hd, fun g hg => ⟨Nat.lt_of_lt_of_le (h1 g hg).1 hz, (h1 g hg).2⟩⟩, h.sl, h.sr, Nat.le_trans h.base hz⟩
/-- The program's disk alone; F are the blocks of the document's. -/
theorem Both.left (h : Both w pd pu n₀ m s d K) : ∃ F : Nat → Prop, Live w pd n₀ m s (fun g => K g ∨ F g) ∧ (∀ g, F g → g < w.heap.size ∧ ¬ K g) ∧ RSound m d ∧
    ∀ (w' : World) (s' : DS) (m' : Nat) (K' : Nat → Prop), Live w' pd n₀ m' s' (fun g => K' g ∨ F g) → (∀ g, F g → w'.heap[g]? = w.heap[g]?) → (∀ g, K' g → K g ∨ w.heap.size ≤ g) → m ≤ m' → Both w' pd pu n₀ m' s' d K' := by
  obtain ⟨r, r', hL, hR, hd, h1⟩ := h.ex
  refine ⟨ownR pu r' d, ⟨⟨r, hL, fun g hg => ?_⟩, h.sl, h.base⟩, fun g hg => ⟨(hR.lt g hg).2, fun hk => (h1 g hk).2.2 hg⟩, h.sr, fun w' s' m' K' hL' hF hK' hm => ?_⟩
  · rcases hg with hg | hg
    · exact ⟨(h1 g hg).1, (h1 g hg).2.1⟩
    · exact ⟨(hR.lt g hg).2, fun ho => hd g ho hg⟩
  · obtain ⟨q, hq, hq2⟩ := hL'.ex
    refine ⟨⟨q, r', hq, hR.same hF, fun g ho hF2 => (hq2 g (.inr hF2)).2 ho, fun g hg => ⟨(hq2 g (.inl hg)).1, (hq2 g (.inl hg)).2, fun ho => ?_⟩⟩, hL'.sound, h.sr.mono hm, hL'.base⟩
    rcases hK' g hg with h2 | h2
    · exact (h1 g h2).2.2 ho
    · have := (hR.lt g ho).2; omega
/-- The document's disk alone; F are the blocks of the program's. -/
theorem Both.right (h : Both w pd pu n₀ m s d K) : ∃ F : Nat → Prop, RLive w pu n₀ m d (fun g => K g ∨ F g) ∧ (∀ g, F g → g < w.heap.size ∧ ¬ K g) ∧ Sound m s ∧
    ∀ (w' : World) (d' : RD) (m' : Nat) (K' : Nat → Prop), RLive w' pu n₀ m' d' (fun g => K' g ∨ F g) → (∀ g, F g → w'.heap[g]? = w.heap[g]?) → (∀ g, K' g → K g ∨ w.heap.size ≤ g) → m ≤ m' → Both w' pd pu n₀ m' s d' K' := by
  obtain ⟨r, r', hL, hR, hd, h1⟩ := h.ex
  refine ⟨own pd r s, ⟨⟨r', hR, fun g hg => ?_⟩, h.sr, h.base⟩, fun g hg => ⟨(hL.own_lt g hg).1, fun hk => (h1 g hk).2.1 hg⟩, h.sl, fun w' d' m' K' hL' hF hK' hm => ?_⟩
  · rcases hg with hg | hg
    · exact ⟨(h1 g hg).1, (h1 g hg).2.2⟩
    · exact ⟨(hL.own_lt g hg).1, fun ho => hd g hg ho⟩
  · obtain ⟨q, hq, hq2⟩ := hL'.ex
    refine ⟨⟨r, q, hL.same hF, hq, fun g ho hF2 => (hq2 g (.inr ho)).2 hF2, fun g hg => ⟨(hq2 g (.inl hg)).1, fun ho => ?_, (hq2 g (.inl hg)).2⟩⟩, h.sl.mono hm, hL'.sound, hL'.base⟩
    rcases hK' g hg with h2 | h2
    · exact (h1 g h2).2.1 ho
    · have := (hL.own_lt g ho).1; omega
/-- The document's disk is made beside the program's. -/
theorem Both.make {K₁ : Nat → Prop} (h : Live w pd n₀ m s K) (hb : Below w.heap.size w w') (hR : RLive w' pu w.heap.size 0 d K₁) (hK : ∀ g, K' g → K g ∨ (K₁ g ∧ w.heap.size ≤ g)) (hn : n₀ ≤ w.heap.size) (hlt : ∀ g, K g → g < w.heap.size) : Both w' pd pu n₀ m s d K' := by
  obtain ⟨r, hL, h1⟩ := h.ex
  obtain ⟨r', hR1, h2⟩ := hR.ex
  have hR2 : RLies w' pu n₀ r' d := ⟨hR1.top, own_base' hR1.files hn, fun i hi => own_base' (hR1.data i hi) hn, hR1.rowInj, own_base' hR1.now hn, own_base' hR1.kept hn, own_base' hR1.works hn, own_base' hR1.keep hn, Nat.le_trans hn hR1.base⟩
  refine ⟨⟨r, r', hL.below hb, hR2, fun g ho ho2 => ?_, fun g hg => ?_⟩, h.sound, hR.sound.mono (Nat.zero_le _), Nat.le_trans hn hb.size⟩
  · have := (hL.own_lt g ho).1
    have := (hR1.lt g ho2).1
    omega
  · rcases hK g hg with h3 | ⟨h3, h4⟩
    · exact ⟨Nat.lt_of_lt_of_le (hlt g h3) hb.size, (h1 g h3).2, fun ho => by have := (hR1.lt g ho).1; have := hlt g h3; omega⟩
    · exact ⟨(h2 g h3).1, fun ho => by have := (hL.own_lt g ho).1; omega, (h2 g h3).2⟩
end Go.Proofs.YtmcmagplaflegaaGreat
