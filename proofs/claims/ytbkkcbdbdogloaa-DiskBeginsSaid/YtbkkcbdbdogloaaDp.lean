/-
  THE DISK's METHODS. Conditions: those of each theorem.
-/
import Derived.Test.YtbkkcbdbdogloaaDo
namespace Go.Proofs.Ytbkkcbdbdogloaa
open Go Go.RowKit Go.MapL Go.Poised

variable {p n₀ : Nat} {r : Rep} {s : DS}

set_option maxRecDepth 100000 in
theorem dies_at (w : World) (h : Lies w p n₀ r s) : Calls Try.prog 33 #[ofBlock p] w fun e w' => e = .returned (.bool false) ∧ w' = w := by
  obtain ⟨c0, c1, c2, c3, c4, c5, c6, c7⟩ := h.cells
  unfold ofBlock at *
  go_enter Try.func33, Try.ntmps33
  go_wp2
  go_returns
  exact ⟨rfl, rfl⟩

set_option maxRecDepth 100000 in
theorem dead_at (w : World) (h : Lies w p n₀ r s) : Calls Try.prog 23 #[ofBlock p] w fun e w' => e = .returned (.bool s.dead) ∧ w' = w := by
  obtain ⟨c0, c1, c2, c3, c4, c5, c6, c7⟩ := h.cells
  have hn := none_at w h
  unfold ofBlock at *
  go_enter Try.func23, Try.ntmps23
  go_wp2_with (go_at_call 44; refine hn.mono ?_; rintro e w' ⟨rfl, rfl⟩)
  go_returns
  exact ⟨rfl, rfl⟩

set_option maxRecDepth 100000 in
theorem boot_at (w : World) (h : Lies w p n₀ r s) : Calls Try.prog 16 #[ofBlock p] w fun e w' => e = .returned (.tuple #[]) ∧ Lies w' p n₀ r { s with dead := false } ∧ Grown (fun k => k = p) w w' := by
  obtain ⟨c0, c1, c2, c3, c4, c5, c6, c7⟩ := h.cells
  have hn := none_at w h
  have z5 := h.free 5
  have z6 := h.free 6
  have hp : p < w.heap.size := (h.foot_lt p (.inl rfl)).1
  unfold ofBlock at *
  go_enter Try.func16, Try.ntmps16
  go_wp2_with (go_at_call 44; refine hn.mono ?_; rintro e w' ⟨rfl, rfl⟩)
  go_returns
  refine ⟨rfl, ?_, ((Grown.refl (fun k => k = p) _).setCell (p := ⟨p, 5, none⟩) (.inl rfl) _).setCell (p := ⟨p, 6, none⟩) (.inl rfl) _⟩
  refine h.setTop r.wv s.works false ?_ ?_ ?_
  · rw [setCell_heap (setCell_heap h.top)]
    rfl
  · refine row_same h.works (fun g hg => ?_)
    have : g ≠ p := fun e => by have := h.sW hg; rw [e, h.sP] at this; cases this
    rw [Below.heap_setCell _ _ _ _ this, Below.heap_setCell _ _ _ _ this]
  · intro k hk h1 h2
    rw [Below.heap_setCell _ _ _ _ h1, Below.heap_setCell _ _ _ _ h1]

/-- The bytes of a file, behind its name. -/
def fileOf (s : DS) (x : ByteArray) : Option Nat := MapL.look x s.names
theorem look_at (ad : Nat → Nat) (x : ByteArray) : ∀ l, MapL.look x (at_ ad l) = (MapL.look x l).map ad
  | [] => rfl
  | (k, v) :: l => by
    have := look_at ad x l
    unfold at_ at this ⊢
    by_cases h : k = x <;> simp [MapL.look, h, this]
theorem look_mem {β : Type} {x : ByteArray} {v : β} : ∀ {l : List (ByteArray × β)}, MapL.look x l = some v → (x, v) ∈ l
  | [], h => by cases h
  | (k, u) :: l, h => by
    unfold MapL.look at h
    split at h
    · rename_i hk; cases h; simp [hk]
    · exact .tail _ (look_mem h)
theorem zero65 (w : World) : (zeroValue 65).run Try.prog w = .ok (.pointer none) w := by
  kernel_rfl

theorem lookup_at {w : World} (h : Lies w p n₀ r s) (x : ByteArray) : (Instr.lookup 55 (.map (some r.bn)) (.string x) false).run Try.prog w = .ok (ptrOf r.ad (fileOf s x)) w := by
  have := h.names.lookup (P := Try.prog) (finds_text Try.underlying9 w) Try.underlying55 (zero65 w) x trivial (fun _ _ => trivial)
  rw [look_at] at this
  have e : ofText x = .string x := rfl
  rw [e] at this
  rw [this]
  unfold fileOf
  cases MapL.look x s.names <;> rfl
end Go.Proofs.Ytbkkcbdbdogloaa
