/-
  WORKS ON NAMES, and the room that is used. Conditions: those of each theorem.
-/
import Derived.Test.YtbkkcbdbdogloaaDc
namespace Go.Proofs.Ytbkkcbdbdogloaa
open Go Go.RowKit Go.MapL Go.Poised

/-- What a work does to names. -/
def step {β : Type} (a b : ByteArray) (f : Option β) (l : List (ByteArray × β)) : List (ByteArray × β) :=
  match f with
  | none => del a l
  | some i => put b i (del a l)

theorem cells3 {w : World} {B : Nat} {x y z : Value} {t : TypeId} (h : w.heap[B]? = some (.cells #[x, y, z] t)) : w.cell? ⟨B, 0, none⟩ = some x ∧ w.cell? ⟨B, 1, none⟩ = some y ∧ w.cell? ⟨B, 2, none⟩ = some z := by
  simp [World.cell?, h]
theorem free_of {w : World} {B : Nat} {cs : Array Value} {t : TypeId} (h : w.heap[B]? = some (.cells cs t)) (i : Nat) : w.frozen? ⟨B, i, none⟩ = false := by simp [World.frozen?, h]
theorem heap_new (w : World) (o : Obj) : (w.alloc o).heap[w.heap.size]? = some o := by show (w.heap.push o)[w.heap.size]? = _; simp

set_option maxHeartbeats 2000000 in
set_option maxRecDepth 100000 in
theorem does_any (a b : ByteArray) (f : Option Nat) (bn : Nat) (l : List (ByteArray × Nat)) (w : World) (h : MapAt ofText ofBlock w bn l) :
    Calls Try.prog 39 #[.agg #[.string a, .string b, ptrOf id f], .map (some bn)] w fun e w' => e = .returned (.tuple #[]) ∧ MapAt ofText ofBlock w' bn (step a b f l) ∧ Grown (fun k => k = bn) w w' := by
  have hlt := h.lt
  have h1 := h.alloc (.cells #[.string a, .string b, ptrOf id f] 70)
  cases f with
  | none =>
    unfold ptrOf at *
    go_enter Try.func39, Try.ntmps39
    go_wp2_with (at_delete; refine wpList_delete_map _ rfl _ _ 55 9 rfl 65 Try.underlying55 (finds_text Try.underlying9 _) bn l rfl h1 a rfl trivial (fun _ _ => trivial) ?_; intro w1 hm1 hg1 hs1; obtain ⟨c0, c1, c2⟩ := cells3 ((hg1.block w.heap.size (by simp) (by simp; omega)).trans (heap_new w _)))
    go_returns
    exact ⟨rfl, hm1, (Grown.refl _ _).alloc _ |>.trans (Grown.of_grownBy hg1 (S := fun k => k = bn) (by intro k hk; simp at hk; exact .inl hk.symm)) (fun _ hx => .inl hx)⟩
  | some i =>
    unfold ptrOf at *
    go_enter Try.func39, Try.ntmps39
    go_wp2_with (first | (at_delete; refine wpList_delete_map _ rfl _ _ 55 9 rfl 65 Try.underlying55 (finds_text Try.underlying9 _) bn l rfl h1 a rfl trivial (fun _ _ => trivial) ?_; intro w1 hm1 hg1 hs1; obtain ⟨c0, c1, c2⟩ := cells3 ((hg1.block w.heap.size (by simp) (by simp; omega)).trans (heap_new w _))) | (at_mapUpdate; refine wpList_update_map _ rfl _ _ _ 55 rfl 9 65 Try.underlying55 (finds_text Try.underlying9 _) bn _ rfl hm1 b i rfl rfl trivial (fun _ _ => trivial) ?_; intro w2 hm2 hg2 hs2))
    go_returns
    exact ⟨rfl, hm2, ((Grown.refl _ _).alloc _ |>.trans (Grown.of_grownBy hg1 (S := fun k => k = bn) (by intro k hk; simp at hk; exact .inl hk.symm)) (fun _ hx => .inl hx)).trans (Grown.of_grownBy hg2 (S := fun k => k = bn) (by intro k hk; simp at hk; exact .inl hk.symm)) (fun _ hx => .inl hx)⟩
end Go.Proofs.Ytbkkcbdbdogloaa
