/-
  THE OPERATIONS ON MAPS, FOR THE WALK, over 'MapAt' and 'RangeAt'. Conditions: those of each theorem.
-/
import Derived.Test.YtbkkcbdbdogloaaMapL
import Derived.Maps.OwnIn
import Derived.Maps.OwnOps
namespace Go.MapL
open Go Go.MapKept Go.ChangeMaps
section
variable {P : Program} {α β : Type} [DecidableEq α] {mk : α → Value} {mv : β → Value} {ok : α → Prop} (w : World) {ops : Array Oper} {rest : List Oper} {o : Oper} {a : Act} {Q : Exit → Act → World → Prop}

theorem wpList_lookup_map (hg : o.guard = none) (m x : Operand) (t : TypeId) (hop : o.op = Op.lookup t m x false)
    (k e : TypeId) (ht : P.underlying t = some (.map k e)) {z : Value} (hz : (zeroValue e).run P w = .ok z w) (F : Finds P k mk w ok) (b : Nat) (l : List (α × β))
    (hm : a.eval m = .map (some b)) (h : MapAt mk mv w b l) (c : α) (hx : a.eval x = mk c) (hc : ok c) (hl : ∀ p ∈ l, ok p.1)
    (hK : wpList P ops Q rest (a.put o.dst (((look c l).map mv).getD z)) w) : wpList P ops Q (o :: rest) a w := by
  refine wpList_plain hg fun K' hK' => ?_
  unfold Oper.wp
  simp [execOp, hop, hm, hx, h.lookup F ht hz c hc hl, Result.andThen]
  exact hK' _ _ hK

theorem wpList_update_map (hg : o.guard = none) (m x v : Operand) (t : TypeId) (hop : o.op = Op.mapUpdate t m x v)
    (k e : TypeId) (ht : P.underlying t = some (.map k e)) (F : Finds P k mk w ok) (b : Nat) (l : List (α × β))
    (hm : a.eval m = .map (some b)) (h : MapAt mk mv w b l) (c : α) (d : β) (hx : a.eval x = mk c) (hv : a.eval v = mv d) (hc : ok c) (hl : ∀ p ∈ l, ok p.1)
    (hK : ∀ w', MapAt mk mv w' b (put c d l) → w.grownBy w' (some b) → w'.heap.size = w.heap.size → wpList P ops Q rest (a.put o.dst undef) w') : wpList P ops Q (o :: rest) a w := by
  refine wpList_plain hg fun K' hK' => ?_
  obtain ⟨w', hrun, r1, r2, r3⟩ := h.update F ht c d hc hl
  unfold Oper.wp
  simp [execOp, hop, hm, hx, hv, hrun, Result.andThen]
  exact hK' _ _ (hK w' r1 r2 r3)

theorem wpList_delete_map (hg : o.guard = none) (m x : Operand) (t k : TypeId) (hop : o.op = Op.call { callee := Callee.builtin Builtin.delete, args := #[m, x], argTypes := #[t, k] })
    (e : TypeId) (ht : P.underlying t = some (.map k e)) (F : Finds P k mk w ok) (b : Nat) (l : List (α × β))
    (hm : a.eval m = .map (some b)) (h : MapAt mk mv w b l) (c : α) (hx : a.eval x = mk c) (hc : ok c) (hl : ∀ p ∈ l, ok p.1)
    (hK : ∀ w', MapAt mk mv w' b (del c l) → w.grownBy w' (some b) → w'.heap.size = w.heap.size → wpList P ops Q rest (a.put o.dst (.tuple #[])) w') : wpList P ops Q (o :: rest) a w := by
  refine wpList_plain hg fun K' hK' => ?_
  obtain ⟨w', hrun, r1, r2, r3⟩ := h.delete F ht c hc hl o.type
  unfold Oper.wp
  simp [execOp, hop, resolve, invoke, builtin, hm, hx, hrun, Result.andThen]
  exact hK' _ _ (hK w' r1 r2 r3)
end
section
variable {P : Program} {α β : Type} {mk : α → Value} {mv : β → Value} (w : World) {ops : Array Oper} {rest : List Oper} {o : Oper} {a : Act} {Q : Exit → Act → World → Prop}

theorem wpList_range_map (hg : o.guard = none) (m : Operand) (t : TypeId) (hop : o.op = Op.range t m) (k e : TypeId) (ht : P.underlying t = some (.map k e)) (b : Nat) (l : List (α × β))
    (hm : a.eval m = .map (some b)) (h : MapAt mk mv w b l)
    (hK : ∀ w', RangeAt mk mv w' w.heap.size b l l → w.grownBy w' none → w'.heap.size = w.heap.size + 1 → wpList P ops Q rest (a.put o.dst (.pointer (some ⟨w.heap.size, 0, none⟩))) w') : wpList P ops Q (o :: rest) a w := by
  refine wpList_plain hg fun K' hK' => ?_
  obtain ⟨w', hrun, r1, r2, r3⟩ := h.range (P := P) ht
  unfold Oper.wp
  simp [execOp, hop, hm, hrun, Result.andThen]
  exact hK' _ _ (hK w' r1 r2 r3)

theorem wpList_next_map (hg : o.guard = none) (it : Operand) (hop : o.op = Op.next it false) (r b : Nat) (l todo : List (α × β))
    (hit : a.eval it = .pointer (some ⟨r, 0, none⟩)) (h : RangeAt mk mv w r b l todo)
    (hDone : todo = [] → wpList P ops Q rest (a.put o.dst (.tuple #[.bool false])) w)
    (hMore : ∀ (x : α) (y : β) (todo' : List (α × β)) (w' : World), todo.Perm ((x, y) :: todo') → RangeAt mk mv w' r b l todo' → w.grownBy w' (some r) → w'.heap.size = w.heap.size →
      (Instr.entry (.pointer (some ⟨r, 0, none⟩))).run P w' = .ok (.tuple #[mk x, mv y]) w' → wpList P ops Q rest (a.put o.dst (.tuple #[.bool true, mk x, mv y])) w') : wpList P ops Q (o :: rest) a w := by
  refine wpList_plain hg fun K' hK' => ?_
  unfold Oper.wp
  rcases h.next (P := P) o.type with ⟨h0, hrun⟩ | ⟨x, todo', w', hp, hrun, h1, h2, h3, hen⟩
  · simp [execOp, hop, hit, hrun, Result.andThen]
    exact hK' _ _ (hDone h0)
  · simp [execOp, hop, hit, hrun, Result.andThen]
    exact hK' _ _ (hMore x.1 x.2 todo' w' hp h1 h2 h3 hen)
end

section
variable {F : Fence} {nF : Nat} {P : Program} {α β : Type} {mk : α → Value} {mv : β → Value} (w : World) {ops : Array Oper} {rest : List Oper} {o : Oper} {a : Act} {Q : Exit → Act → World → Prop}

theorem wpListIn_range_map (hg : o.guard = none) (m : Operand) (t : TypeId) (hop : o.op = Op.range t m) (k e : TypeId) (ht : P.underlying t = some (.map k e)) (b : Nat) (l : List (α × β))
    (hm : a.eval m = .map (some b)) (h : MapAt mk mv w b l)
    (hK : ∀ w', RangeAt mk mv w' w.heap.size b l l → w.grownBy w' none → w'.heap.size = w.heap.size + 1 → wpListIn F nF P ops Q rest (a.put o.dst (.pointer (some ⟨w.heap.size, 0, none⟩))) w') : wpListIn F nF P ops Q (o :: rest) a w := by
  refine wpListIn_plain hg fun K' hK' => ?_
  obtain ⟨w', hrun, r1, r2, r3⟩ := h.range (P := P) ht
  unfold Oper.wpIn
  refine ⟨by simp [Oper.about, hop], ?_⟩
  rw [Oper.semAt_plain F _ _ (by rw [hop]; intro c hc'; cases hc')]
  simp [execOp, hop, hm, hrun, Result.andThen]
  exact hK' _ _ (hK w' r1 r2 r3)

theorem wpListIn_next_map (hg : o.guard = none) (it : Operand) (hop : o.op = Op.next it false) (r b : Nat) (l todo : List (α × β))
    (hit : a.eval it = .pointer (some ⟨r, 0, none⟩)) (h : RangeAt mk mv w r b l todo)
    (hDone : todo = [] → wpListIn F nF P ops Q rest (a.put o.dst (.tuple #[.bool false])) w)
    (hMore : ∀ (x : α) (y : β) (todo' : List (α × β)) (w' : World), todo.Perm ((x, y) :: todo') → RangeAt mk mv w' r b l todo' → w.grownBy w' (some r) → w'.heap.size = w.heap.size →
      (Instr.entry (.pointer (some ⟨r, 0, none⟩))).run P w' = .ok (.tuple #[mk x, mv y]) w' → wpListIn F nF P ops Q rest (a.put o.dst (.tuple #[.bool true, mk x, mv y])) w') : wpListIn F nF P ops Q (o :: rest) a w := by
  refine wpListIn_plain hg fun K' hK' => ?_
  unfold Oper.wpIn
  refine ⟨by simp [Oper.about, hop], ?_⟩
  rw [Oper.semAt_plain F _ _ (by rw [hop]; intro c hc'; cases hc')]
  rcases h.next (P := P) o.type with ⟨h0, hrun⟩ | ⟨x, todo', w', hp, hrun, h1, h2, h3, hen⟩
  · simp [execOp, hop, hit, hrun, Result.andThen]
    exact hK' _ _ (hDone h0)
  · simp [execOp, hop, hit, hrun, Result.andThen]
    exact hK' _ _ (hMore x.1 x.2 todo' w' hp h1 h2 h3 hen)
end
end Go.MapL
