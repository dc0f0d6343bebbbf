/-
  LISTS OF ROWS OF BYTES beside a disk. Conditions: those of each theorem.
-/
import Derived.Test.YtbkkcbdbdogloaaRw
namespace Go.Proofs.Ytbkkcbdbdogloaa
open Go Go.RowKit Go.MapL Go.Poised
variable {p n₀ : Nat} {r : Rep} {s : DS}

theorem wpList_append_one {P : Program} (w : World) {ops : Array Oper} {rest : List Oper} {o : Oper} {a : Act} {Q : Exit → Act → World → Prop} (hgd : o.guard = none) (s x : Operand) (t e : TypeId) (i : TypeInfo) (z : Value) (bytes : Nat)
    (ho : o.op = .call { callee := .builtin .append, args := #[s, x], argTypes := #[t, t] }) (ht : P.underlying t = some (.slice e)) (hi : P.info? e = some i) (hz : i.zero = some z) (hsz : i.size = 1) (hby : i.bytes = bytes) (hzs : z.cells.size = 1) (hbytes : bytes ≤ 1000)
    (base : Nat) (v u : Value) (n : Nat) (xs : List Value) (B : Nat) (hs : a.eval s = v) (hx : a.eval x = .slice (some ⟨B, 0, none⟩) 1 1) (hown : w.ownsRow base e 1 v n xs) (hB : w.cell? ⟨B, 0, none⟩ = some u) (hu : u.oneCell' = true) (hn : n ≤ 1000000) (hbase : base ≤ w.heap.size)
    (h : ∀ v' w', w'.ownsRow base e 1 v' (n + 1) (xs ++ [u]) → w.grownBy w' v.ownBlock → (∀ k, v'.ownBlock = some k → v.ownBlock = some k ∨ w.heap.size ≤ k) → wpList P ops Q rest (a.put o.dst v') w') : wpList P ops Q (o :: rest) a w := by
  refine wpList_plain hgd fun K hK => ?_
  have hm : (n + 1) * bytes ≤ (1000000 + 1) * 1000 := Nat.mul_le_mul (by omega) hbytes
  obtain ⟨v', w', hr, h2, h3, h4⟩ := run_append_where (P := P) w base t o.type e i z 1 bytes ht hi hz hsz hby hzs (by omega) v n xs hown ⟨B, 0, none⟩ 1 1 [u] rfl (by
    intro j y hj
    cases j with
    | zero => simp at hj; subst hj; exact hB
    | succ j => simp at hj) (by intro y hy; simp at hy; subst hy; exact hu) (by unfold maxLen; omega) (by omega) hbase
  unfold Oper.wp execOp
  simp only [ho, resolve, invoke, builtin, Sem.run_bind, Sem.run_pure, Result.andThen_ok, List.map_toArray, List.map_cons, List.map_nil, hs, hx, hr]
  exact hK _ _ (h v' w' h2 h3 h4)

theorem info28 : (Try.prog.info? 28).map (fun i => (i.zero, i.size, i.bytes)) = some (some (.slice none 0 0), 1, 24) := by kernel_rfl

theorem cell_new1 (w : World) (u : Value) (t : TypeId) : (w.alloc (.cells #[u] t)).cell? ⟨w.heap.size, 0, none⟩ = some u := by
  simp only [World.cell?, heap_new]; rfl
structure RowsAt (w : World) (n₀ : Nat) (u : Value) (L : List (Value × List Nat)) : Prop where
  row : w.ownsRow n₀ 28 1 u L.length (L.map (·.1))
  each : ∀ q ∈ L, w.ownsRow n₀ 5 1 q.1 q.2.length (encB q.2)
def rowsK (u : Value) (L : List (Value × List Nat)) (g : Nat) : Prop := rowK u g ∨ ∃ q ∈ L, rowK q.1 g
theorem RowsAt.nil (w : World) (n₀ : Nat) : RowsAt w n₀ (.slice none 0 0) [] := ⟨World.ownsRow_nil _ _ _ _, by simp⟩
theorem rowsK_nil {g : Nat} : ¬ rowsK (.slice none 0 0) [] g := by rintro (h | ⟨q, h, _⟩); cases h; cases h
theorem RowsAt.same {w w' : World} {u : Value} {L : List (Value × List Nat)} (h : RowsAt w n₀ u L) (hs : ∀ g, rowsK u L g → w'.heap[g]? = w.heap[g]?) : RowsAt w' n₀ u L :=
  ⟨row_same h.row (fun g hg => hs g (.inl hg)), fun q hq => row_same (h.each q hq) (fun g hg => hs g (.inr ⟨q, hq, hg⟩))⟩
theorem RowsAt.lt {w : World} {u : Value} {L : List (Value × List Nat)} (h : RowsAt w n₀ u L) {g : Nat} (hg : rowsK u L g) : n₀ ≤ g ∧ g < w.heap.size := by
  rcases hg with hg | ⟨q, hq, hg⟩
  · exact h.row.lt g hg
  · exact (h.each q hq).lt g hg
theorem RowsAt.below {w w' : World} {u : Value} {L : List (Value × List Nat)} (h : RowsAt w n₀ u L) (hb : Below w.heap.size w w') : RowsAt w' n₀ u L := h.same (fun g hg => hb.block g (h.lt hg).2)
theorem sorts {w : World} {n n' : Nat} {u v : Value} {k k' : Nat} {xs ys : List Value} (h : w.ownsRow n 28 1 u k xs) (h' : w.ownsRow n' 5 1 v k' ys) {g : Nat} (h1 : u.ownBlock = some g) (h2 : v.ownBlock = some g) : False := by
  have e1 := sort_row h h1
  have e2 := sort_row h' h2
  omega
theorem RowsAt.push {w w' : World} {u u' v : Value} {b : List Nat} {L : List (Value × List Nat)} (h : RowsAt w n₀ u L) (hv : w.ownsRow n₀ 5 1 v b.length (encB b)) (hr : w'.ownsRow n₀ 28 1 u' (L.length + 1) (L.map (·.1) ++ [v])) (hg : w.grownBy w' u.ownBlock) : RowsAt w' n₀ u' (L ++ [(v, b)]) := by
  have key : ∀ (x : Value) (k : Nat) (xs : List Value), w.ownsRow n₀ 5 1 x k xs → w'.ownsRow n₀ 5 1 x k xs := fun x k xs hx =>
    row_same hx (fun g hg2 => hg.block g (hx.lt g hg2).2 (fun e => sorts h.row hx e.symm hg2))
  refine ⟨by simpa using hr, fun q hq => ?_⟩
  rcases List.mem_append.1 hq with hq | hq
  · exact key _ _ _ (h.each q hq)
  · rw [List.mem_singleton] at hq; subst hq; exact key _ _ _ hv
theorem Lies.grown {w w' : World} {u : Value} (h : Lies w p n₀ r s) (hg : w.grownBy w' u.ownBlock) (hs : Beside w p r s (rowK u)) : Lies w' p n₀ r s :=
  h.same (fun k hk => hg.block k (h.foot_lt k hk).1 (fun e => (hs k e.symm).2 hk))
theorem Beside.grown {w w' : World} {row : Option Nat} {K : Nat → Prop} (h : Beside w p r s K) (hg : w.grownBy w' row) : Beside w' p r s K := fun g hK => ⟨Nat.lt_of_lt_of_le (h g hK).1 hg.size, (h g hK).2⟩
theorem beside_push {w w' : World} {u u' v : Value} {b : List Nat} {L : List (Value × List Nat)} (hL : Lies w p n₀ r s) (h : Beside w p r s (rowsK u L)) (hv : Beside w p r s (rowK v)) {k : Nat} {xs : List Value} (hr : w'.ownsRow n₀ 28 1 u' k xs) (hg : w.grownBy w' u.ownBlock)
    (hw : ∀ k, u'.ownBlock = some k → u.ownBlock = some k ∨ w.heap.size ≤ k) : Beside w' p r s (rowsK u' (L ++ [(v, b)])) := by
  rintro g (hu | ⟨q, hq, hgq⟩)
  · rcases hw g hu with h1 | h1
    · exact ⟨Nat.lt_of_lt_of_le (h g (.inl h1)).1 hg.size, (h g (.inl h1)).2⟩
    · exact ⟨(hr.lt g hu).2, fun hf => by have := (hL.foot_lt g hf).1; omega⟩
  · rcases List.mem_append.1 hq with hq | hq
    · have := h g (.inr ⟨q, hq, hgq⟩)
      exact ⟨Nat.lt_of_lt_of_le this.1 hg.size, this.2⟩
    · rw [List.mem_singleton] at hq; subst hq
      exact ⟨Nat.lt_of_lt_of_le (hv g hgq).1 hg.size, (hv g hgq).2⟩
theorem below_grown {w w' : World} {u : Value} {k : Nat} {xs : List Value} {e : Nat} (h : w.ownsRow n₀ e 1 u k xs) (hn : n₀ ≤ w.heap.size) (hg : w.grownBy w' u.ownBlock) : Below n₀ w w' :=
  ⟨hg.os, hg.tape, hg.output, hg.size, fun i hi => hg.block i (by omega) (fun e => by have := (h.lt i e.symm).1; omega)⟩
end Go.Proofs.Ytbkkcbdbdogloaa
