/-
  SLICES OF BYTES: read, appended, copied. Conditions: those of each theorem.
-/
import Derived.Test.YtbkkcbdbdogloaaDb
import Derived.Test.YtbkkcbdbdogloaaAp
import Derived.OwnWalk
import Derived.Maps.AppendAt
import Derived.Lib.SliceRun
namespace Go.Proofs.Ytbkkcbdbdogloaa
open Go Go.RowKit Go.MapL

/-- A slice of bytes reads as l. -/
def BytesIn (w : World) (v : Value) (l : List Nat) : Prop :=
  (∀ x ∈ l, x < 256) ∧ l.length ≤ 9223372036854775807 ∧ ((v = .slice none 0 0 ∧ l = []) ∨ (∃ a cap, v = .slice (some a) 0 cap ∧ l = []) ∨ ∃ b off cap, v = .slice (some ⟨b, off, none⟩) l.length cap ∧ ∀ k, k < l.length → w.cell? ⟨b, off + k, none⟩ = some (.int .u8 (l.getD k 0 : Nat)))

theorem BytesIn.below {w w' : World} {v : Value} {l : List Nat} (h : BytesIn w v l) (hb : Below w.heap.size w w') : BytesIn w' v l := by
  obtain ⟨h1, h2, h3⟩ := h
  refine ⟨h1, h2, ?_⟩
  rcases h3 with h3 | h3 | ⟨b, off, cap, rfl, hc⟩
  · exact .inl h3
  · exact .inr (.inl h3)
  · exact .inr (.inr ⟨b, off, cap, rfl, fun k hk => (hb.cell (p := ⟨b, off + k, none⟩) (lt_of_cell (hc k hk))).trans (hc k hk)⟩)

theorem encB_len (l : List Nat) : (encB l).length = l.length := by simp [encB]
theorem encB_append (l m : List Nat) : encB (l ++ m) = encB l ++ encB m := by simp [encB]
theorem encB_get (l : List Nat) (k : Nat) (hk : k < l.length) : (encB l)[k]? = some (.int .u8 (l.getD k 0 : Nat)) := by
  rw [encB, List.getElem?_map, List.getD_eq_getElem?_getD]; simp [hk]

theorem bytesIn_of_own {W : World} {n : Nat} {v : Value} {l : List Nat} (h : W.ownsRow n 5 1 v l.length (encB l)) (hb : ∀ x ∈ l, x < 256) (hl : l.length ≤ 9223372036854775807) : BytesIn W v l := by
  refine ⟨hb, hl, ?_⟩
  rcases h.2 with ⟨rfl, h0⟩ | ⟨g, cap, cur, rfl, _, hg, hc, _, hsz, ht⟩
  · exact .inl ⟨rfl, List.length_eq_zero_iff.1 h0⟩
  · refine .inr (.inr ⟨g, 0, cap, rfl, fun k hk => ?_⟩)
    rw [Nat.zero_add]
    simp only [World.cell?, hg, Option.isSome_none, Bool.false_eq_true, if_false]
    have h1 : cur[k]? = (cur.toList.take (l.length * 1))[k]? := by
      rw [List.getElem?_take, if_pos (by omega)]; simp
    rw [h1, ht]
    exact encB_get l k hk

/-- A slice that was cut at its end reads as the beginning. -/
theorem BytesIn.take {w : World} {v : Value} {l : List Nat} (h : BytesIn w v l) (n : Nat) (hn : n ≤ l.length) : ∃ p len cap, v = .slice p len cap ∧ BytesIn w (.slice p n cap) (l.take n) ∧ BytesIn w (.slice p n n) (l.take n) := by
  obtain ⟨h1, h2, h3⟩ := h
  have hb : ∀ x ∈ l.take n, x < 256 := fun x hx => h1 x (List.mem_of_mem_take hx)
  have hl : (l.take n).length = n := by simp; omega
  rcases h3 with ⟨rfl, rfl⟩ | ⟨a, cap, rfl, rfl⟩ | ⟨b, off, cap, rfl, hc⟩
  · obtain rfl : n = 0 := by simpa using hn
    exact ⟨_, _, _, rfl, ⟨hb, by simp, .inl ⟨rfl, by simp⟩⟩, ⟨hb, by simp, .inl ⟨rfl, by simp⟩⟩⟩
  · obtain rfl : n = 0 := by simpa using hn
    exact ⟨_, _, _, rfl, ⟨hb, by simp, .inr (.inl ⟨_, _, rfl, by simp⟩)⟩, ⟨hb, by simp, .inr (.inl ⟨_, _, rfl, by simp⟩)⟩⟩
  · have hc' : ∀ k, k < (l.take n).length → w.cell? ⟨b, off + k, none⟩ = some (.int .u8 ((l.take n).getD k 0 : Nat)) := by
      intro k hk
      rw [hl] at hk
      rw [hc k (by omega), List.getD_eq_getElem?_getD, List.getD_eq_getElem?_getD, List.getElem?_take, if_pos hk]
    exact ⟨_, _, _, rfl, ⟨hb, by omega, .inr (.inr ⟨b, off, cap, by rw [hl], hc'⟩)⟩, ⟨hb, by omega, .inr (.inr ⟨b, off, n, by rw [hl], hc'⟩)⟩⟩

theorem info5 : (Try.prog.info? 5).map (fun i => (i.zero, i.size, i.bytes)) = some (some (.int .u8 0), 1, 1) := by kernel_rfl

/-- 'append(s, x...)' of bytes, s the call's own. -/
theorem run_append_bytes (w : World) (base ty : Nat) (v u : Value) (l m : List Nat) (hown : w.ownsRow base 5 1 v l.length (encB l)) (hu : BytesIn w u m) (hlen : l.length + m.length ≤ 140737488355328) (hbase : base ≤ w.heap.size) :
    ∃ v' w', (Builtin.append_ #[28, 28] ty #[v, u]).run Try.prog w = .ok v' w' ∧ w'.ownsRow base 5 1 v' (l ++ m).length (encB (l ++ m)) ∧ w.grownBy w' v.ownBlock ∧ ∀ k, v'.ownBlock = some k → v.ownBlock = some k ∨ w.heap.size ≤ k := by
  obtain ⟨i0, hi, hz0, hz1, hz2⟩ := info_parts info5
  have key : ∀ (ad : Addr) (c : Nat) (hc : ∀ j x, (encB m)[j]? = some x → w.cell? (ad.add j) = some x), u = .slice (some ad) m.length c →
      ∃ v' w', (Builtin.append_ #[28, 28] ty #[v, u]).run Try.prog w = .ok v' w' ∧ w'.ownsRow base 5 1 v' (l ++ m).length (encB (l ++ m)) ∧ w.grownBy w' v.ownBlock ∧ ∀ k, v'.ownBlock = some k → v.ownBlock = some k ∨ w.heap.size ≤ k := by
    rintro ad c hc rfl
    obtain ⟨v', w', h1, h2, h3, h4⟩ := run_append_where (P := Try.prog) w base 28 ty 5 i0 (.int .u8 0) 1 1 Try.underlying28 hi hz0 hz1 hz2 rfl (by decide) v l.length (encB l) hown ad m.length c (encB m) (by simp [encB_len]) hc
      (by intro x hx; obtain ⟨y, _, rfl⟩ := List.mem_map.1 hx; rfl) (by unfold maxLen; omega) (by omega) hbase
    exact ⟨v', w', h1, by rw [List.length_append, encB_append]; exact h2, h3, h4⟩
  rcases hu.2.2 with ⟨rfl, rfl⟩ | ⟨a, cap, rfl, rfl⟩ | ⟨b, off, cap, rfl, hc⟩
  · refine ⟨v, w, ?_, by simpa using hown, ⟨rfl, rfl, rfl, Nat.le_refl _, fun _ _ _ => rfl⟩, fun k hk => .inl hk⟩
    rcases hown.2 with ⟨rfl, h0⟩ | ⟨g, cap, cur, rfl, _, hg, hcc, _, hsz, ht⟩
    · simp [Builtin.append_, run_underlying Try.underlying28, sizeOf, typeInfo, hi, Builtin.lenOf, Builtin.firstCells]
    · simp [Builtin.append_, run_underlying Try.underlying28, sizeOf, typeInfo, hi, Builtin.lenOf, Builtin.firstCells, hcc, storeCells]
  · exact key a cap (by intro j x hx; simp [encB] at hx) (by simp)
  · refine key ⟨b, off, none⟩ cap ?_ rfl
    intro j x hx
    have hj : j < m.length := by
      have := (List.getElem?_eq_some_iff.1 hx).1
      simpa [encB_len] using this
    rw [encB_get m j hj] at hx
    cases hx
    rw [Addr.add_lit]
    exact hc j hj

theorem wpList_append_bytes (w : World) {ops : Array Oper} {rest : List Oper} {o : Oper} {a : Act} {Q : Exit → Act → World → Prop} (hgd : o.guard = none) (s x : Operand)
    (ho : o.op = .call { callee := .builtin .append, args := #[s, x], argTypes := #[28, 28] }) (base : Nat) (v u : Value) (l m : List Nat) (hs : a.eval s = v) (hx : a.eval x = u) (hown : w.ownsRow base 5 1 v l.length (encB l)) (hu : BytesIn w u m) (hlen : l.length + m.length ≤ 140737488355328) (hbase : base ≤ w.heap.size)
    (h : ∀ v' w', w'.ownsRow base 5 1 v' (l ++ m).length (encB (l ++ m)) → w.grownBy w' v.ownBlock → (∀ k, v'.ownBlock = some k → v.ownBlock = some k ∨ w.heap.size ≤ k) → wpList Try.prog ops Q rest (a.put o.dst v') w') : wpList Try.prog ops Q (o :: rest) a w := by
  refine wpList_plain hgd fun K hK => ?_
  obtain ⟨v', w', hr, h2, h3, h4⟩ := run_append_bytes w base o.type v u l m hown hu hlen hbase
  unfold Oper.wp execOp
  simp only [ho, resolve, invoke, builtin, Sem.run_bind, Sem.run_pure, Result.andThen_ok, List.map_toArray, List.map_cons, List.map_nil, hs, hx, hr]
  exact hK _ _ (h v' w' h2 h3 h4)

set_option maxHeartbeats 2000000 in
set_option maxRecDepth 100000 in
theorem cloneB_any (v : Value) (l : List Nat) (w : World) (hl : BytesIn w v l) (hlen : l.length ≤ 140737488355328) :
    Calls Try.prog 37 #[v] w fun e w' => ∃ v', e = .returned v' ∧ w'.ownsRow w.heap.size 5 1 v' l.length (encB l) ∧ Below w.heap.size w w' := by
  obtain ⟨p, len, cap, rfl⟩ : ∃ p len cap, v = .slice p len cap := by
    rcases hl.2.2 with ⟨rfl, _⟩ | ⟨a, cap, rfl, _⟩ | ⟨b, off, cap, rfl, _⟩ <;> exact ⟨_, _, _, rfl⟩
  cases p with
  | none =>
    have h0 : l = [] := by
      rcases hl.2.2 with ⟨_, h⟩ | ⟨a, cap, h, _⟩ | ⟨b, off, cap, h, _⟩
      · exact h
      · cases h
      · cases h
    subst h0
    have hq := fun w => Go.Lib.run_eql_slice_nil (P := Try.prog) w 28 5 none len cap 0 0 Try.underlying28
    go_enter Try.func37, Try.ntmps37
    go_wp2
    go_returns
    exact ⟨_, rfl, World.ownsRow_nil _ _ _ _, Below.refl _ _⟩
  | some a =>
    have hl1 := hl.below ((Below.refl _ w).alloc (Nat.le_refl _) (.cells #[] 5))
    have hown : (w.alloc (.cells #[] 5)).ownsRow w.heap.size 5 1 (.slice (some ⟨w.heap.size, 0, none⟩) 0 0) ([] : List Nat).length (encB []) :=
      World.ownsRow_made w #[] 0 (Nat.le_refl _) (by unfold maxLen; omega) rfl
    have hq := fun w => Go.Lib.run_eql_slice_nil (P := Try.prog) w 28 5 (some a) len cap 0 0 Try.underlying28
    go_enter Try.func37, Try.ntmps37
    go_wp2_with (at_builtin; refine wpList_append_bytes _ rfl _ _ rfl w.heap.size (.slice (some ⟨w.heap.size, 0, none⟩) 0 0) (.slice (some a) len cap) [] l rfl rfl hown hl1 (by simpa using hlen) (by simp) ?_; intro v' w1 hown' hgrow hwhere)
    go_returns
    exact ⟨_, rfl, by simpa using hown', ((Below.refl _ w).alloc (Nat.le_refl _) _).grown hgrow (by simp) (by intro k hk; simp [Value.ownBlock] at hk; omega)⟩
end Go.Proofs.Ytbkkcbdbdogloaa
