/-
  DiskNames, WALKED. Conditions: those of each theorem.
-/
import Derived.Test.YtmcmagplaflegaaGreatQf
import Derived.Test.YtmcmagplaflegaaGreatQg
import Derived.Test.YtmcmagplaflegaaGreatRep
namespace Go.Proofs.YtmcmagplaflegaaGreat
open Go Go.RowKit Go.MapL Go.Poised

variable {w w' W W' : World} {v : Value} {n : Nat}
/-- Bytes in a block of their own; numbers so. -/
def AtB (W : World) (v : Value) (l : List Nat) : Prop := (∀ x ∈ l, x < 256) ∧ l.length ≤ 100 ∧ ((v = nilS ∧ l = []) ∨ ∃ g fz cap, v = .slice (some ⟨g, 0, none⟩) l.length cap ∧ W.heap[g]? = some (.cells (encB l).toArray 5 fz))
def AtI (W : World) (v : Value) (l : List Int) : Prop := (∀ x ∈ l, -9223372036854775808 ≤ x ∧ x ≤ 9223372036854775807) ∧ l.length ≤ 100 ∧ ((v = nilS ∧ l = []) ∨ ∃ g fz cap, v = .slice (some ⟨g, 0, none⟩) l.length cap ∧ W.heap[g]? = some (.cells (encI l).toArray 3 fz))
theorem AtB.in {l : List Nat} (h : AtB W v l) : BytesIn W v l := by
  obtain ⟨h1, h2, h3⟩ := h
  rcases h3 with ⟨rfl, rfl⟩ | ⟨g, fz, cap, rfl, hB⟩
  · exact bytes_nil W
  · exact bytes_at l hB h1 h2
theorem AtI.in {l : List Int} (h : AtI W v l) : IntsIn W v l := by
  obtain ⟨h1, h2, h3⟩ := h
  rcases h3 with ⟨rfl, rfl⟩ | ⟨g, fz, cap, rfl, hB⟩
  · exact ints_nil W
  · refine ⟨h1, by omega, .inr (.inr ⟨g, 0, cap, rfl, fun k hk => ?_⟩)⟩
    have := encI_get l k hk
    simp only [World.cell?, hB, Option.isSome_none, Bool.false_eq_true, if_false, Nat.zero_add]
    rw [← this]; simp
structure DdT (W : World) (x : Dd) (bv kv : Value) : Prop where
  b : AtB W bv x.b
  k : AtI W kv x.keep
  ok : DdOk x
theorem DdT.in {x : Dd} {bv kv : Value} (h : DdT W x bv kv) : DdIn W x bv kv := ⟨h.b.in, h.k.in, h.ok⟩
/-- What turns a row of deeds alone leaves a deed's own bytes. -/
theorem DdT.turn {x : Dd} {bv kv : Value} (h : DdT W x bv kv) (hb : ∀ (g : Nat) (c : Array Value) (t : TypeId) (fz : Nat × Nat), t ≠ 48 → W.heap[g]? = some (.cells c t fz) → W'.heap[g]? = some (.cells c t fz)) : DdT W' x bv kv := by
  obtain ⟨⟨b1, b2, b3⟩, ⟨k1, k2, k3⟩, ok⟩ := h
  refine ⟨⟨b1, b2, ?_⟩, ⟨k1, k2, ?_⟩, ok⟩
  · rcases b3 with b3 | ⟨g, fz, cap, h1, h2⟩
    · exact .inl b3
    · exact .inr ⟨g, fz, cap, h1, hb g _ _ _ (by decide) h2⟩
  · rcases k3 with k3 | ⟨g, fz, cap, h1, h2⟩
    · exact .inl k3
    · exact .inr ⟨g, fz, cap, h1, hb g _ _ _ (by decide) h2⟩
theorem DdT.below {x : Dd} {bv kv : Value} (h : DdT w x bv kv) (hb : Below w.heap.size w w') : DdT w' x bv kv := h.turn fun g _ _ _ _ hg => (hb.block g (Array.getElem?_eq_some_iff.1 hg).1).trans hg
/-- n deeds in a slice of one's own. -/
def Deeds (N : Nat) (W : World) (v : Value) (n : Nat) : Prop := ∃ ps : List (Dd × Value × Value), ps.length = n ∧ W.ownsRow N 48 7 v n (ps.flatMap enc7) ∧ ∀ q ∈ ps, DdT W q.1 q.2.1 q.2.2
theorem Deeds.below {N : Nat} (h : Deeds N w v n) (hb : Below w.heap.size w w') : Deeds N w' v n := by
  obtain ⟨ps, h1, h2, h3⟩ := h
  exact ⟨ps, h1, own_kept h2 hb, fun q hq => (h3 q hq).below hb⟩
theorem Deeds.in {N : Nat} (h : Deeds N W v n) (h0 : 0 < n) (hn : n ≤ 1000) : ∃ D, DdsIn W v D := by
  obtain ⟨ps, rfl, h2, h3⟩ := h
  refine ⟨ps.map (·.1), by simpa using hn, ?_⟩
  rcases h2.2 with ⟨_, h4⟩ | ⟨g, cap, cur, rfl, _, hg, _, _, hsz, ht⟩
  · omega
  · refine ⟨g, cap, by simp, fun k hk => ?_⟩
    rw [List.length_map] at hk
    have hc : ∀ j, j < 7 → W.cell? ⟨g, k * 7 + j, none⟩ = (enc7 ps[k])[j]? := by
      intro j hj
      rw [← enc7_at ps k hk j hj, ← ht, List.getElem?_take, if_pos (by omega)]
      simp [World.cell?, hg]
    refine ⟨ps[k].2.1, ps[k].2.2, by simpa using (h3 ps[k] (List.getElem_mem hk)).in, ?_⟩
    simp only [List.getElem_map]
    exact ⟨hc 0 (by omega), hc 1 (by omega), hc 2 (by omega), hc 3 (by omega), hc 4 (by omega), hc 5 (by omega), hc 6 (by omega)⟩
theorem info48 : (Tryz.prog.info? 48).map (fun i => (i.zero, i.size, i.bytes)) = some (some (.agg #[.int .i64 0, .string ⟨#[]⟩, .string ⟨#[]⟩, .slice none 0 0, .int .i64 0, .int .i64 0, .slice none 0 0]), 7, 104) := by kernel_rfl
theorem enc7_len : ∀ ps : List (Dd × Value × Value), (ps.flatMap enc7).length = ps.length * 7
  | [] => rfl
  | x :: l => by
    rw [List.flatMap_cons, List.length_append, enc7_len l, List.length_cons]
    show 7 + _ = _; omega
theorem AtB.one {l : List Nat} (h : AtB W v l) : v.oneCell' = true := by
  rcases h.2.2 with ⟨rfl, _⟩ | ⟨g, fz, cap, rfl, _⟩ <;> rfl
theorem AtI.one {l : List Int} (h : AtI W v l) : v.oneCell' = true := by
  rcases h.2.2 with ⟨rfl, _⟩ | ⟨g, fz, cap, rfl, _⟩ <;> rfl
theorem enc7_one : ∀ ps : List (Dd × Value × Value), (∀ q ∈ ps, DdT W q.1 q.2.1 q.2.2) → ∀ u ∈ ps.flatMap enc7, u.oneCell' = true := by
  intro ps h u hu
  obtain ⟨q, hq, hu⟩ := List.mem_flatMap.1 hu
  have hd := h q hq
  simp only [enc7, List.mem_cons, List.not_mem_nil, or_false] at hu
  rcases hu with rfl | rfl | rfl | rfl | rfl | rfl | rfl
  · rfl
  · rfl
  · rfl
  · exact hd.b.one
  · rfl
  · rfl
  · exact hd.k.one
/-- Deeds put behind deeds. -/
theorem deeds_append {N : Nat} (h : Deeds N W v n) (hn : n ≤ 500) (hN : N ≤ W.heap.size) {B c : Nat} (qs : List (Dd × Value × Value)) (hB : W.heap[B]? = some (.cells (qs.flatMap enc7).toArray 48)) (hq : ∀ q ∈ qs, DdT W q.1 q.2.1 q.2.2) (hl : qs.length ≤ 100) :
    ∃ v' w', (Builtin.append_ #[49, 49] 49 #[v, .slice (some ⟨B, 0, none⟩) qs.length c]).run Tryz.prog W = .ok v' w' ∧ Deeds N w' v' (n + qs.length) ∧ Below N W w' := by
  obtain ⟨ps, rfl, h2, h3⟩ := h
  obtain ⟨i, hi, hi2⟩ := Option.map_eq_some_iff.1 info48
  simp only [Prod.mk.injEq] at hi2
  obtain ⟨hz, hs, hb⟩ := hi2
  obtain ⟨v', w', hr, h4, h5, h6⟩ := run_append_where (P := Tryz.prog) W N 49 49 48 i _ 7 104 Tryz.underlying49 hi hz hs hb rfl (by decide) v ps.length _ h2 ⟨B, 0, none⟩ qs.length c (qs.flatMap enc7) (enc7_len qs) (by
    intro j u hu
    rw [← hu]
    by_cases h0 : j = 0
    · subst h0; simp [World.cell?, Addr.add, hB]
    · simp [World.cell?, Addr.add, h0, hB]) (enc7_one qs hq) (by simp only [maxLen]; omega) (by omega) hN
  have ht : ∀ (g : Nat) (c : Array Value) (t : TypeId) (fz : Nat × Nat), t ≠ 48 → W.heap[g]? = some (.cells c t fz) → w'.heap[g]? = some (.cells c t fz) := by
    intro g c t fz hne hg
    refine (h5.block g (Array.getElem?_eq_some_iff.1 hg).1 ?_).trans hg
    intro e
    rcases h2.2 with ⟨rfl, _⟩ | ⟨g2, cap, cur, rfl, _, hg2, _⟩
    · cases e
    · obtain rfl : g = g2 := by simpa [Value.ownBlock] using e
      rw [hg] at hg2
      simp only [Option.some.injEq, Obj.cells.injEq] at hg2
      exact hne hg2.2.1
  refine ⟨v', w', hr, ⟨ps ++ qs, by rw [List.length_append], by rw [List.flatMap_append]; exact h4, fun q hq2 => ?_⟩, ⟨h5.os, h5.tape, h5.output, h5.size, fun g hg => h5.block g (Nat.lt_of_lt_of_le hg hN) (by
    intro e
    have := (h2.lt g e.symm).1
    omega)⟩⟩
  rcases List.mem_append.1 hq2 with h7 | h7
  · exact (h3 q h7).turn ht
  · exact (hq q h7).turn ht
theorem wpList_append_ran {P : Program} {w : World} {ops : Array Oper} {rest : List Oper} {o : Oper} {a : Act} {Q : Exit → Act → World → Prop} (hgd : o.guard = none) (s x : Operand) (t : TypeId)
    (ho : o.op = .call { callee := .builtin .append, args := #[s, x], argTypes := #[t, t] }) {v u : Value} (hs : a.eval s = v) (hx : a.eval x = u) {D : Value → World → Prop} (hr : ∃ v' w', (Builtin.append_ #[t, t] o.type #[v, u]).run P w = .ok v' w' ∧ D v' w')
    (h : ∀ v' w', D v' w' → wpList P ops Q rest (a.put o.dst v') w') : wpList P ops Q (o :: rest) a w := by
  refine wpList_plain hgd fun K hK => ?_
  obtain ⟨v', w', hr, h2⟩ := hr
  unfold Oper.wp execOp
  simp only [ho, resolve, invoke, builtin, Sem.run_bind, Sem.run_pure, Result.andThen_ok, List.map_toArray, List.map_cons, List.map_nil, hs, hx, hr]
  exact hK _ _ (h v' w' h2)
theorem zer_len (k : Nat) : (zer k).length = k := by simp [zer]
theorem run_make_zer (k : Nat) (hk : k ≤ 1000000) (w : World) : (Instr.makeSlice 23 (.int .i64 k) (.int .i64 k)).run Tryz.prog w = .ok (.slice (some ⟨w.heap.size, 0, none⟩) k k) (w.alloc (.cells (encB (zer k)).toArray 5)) := by
  obtain ⟨i, hi, hi2⟩ := Option.map_eq_some_iff.1 info5
  simp only [Prod.mk.injEq] at hi2
  obtain ⟨hz, hs, hb⟩ := hi2
  have := run_make (P := Tryz.prog) w 23 5 i (.int .u8 0) Tryz.underlying23 hi hz .i64 .i64 k k (by omega) (by omega) (by rw [hb]; omega) (by omega)
  rw [this, hs]
  have e : madeCells (Value.cells (.int .u8 0)) ((k : Int).toNat * 1) = (encB (zer k)).toArray := by
    simp only [Int.toNat_natCast, Nat.mul_one]
    unfold encB zer
    rw [List.map_replicate]
    apply Array.ext'
    simp [madeCells, Value.cells]
    have : (fun x : Nat => [Value.int .u8 0][x % 1]?.getD default) = fun _ => Value.int .u8 0 := by funext x; simp [Nat.mod_one]
    rw [this, List.map_const']; simp
  rw [e]
  simp
theorem zero_disk (w : World) : NoD (.pointer (some ⟨w.heap.size, 0, none⟩)) (w.alloc (.cells #[.int .i64 0, .int .i64 0, .map none, .map none, .slice none 0 0, .bool false, .int .i64 0, .slice none 0 0] 45)) := by
  refine .inr ⟨_, rfl, by simp, ?_⟩
  simp only [World.cell?, heap_new]
  rfl
/-- A deed whose bytes are none and of which nothing is kept. -/
theorem dd_bare {kind n bit : Int} {x y : ByteArray} (h1 : -9223372036854775808 ≤ kind ∧ kind ≤ 9223372036854775807) (h2 : -9223372036854775808 ≤ n ∧ n ≤ 9223372036854775807) (h3 : -9223372036854775808 ≤ bit ∧ bit ≤ 9223372036854775807) (h4 : x.size ≤ 9223372036854775807) (h5 : y.size ≤ 9223372036854775807) : DdT W ⟨kind, x, y, [], n, bit, []⟩ nilS nilS :=
  ⟨⟨by simp, by simp, .inl ⟨rfl, rfl⟩⟩, ⟨by simp, by simp, .inl ⟨rfl, rfl⟩⟩, ⟨h1, h2, h3, h4, h5, by simp, by simp⟩⟩
/-- The names tried. -/
theorem name_at {M a : Nat} (h : W.heap[M]? = some (.cells #[.string ⟨#[]⟩, .string ⟨#[97]⟩, .string ⟨#[98]⟩, .string n41, .string (n41.extract 0 40)] 9)) (ha : a < 5) : ∃ x : ByteArray, W.cell? ⟨M, a, none⟩ = some (.string x) ∧ x.size ≤ 100 := by
  simp only [World.cell?, h, Option.isSome_none, Bool.false_eq_true, if_false]
  rcases (show a = 0 ∨ a = 1 ∨ a = 2 ∨ a = 3 ∨ a = 4 by omega) with rfl | rfl | rfl | rfl | rfl
  · exact ⟨_, rfl, by decide⟩
  · exact ⟨_, rfl, by decide⟩
  · exact ⟨_, rfl, by decide⟩
  · exact ⟨_, rfl, by decide⟩
  · exact ⟨_, rfl, by decide⟩
theorem room_at {M a : Nat} (h : W.heap[M]? = some (.cells #[.int .i64 (-1), .int .i64 0, .int .i64 1, .int .i64 10, .int .i64 16777216, .int .i64 16777217] 3)) (ha : a < 6) : ∃ x : Int, W.cell? ⟨M, a, none⟩ = some (.int .i64 x) ∧ -9223372036854775808 ≤ x ∧ x ≤ 9223372036854775807 := by
  simp only [World.cell?, h, Option.isSome_none, Bool.false_eq_true, if_false]
  rcases (show a = 0 ∨ a = 1 ∨ a = 2 ∨ a = 3 ∨ a = 4 ∨ a = 5 by omega) with rfl | rfl | rfl | rfl | rfl | rfl
  · exact ⟨_, rfl, by omega, by omega⟩
  · exact ⟨_, rfl, by omega, by omega⟩
  · exact ⟨_, rfl, by omega, by omega⟩
  · exact ⟨_, rfl, by omega, by omega⟩
  · exact ⟨_, rfl, by omega, by omega⟩
  · exact ⟨_, rfl, by omega, by omega⟩
theorem AtB.step {l : List Nat} (h : AtB w v l) (hb : Below w.heap.size w w') : AtB w' v l := by
  obtain ⟨b1, b2, b3⟩ := h
  refine ⟨b1, b2, ?_⟩
  rcases b3 with b3 | ⟨g, fz, cap, h1, h2⟩
  · exact .inl b3
  · exact .inr ⟨g, fz, cap, h1, (hb.block g (Array.getElem?_eq_some_iff.1 h2).1).trans h2⟩
theorem AtI.step {l : List Int} (h : AtI w v l) (hb : Below w.heap.size w w') : AtI w' v l := by
  obtain ⟨b1, b2, b3⟩ := h
  refine ⟨b1, b2, ?_⟩
  rcases b3 with b3 | ⟨g, fz, cap, h1, h2⟩
  · exact .inl b3
  · exact .inr ⟨g, fz, cap, h1, (hb.block g (Array.getElem?_eq_some_iff.1 h2).1).trans h2⟩
theorem AtB.shape {l : List Nat} (h : AtB w v l) : ∃ q c, v = .slice q l.length c := by
  rcases h.2.2 with ⟨rfl, rfl⟩ | ⟨g, fz, cap, rfl, _⟩ <;> exact ⟨_, _, rfl⟩
theorem AtI.shape {l : List Int} (h : AtI w v l) : ∃ q c, v = .slice q l.length c := by
  rcases h.2.2 with ⟨rfl, rfl⟩ | ⟨g, fz, cap, rfl, _⟩ <;> exact ⟨_, _, rfl⟩
theorem atb_new (w : World) {m c : Nat} (l : List Nat) (h1 : ∀ x ∈ l, x < 256) (h2 : l.length ≤ 100) (hm : m = l.length) : AtB (w.alloc (.cells (encB l).toArray 5)) (.slice (some ⟨w.heap.size, 0, none⟩) m c) l := ⟨h1, h2, .inr ⟨_, _, c, by rw [hm], heap_new _ _⟩⟩
theorem ati_new (w : World) {m c : Nat} (l : List Int) (h1 : ∀ x ∈ l, -9223372036854775808 ≤ x ∧ x ≤ 9223372036854775807) (h2 : l.length ≤ 100) (hm : m = l.length) : AtI (w.alloc (.cells (encI l).toArray 3)) (.slice (some ⟨w.heap.size, 0, none⟩) m c) l := ⟨h1, h2, .inr ⟨_, _, c, by rw [hm], heap_new _ _⟩⟩

theorem last25 {f : Value → Value → Value} {b : List Nat} {l : List Int} (h : ∃ u1 u2, AtB w u1 b ∧ AtI w u2 l ∧ v = f u1 u2) (hR : Below w.heap.size w w') : ∃ u1 u2, AtB w' u1 b ∧ AtI w' u2 l ∧ v = f u1 u2 := by
  obtain ⟨u1, u2, h1, h2, h3⟩ := h
  exact ⟨u1, u2, h1.step hR, h2.step hR, h3⟩
theorem last27 {f : Value → Value} {b : List Nat} (h : ∃ u1, AtB w u1 b ∧ v = f u1) (hR : Below w.heap.size w w') : ∃ u1, AtB w' u1 b ∧ v = f u1 := by
  obtain ⟨u1, h1, h3⟩ := h
  exact ⟨u1, h1.step hR, h3⟩
theorem last40 {f : Value → Value → Value → Obj} {b b' : List Nat} {l : List Int} (h : ∃ B u1 u2 u3, v = .slice (some ⟨B, 0, none⟩) 6 6 ∧ w.heap[B]? = some (f u1 u2 u3) ∧ AtB w u1 b ∧ AtI w u2 l ∧ AtB w u3 b') (hR : Below w.heap.size w w') : ∃ B u1 u2 u3, v = .slice (some ⟨B, 0, none⟩) 6 6 ∧ w'.heap[B]? = some (f u1 u2 u3) ∧ AtB w' u1 b ∧ AtI w' u2 l ∧ AtB w' u3 b' := by
  obtain ⟨B, u1, u2, u3, h1, h2, h3, h4, h5⟩ := h
  exact ⟨B, u1, u2, u3, h1, (hR.block B (Array.getElem?_eq_some_iff.1 h2).1).trans h2, h3.step hR, h4.step hR, h5.step hR⟩
def P25 (xa xb : ByteArray) (a k : Nat) (v : Value) (w : World) : Prop := ∃ u1 u2, AtB w u1 (zer a) ∧ AtI w u2 [(k : Int), -(k : Int), 1] ∧ v = .agg #[.int .i64 ((k : Int) * 7), .string xa, .string xb, u1, .int .i64 ((k : Int) - 8), .int .i64 ((k : Int) - 4), u2]
def P27 (v : Value) (w : World) : Prop := ∃ u3, AtB w u3 [1] ∧ v = .agg #[.int .i64 0, .string ⟨#[97]⟩, .string ⟨#[]⟩, u3, .int .i64 0, .int .i64 0, .slice none 0 0]
def P40 (xa xb : ByteArray) (a c k : Nat) (v : Value) (w : World) : Prop := ∃ B u1 u2 u3, v = .slice (some ⟨B, 0, none⟩) 6 6 ∧ w.heap[B]? = some (.cells ([(⟨(k : Int) * 7, xa, xb, zer a, (k : Int) - 8, (k : Int) - 4, [(k : Int), -(k : Int), 1]⟩, u1, u2), (⟨0, ta, ⟨#[]⟩, [1], 0, 0, []⟩, u3, nilS), (⟨8, ta, ⟨#[]⟩, [], (k : Int) - 3, (c : Int), []⟩, nilS, nilS), (⟨9, ta, ⟨#[]⟩, [], (k : Int) - 2, 0, []⟩, nilS, nilS), (⟨2, ta, ta, [], 0, 0, []⟩, nilS, nilS), (⟨(a : Int), ta, tb, [], 0, 0, []⟩, nilS, nilS)].flatMap enc7).toArray 48) ∧ AtB w u1 (zer a) ∧ AtI w u2 [(k : Int), -(k : Int), 1] ∧ AtB w u3 [1]
theorem deeds_one (w : World) (z : Int) (hz : -9223372036854775808 ≤ z ∧ z ≤ 9223372036854775807) : Deeds w.heap.size ((w.alloc (.cells #[.int .i64 2, .int .i64 1, .int .i64 (-1)] 3)).alloc (.cells #[.int .i64 6, .string ⟨#[]⟩, .string ⟨#[]⟩, .slice none 0 0, .int .i64 z, .int .i64 0, .slice (some ⟨w.heap.size, 0, none⟩) 3 3] 48)) (.slice (some ⟨w.heap.size + 1, 0, none⟩) 1 1) (1 + 6 * 0) := by
  refine ⟨[(⟨6, ⟨#[]⟩, ⟨#[]⟩, [], z, 0, [2, 1, -1]⟩, nilS, .slice (some ⟨w.heap.size, 0, none⟩) 3 3)], rfl, ⟨rfl, .inr ⟨w.heap.size + 1, 1, #[.int .i64 6, .string ⟨#[]⟩, .string ⟨#[]⟩, .slice none 0 0, .int .i64 z, .int .i64 0, .slice (some ⟨w.heap.size, 0, none⟩) 3 3], rfl, by omega, ?_, by omega, by simp [maxLen], rfl, rfl⟩⟩, ?_⟩
  · have := heap_new (w.alloc (.cells #[.int .i64 2, .int .i64 1, .int .i64 (-1)] 3)) (.cells #[.int .i64 6, .string ⟨#[]⟩, .string ⟨#[]⟩, .slice none 0 0, .int .i64 z, .int .i64 0, .slice (some ⟨w.heap.size, 0, none⟩) 3 3] 48)
    rw [World.size_alloc] at this
    exact this
  · intro q hq
    rw [List.mem_singleton] at hq
    subst hq
    refine ⟨⟨by simp, by simp, .inl ⟨rfl, rfl⟩⟩, ⟨by simp, by simp, .inr ⟨w.heap.size, (0, 0), 3, rfl, ?_⟩⟩, ⟨by simp, hz, by simp, by simp only; decide, by simp only; decide, by simp, by simp⟩⟩
    exact (Below.heap_alloc _ _ _ (by simp)).trans (heap_new _ _)

set_option maxRecDepth 100000 in
set_option maxHeartbeats 16000000 in
theorem diskNames_any (w : World) : Calls Tryz.prog 3 #[] w fun e w' => e = .returned (.bool true) ∧ Below w.heap.size w w' := by
  have j7 := fun v W h => read_none v ⟨#[97]⟩ W h
  have j8 := fun v W h => size_none v ⟨#[97]⟩ W h
  have j9 := fun v W h => crash_none v W h
  have j10 := fun v W h => fail_none v W h
  have j11 := fun v W h => boot_none v W h
  have j12 := fun v W h => append_none v W h
  have j13 := fun v W h => sync_none v W h
  have j14 := fun v W h => rename_none v W h
  have j15 := fun v W h => remove_none v W h
  have j16 := fun v W h => syncNames_none v W h
  have j17 := fun v W h => cut_none v W h
  have j18 := fun v W h => turn_none v W h
  have j19 := fun v W h => names_none v W h
  have j20 := fun v W h => left_none v W h
  have j21 := fun v W h => dead_none v W h
  replace j7 : Hid _ := j7
  replace j8 : Hid _ := j8
  replace j9 : Hid _ := j9
  replace j10 : Hid _ := j10
  replace j11 : Hid _ := j11
  replace j12 : Hid _ := j12
  replace j13 : Hid _ := j13
  replace j14 : Hid _ := j14
  replace j15 : Hid _ := j15
  replace j16 : Hid _ := j16
  replace j17 : Hid _ := j17
  replace j18 : Hid _ := j18
  replace j19 : Hid _ := j19
  replace j20 : Hid _ := j20
  replace j21 : Hid _ := j21
  go_enter Tryz.func3, Tryz.ntmps3
  go_wp2_with fail
  go_loopw [2, 1] (fun i v wr => ∃ k : Nat, k ≤ 2 ∧ i = .int .i64 k ∧ NoD v wr ∧ Below w.heap.size w wr) (fun i _ _ => 2 - (intOf i).toNat)
  case atStart => exact ⟨0, by omega, rfl, .inl rfl, Below.refl _ _⟩
  case round =>
    obtain ⟨k, hk, rfl, hN, hB⟩ := hrel
    by_cases hlt : k < 2
    · have hltI : (k : Int) < 2 := by omega
      replace hN : Hid (NoD _ wr) := hN
      go_wp2_with (first
        | (go_at_call 7; refine (j7.out _ _ hN.out).mono ?_; rintro e w1 ⟨rfl, hw1⟩; obtain rfl := hw1.symm)
        | (go_at_call 8; refine (j8.out _ _ hN.out).mono ?_; rintro e w1 ⟨rfl, hw1⟩; obtain rfl := hw1.symm)
        | (go_at_call 9; refine (j9.out _ _ hN.out).mono ?_; rintro e w1 ⟨rfl, hw1⟩; obtain rfl := hw1.symm)
        | (go_at_call 10; refine (j10.out _ _ hN.out).mono ?_; rintro e w1 ⟨rfl, hw1⟩; obtain rfl := hw1.symm)
        | (go_at_call 11; refine (j11.out _ _ hN.out).mono ?_; rintro e w1 ⟨rfl, hw1⟩; obtain rfl := hw1.symm)
        | (go_at_call 12; refine (j12.out _ _ hN.out).mono ?_; rintro e w1 ⟨rfl, hw1⟩; obtain rfl := hw1.symm)
        | (go_at_call 13; refine (j13.out _ _ hN.out).mono ?_; rintro e w1 ⟨rfl, hw1⟩; obtain rfl := hw1.symm)
        | (go_at_call 14; refine (j14.out _ _ hN.out).mono ?_; rintro e w1 ⟨rfl, hw1⟩; obtain rfl := hw1.symm)
        | (go_at_call 15; refine (j15.out _ _ hN.out).mono ?_; rintro e w1 ⟨rfl, hw1⟩; obtain rfl := hw1.symm)
        | (go_at_call 16; refine (j16.out _ _ hN.out).mono ?_; rintro e w1 ⟨rfl, hw1⟩; obtain rfl := hw1.symm)
        | (go_at_call 17; refine (j17.out _ _ hN.out).mono ?_; rintro e w1 ⟨rfl, hw1⟩; obtain rfl := hw1.symm)
        | (go_at_call 18; refine (j18.out _ _ hN.out).mono ?_; rintro e w1 ⟨rfl, hw1⟩; obtain rfl := hw1.symm)
        | (go_at_call 19; refine (j19.out _ _ hN.out).mono ?_; rintro e w1 ⟨rfl, hw1⟩; obtain rfl := hw1.symm)
        | (go_at_call 20; refine (j20.out _ _ hN.out).mono ?_; rintro e w1 ⟨rfl, hw1⟩; obtain rfl := hw1.symm)
        | (go_at_call 21; refine (j21.out _ _ hN.out).mono ?_; rintro e w1 ⟨rfl, hw1⟩; obtain rfl := hw1.symm))
      go_roundw
      case rel => exact ⟨k + 1, by omega, by go_num, zero_disk _, hB.trans ((Below.refl _ _).alloc (Nat.le_refl _) _ |>.mono hB.size)⟩
      case measure => simp [intOf]; omega
    · have hltI : ¬ (k : Int) < 2 := by omega
      clear hN j7 j8 j9 j10 j11 j12 j13 j14 j15 j16 j17 j18 j19 j20 j21
      rename World => w1
      have hrep := repeat_n w1
      have hs41 : n41.size = 41 := by decide
      go_wp2_with (go_at_call 22; refine hrep.mono ?_; clear hrep; rintro e w2 ⟨rfl, hb2⟩)
      obtain ⟨w8, hw8⟩ : ∃ w8, ((w2.alloc (.cells #[.int .i64 (-1), .int .i64 0, .int .i64 1, .int .i64 10, .int .i64 16777216, .int .i64 16777217] 3)).alloc (.cells #[.string ⟨#[]⟩, .string ⟨#[97]⟩, .string ⟨#[98]⟩, .string n41, .string (n41.extract 0 40)] 9)) = w8 := ⟨_, rfl⟩
      have hhr : w8.heap[w2.heap.size]? = some (.cells #[.int .i64 (-1), .int .i64 0, .int .i64 1, .int .i64 10, .int .i64 16777216, .int .i64 16777217] 3) := by
        rw [← hw8]; exact (Below.heap_alloc _ _ _ (by simp)).trans (heap_new _ _)
      have hhn : w8.heap[w2.heap.size + 1]? = some (.cells #[.string ⟨#[]⟩, .string ⟨#[97]⟩, .string ⟨#[98]⟩, .string n41, .string (n41.extract 0 40)] 9) := by
        have := heap_new (w2.alloc (.cells #[.int .i64 (-1), .int .i64 0, .int .i64 1, .int .i64 10, .int .i64 16777216, .int .i64 16777217] 3)) (.cells #[.string ⟨#[]⟩, .string ⟨#[97]⟩, .string ⟨#[98]⟩, .string n41, .string (n41.extract 0 40)] 9)
        rw [World.size_alloc, hw8] at this
        exact this
      have hB8 : Below w.heap.size w w8 := by
        rw [← hw8]
        have hB2 := hB.trans (hb2.mono hB.size)
        exact (hB2.alloc hB2.size _).alloc (by simp; have := hB2.size; omega) _
      have hR8 : w2.heap.size < w8.heap.size := (Array.getElem?_eq_some_iff.1 hhr).1
      have hM8 : w2.heap.size + 1 < w8.heap.size := (Array.getElem?_eq_some_iff.1 hhn).1
      rw [hw8]
      clear hw8 hb2 hB
      generalize hM0 : w2.heap.size + 1 = M at *
      generalize w2.heap.size = RR at *
      clear hM0
      replace hhr : Hid _ := hhr
      replace hhn : Hid _ := hhn
      have hdo : Hid (∀ (r : Int) v D W, -9223372036854775808 ≤ r → r ≤ 9223372036854775807 → DdsIn W v D → Calls Tryz.prog 23 #[.int .i64 r, v] W fun e w' => e = .returned (.bool true) ∧ Below W.heap.size W w') := fun r v D W h1 h2 h3 => diskDoes_any r v D W h1 h2 h3 (fun W2 => awakeD_any W2)
      have haw : Hid (∀ W, Calls Tryz.prog 24 #[] W fun e w' => e = .returned (.bool true) ∧ Below W.heap.size W w') := fun W => awakeD_any W
      go_loopw [10] (fun i wr => ∃ k : Nat, k ≤ 6 ∧ i = .int .i64 k ∧ Below w8.heap.size w8 wr) (fun i _ => 6 - (intOf i).toNat)
      case atStart => exact ⟨0, by omega, rfl, Below.refl _ _⟩
      case round =>
        obtain ⟨i, hi, rfl, hBi⟩ := hrel
        by_cases hlt : i < 6
        · have hltI : (i : Int) < 6 := by omega
          rename World => wi
          go_wp2_with fail
          go_loopw [11] (fun z wr => ∃ j : Nat, j ≤ 18 ∧ z = .int .i64 ((j : Int) - 2) ∧ Below w8.heap.size w8 wr) (fun z _ => 18 - (intOf z + 2).toNat)
          case atStart => exact ⟨0, by omega, rfl, hBi⟩
          case round =>
            clear hBi
            obtain ⟨j, hj, rfl, hBj⟩ := hrel
            by_cases hlt2 : j < 18
            · have hltJ : (j : Int) - 2 < 16 := by omega
              rename World => wj
              go_wp2_with fail
              obtain ⟨wk, hwk⟩ : ∃ wk, ((wj.alloc (.cells #[.int .i64 2, .int .i64 1, .int .i64 (-1)] 3)).alloc (.cells #[.int .i64 6, .string ⟨#[]⟩, .string ⟨#[]⟩, .slice none 0 0, .int .i64 ((j : Int) - 2), .int .i64 0, .slice (some ⟨wj.heap.size, 0, none⟩) 3 3] 48)) = wk := ⟨_, rfl⟩
              have hD0 : Deeds wj.heap.size wk (.slice (some ⟨wj.heap.size + 1, 0, none⟩) 1 1) (1 + 6 * 0) := by rw [← hwk]; exact deeds_one wj ((j : Int) - 2) (by omega)
              have hBk : Below wj.heap.size wj wk := by rw [← hwk]; exact ((Below.refl _ _).alloc (Nat.le_refl _) _).alloc (by simp) _
              rw [hwk]
              clear hwk
              go_loopw [13, 12] (fun z v wr => ∃ k : Nat, k ≤ 16 ∧ z = .int .i64 k ∧ Deeds wj.heap.size wr v (1 + 6 * k) ∧ Below wj.heap.size wj wr) (fun z _ _ => 16 - (intOf z).toNat)
              case atStart => exact ⟨0, by omega, rfl, hD0, hBk⟩
              case round =>
                clear hD0 hBk
                obtain ⟨k, hk, rfl, hD, hBr⟩ := hrel
                have hNr : wj.heap.size ≤ wr.heap.size := hBr.size
                have hMj : M < wj.heap.size := Nat.lt_of_lt_of_le hM8 hBj.size
                have hRj : RR < wj.heap.size := Nat.lt_of_lt_of_le hR8 hBj.size
                have hhn2 := (hBr.block _ hMj).trans ((hBj.block _ hM8).trans hhn.out)
                have hhr2 := (hBr.block _ hRj).trans ((hBj.block _ hR8).trans hhr.out)
                have hM : M < wr.heap.size := Nat.lt_of_lt_of_le hMj hNr
                by_cases hlt3 : k < 16
                · have hltK : (k : Int) < 16 := by omega
                  obtain ⟨a, ha, ha5⟩ : ∃ a : Nat, (k : Int).tmod 5 = (a : Int) ∧ a < 5 := ⟨k % 5, by rw [Int.tmod_eq_emod_of_nonneg (by omega)]; omega, by omega⟩
                  obtain ⟨b, hb, hb5⟩ : ∃ b : Nat, ((k : Int).tdiv 2).tmod 5 = (b : Int) ∧ b < 5 := ⟨(k / 2) % 5, by rw [Int.tdiv_eq_ediv_of_nonneg (by omega), Int.tmod_eq_emod_of_nonneg (by omega)]; omega, by omega⟩
                  obtain ⟨c, hc, hc9⟩ : ∃ c : Nat, (k : Int).tmod 9 = (c : Int) ∧ c < 9 := ⟨k % 9, by rw [Int.tmod_eq_emod_of_nonneg (by omega)]; omega, by omega⟩
                  obtain ⟨xa, hxa, hxas⟩ := name_at hhn2 ha5
                  obtain ⟨xb, hxb, hxbs⟩ := name_at hhn2 hb5
                  have f1 : IntKind.i64.wrap ((k : Int) * 7) = (k : Int) * 7 := IntWalk.i64_in _ (by omega)
                  have f2 : IntKind.i64.wrap ((k : Int) - 8) = (k : Int) - 8 := IntWalk.i64_in _ (by omega)
                  have f3 : IntKind.i64.wrap ((k : Int) - 4) = (k : Int) - 4 := IntWalk.i64_in _ (by omega)
                  have f4 : IntKind.i64.wrap (-(k : Int)) = -(k : Int) := IntWalk.i64_in _ (by omega)
                  have f5 : IntKind.i64.wrap ((k : Int) - 3) = (k : Int) - 3 := IntWalk.i64_in _ (by omega)
                  have f6 : IntKind.i64.wrap ((k : Int) - 2) = (k : Int) - 2 := IntWalk.i64_in _ (by omega)
                  have f7 : (k : Int) % 5 = (a : Int) := by rw [← ha, Int.tmod_eq_emod_of_nonneg (by omega)]
                  have f8 : ((k : Int) / 2) % 5 = (b : Int) := by rw [← hb, Int.tdiv_eq_ediv_of_nonneg (by omega), Int.tmod_eq_emod_of_nonneg (by omega)]
                  have f9 : (k : Int) % 9 = (c : Int) := by rw [← hc, Int.tmod_eq_emod_of_nonneg (by omega)]
                  have f10 : IntKind.i64.wrap ((k : Int) / 2) = (k : Int) / 2 := IntWalk.i64_in _ (by omega)
                  have f11 : ((k : Int) / 2).tmod 5 = (b : Int) := by rw [Int.tmod_eq_emod_of_nonneg (by omega)]; exact f8
                  have a1 : (0 : Int) ≤ (a : Int) := by omega
                  have a2 : (a : Int) < 5 := by omega
                  have b1 : (0 : Int) ≤ (b : Int) := by omega
                  have b2 : (b : Int) < 5 := by omega
                  replace hD : Hid (Deeds _ _ _ _) := hD
                  replace hhn2 : Hid _ := hhn2
                  replace hhr2 : Hid _ := hhr2
                  replace hxas : Hid _ := hxas
                  replace hxbs : Hid _ := hxbs
                  replace hk : Hid _ := hk
                  replace hj : Hid _ := hj
                  replace hi : Hid _ := hi
                  clear hs41
                  go_wp2_with fail
                  refine poised_then 41 (fun w2 => Below wr.heap.size wr w2) (fun w1 w2 => Below w1.heap.size w1 w2) (by kernel_rfl) (by kernel_rfl) (by kernel_rfl) (fun _ _ h k => h.trans (k.mono h.size)) ((Below.refl _ _).drew) ?_
                  apply Exists.intro
                  simp only [List.take_succ_cons, List.take_zero]
                  apply walk_det
                  · rfl
                  · intro w2 hC hF
                    simp only [upon]
                    go_simp
                    exact ⟨Below.refl _ _, rfl⟩
                  simp only [put_lit, List.set_cons_succ, List.set_cons_zero]
                  apply walk_det
                  · rfl
                  · intro w2 hC hF
                    simp only [upon]
                    go_simp
                    exact ⟨Below.refl _ _, rfl⟩
                  simp only [put_lit, List.set_cons_succ, List.set_cons_zero]
                  apply walk_det
                  · rfl
                  · intro w2 hC hF
                    simp only [upon]
                    go_simp
                    exact ⟨Below.refl _ _, rfl⟩
                  simp only [put_lit, List.set_cons_succ, List.set_cons_zero]
                  apply walk_det
                  · rfl
                  · intro w2 hC hF
                    simp only [upon]
                    go_simp
                    exact ⟨Below.refl _ _, rfl⟩
                  simp only [put_lit, List.set_cons_succ, List.set_cons_zero]
                  apply walk_det
                  · rfl
                  · intro w2 hC hF
                    simp only [upon]
                    go_simp
                    exact ⟨Below.refl _ _, rfl⟩
                  simp only [put_lit, List.set_cons_succ, List.set_cons_zero]
                  apply walk_det
                  · rfl
                  · intro w2 hC hF
                    simp only [upon]
                    go_simp
                    exact ⟨Below.refl _ _, rfl⟩
                  simp only [put_lit, List.set_cons_succ, List.set_cons_zero]
                  apply walk_det
                  · rfl
                  · intro w2 hC hF
                    have e1 := (hC.cell (p := ⟨M, a, none⟩) hM).trans hxa
                    simp only [upon]
                    go_simp
                    exact ⟨Below.refl _ _, rfl⟩
                  simp only [put_lit, List.set_cons_succ, List.set_cons_zero]
                  apply walk_det
                  · rfl
                  · intro w2 hC hF
                    have e1 := (hC.cell (p := ⟨M, a, none⟩) hM).trans hxa
                    simp only [upon]
                    go_simp
                    exact ⟨Below.refl _ _, rfl⟩
                  simp only [put_lit, List.set_cons_succ, List.set_cons_zero]
                  apply walk_det
                  · rfl
                  · intro w2 hC hF
                    simp only [upon]
                    go_simp
                    exact ⟨Below.refl _ _, rfl⟩
                  simp only [put_lit, List.set_cons_succ, List.set_cons_zero]
                  apply walk_det
                  · rfl
                  · intro w2 hC hF
                    simp only [upon]
                    go_simp
                    exact ⟨Below.refl _ _, rfl⟩
                  simp only [put_lit, List.set_cons_succ, List.set_cons_zero]
                  apply walk_det
                  · rfl
                  · intro w2 hC hF
                    simp only [upon]
                    go_simp
                    exact ⟨Below.refl _ _, rfl⟩
                  simp only [put_lit, List.set_cons_succ, List.set_cons_zero]
                  apply walk_det
                  · rfl
                  · intro w2 hC hF
                    simp only [upon]
                    go_simp
                    exact ⟨Below.refl _ _, rfl⟩
                  simp only [put_lit, List.set_cons_succ, List.set_cons_zero]
                  apply walk_det
                  · rfl
                  · intro w2 hC hF
                    have e1 := (hC.cell (p := ⟨M, b, none⟩) hM).trans hxb
                    simp only [upon]
                    go_simp
                    exact ⟨Below.refl _ _, rfl⟩
                  simp only [put_lit, List.set_cons_succ, List.set_cons_zero]
                  apply walk_det
                  · rfl
                  · intro w2 hC hF
                    have e1 := (hC.cell (p := ⟨M, b, none⟩) hM).trans hxb
                    simp only [upon]
                    go_simp
                    exact ⟨Below.refl _ _, rfl⟩
                  simp only [put_lit, List.set_cons_succ, List.set_cons_zero]
                  apply walk_det
                  · rfl
                  · intro w2 hC hF
                    simp only [upon]
                    go_simp
                    exact ⟨Below.refl _ _, rfl⟩
                  simp only [put_lit, List.set_cons_succ, List.set_cons_zero]
                  apply walk_det
                  · rfl
                  · intro w2 hC hF
                    simp only [upon]
                    go_simp
                    exact ⟨Below.refl _ _, rfl⟩
                  simp only [put_lit, List.set_cons_succ, List.set_cons_zero]
                  apply walk_free (fun v w' => AtB w' v (zer a)) (fun _ _ _ _ hR h => h.step hR)
                  · rfl
                  · intro w2 hC hF
                    have hmk := run_make_zer a (by omega) w2
                    simp only [upon]
                    go_simp
                    exact ⟨(Below.refl _ _).alloc (Nat.le_refl _) _, atb_new _ (zer a) (by intro x hx; unfold zer at hx; rw [List.mem_replicate] at hx; omega) (by rw [zer_len]; omega) (by rw [zer_len])⟩
                  intro v1
                  simp only [put_lit, List.set_cons_succ, List.set_cons_zero]
                  apply walk_det
                  · rfl
                  · intro w2 hC hF
                    simp only [upon]
                    go_simp
                    exact ⟨Below.refl _ _, rfl⟩
                  simp only [put_lit, List.set_cons_succ, List.set_cons_zero]
                  apply walk_det
                  · rfl
                  · intro w2 hC hF
                    simp only [upon]
                    go_simp
                    exact ⟨Below.refl _ _, rfl⟩
                  simp only [put_lit, List.set_cons_succ, List.set_cons_zero]
                  apply walk_det
                  · rfl
                  · intro w2 hC hF
                    simp only [upon]
                    go_simp
                    exact ⟨Below.refl _ _, rfl⟩
                  simp only [put_lit, List.set_cons_succ, List.set_cons_zero]
                  apply walk_det
                  · rfl
                  · intro w2 hC hF
                    simp only [upon]
                    go_simp
                    exact ⟨Below.refl _ _, rfl⟩
                  simp only [put_lit, List.set_cons_succ, List.set_cons_zero]
                  apply walk_det
                  · rfl
                  · intro w2 hC hF
                    simp only [upon]
                    go_simp
                    exact ⟨Below.refl _ _, rfl⟩
                  simp only [put_lit, List.set_cons_succ, List.set_cons_zero]
                  apply walk_det
                  · rfl
                  · intro w2 hC hF
                    simp only [upon]
                    go_simp
                    exact ⟨Below.refl _ _, rfl⟩
                  simp only [put_lit, List.set_cons_succ, List.set_cons_zero]
                  apply walk_det
                  · rfl
                  · intro w2 hC hF
                    simp only [upon]
                    go_simp
                    exact ⟨Below.refl _ _, rfl⟩
                  simp only [put_lit, List.set_cons_succ, List.set_cons_zero]
                  apply walk_free (fun v w' => AtI w' v [(k : Int), -(k : Int), 1]) (fun _ _ _ _ hR h => h.step hR)
                  · rfl
                  · intro w2 hC hF
                    simp only [upon]
                    go_simp
                    exact ⟨(Below.refl _ _).alloc (Nat.le_refl _) _, ati_new _ [(k : Int), -(k : Int), 1] (by intro x hx; simp only [List.mem_cons, List.not_mem_nil, or_false] at hx; omega) (by simp) rfl⟩
                  intro v2
                  simp only [put_lit, List.set_cons_succ, List.set_cons_zero]
                  apply walk_free (fun v w' => P25 xa xb a k v w') (fun _ _ _ _ hR h => last25 h hR)
                  · rfl
                  · intro w2 hC hF
                    have g1 : AtB w2 v1 (zer a) := hF 16 (by kernel_rfl)
                    have g2 : AtI w2 v2 [(k : Int), -(k : Int), 1] := hF 24 (by kernel_rfl)
                    obtain ⟨B1, C1, hv1⟩ := g1.shape
                    obtain ⟨B2, C2, hv2⟩ := g2.shape
                    rw [hv1] at g1
                    rw [hv2] at g2
                    replace g1 : Hid (AtB _ _ _) := g1
                    replace g2 : Hid (AtI _ _ _) := g2
                    clear hF
                    subst hv1 hv2
                    simp only [upon]
                    go_simp
                    exact ⟨Below.refl _ _, _, _, g1.out, g2.out, rfl⟩
                  intro v5
                  simp only [put_lit, List.set_cons_succ, List.set_cons_zero]
                  apply walk_free (fun v w' => AtB w' v [1]) (fun _ _ _ _ hR h => h.step hR)
                  · rfl
                  · intro w2 hC hF
                    simp only [upon]
                    go_simp
                    exact ⟨(Below.refl _ _).alloc (Nat.le_refl _) _, atb_new _ [1] (by simp) (by simp) rfl⟩
                  intro v3
                  simp only [put_lit, List.set_cons_succ, List.set_cons_zero]
                  apply walk_free (fun v w' => P27 v w') (fun _ _ _ _ hR h => last27 h hR)
                  · rfl
                  · intro w2 hC hF
                    have g3 : AtB w2 v3 [1] := hF 26 (by kernel_rfl)
                    obtain ⟨B3, C3, hv3⟩ := g3.shape
                    rw [hv3] at g3
                    replace g3 : Hid (AtB _ _ _) := g3
                    clear hF
                    subst hv3
                    simp only [upon]
                    go_simp
                    exact ⟨Below.refl _ _, _, g3.out, rfl⟩
                  intro v6
                  simp only [put_lit, List.set_cons_succ, List.set_cons_zero]
                  apply walk_det
                  · rfl
                  · intro w2 hC hF
                    simp only [upon]
                    go_simp
                    exact ⟨Below.refl _ _, rfl⟩
                  simp only [put_lit, List.set_cons_succ, List.set_cons_zero]
                  apply walk_det
                  · rfl
                  · intro w2 hC hF
                    simp only [upon]
                    go_simp
                    exact ⟨Below.refl _ _, rfl⟩
                  simp only [put_lit, List.set_cons_succ, List.set_cons_zero]
                  apply walk_det
                  · rfl
                  · intro w2 hC hF
                    simp only [upon]
                    go_simp
                    exact ⟨Below.refl _ _, rfl⟩
                  simp only [put_lit, List.set_cons_succ, List.set_cons_zero]
                  apply walk_det
                  · rfl
                  · intro w2 hC hF
                    simp only [upon]
                    go_simp
                    exact ⟨Below.refl _ _, rfl⟩
                  simp only [put_lit, List.set_cons_succ, List.set_cons_zero]
                  apply walk_det
                  · rfl
                  · intro w2 hC hF
                    simp only [upon]
                    go_simp
                    exact ⟨Below.refl _ _, rfl⟩
                  simp only [put_lit, List.set_cons_succ, List.set_cons_zero]
                  apply walk_det
                  · rfl
                  · intro w2 hC hF
                    simp only [upon]
                    go_simp
                    exact ⟨Below.refl _ _, rfl⟩
                  simp only [put_lit, List.set_cons_succ, List.set_cons_zero]
                  apply walk_det
                  · rfl
                  · intro w2 hC hF
                    simp only [upon]
                    go_simp
                    exact ⟨Below.refl _ _, rfl⟩
                  simp only [put_lit, List.set_cons_succ, List.set_cons_zero]
                  apply walk_det
                  · rfl
                  · intro w2 hC hF
                    simp only [upon]
                    go_simp
                    exact ⟨Below.refl _ _, rfl⟩
                  simp only [put_lit, List.set_cons_succ, List.set_cons_zero]
                  apply walk_det
                  · rfl
                  · intro w2 hC hF
                    simp only [upon]
                    go_simp
                    exact ⟨Below.refl _ _, rfl⟩
                  simp only [put_lit, List.set_cons_succ, List.set_cons_zero]
                  apply walk_det
                  · rfl
                  · intro w2 hC hF
                    simp only [upon]
                    go_simp
                    exact ⟨Below.refl _ _, rfl⟩
                  simp only [put_lit, List.set_cons_succ, List.set_cons_zero]
                  apply walk_det
                  · rfl
                  · intro w2 hC hF
                    simp only [upon]
                    go_simp
                    exact ⟨Below.refl _ _, rfl⟩
                  simp only [put_lit, List.set_cons_succ, List.set_cons_zero]
                  apply walk_det
                  · rfl
                  · intro w2 hC hF
                    simp only [upon]
                    go_simp
                    exact ⟨Below.refl _ _, rfl⟩
                  simp only [put_lit, List.set_cons_succ, List.set_cons_zero]
                  apply walk_free (fun v w' => P40 xa xb a c k v w') (fun _ _ _ _ hR h => last40 h hR)
                  · rfl
                  · intro w2 hC hF
                    have hP1 : P25 xa xb a k v5 w2 := hF 25 (by kernel_rfl)
                    have hP2 : P27 v6 w2 := hF 27 (by kernel_rfl)
                    obtain ⟨u1, u2, g1, g2, e1⟩ := hP1
                    obtain ⟨u3, g3, e2⟩ := hP2
                    clear hF
                    subst e1 e2
                    obtain ⟨B1, C1, hv1⟩ := g1.shape
                    obtain ⟨B2, C2, hv2⟩ := g2.shape
                    obtain ⟨B3, C3, hv3⟩ := g3.shape
                    subst hv1 hv2 hv3
                    replace g1 : Hid (AtB _ _ _) := g1
                    replace g2 : Hid (AtI _ _ _) := g2
                    replace g3 : Hid (AtB _ _ _) := g3
                    simp only [upon]
                    go_simp
                    exact ⟨(Below.refl _ _).alloc (Nat.le_refl _) _, _, _, _, _, rfl, heap_new _ _, g1.out.step ((Below.refl _ _).alloc (Nat.le_refl _) _), g2.out.step ((Below.refl _ _).alloc (Nat.le_refl _) _), g3.out.step ((Below.refl _ _).alloc (Nat.le_refl _) _)⟩
                  intro v4
                  simp only [put_lit, List.set_cons_succ, List.set_cons_zero]
                  apply walk_nil
                  intro w4 hb4 hF
                  have hP : P40 xa xb a c k v4 w4 := hF 40
                  obtain ⟨B4, u1, u2, u3, rfl, g4, g1, g2, g3⟩ := hP
                  clear hF
                  have happ := deeds_append (hD.out.below hb4) (by have := hk.out; omega) (Nat.le_trans hNr hb4.size) (B := B4) (c := 6) _ g4 (by
                    intro q hq
                    simp only [List.mem_cons, List.not_mem_nil, or_false] at hq
                    have := hk.out
                    rcases hq with rfl | rfl | rfl | rfl | rfl | rfl
                    · exact ⟨g1, g2, ⟨by simp only; omega, by simp only; omega, by simp only; omega, by have := hxas.out; simp only; omega, by have := hxbs.out; simp only; omega, ⟨g1.1, by have := g1.2.1; simp only; omega⟩, ⟨g2.1, by simp⟩⟩⟩
                    · exact ⟨g3, ⟨by simp, by simp, .inl ⟨rfl, rfl⟩⟩, ⟨by simp, by simp, by simp, by simp only; decide, by simp only; decide, ⟨g3.1, by simp⟩, by simp⟩⟩
                    · exact dd_bare (by omega) (by omega) (by omega) (by decide) (by decide)
                    · exact dd_bare (by omega) (by omega) (by omega) (by decide) (by decide)
                    · exact dd_bare (by omega) (by omega) (by omega) (by decide) (by decide)
                    · exact dd_bare (by omega) (by omega) (by omega) (by decide) (by decide)) (by simp)
                  replace happ : Hid _ := happ
                  simp only [List.drop_succ_cons, List.drop_zero]
                  refine wpList_append_ran rfl _ _ 49 rfl rfl rfl happ.out ?_
                  rintro v5 w5 ⟨hD5, hb5⟩
                  clear happ g1 g2 g3 g4
                  go_wp2_with fail
                  go_roundw
                  case rel => exact ⟨k + 1, by have := hk.out; omega, by go_num, hD5, hBr.trans ((hb4.mono hNr).trans hb5)⟩
                  case measure => simp [intOf]; omega
                · have hltK : ¬ (k : Int) < 16 := by omega
                  obtain ⟨D, hDD⟩ := hD.in (by omega) (by omega)
                  obtain ⟨rm, hrm, hrm1, hrm2⟩ := room_at hhr2 hlt
                  have hc := hdo.out rm u12 D wr hrm1 hrm2 hDD
                  clear hD hDD hhn2 hhr2
                  go_wp2_with (go_at_call 23; refine hc.mono ?_; clear hc; rintro e w6 ⟨rfl, hb6⟩)
                  go_roundw
                  case rel => exact ⟨j + 1, by omega, by go_num, hBj.trans ((hBr.trans (hb6.mono hNr)).mono hBj.size)⟩
                  case measure => simp [intOf]; omega
            · have hltJ : ¬ (j : Int) - 2 < 16 := by omega
              go_wp2_with fail
              go_roundw
              case rel => exact ⟨i + 1, by omega, by go_num, hBj⟩
              case measure => simp [intOf]; omega
        · have hltI : ¬ (i : Int) < 6 := by omega
          go_wp2_with (go_at_call 24; refine (haw.out _).mono ?_; rintro e w9 ⟨rfl, hb9⟩)
          go_returns
          exact ⟨rfl, hB8.trans ((hBi.mono hB8.size).trans (hb9.mono (Nat.le_trans hB8.size hBi.size)))⟩
end Go.Proofs.YtmcmagplaflegaaGreat
