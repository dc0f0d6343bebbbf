/-
  What a row's arguments are: slices of deeds, of numbers. Conditions: those of each theorem.
-/
import Derived.Test.YtbkkcbdbdogloaaCa
import Derived.Deep.Slices
import Derived.Deep.Fields
import Derived.ChangeSame
import Derived.ChangeSlices
namespace Go.Proofs.Ytbkkcbdbdogloaa
open Go Go.ChangeShapes Go.WideShapes Go.ChangeAt Go.RowKit Go.WideMaps Go.LawKit Go.Deep

section
variable {H : Type} {enc : TypeId × Value → H} {P : Program} {w : World} {base : Nat} {spare : Nat → Bool} {held : Bool}
theorem open_slice_fields {t e : TypeId} {fs : Array Field} {fuel : Nat} {cs : List Value} {x : DataW H × List MemPlace} (ht : P.underlying t = some (.slice e)) (he : P.underlying e = some (.struct fs))
    (hone : oneCellFields P fs = true) (hC : P.cellsOf e = fs.size) (h : DataW.trod enc P w base spare held fuel t cs = some x) :
    (cs = [.slice none 0 0] ∧ x = (.nil, [])) ∨
    ∃ (a : Addr) (len cap m : Nat) (D : Nat → DataW H) (Pl : Nat → List MemPlace), cs = [.slice (some a) len cap] ∧ base ≤ a.block ∧ len ≤ cap ∧ cap ≤ maxLen ∧ m = (if spare a.block then cap else len) ∧
      x = (.slice ((List.range len).map D) ((List.range (m - len)).map fun j => D (len + j)), MemPlace.row a (m * fs.size) ++ (List.range m).flatMap Pl) ∧
      ∀ i, i < m → ∃ (ys : List (DataW H × List MemPlace)) (n : Nat), D i = .agg (ys.map (·.1)) ∧ Pl i = ys.flatMap (·.2) ∧ ys.length = fs.size ∧
        ∀ (j : Nat) (f : Field), fs[j]? = some f → ∃ (v : Value) (y : DataW H × List MemPlace), w.cell? (a.add (i * fs.size + j)) = some v ∧ ys[j]? = some y ∧ DataW.trod enc P w base spare held n f.type [v] = some y := by
  rcases open_slice ht h with h0 | ⟨a, len, cap, m, n, D, Pl, hcs, hb, hl, hm, hmm, hx, hi⟩
  · exact .inl h0
  · refine .inr ⟨a, len, cap, m, D, Pl, hcs, hb, hl, hm, hmm, by rw [hC] at hx; exact hx, fun i him => ?_⟩
    obtain ⟨cs', hc, ht'⟩ := hi i him
    rw [hC] at hc
    obtain ⟨ys, n', hn', hy, hlen, hyl, hf⟩ := DataW.trod_struct he ht'
    obtain ⟨_, hcl, hat⟩ := World.cells?_some hc
    simp only [Prod.mk.injEq] at hy
    refine ⟨ys, n', hy.1, hy.2, hyl, fun j f hj => ?_⟩
    obtain ⟨ho, hk⟩ := hone_of hone j f hj
    have hjl : j < fs.size := (Array.getElem?_eq_some_iff.1 hj).1
    have hcell := hat j hjl
    have hv : cs'[j]? = some (cs'[j]'(by omega)) := List.getElem?_eq_getElem (by omega)
    have h1 := hf j f hj
    rw [ho, hk] at h1
    have hone' : (cs'.drop j).take 1 = [cs'[j]'(by omega)] := by
      rw [List.drop_eq_getElem_cons (by omega)]
      rfl
    rw [hone'] at h1
    have hys : ys[j]? = some (ys[j]'(by omega)) := List.getElem?_eq_getElem (by omega)
    refine ⟨_, _, ?_, hys, h1.trans hys⟩
    rw [← Go.Deep.add_add, hcell, hv]

theorem list_of {α : Type} {P : Nat → α → Prop} : ∀ (n : Nat), (∀ i, i < n → ∃ a, P i a) → ∃ l : List α, l.length = n ∧ ∀ i (h : i < l.length), P i l[i]
  | 0, _ => ⟨[], rfl, fun i h => by simp at h⟩
  | n+1, h => by
    obtain ⟨l, hl, hp⟩ := list_of n (fun i hi => h i (by omega))
    obtain ⟨a, ha⟩ := h n (by omega)
    refine ⟨l ++ [a], by simp [hl], fun i hi => ?_⟩
    by_cases hil : i < l.length
    · rw [List.getElem_append_left hil]; exact hp i hil
    · have : i = l.length := by simp at hi; omega
      subst this
      rw [List.getElem_concat_length rfl]
      rw [hl]; exact ha
end

section
variable {H : Type} {enc : TypeId × Value → H} {W : World} {fuel : Nat} {v : Value} {x : DataW H × List MemPlace}
theorem row_of_ints {t e : TypeId} {k : IntKind} (ht : Try.prog.underlying t = some (.slice e)) (he : Try.prog.underlying e = some (.int k)) (hc : Try.prog.cellsOf e = 1)
    (hf : DataW.trod enc Try.prog W 0 (fun _ => true) true fuel t [v] = some x) :
    ∃ l : List Int, (∀ z ∈ l, (Lit.int k z).wf = true) ∧ l.length ≤ 9223372036854775807 ∧ ((v = .slice none 0 0 ∧ l = []) ∨ (∃ a cap, v = .slice (some a) 0 cap ∧ l = []) ∨ ∃ b off cap, l.length ≤ cap ∧ v = .slice (some ⟨b, off, none⟩) l.length cap ∧ ∀ i, i < l.length → W.cell? ⟨b, off + i, none⟩ = some (.int k (l.getD i 0))) := by
  rcases open_ints ht he hc hf with ⟨h1, _⟩ | ⟨a, len, cap, zs, h1, _, hlc, hcm, hzl, _, hcells, hwf⟩
  · obtain rfl : v = .slice none 0 0 := by simpa using h1
    exact ⟨[], by simp, by simp, .inl ⟨rfl, rfl⟩⟩
  · obtain rfl : v = .slice (some a) len cap := by simpa using h1
    have hlen : len ≤ zs.length := by rw [hzl]; simp; omega
    have hmax : len ≤ 9223372036854775807 := by unfold maxLen at hcm; omega
    refine ⟨zs.take len, fun z hz => hwf z (List.mem_of_mem_take hz), by simp; omega, ?_⟩
    by_cases h0 : len = 0
    · subst h0; exact .inr (.inl ⟨a, cap, rfl, by simp⟩)
    · have hc0 := hcells 0 (by omega)
      rw [Addr.add_zero'] at hc0
      obtain ⟨b, off, spot⟩ := a
      obtain rfl : spot = none := by
        cases spot with
        | none => rfl
        | some n =>
          simp only [World.cell?] at hc0
          split at hc0 <;> simp at hc0
      have hl' : (zs.take len).length = len := by simp; omega
      refine .inr (.inr ⟨b, off, cap, by rw [hl']; exact hlc, by rw [hl'], fun i hi => ?_⟩)
      rw [hl'] at hi
      have hi' := hcells i (by omega)
      rw [add_plain] at hi'
      rw [hi']
      have : (zs.take len).getD i 0 = zs.getD i 0 := by
        simp [List.getD_eq_getElem?_getD, hi]
      rw [this]
theorem bytes_of (hf : DataW.trod enc Try.prog W 0 (fun _ => true) true fuel 28 [v] = some x) : ∃ l : List Nat, BytesIn W v l ∧ ∃ q cap, v = .slice q l.length cap ∧ l.length ≤ cap := by
  obtain ⟨l, hw, hl, h⟩ := row_of_ints Try.underlying28 Try.underlying5 (by kernel_rfl) hf
  have hz : ∀ z ∈ l, 0 ≤ z ∧ z < 256 := fun z hz => by
    have := hw z hz
    simp [Lit.wf, IntKind.min, IntKind.max, IntKind.signed, IntKind.bits] at this
    omega
  rcases h with ⟨rfl, rfl⟩ | ⟨a, cap, rfl, rfl⟩ | ⟨b, off, cap, hlc, rfl, hcell⟩
  · exact ⟨[], ⟨by simp, by simp, .inl ⟨rfl, rfl⟩⟩, none, 0, rfl, by simp⟩
  · exact ⟨[], ⟨by simp, by simp, .inr (.inl ⟨a, cap, rfl, rfl⟩)⟩, some a, cap, rfl, by simp⟩
  · have hl' : (l.map Int.toNat).length = l.length := List.length_map _
    refine ⟨l.map Int.toNat, ⟨?_, by rw [hl']; exact hl, .inr (.inr ⟨b, off, cap, by rw [hl'], fun k hk => ?_⟩)⟩, some ⟨b, off, none⟩, cap, by rw [hl'], by rw [hl']; exact hlc⟩
    · intro x hx
      obtain ⟨z, hz1, rfl⟩ := List.mem_map.1 hx
      have := hz z hz1
      omega
    · rw [hl'] at hk
      rw [hcell k hk]
      congr 2
      have := hz l[k] (List.getElem_mem hk)
      simp only [List.getD_eq_getElem?_getD, List.getElem?_map, List.getElem?_eq_getElem hk, Option.map_some, Option.getD_some]
      omega
theorem keep_of (hf : DataW.trod enc Try.prog W 0 (fun _ => true) true fuel 23 [v] = some x) : ∃ l : List Int, IntsIn W v l := by
  obtain ⟨l, hw, hl, h⟩ := row_of_ints Try.underlying23 Try.underlying3 (by kernel_rfl) hf
  refine ⟨l, fun z hz => wf_i64 (hw z hz), hl, ?_⟩
  rcases h with h | h | ⟨b, off, cap, _, h1, h2⟩
  · exact .inl h
  · exact .inr (.inl h)
  · exact .inr (.inr ⟨b, off, cap, h1, h2⟩)
theorem dds_of (hf : DataW.trod enc Try.prog W 0 (fun _ => true) true fuel 22 [v] = some x) : ∃ l : List Dd, DdsIn W v l := by
  rcases open_slice_fields Try.underlying22 Try.underlying30 (by kernel_rfl) (by kernel_rfl) hf with ⟨h1, _⟩ | ⟨a, len, cap, m, D, Pl, h1, _, hlc, hcm, hmm, _, hi⟩
  · obtain rfl : v = .slice none 0 0 := by simpa using h1
    exact ⟨[], by simp, .inl ⟨rfl, rfl⟩⟩
  · obtain rfl : v = .slice (some a) len cap := by simpa using h1
    have hmm' : m = cap := by rw [hmm]; rfl
    have hmax : len ≤ 9223372036854775807 := by unfold maxLen at hcm; omega
    have each : ∀ i, i < len → ∃ d : Dd, ∃ bv kv, DdIn W d bv kv ∧
        W.cell? (a.add (i * 7)) = some (.int .i64 d.kind) ∧ W.cell? (a.add (i * 7 + 1)) = some (.string d.name) ∧ W.cell? (a.add (i * 7 + 2)) = some (.string d.to) ∧ W.cell? (a.add (i * 7 + 3)) = some bv ∧
        W.cell? (a.add (i * 7 + 4)) = some (.int .i64 d.n) ∧ W.cell? (a.add (i * 7 + 5)) = some (.int .i64 d.bit) ∧ W.cell? (a.add (i * 7 + 6)) = some kv := by
      intro i hi2
      obtain ⟨ys, n, _, _, _, hf2⟩ := hi i (by omega)
      obtain ⟨v0, y0, c0, _, t0⟩ := hf2 0 _ rfl
      obtain ⟨v1, y1, c1, _, t1⟩ := hf2 1 _ rfl
      obtain ⟨v2, y2, c2, _, t2⟩ := hf2 2 _ rfl
      obtain ⟨v3, y3, c3, _, t3⟩ := hf2 3 _ rfl
      obtain ⟨v4, y4, c4, _, t4⟩ := hf2 4 _ rfl
      obtain ⟨v5, y5, c5, _, t5⟩ := hf2 5 _ rfl
      obtain ⟨v6, y6, c6, _, t6⟩ := hf2 6 _ rfl
      obtain ⟨z0, e0, _, w0⟩ := DataW.trod_int Try.underlying3 t0
      obtain ⟨z1, e1, _, _⟩ := DataW.trod_string Try.underlying9 t1
      obtain ⟨z2, e2, _, _⟩ := DataW.trod_string Try.underlying9 t2
      obtain ⟨z4, e4, _, w4⟩ := DataW.trod_int Try.underlying3 t4
      obtain ⟨z5, e5, _, w5⟩ := DataW.trod_int Try.underlying3 t5
      obtain ⟨l3, h3, q3, cap3, hv3, hc3⟩ := bytes_of t3
      obtain ⟨l6, h6⟩ := keep_of t6
      simp only [List.cons.injEq, and_true] at e0 e1 e2 e4 e5
      subst e0 e1 e2 e4 e5
      have w0' := wf_i64 w0
      exact ⟨⟨z0, z1, z2, l3, z4, z5, l6⟩, v3, v6, ⟨h3, h6, h3.2.1, w0'.1, w0'.2, q3, cap3, hv3, hc3⟩, c0, c1, c2, c3, c4, c5, c6⟩
    by_cases h0 : len = 0
    · subst h0; exact ⟨[], by simp, .inr (.inl ⟨a, cap, rfl, rfl⟩)⟩
    · obtain ⟨_, _, _, _, hs, _⟩ := each 0 (by omega)
      rw [Nat.zero_mul, Addr.add_zero'] at hs
      replace hs := World.cell?_spot hs
      obtain ⟨b, off, spot⟩ := a
      simp only at hs
      subst hs
      obtain ⟨l, hl, hp⟩ := list_of len each
      refine ⟨l, by omega, .inr (.inr ⟨b, off, cap, by rw [hl], fun k hk => ?_⟩)⟩
      obtain ⟨bv, kv, hd, c0, c1, c2, c3, c4, c5, c6⟩ := hp k hk
      rw [add_plain] at c0 c1 c2 c3 c4 c5 c6
      exact ⟨bv, kv, hd, c0, c1, c2, c3, c4, c5, c6⟩
end
section
variable {H : Type} {enc : TypeId × Value → H} {W : World} {v : Value} {d : DataW H} {ps : List MemPlace} {r : Reach} {b0 : Nat}
set_option maxRecDepth 100000 in
theorem open_dds (hval : Value.okWide Try.prog W r b0 22 v) (hd : DataW.Trod enc Try.prog W 0 (fun _ => true) true 22 v d ps) : ∃ l : List Dd, DdsIn W v l := by
  obtain ⟨fuel, hf⟩ := hd
  obtain ⟨a, len, cap, rfl⟩ := okWide_slice Try.underlying22 hval
  exact dds_of hf
set_option maxRecDepth 100000 in
theorem open_keep (hval : Value.okWide Try.prog W r b0 23 v) (hd : DataW.Trod enc Try.prog W 0 (fun _ => true) true 23 v d ps) : ∃ l : List Int, IntsIn W v l := by
  obtain ⟨fuel, hf⟩ := hd
  obtain ⟨a, len, cap, rfl⟩ := okWide_slice Try.underlying23 hval
  exact keep_of hf
end
end Go.Proofs.Ytbkkcbdbdogloaa
