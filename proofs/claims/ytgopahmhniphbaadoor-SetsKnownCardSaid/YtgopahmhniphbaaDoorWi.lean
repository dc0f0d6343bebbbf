import Derived.Test.YtgopahmhniphbaaDoorWh
namespace Go.Proofs.YtgopahmhniphbaaDoor
open Go.RowKit Go.Shelf Sp

/-- The bytes below k that are in a set. -/
def fl (s : S) (k : Nat) : List Nat := (List.range k).filter (mem s)
theorem fl_succ (s : S) (k : Nat) : fl s (k + 1) = if mem s k = true then fl s k ++ [k] else fl s k := by
  unfold fl
  rw [List.range_succ, List.filter_append]
  by_cases h : mem s k = true <;> simp [h]
theorem fl_len (s : S) (k : Nat) : (fl s k).length ≤ k := by
  unfold fl; exact Nat.le_trans (List.length_filter_le _ _) (by simp)
theorem fl_lt (s : S) (k : Nat) : ∀ x ∈ fl s k, x < k := by
  intro x hx
  unfold fl at hx
  simp at hx
  exact hx.1
theorem blTo_eq (s : S) : ∀ i, i ≤ 4 → blTo s i = fl s (i * 64)
  | 0, _ => by simp [blTo, fl]
  | i + 1, h => by
    rw [blTo_succ, blTo_eq s i (by omega)]
    unfold fl
    rw [Nat.succ_mul, List.range_add, List.filter_append, List.filter_map]
    congr 1
    unfold nb
    congr 1
    apply List.filter_congr
    intro k hk
    simp at hk
    simp only [Function.comp, mem]
    rw [get_wd s (i * 64 + k)]
    have h1 : (i * 64 + k) / 64 = i := by omega
    have h2 : (i * 64 + k) % 64 = k := by omega
    rw [h1, h2]; rfl
theorem bl_eq (s : S) : bl s = fl s 256 := blTo_eq s 4 (by omega)

theorem own_below {w w2 : World} {n : Nat} {e : TypeId} {size k : Nat} {v : Value} {xs : List Value} (h : w.ownsRow n e size v k xs) (hb : Below w.heap.size w w2) : w2.ownsRow n e size v k xs :=
  h.kept (row := none) ⟨hb.os, hb.tape, hb.output, hb.size, fun k hk _ => hb.block k hk⟩ (by cases v.ownBlock <;> simp)

theorem own_base {w : World} {n m : Nat} {e : TypeId} {size k : Nat} {v : Value} {xs : List Value} (h : w.ownsRow n e size v k xs) (hm : m ≤ n) : w.ownsRow m e size v k xs := by
  refine ⟨h.1, ?_⟩
  rcases h.2 with h2 | ⟨g, cap, cur, h3, h4, r⟩
  · exact .inl h2
  · exact .inr ⟨g, cap, cur, h3, by omega, r⟩

set_option maxRecDepth 100000 in
set_option maxHeartbeats 2000000 in
theorem refAll_any (s : S) (w : World) :
    Calls Tryd.prog 25 #[sv s] w fun e W' => ∃ v, e = .returned v ∧ W'.ownsRow w.heap.size 5 1 v (bl s).length (enc (bl s)) ∧ Below w.heap.size w W' := by
  unfold sv
  obtain ⟨i0, hi, hz0, hz1, hz2⟩ := info_parts info5
  go_enter Tryd.func25, Tryd.ntmps25
  go_wp2
  go_loopw [3, 4] (fun v i wr => ∃ k : Nat, k ≤ 256 ∧ i = .int .i64 k ∧ SetAt wr w.heap.size s ∧ wr.ownsRow (w.heap.size + 1) 5 1 v (fl s k).length (enc (fl s k)) ∧ w.heap.size + 1 ≤ wr.heap.size ∧ Below w.heap.size w wr) (fun _ i _ => 256 - (intOf i).toNat)
  case atStart =>
    refine ⟨0, by omega, rfl, SetAt.box w s, World.ownsRow_nil _ _ _ _, by simp, ?_⟩
    go_grown
  case round =>
    obtain ⟨k, hk, rfl, hs, hrow, hsz, hB⟩ := hrel
    have hfl := fl_len s k
    by_cases hlt : k < 256
    · have hwk : IntKind.u8.wrap (k : Int) = k := by rw [IntKind.wrap_u8]; omega
      obtain ⟨c0, c1, c2, c3⟩ := hs.cell
      have hH := refHas_any s k hlt
      have Hs : Hid (fl s (k + 1) = if mem s k = true then fl s k ++ [k] else fl s k) := fl_succ s k
      cases hm : mem s k
      · rw [hm] at hH
        have Hs2 : Hid (fl s (k + 1) = fl s k) := by have := Hs.out; rw [hm] at this; exact this
        clear Hs hm
        go_wp2_with (go_at_call 28; refine (hH _).mono ?_; rintro e w2 ⟨rfl, hb2⟩)
        go_roundw
        case rel =>
          refine ⟨k + 1, by omega, by go_num, hs.same (hb2.block _ hs.lt), ?_, by have := hb2.size; omega, hB.trans (hb2.mono hB.size)⟩
          rw [Hs2.out]
          exact own_below hrow hb2
        case measure => simp [intOf]; omega
      · rw [hm] at hH
        have Hs2 : Hid (fl s (k + 1) = fl s k ++ [k]) := by have := Hs.out; rw [hm] at this; exact this
        clear Hs hm
        go_wp2_with (first | (go_at_call 28; refine (hH _).mono ?_; rintro e w2 ⟨rfl, hb2⟩; have hrow2 := own_below hrow hb2; have hs2 := hs.same (hb2.block _ hs.lt); have hsz2 := hb2.size) | (at_builtin; refine wpList_append_own _ rfl _ _ 30 rfl (w.heap.size + 1) 5 i0 (.int .u8 0) 1 1 Tryd.underlying30 hi hz0 hz1 hz2 rfl (by decide) _ _ _ rfl (hrow2.alloc _) ⟨w2.heap.size, 0, none⟩ 1 1 [.int .u8 k] rfl rfl (cell_one_new _ _ _) (by simp [Value.oneCell']) (by unfold maxLen; omega) (by omega) (by simp; omega) ?_; intro v' w3 hown' hgrow _))
        go_roundw
        case rel =>
          refine ⟨k + 1, by omega, by go_num, ?_, ?_, ?_, ?_⟩
          · refine (hs2.alloc _).same (hgrow.block _ (by simp; omega) ?_)
            intro he
            have := hrow2.lt _ he.symm
            omega
          · rw [Hs2.out, enc_snoc]; simpa using hown'
          · have := hgrow.size; simp at this; omega
          · refine ((hB.trans (hb2.mono hB.size)).alloc (by omega) _).grown hgrow (by simp; omega) ?_
            intro j hj
            have := hrow2.lt _ hj
            omega
        case measure => simp [intOf]; omega
    · go_wp2
      go_returns
      obtain rfl : k = 256 := by omega
      refine ⟨_, rfl, ?_, hB⟩
      rw [bl_eq]
      exact own_base hrow (by omega)

/-- Least, as the document has it. -/
theorem own_first {W : World} {n : Nat} {v : Value} {c : Nat} {r : List Nat} (h : W.ownsRow n 5 1 v (c :: r).length (enc (c :: r))) : ∃ g cap, v = .slice (some ⟨g, 0, none⟩) (c :: r).length cap ∧ W.cell? ⟨g, 0, none⟩ = some (.int .u8 (c : Int)) := by
  rcases h.2 with ⟨_, h0⟩ | ⟨g, cap, cur, rfl, _, hg, hc, _, hsz, ht⟩
  · simp at h0
  · refine ⟨g, cap, rfl, ?_⟩
    simp only [World.cell?, hg, Option.isSome_none, Bool.false_eq_true, if_false]
    have h1 : cur[0]? = (cur.toList.take ((c :: r).length * 1))[0]? := by
      rw [List.getElem?_take, if_pos (by simp)]; simp
    rw [h1, ht]; rfl

set_option maxHeartbeats 1000000 in
theorem refLeast_none (s : S) (hs : bl s = []) (w : World) :
    Calls Tryd.prog 26 #[sv s] w fun e w' => e = .returned (.tuple #[.int .u8 0, .bool false]) ∧ Below w.heap.size w w' := by
  have hA := fun w => refAll_any s w
  rw [hs] at hA
  unfold sv at *
  go_enter Tryd.func26, Tryd.ntmps26
  go_wp2_with (go_at_call 25; refine (hA _).mono ?_; rintro e w2 ⟨v, rfl, hrow, hb2⟩; rcases hrow.2 with ⟨rfl, _⟩ | ⟨g, cap, cur, rfl, _, _, _, _, _, _⟩)
  all_goals
    go_returns
    refine ⟨rfl, ?_⟩
    exact ((Below.refl _ _).alloc (Nat.le_refl _) _).trans (hb2.mono (by simp))

set_option maxHeartbeats 1000000 in
theorem refLeast_some (s : S) (c : Nat) (r : List Nat) (hs : bl s = c :: r) (w : World) :
    Calls Tryd.prog 26 #[sv s] w fun e w' => e = .returned (.tuple #[.int .u8 c, .bool true]) ∧ Below w.heap.size w w' := by
  have hA := fun w => refAll_any s w
  have hl : (bl s).length ≤ 256 := blTo_len s 4
  rw [hs] at hA hl
  rw [List.length_cons] at hl
  have hne : (((r.length : Int) + 1) == 0) = false := by simp; omega
  unfold sv at *
  go_enter Tryd.func26, Tryd.ntmps26
  go_wp2_with (go_at_call 25; refine (hA _).mono ?_; rintro e w2 ⟨v, rfl, hrow, hb2⟩; obtain ⟨g, cap, rfl, hcell⟩ := own_first hrow)
  go_returns
  refine ⟨rfl, ?_⟩
  exact ((Below.refl _ _).alloc (Nat.le_refl _) _).trans (hb2.mono (by simp))
end Go.Proofs.YtgopahmhniphbaaDoor
