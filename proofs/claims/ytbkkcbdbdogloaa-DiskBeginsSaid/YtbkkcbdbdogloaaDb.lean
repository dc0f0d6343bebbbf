/-
  THE DISK's SMALL FUNCTIONS, MORE: copies, numbers to keep by, works on names. Conditions: those of each theorem.
-/
import Derived.Test.YtbkkcbdbdogloaaDa
import Derived.Shelf.SlMaps.Clone
import Derived.ArgAppend
namespace Go.Proofs.Ytbkkcbdbdogloaa
open Go Go.RowKit Go.MapL

/-- A slice of integers reads as l. -/
def IntsIn (w : World) (v : Value) (l : List Int) : Prop :=
  (∀ x ∈ l, -9223372036854775808 ≤ x ∧ x ≤ 9223372036854775807) ∧ l.length ≤ 9223372036854775807 ∧ ((v = .slice none 0 0 ∧ l = []) ∨ (∃ a cap, v = .slice (some a) 0 cap ∧ l = []) ∨ ∃ b off cap, v = .slice (some ⟨b, off, none⟩) l.length cap ∧ ∀ k, k < l.length → w.cell? ⟨b, off + k, none⟩ = some (.int .i64 (l.getD k 0)))
theorem lt_of_cell {w : World} {b o : Nat} {v : Value} (h : w.cell? ⟨b, o, none⟩ = some v) : b < w.heap.size := by
  simp only [World.cell?, Option.isSome_none, Bool.false_eq_true, if_false] at h
  split at h
  · rename_i hh; exact (Array.getElem?_eq_some_iff.1 hh).1
  · cases h

theorem ret_int {k : IntKind} {a b : Int} (h : a = b) : Ending.returned (.int k a) = Ending.returned (.int k b) := by rw [h]

/-- A number to keep by. -/
def brought (l : List Int) (i most : Nat) : Nat := if i < l.length then (l.getD i 0 % (most + 1)).toNat else 0
theorem brought_le (l : List Int) (i most : Nat) : brought l i most ≤ most := by
  unfold brought
  split
  · have := Int.emod_lt_of_pos (l.getD i 0) (b := (most : Int) + 1) (by omega)
    have := Int.emod_nonneg (l.getD i 0) (b := (most : Int) + 1) (by omega)
    omega
  · omega

set_option maxHeartbeats 2000000 in
set_option maxRecDepth 100000 in
theorem brought_any (v : Value) (l : List Int) (i most : Nat) (_ : i ≤ 4611686018427387904) (hm : most ≤ 4611686018427387904) (w : World) (hl : IntsIn w v l) :
    Calls Try.prog 38 #[v, .int .i64 i, .int .i64 most] w fun e w' => e = .returned (.int .i64 (brought l i most)) ∧ w' = w := by
  obtain ⟨hb, hlen, hv⟩ := hl
  by_cases hlt : i < l.length
  · obtain ⟨rfl, rfl⟩ | ⟨a, cap, rfl, rfl⟩ | ⟨b, off, cap, rfl, hc⟩ := hv
    · simp at hlt
    · simp at hlt
    · have hci := hc i hlt
      obtain ⟨x, hx⟩ : ∃ x, l.getD i 0 = x := ⟨_, rfl⟩
      have hxb : -9223372036854775808 ≤ x ∧ x ≤ 9223372036854775807 := by
        rw [← hx, List.getD_eq_getElem?_getD, List.getElem?_eq_getElem hlt]; exact hb _ (List.getElem_mem hlt)
      rw [hx] at hci
      obtain ⟨y, hy⟩ : ∃ y : Nat, brought l i most = y := ⟨_, rfl⟩
      have hyx : Hid ((y : Int) = x % (most + 1)) := by
        show (y : Int) = x % (most + 1)
        rw [← hy, brought, if_pos hlt, hx]
        have := Int.emod_nonneg x (b := (most : Int) + 1) (by omega)
        omega
      rw [hy]
      have h1 : -((most : Int) + 1) < x.tmod (most + 1) := by have := Int.lt_tmod_of_pos x (show (0:Int) < most + 1 by omega); omega
      have h2 : x.tmod (most + 1) < most + 1 := Int.tmod_lt_of_pos x (by omega)
      have g1 : IntKind.i64.wrap ((most : Int) + 1) = (most : Int) + 1 := IntWalk.i64_in _ (by omega)
      have g3 : decide (l.length ≤ i) = false := by simp; omega
      clear hx hy hb hc
      obtain ⟨n, hn⟩ : ∃ n : Int, (most : Int) + 1 = n := ⟨_, rfl⟩
      rw [hn] at h1 h2 hyx
      have hn1 : 1 ≤ n ∧ n ≤ 4611686018427387905 := by omega
      rw [hn] at g1
      have hn0 : ¬ n ≤ 0 := by omega
      have g1' : IntKind.i64.wrap ((most : Int) + 1) = n := by rw [hn]; exact g1
      clear hn
      by_cases hneg : x.tmod n < 0
      · have hr : Hid (x.tmod n + n = x % n) := by
          show x.tmod n + n = x % n
          have e1 := Int.emod_add_mul_ediv x n
          have e2 := Int.tmod_add_mul_tdiv x n
          have e3 : (x.tmod n + n - x % n) = n * (x / n - x.tdiv n + 1) := by rw [Int.mul_add, Int.mul_sub]; omega
          have a1 := Int.emod_nonneg x (show n ≠ 0 by omega)
          have a2 := Int.emod_lt_of_pos x (show 0 < n by omega)
          have h5 : (x / n - x.tdiv n + 1) = 0 := by
            have b1 : n * (x / n - x.tdiv n + 1) < n * 1 := by omega
            have b2 : n * (-1) < n * (x / n - x.tdiv n + 1) := by omega
            have c1 := Int.lt_of_mul_lt_mul_left b1 (by omega)
            have c2 := Int.lt_of_mul_lt_mul_left b2 (by omega)
            omega
          rw [h5] at e3
          omega
        go_enter Try.func38, Try.ntmps38
        go_wp2
        go_returns
        exact ⟨ret_int (hr.out.trans hyx.out.symm), rfl⟩
      · have hr : Hid (x.tmod n = x % n) := by
          show x.tmod n = x % n
          have e1 := Int.emod_add_mul_ediv x n
          have e2 := Int.tmod_add_mul_tdiv x n
          have e3 : (x.tmod n - x % n) = n * (x / n - x.tdiv n) := by rw [Int.mul_sub]; omega
          have a1 := Int.emod_nonneg x (show n ≠ 0 by omega)
          have a2 := Int.emod_lt_of_pos x (show 0 < n by omega)
          have h5 : (x / n - x.tdiv n) = 0 := by
            have b1 : n * (x / n - x.tdiv n) < n * 1 := by omega
            have b2 : n * (-1) < n * (x / n - x.tdiv n) := by omega
            have c1 := Int.lt_of_mul_lt_mul_left b1 (by omega)
            have c2 := Int.lt_of_mul_lt_mul_left b2 (by omega)
            omega
          rw [h5] at e3
          omega
        go_enter Try.func38, Try.ntmps38
        go_wp2
        go_returns
        exact ⟨ret_int (hr.out.trans hyx.out.symm), rfl⟩
  · have hy : brought l i most = 0 := by rw [brought, if_neg hlt]
    rw [hy]
    have g3 : decide (l.length ≤ i) = true := by simp; omega
    obtain ⟨rfl, rfl⟩ | ⟨a, cap, rfl, rfl⟩ | ⟨b, off, cap, rfl, hc⟩ := hv
    all_goals
      go_enter Try.func38, Try.ntmps38
      go_wp2
      go_returns
      exact ⟨rfl, rfl⟩

set_option maxHeartbeats 2000000 in
set_option maxRecDepth 100000 in
theorem clone_any (b : Nat) (l : List (ByteArray × Nat)) (w : World) (h : MapAt ofText ofBlock w b l) :
    Calls Try.prog 36 #[.map (some b)] w fun e w' => e = .returned (.map (some w.heap.size)) ∧ MapAt ofText ofBlock w' w.heap.size l ∧ w'.heap.size = w.heap.size + 1 ∧ Below w.heap.size w w' := by
  obtain ⟨es, clock, hb, h1, h2, h3⟩ := h
  have hq := fun w => run_eql_map_nil (P := Try.prog) w 55 9 65 (some b) Try.underlying55
  go_enter Try.func36, Try.ntmps36
  go_wp2
  rw [run_callFunc_extern Try.func50 (by kernel_rfl) (by kernel_rfl) (by kernel_rfl) (e := Extern.MapsClone.clone) (by kernel_rfl), run_maps_clone_sl w 55 hb]
  simp only [Result.andThen]
  rw [Oper.upon_value]
  go_wp2
  rw [run_typeAssert_map_sl _ 55 20 _ _ _ Try.underlying55]
  simp only [Result.andThen]
  rw [Oper.upon_value]
  go_wp2
  go_returns
  exact ⟨rfl, ⟨es, clock, (MapKept.heap_alloc w _).1, h1, h2, h3⟩, by simp, (Below.refl _ w).alloc (Nat.le_refl _) _⟩
end Go.Proofs.Ytbkkcbdbdogloaa
