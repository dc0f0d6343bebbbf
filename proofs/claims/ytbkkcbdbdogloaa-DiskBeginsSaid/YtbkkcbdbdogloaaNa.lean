/-
  Names: the names in their order. Conditions: those of each theorem.
-/
import Derived.Test.YtbkkcbdbdogloaaKy
namespace Go.Proofs.Ytbkkcbdbdogloaa
open Go Go.RowKit Go.Maps Go.Sort Go.Shelf Go.MapL
open Go.WideElems (Fit rg)

abbrev leN : List UInt8 → List UInt8 → Bool := fun x y => decide (x ≤ y)
/-- The names, sorted. -/
def sortedN (l : List ByteArray) : List ByteArray := ((l.map fun x => x.data.toList).mergeSort leN).map fun x => ⟨x.toArray⟩
theorem sortedN_perm (l : List ByteArray) : (sortedN l).Perm l := by
  have := ((List.mergeSort_perm (l.map fun x => x.data.toList) leN).map fun x => (⟨x.toArray⟩ : ByteArray))
  refine this.trans ?_
  rw [List.map_map]
  have : ((fun x => (⟨x.toArray⟩ : ByteArray)) ∘ fun (x : ByteArray) => x.data.toList) = id := by
    funext x; cases x; simp
  rw [this, List.map_id]
/-- The keys of a map go by one name each; none is longer than 40. -/
def Tidied {β : Type} (l : List (ByteArray × β)) : Prop := (l.map (·.1)).Nodup ∧ ∀ q ∈ l, q.1.size ≤ 40

def litR (_ : Value) : Option (DataW Unit × List MemPlace) := some (.lit (.bool true), [])
theorem keys_of (l : List (Lit × DataW Unit)) : strKeys (DataW.map l) = l.map fun p => strOf p.1 := rfl
/-- A map whose keys are texts is one of the kit's. -/
theorem owns_of {w : World} {b : Nat} {l : List (ByteArray × Nat)} (h : MapAt ofText ofBlock w b l) (ht : Tidied l) (hlen : l.length ≤ 4611686018427387904) :
    ∃ D0 : DataW Unit, w.ownsMap Try.prog 9 litR b l.length D0 ∧ Maps.size D0 = l.length ∧ (strKeys D0).Perm (l.map fun q => q.1.data.toList) := by
  obtain ⟨es, clock, hb, hes, hnd, hlt⟩ := h
  have hsz : es.size = l.length := by
    have := congrArg List.length hes
    simpa using this
  have hkeys : es.toList.map (·.key) = l.map fun q => Value.string q.1 := by
    have := congrArg (List.map Prod.fst) hes
    rw [List.map_map, List.map_map] at this
    exact this
  have hmem : ∀ x ∈ es.toList, ∃ q ∈ l, x.key = .string q.1 := by
    intro x hx
    have : x.key ∈ es.toList.map (·.key) := List.mem_map_of_mem hx
    rw [hkeys] at this
    obtain ⟨q, hq, e⟩ := List.mem_map.1 this
    exact ⟨q, hq, e.symm⟩
  have hk : ∀ q ∈ l, keyOf Try.prog 9 (.string q.1) = some (.string q.1.data.toList) := fun q hq =>
    Go.WideMaps.keyOf_string_mk Try.underlying9 (by have := ht.2 q hq; have : maxLen = 9223372036854775807 := rfl; omega)
  have hrd : ∀ x ∈ es.toList, ∀ q ∈ l, x.key = .string q.1 → WideElems.rd Try.prog 9 litR x = some (.string q.1.data.toList, .lit (.bool true)) := by
    intro x _ q hq e
    unfold WideElems.rd
    rw [e, hk q hq]; rfl
  refine ⟨_, ⟨es, clock, hb, ⟨?_, ⟨hlt, hnd, ?_⟩, ?_⟩, by omega, rfl⟩, ?_, ?_⟩
  · have : maxLen = 9223372036854775807 := rfl
    omega
  · rw [hkeys]
    have := ht.1
    rw [show (l.map fun q => Value.string q.1) = (l.map (·.1)).map Value.string by rw [List.map_map]; rfl]
    exact this.map Value.string (fun a b h e => h (by injection e))
  · intro x hx
    obtain ⟨q, hq, e⟩ := hmem x hx
    exact ⟨_, hrd x hx q hq e⟩
  · rw [Maps.size_eq, (WideShapes.sorted_perm _).length_eq]; simpa using hsz
  · rw [keys_of]
    refine ((WideShapes.sorted_perm _).map _).trans ?_
    rw [List.map_map]
    have : es.toList.map ((fun p => strOf p.1) ∘ rg Try.prog 9 litR) = l.map fun q => q.1.data.toList := by
      have h1 : es.toList.map ((fun p => strOf p.1) ∘ rg Try.prog 9 litR) = (es.toList.map (·.key)).map fun v => match v with | .string s => s.data.toList | _ => [] := by
        rw [List.map_map]
        refine List.map_congr_left fun x hx => ?_
        obtain ⟨q, hq, e⟩ := hmem x hx
        simp only [Function.comp, rg, hrd x hx q hq e, e, Option.getD_some, strOf]
      rw [h1, hkeys, List.map_map]; rfl
    rw [this]

variable {p n₀ : Nat} {r : Rep} {s : DS}
theorem at_len (ad : Nat → Nat) (l : List (ByteArray × Nat)) : (at_ ad l).length = l.length := by unfold at_; simp
theorem at_keys (ad : Nat → Nat) (l : List (ByteArray × Nat)) : (at_ ad l).map (·.1) = l.map (·.1) := by
  unfold at_; rw [List.map_map]; rfl
theorem at_tidied (ad : Nat → Nat) {l : List (ByteArray × Nat)} (h : Tidied l) : Tidied (at_ ad l) := by
  refine ⟨by rw [at_keys]; exact h.1, ?_⟩
  intro q hq
  obtain ⟨q', hq', rfl⟩ := List.mem_map.1 hq
  exact h.2 q' hq'

theorem at_keysD (ad : Nat → Nat) (l : List (ByteArray × Nat)) : ((at_ ad l).map fun q => q.1.data.toList) = (l.map (·.1)).map fun x => x.data.toList := by
  unfold at_; rw [List.map_map, List.map_map]; rfl
def namesOf (s : DS) : List ByteArray := if s.dead then [] else sortedN (s.names.map (·.1))

set_option maxHeartbeats 2000000 in
theorem names_at (w : World) (h : Lies w p n₀ r s) (ht : Tidied s.names) (hlen : s.names.length ≤ 1073741824) :
    Calls Try.prog 19 #[ofBlock p] w fun e w' => ∃ v, e = .returned v ∧ w'.ownsRow w.heap.size 9 1 v (namesOf s).length ((namesOf s).map Value.string) ∧ Below w.heap.size w w' := by
  have ha := away_at w h
  obtain ⟨c0, c1, c2, c3, c4, c5, c6, c7⟩ := h.cells
  unfold namesOf ofBlock at *
  cases hdd : s.dead
  · rw [hdd] at ha
    obtain ⟨D0, hown, hsz, hperm⟩ := owns_of h.names (at_tidied r.ad ht) (by rw [at_len]; omega)
    rw [at_len] at hsz
    replace hown := hown
    have hso := callsIn_wide.1 (sorted_keys r.bn _ D0 litR w hown (by rw [hsz]; have : maxLen = 9223372036854775807 := rfl; omega) (by omega))
    have hke := callsIn_wide.1 (maps_Keys (some r.bn) w)
    go_enter Try.func19, Try.ntmps19
    go_wp2_with (first | (go_at_call 30; refine ha.mono ?_; rintro e w' ⟨rfl, rfl⟩) | (go_at_call 48; refine hke.mono ?_; rintro e w' ⟨rfl, rfl⟩) | (go_at_call 47; refine hso.mono ?_; rintro e w' ⟨v, ss, rfl, hS, hrow, hnil, hb⟩; replace hS := hS.trans hperm))
    go_returns
    rw [at_keysD] at hS
    have e1 : ss.mergeSort leN = (((s.names.map (·.1)).map fun x => x.data.toList).mergeSort leN) := mergeSort_of_perm hS
    have e2 : (ss.mergeSort leN).map encStr = (sortedN (s.names.map (·.1))).map Value.string := by
      unfold sortedN; rw [e1, List.map_map (f := fun x : List UInt8 => (⟨x.toArray⟩ : ByteArray)) (g := Value.string)]; rfl
    have e3 : (sortedN (s.names.map (·.1))).length = ss.length := by
      rw [(sortedN_perm _).length_eq, List.length_map, hS.length_eq]; simp
    refine ⟨_, rfl, ?_, ?_⟩
    · simp only
      rw [e3, ← e2]
      exact own_base' hrow (by simp)
    · exact ((Below.refl _ _).alloc (Nat.le_refl _) _).trans (hb.mono (by simp))
  · rw [hdd] at ha
    go_enter Try.func19, Try.ntmps19
    go_wp2_with (go_at_call 30; refine ha.mono ?_; rintro e w' ⟨rfl, rfl⟩)
    go_returns
    exact ⟨_, rfl, World.ownsRow_nil _ _ _ _, Below.refl _ _⟩
end Go.Proofs.Ytbkkcbdbdogloaa
