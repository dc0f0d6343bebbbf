/-
  slices.Sorted(maps.Keys(m)) LAID AT THIS DUMP: the kit's contracts in this dump's numbers; Names. Conditions: those of each theorem.
  Names: the names in their order. Conditions: those of each theorem.
  WHAT HOLDS OF EVERY DISK, in plain Lean. Conditions: those of each theorem.
  What closes any law's row whose call leaves all old memory as it was: the arguments read behind the call as they read before. Conditions: those of each theorem.
-/
import Derived.Test.YtmcmagplaflegaaGreatX3
import Derived.Shelf.SlIter.Nil
import Derived.Shelf.SortM.Plain
import Derived.Shelf.SortM.SortNone
import Derived.WalkKit
import Derived.ProofKit
import Derived.OpenShut
import Derived.Below
import Derived.ChangeSame
import Derived.Carry
import Derived.Deep.DeepHandedRow
import Derived.Lib.LaidTab
import Derived.WideKeyArr2
import Derived.ChangeSlices

namespace Go.Proofs.YtmcmagplaflegaaGreat
open Go Go.RowKit Go.Maps Go.Sort Go.Shelf

def keysL_ren : Go.Shelf.Ren := ⟨fun | 7 => 56 | 10 => 98 | n => n, fun | 23 => 41 | 26 => 9 | 3 => 70 | 28 => 91 | 0 => 0 | 27 => 90 | 33 => 85 | 4 => 4 | n => n, fun | n => n⟩
theorem keysL : Go.Proofs.SlLaysZ.n7 Tryz.prog keysL_ren := {
  mixed := by kernel_rfl
  f7 := ⟨Tryz.f56.name, by decide, Tryz.func56.trans (congrArg some (by kernel_rfl))⟩
  f10 := ⟨Tryz.f98.name, by decide, Tryz.func98.trans (congrArg some (by kernel_rfl))⟩
  t0 := Tryz.underlying0
  a0 := Tryz.isAgg0
  z0 := Tryz.sizeOf0
  v0 := Tryz.zeroValue0
  t4 := Tryz.underlying4
  a4 := Tryz.isAgg4
  z4 := Tryz.sizeOf4
  v4 := Tryz.zeroValue4
  t23 := Tryz.underlying41
  a23 := Tryz.isAgg41
  z23 := Tryz.sizeOf41
  v23 := Tryz.zeroValue41
  t26 := Tryz.underlying9
  a26 := Tryz.isAgg9
  z26 := Tryz.sizeOf9
  v26 := Tryz.zeroValue9
  t27 := Tryz.underlying90
  a27 := Tryz.isAgg90
  z27 := Tryz.sizeOf90
  v27 := Tryz.zeroValue90
  t28 := Tryz.underlying91
  a28 := Tryz.isAgg91
  z28 := Tryz.sizeOf91
  v28 := Tryz.zeroValue91
  t33 := Tryz.underlying85
  a33 := Tryz.isAgg85
  z33 := Tryz.sizeOf85
  v33 := Tryz.zeroValue85
}
def sortedL_ren : Go.Shelf.Ren := ⟨fun | 6 => 55 | 8 => 96 | 9 => 97 | 11 => 133 | 13 => 132 | 12 => 134 | 23 => 154 | 24 => 155 | 14 => 156 | 15 => 157 | 16 => 158 | 17 => 159 | 18 => 160 | 19 => 161 | 20 => 162 | 21 => 163 | 22 => 164 | 25 => 171 | 26 => 167 | 27 => 168 | 28 => 172 | 29 => 173 | 30 => 174 | 31 => 176 | n => n, fun | 26 => 9 | 28 => 91 | 24 => 37 | 0 => 0 | 3 => 3 | 37 => 93 | 48 => 62 | 50 => 117 | 4 => 4 | 40 => 185 | 39 => 184 | 45 => 189 | 5 => 5 | 9 => 9 | 51 => 199 | 55 => 203 | 57 => 207 | 58 => 208 | 33 => 85 | n => n, fun | n => n⟩
theorem sortedL : Go.Proofs.SlLaysZ.n6 Tryz.prog sortedL_ren := {
  mixed := by kernel_rfl
  f6 := ⟨Tryz.f55.name, by decide, Tryz.func55.trans (congrArg some (by kernel_rfl))⟩
  f8 := ⟨Tryz.f96.name, by decide, Tryz.func96.trans (congrArg some (by kernel_rfl))⟩
  f11 := ⟨Tryz.f133.name, by decide, Tryz.func133.trans (congrArg some (by kernel_rfl))⟩
  t0 := Tryz.underlying0
  a0 := Tryz.isAgg0
  z0 := Tryz.sizeOf0
  v0 := Tryz.zeroValue0
  t24 := Tryz.underlying37
  a24 := Tryz.isAgg37
  z24 := Tryz.sizeOf37
  v24 := Tryz.zeroValue37
  t26 := Tryz.underlying9
  a26 := Tryz.isAgg9
  z26 := Tryz.sizeOf9
  v26 := Tryz.zeroValue9
  t28 := Tryz.underlying91
  a28 := Tryz.isAgg91
  z28 := Tryz.sizeOf91
  v28 := Tryz.zeroValue91
  i26 := by kernel_rfl
}
def sortSL_ren : Go.Shelf.Ren := ⟨fun | 6 => 97 | 8 => 132 | 9 => 134 | 19 => 154 | 20 => 155 | 21 => 156 | 22 => 157 | 23 => 158 | 24 => 159 | 25 => 160 | 26 => 161 | 27 => 162 | 28 => 163 | 29 => 164 | 36 => 171 | 31 => 167 | 32 => 168 | 37 => 172 | 38 => 173 | 39 => 174 | 41 => 176 | n => n, fun | 27 => 37 | 29 => 9 | 3 => 3 | 32 => 93 | 26 => 37 | 0 => 0 | 44 => 62 | 46 => 117 | 4 => 4 | 36 => 185 | 35 => 184 | 41 => 189 | 5 => 5 | 9 => 9 | 53 => 199 | 57 => 203 | 63 => 207 | 64 => 208 | n => n, fun | n => n⟩
theorem sortSL : Go.Proofs.SlLaysM.n6 Tryz.prog sortSL_ren := {
  mixed := by kernel_rfl
  f6 := ⟨Tryz.f97.name, by decide, Tryz.func97.trans (congrArg some (by kernel_rfl))⟩
  f8 := Tryz.func132.trans (congrArg some (by kernel_rfl))
  f9 := ⟨Tryz.f134.name, by decide, Tryz.func134.trans (congrArg some (by kernel_rfl))⟩
  f19 := Tryz.func154.trans (congrArg some (by kernel_rfl))
  f20 := Tryz.func155.trans (congrArg some (by kernel_rfl))
  f21 := ⟨Tryz.f156.name, by decide, Tryz.func156.trans (congrArg some (by kernel_rfl))⟩
  f22 := ⟨Tryz.f157.name, by decide, Tryz.func157.trans (congrArg some (by kernel_rfl))⟩
  f23 := ⟨Tryz.f158.name, by decide, Tryz.func158.trans (congrArg some (by kernel_rfl))⟩
  f24 := ⟨Tryz.f159.name, by decide, Tryz.func159.trans (congrArg some (by kernel_rfl))⟩
  f25 := ⟨Tryz.f160.name, by decide, Tryz.func160.trans (congrArg some (by kernel_rfl))⟩
  f26 := ⟨Tryz.f161.name, by decide, Tryz.func161.trans (congrArg some (by kernel_rfl))⟩
  f27 := ⟨Tryz.f162.name, by decide, Tryz.func162.trans (congrArg some (by kernel_rfl))⟩
  f28 := ⟨Tryz.f163.name, by decide, Tryz.func163.trans (congrArg some (by kernel_rfl))⟩
  f29 := ⟨Tryz.f164.name, by decide, Tryz.func164.trans (congrArg some (by kernel_rfl))⟩
  f31 := Tryz.func167.trans (congrArg some (by kernel_rfl))
  f32 := Tryz.func168.trans (congrArg some (by kernel_rfl))
  f36 := ⟨Tryz.f171.name, by decide, Tryz.func171.trans (congrArg some (by kernel_rfl))⟩
  f37 := ⟨Tryz.f172.name, by decide, Tryz.func172.trans (congrArg some (by kernel_rfl))⟩
  f38 := ⟨Tryz.f173.name, by decide, Tryz.func173.trans (congrArg some (by kernel_rfl))⟩
  f39 := ⟨Tryz.f174.name, by decide, Tryz.func174.trans (congrArg some (by kernel_rfl))⟩
  f41 := ⟨Tryz.f176.name, by decide, Tryz.func176.trans (congrArg some (by kernel_rfl))⟩
  t0 := Tryz.underlying0
  a0 := Tryz.isAgg0
  z0 := Tryz.sizeOf0
  v0 := Tryz.zeroValue0
  t3 := Tryz.underlying3
  a3 := Tryz.isAgg3
  z3 := Tryz.sizeOf3
  v3 := Tryz.zeroValue3
  t4 := Tryz.underlying4
  a4 := Tryz.isAgg4
  z4 := Tryz.sizeOf4
  v4 := Tryz.zeroValue4
  t5 := Tryz.underlying5
  a5 := Tryz.isAgg5
  z5 := Tryz.sizeOf5
  v5 := Tryz.zeroValue5
  t9 := Tryz.underlying9
  a9 := Tryz.isAgg9
  z9 := Tryz.sizeOf9
  v9 := Tryz.zeroValue9
  t26 := Tryz.underlying37
  a26 := Tryz.isAgg37
  z26 := Tryz.sizeOf37
  v26 := Tryz.zeroValue37
  t27 := Tryz.underlying37
  a27 := Tryz.isAgg37
  z27 := Tryz.sizeOf37
  v27 := Tryz.zeroValue37
  t29 := Tryz.underlying9
  a29 := Tryz.isAgg9
  z29 := Tryz.sizeOf9
  v29 := Tryz.zeroValue9
  t32 := Tryz.underlying93
  a32 := Tryz.isAgg93
  z32 := Tryz.sizeOf93
  v32 := Tryz.zeroValue93
  t35 := Tryz.underlying184
  a35 := Tryz.isAgg184
  z35 := Tryz.sizeOf184
  v35 := Tryz.zeroValue184
  t36 := Tryz.underlying185
  a36 := Tryz.isAgg185
  z36 := Tryz.sizeOf185
  v36 := Tryz.zeroValue185
  t41 := Tryz.underlying189
  a41 := Tryz.isAgg189
  z41 := Tryz.sizeOf189
  v41 := Tryz.zeroValue189
  t44 := Tryz.underlying62
  a44 := Tryz.isAgg62
  z44 := Tryz.sizeOf62
  v44 := Tryz.zeroValue62
  t46 := Tryz.underlying117
  a46 := Tryz.isAgg117
  z46 := Tryz.sizeOf117
  v46 := Tryz.zeroValue117
  t53 := Tryz.underlying199
  a53 := Tryz.isAgg199
  z53 := Tryz.sizeOf199
  v53 := Tryz.zeroValue199
  t57 := Tryz.underlying203
  a57 := Tryz.isAgg203
  z57 := Tryz.sizeOf203
  v57 := Tryz.zeroValue203
  t63 := Tryz.underlying207
  a63 := Tryz.isAgg207
  z63 := Tryz.sizeOf207
  v63 := Tryz.zeroValue207
  t64 := Tryz.underlying208
  a64 := Tryz.isAgg208
  z64 := Tryz.sizeOf208
  v64 := Tryz.zeroValue208
}
/-- slices.Sort's two contracts at this dump, at the fence that asks nothing. -/
theorem sortsL (m : Nat) : AnyZ.SortsIn Tryz.prog sortedL_ren Fence.wide m :=
  ⟨fun blk off cap ss W hH hblk hsz => callsIn_wide.2 (AnyM.slices_Sort_string sortSL blk off cap ss W hH hblk hsz),
   fun p cap W => callsIn_wide.2 (AnyM.slices_Sort_string_none sortSL p cap W)⟩

/-- **maps.Keys[map[string]*incunable/disk.file,string,*incunable/disk.file], at whatever map, the nil one too:** a function value over ONE NEW BLOCK, which holds the map. -/
theorem maps_Keys (mb : Option Nat) (W : World) : CallsIn Fence.wide 5 Tryz.prog 56 #[.map mb] W fun e w' => e = .returned (.func (.func 98) #[] #[.pointer (some ⟨W.heap.size, 0, none⟩)]) ∧ w' = W.alloc (.cells #[.map mb] 41) :=
  AnyZ.keys_in keysL Fence.wide 5 trivial rfl mb W

set_option maxHeartbeats 1000000 in
/-- **slices.Sorted[string] AT WHAT maps.Keys[map[string]*incunable/disk.file,string,*incunable/disk.file] HANDED BACK FOR A MAP THAT IS NOT nil** ('w': the world AHEAD of maps.Keys' call): A NEW SLICE THAT HOLDS THE MAP's KEYS, SORTED; nil just where it has none; nothing that lay before has turned. -/
theorem sorted_keys {H : Type} (b nn : Nat) (D0 : DataW H) (R : Value → Option (DataW H × List MemPlace)) (w : World) (hown : w.ownsMap Tryz.prog 9 R b nn D0) (hmax : Maps.size D0 ≤ maxLen) (hbytes : Maps.size D0 * 16 ≤ 140737488355328) :
    CallsIn Fence.wide 5 Tryz.prog 55 #[.func (.func 98) #[] #[.pointer (some ⟨w.heap.size, 0, none⟩)]] (w.alloc (.cells #[.map (some b)] 41)) fun e w' => ∃ (v : Value) (ss : List (List UInt8)), e = .returned v ∧ ss.Perm (strKeys D0) ∧
      w'.ownsRow (w.alloc (.cells #[.map (some b)] 41)).heap.size 9 1 v ss.length ((ss.mergeSort (fun x y => decide (x ≤ y))).map encStr) ∧ (v = .slice none 0 0 ↔ ss = []) ∧ Below (w.alloc (.cells #[.map (some b)] 41)).heap.size (w.alloc (.cells #[.map (some b)] 41)) w' := by
  have hbl := hown.lt
  have hseq : SeqGives Fence.wide 2 Tryz.prog 98 #[.pointer (some ⟨w.heap.size, 0, none⟩)] encStr (fun ss => ss.Perm (strKeys D0)) (Maps.size D0) (w.alloc (.cells #[.map (some b)] 41)) :=
    AnyZ.keys_gives (ρ := keysL_ren) { keysL with } Fence.wide _ trivial rfl (by omega) w.heap.size b nn D0 _ (by simp) (by simp) (by
      obtain ⟨es, clock, hb, Ft, hs, hD⟩ := hown
      exact ⟨es, clock, (Below.heap_alloc _ _ b hbl).trans hb, Ft, hs, hD⟩)
  exact AnyZ.sorted_in sortedL Fence.wide 5 trivial trivial trivial trivial rfl (by omega) (sortsL _) (enters_of Tryz.func97 (by kernel_rfl) rfl) 98 #[.pointer (some ⟨w.heap.size, 0, none⟩)] trivial (enters_of Tryz.func98 (by kernel_rfl) rfl) _ _ hmax hbytes _ hseq

set_option maxHeartbeats 1000000 in
/-- **.. AND FOR THE nil MAP: nil.** -/
theorem sorted_keys_nil (w : World) :
    CallsIn Fence.wide 5 Tryz.prog 55 #[.func (.func 98) #[] #[.pointer (some ⟨w.heap.size, 0, none⟩)]] (w.alloc (.cells #[.map none] 41)) fun e w' => ∃ (v : Value) (ss : List (List UInt8)), e = .returned v ∧ ss = [] ∧
      w'.ownsRow (w.alloc (.cells #[.map none] 41)).heap.size 9 1 v ss.length ((ss.mergeSort (fun x y => decide (x ≤ y))).map encStr) ∧ (v = .slice none 0 0 ↔ ss = []) ∧ Below (w.alloc (.cells #[.map none] 41)).heap.size (w.alloc (.cells #[.map none] 41)) w' := by
  have hseq : SeqGives Fence.wide 2 Tryz.prog 98 #[.pointer (some ⟨w.heap.size, 0, none⟩)] encStr (fun ss : List (List UInt8) => ss = []) 0 (w.alloc (.cells #[.map none] 41)) :=
    AnyZ.keys_gives_nil (ρ := keysL_ren) { keysL with } Fence.wide _ trivial rfl w.heap.size _ (by simp) (by simp)
  exact AnyZ.sorted_in sortedL Fence.wide 5 trivial trivial trivial trivial rfl (by omega) (sortsL _) (enters_of Tryz.func97 (by kernel_rfl) rfl) 98 #[.pointer (some ⟨w.heap.size, 0, none⟩)] trivial (enters_of Tryz.func98 (by kernel_rfl) rfl) _ 0 (Nat.zero_le _) (by omega) _ hseq

end Go.Proofs.YtmcmagplaflegaaGreat

namespace Go.Proofs.YtmcmagplaflegaaGreat
open Go Go.RowKit Go.Maps Go.Sort Go.Shelf Go.MapL
open Go.WideElems (Fit rg)

abbrev leN : List UInt8 → List UInt8 → Bool := fun x y => decide (x ≤ y)
/-- The names, sorted. -/
def sortedN (l : List ByteArray) : List ByteArray := ((l.map fun x => x.data.toList).mergeSort leN).map fun x => ⟨x.toArray⟩
theorem sortedN_perm (l : List ByteArray) : (sortedN l).Perm l := by
  have := ((List.mergeSort_perm (l.map fun x => x.data.toList) leN).map fun x => (⟨x.toArray⟩ : ByteArray))
  refine this.trans ?_
  rw [List.map_map]
  have : ((fun x => (⟨x.toArray⟩ : ByteArray)) ∘ fun (x : ByteArray) => x.data.toList) = id := by
    funext x; cases x; simp
  rw [this, List.map_id]
/-- The keys of a map go by one name each; none is longer than 40. -/
def Tidied {β : Type} (l : List (ByteArray × β)) : Prop := (l.map (·.1)).Nodup ∧ ∀ q ∈ l, q.1.size ≤ 40

def litR (_ : Value) : Option (DataW Unit × List MemPlace) := some (.lit (.bool true), [])
theorem keys_of (l : List (Lit × DataW Unit)) : strKeys (DataW.map l) = l.map fun p => strOf p.1 := rfl
/-- A map whose keys are texts is one of the kit's. -/
theorem owns_of {w : World} {b : Nat} {l : List (ByteArray × Nat)} (h : MapAt ofText ofBlock w b l) (ht : Tidied l) (hlen : l.length ≤ 4611686018427387904) :
    ∃ D0 : DataW Unit, w.ownsMap Tryz.prog 9 litR b l.length D0 ∧ Maps.size D0 = l.length ∧ (strKeys D0).Perm (l.map fun q => q.1.data.toList) := by
  obtain ⟨es, clock, hb, hes, hnd, hlt⟩ := h
  have hsz : es.size = l.length := by
    have := congrArg List.length hes
    simpa using this
  have hkeys : es.toList.map (·.key) = l.map fun q => Value.string q.1 := by
    have := congrArg (List.map Prod.fst) hes
    rw [List.map_map, List.map_map] at this
    exact this
  have hmem : ∀ x ∈ es.toList, ∃ q ∈ l, x.key = .string q.1 := by
    intro x hx
    have : x.key ∈ es.toList.map (·.key) := List.mem_map_of_mem hx
    rw [hkeys] at this
    obtain ⟨q, hq, e⟩ := List.mem_map.1 this
    exact ⟨q, hq, e.symm⟩
  have hk : ∀ q ∈ l, keyOf Tryz.prog 9 (.string q.1) = some (.string q.1.data.toList) := fun q hq =>
    Go.WideMaps.keyOf_string_mk Tryz.underlying9 (by have := ht.2 q hq; have : maxLen = 9223372036854775807 := rfl; omega)
  have hrd : ∀ x ∈ es.toList, ∀ q ∈ l, x.key = .string q.1 → WideElems.rd Tryz.prog 9 litR x = some (.string q.1.data.toList, .lit (.bool true)) := by
    intro x _ q hq e
    unfold WideElems.rd
    rw [e, hk q hq]; rfl
  refine ⟨_, ⟨es, clock, hb, ⟨?_, ⟨hlt, hnd, ?_⟩, ?_⟩, by omega, rfl⟩, ?_, ?_⟩
  · have : maxLen = 9223372036854775807 := rfl
    omega
  · rw [hkeys]
    have := ht.1
    rw [show (l.map fun q => Value.string q.1) = (l.map (·.1)).map Value.string by rw [List.map_map]; rfl]
    exact this.map Value.string (fun a b h e => h (by injection e))
  · intro x hx
    obtain ⟨q, hq, e⟩ := hmem x hx
    exact ⟨_, hrd x hx q hq e⟩
  · rw [Maps.size_eq, (WideShapes.sorted_perm _).length_eq]; simpa using hsz
  · rw [keys_of]
    refine ((WideShapes.sorted_perm _).map _).trans ?_
    rw [List.map_map]
    have : es.toList.map ((fun p => strOf p.1) ∘ rg Tryz.prog 9 litR) = l.map fun q => q.1.data.toList := by
      have h1 : es.toList.map ((fun p => strOf p.1) ∘ rg Tryz.prog 9 litR) = (es.toList.map (·.key)).map fun v => match v with | .string s => s.data.toList | _ => [] := by
        rw [List.map_map]
        refine List.map_congr_left fun x hx => ?_
        obtain ⟨q, hq, e⟩ := hmem x hx
        simp only [Function.comp, rg, hrd x hx q hq e, e, Option.getD_some, strOf]
      rw [h1, hkeys, List.map_map]; rfl
    rw [this]

variable {p n₀ : Nat} {r : Rep} {s : DS}
theorem at_len (ad : Nat → Nat) (l : List (ByteArray × Nat)) : (at_ ad l).length = l.length := by unfold at_; simp
theorem at_keys (ad : Nat → Nat) (l : List (ByteArray × Nat)) : (at_ ad l).map (·.1) = l.map (·.1) := by
  unfold at_; rw [List.map_map]; rfl
theorem at_tidied (ad : Nat → Nat) {l : List (ByteArray × Nat)} (h : Tidied l) : Tidied (at_ ad l) := by
  refine ⟨by rw [at_keys]; exact h.1, ?_⟩
  intro q hq
  obtain ⟨q', hq', rfl⟩ := List.mem_map.1 hq
  exact h.2 q' hq'

theorem at_keysD (ad : Nat → Nat) (l : List (ByteArray × Nat)) : ((at_ ad l).map fun q => q.1.data.toList) = (l.map (·.1)).map fun x => x.data.toList := by
  unfold at_; rw [List.map_map, List.map_map]; rfl
def namesOf (s : DS) : List ByteArray := if s.dead then [] else sortedN (s.names.map (·.1))

set_option maxHeartbeats 2000000 in
theorem names_at (w : World) (h : Lies w p n₀ r s) (ht : Tidied s.names) (hlen : s.names.length ≤ 1073741824) :
    Calls Tryz.prog 19 #[ofBlock p] w fun e w' => ∃ v, e = .returned v ∧ w'.ownsRow w.heap.size 9 1 v (namesOf s).length ((namesOf s).map Value.string) ∧ Below w.heap.size w w' := by
  have ha := away_at w h
  obtain ⟨c0, c1, c2, c3, c4, c5, c6, c7⟩ := h.cells
  unfold namesOf ofBlock at *
  cases hdd : s.dead
  · rw [hdd] at ha
    obtain ⟨D0, hown, hsz, hperm⟩ := owns_of h.names (at_tidied r.ad ht) (by rw [at_len]; omega)
    rw [at_len] at hsz
    replace hown := hown
    have hso := callsIn_wide.1 (sorted_keys r.bn _ D0 litR w hown (by rw [hsz]; have : maxLen = 9223372036854775807 := rfl; omega) (by omega))
    have hke := callsIn_wide.1 (maps_Keys (some r.bn) w)
    go_enter Tryz.func19, Tryz.ntmps19
    go_wp2_with (first | (go_at_call 39; refine ha.mono ?_; rintro e w' ⟨rfl, rfl⟩) | (go_at_call 56; refine hke.mono ?_; rintro e w' ⟨rfl, rfl⟩) | (go_at_call 55; refine hso.mono ?_; rintro e w' ⟨v, ss, rfl, hS, hrow, hnil, hb⟩; replace hS := hS.trans hperm))
    go_returns
    rw [at_keysD] at hS
    have e1 : ss.mergeSort leN = (((s.names.map (·.1)).map fun x => x.data.toList).mergeSort leN) := mergeSort_of_perm hS
    have e2 : (ss.mergeSort leN).map encStr = (sortedN (s.names.map (·.1))).map Value.string := by
      unfold sortedN; rw [e1, List.map_map (f := fun x : List UInt8 => (⟨x.toArray⟩ : ByteArray)) (g := Value.string)]; rfl
    have e3 : (sortedN (s.names.map (·.1))).length = ss.length := by
      rw [(sortedN_perm _).length_eq, List.length_map, hS.length_eq]; simp
    refine ⟨_, rfl, ?_, ?_⟩
    · simp only
      rw [e3, ← e2]
      exact own_base' hrow (by simp)
    · exact ((Below.refl _ _).alloc (Nat.le_refl _) _).trans (hb.mono (by simp))
  · rw [hdd] at ha
    go_enter Tryz.func19, Tryz.ntmps19
    go_wp2_with (go_at_call 39; refine ha.mono ?_; rintro e w' ⟨rfl, rfl⟩)
    go_returns
    exact ⟨_, rfl, World.ownsRow_nil _ _ _ _, Below.refl _ _⟩
end Go.Proofs.YtmcmagplaflegaaGreat

namespace Go.Proofs.YtmcmagplaflegaaGreat
open Go Go.RowKit Go.MapL Go.Poised
variable {s : DS} {β : Type}

theorem del_mem (a : ByteArray) : ∀ (l : List (ByteArray × β)), ∀ q ∈ del a l, q ∈ l
  | [], q, h => by cases h
  | (k, v) :: l, q, h => by
    unfold del at h
    split at h
    · exact .tail _ h
    · rcases List.mem_cons.1 h with rfl | h
      · exact .head _
      · exact .tail _ (del_mem a l q h)
theorem del_sub (a : ByteArray) : ∀ (l : List (ByteArray × β)), ((del a l).map (·.1)).Sublist (l.map (·.1))
  | [] => .slnil
  | (k, v) :: l => by
    unfold del
    split
    · exact .cons _ (List.Sublist.refl _)
    · exact .cons_cons _ (del_sub a l)
theorem del_tidied {a : ByteArray} {l : List (ByteArray × β)} (h : Tidied l) : Tidied (del a l) :=
  ⟨h.1.sublist (del_sub a l), fun q hq => h.2 q (del_mem a l q hq)⟩
theorem put_mem (b : ByteArray) (i : β) : ∀ (l : List (ByteArray × β)), ∀ q ∈ put b i l, q = (b, i) ∨ q ∈ l
  | [], q, h => by simp [put] at h; exact .inl h
  | (k, v) :: l, q, h => by
    unfold put at h
    split at h
    · rcases List.mem_cons.1 h with rfl | h
      · exact .inl rfl
      · exact .inr (.tail _ h)
    · rcases List.mem_cons.1 h with rfl | h
      · exact .inr (.head _)
      · rcases put_mem b i l q h with h | h
        · exact .inl h
        · exact .inr (.tail _ h)
theorem put_keys_mem (b : ByteArray) (i : β) (l : List (ByteArray × β)) (x : ByteArray) (h : x ∈ (put b i l).map (·.1)) : x = b ∨ x ∈ l.map (·.1) := by
  obtain ⟨q, hq, rfl⟩ := List.mem_map.1 h
  rcases put_mem b i l q hq with rfl | h
  · exact .inl rfl
  · exact .inr (List.mem_map_of_mem h)
theorem put_nodup (b : ByteArray) (i : β) : ∀ (l : List (ByteArray × β)), (l.map (·.1)).Nodup → ((put b i l).map (·.1)).Nodup
  | [], _ => by simp [put]
  | (k, v) :: l, h => by
    simp only [List.map_cons, List.nodup_cons] at h
    unfold put
    split
    · rename_i e
      subst e
      simpa using h
    · rename_i e
      simp only [List.map_cons, List.nodup_cons]
      refine ⟨fun hm => ?_, put_nodup b i l h.2⟩
      rcases put_keys_mem b i l k hm with h5 | h5
      · exact e h5
      · exact h.1 h5
theorem put_tidied {b : ByteArray} {i : β} {l : List (ByteArray × β)} (h : Tidied l) (hb : b.size ≤ 40) : Tidied (put b i l) :=
  ⟨put_nodup b i l h.1, fun q hq => by rcases put_mem b i l q hq with rfl | h5; exact hb; exact h.2 q h5⟩
theorem step_tidied {a b : ByteArray} {f : Option β} {l : List (ByteArray × β)} (h : Tidied l) (hb : f ≠ none → b.size ≤ 40) : Tidied (step a b f l) := by
  cases f with
  | none => exact del_tidied h
  | some i => exact put_tidied (del_tidied h) (hb (by simp))
theorem le_sum : ∀ (l : List Nat) (x : Nat), x ∈ l → x ≤ l.sum
  | y :: l, x, h => by
    rw [List.sum_cons]
    rcases List.mem_cons.1 h with rfl | h
    · omega
    · have := le_sum l x h; omega
theorem held_used {i : Nat} (h1 : 1 ≤ i) (h2 : i ≤ s.births) (hh : held s i = true) : (s.file i).b.length ≤ usedOf s := by
  refine le_sum _ _ (List.mem_map.2 ⟨i - 1, by simp; omega, ?_⟩)
  simp only [show i - 1 + 1 = i by omega, hh, if_true]
theorem held_of_name {x : ByteArray} {i : Nat} (h : (x, i) ∈ s.names) : held s i = true := by
  unfold held; rw [List.any_eq_true]; exact ⟨(x, i), List.mem_append_left _ h, by simp⟩


theorem wf_renamed {a b : ByteArray} {f : Option Nat} (hwf : WF s) (hc : s.works.length < 1073741824) (hf : ∀ i, f = some i → 1 ≤ i ∧ i ≤ s.births) : WF (s.renamed a b f) := { hwf with
  names := step_in (P := fun i => 1 ≤ i ∧ i ≤ s.births) hwf.names hf
  works := fun q hq i hi => by
    rcases List.mem_append.1 hq with hq | hq
    · exact hwf.works q hq i hi
    · rw [List.mem_singleton] at hq; subst hq; exact hf i hi
  count := by show (s.works ++ [(a, b, f)]).length ≤ _; simp; omega }
/-- A file is another one. -/
def DS.setf (s : DS) (i : Nat) (f : FileS) : DS := { s with file := upd s.file i f }
theorem wf_setf {i : Nat} {f : FileS} (hwf : WF s) (hl : ∀ x ∈ f.b, x < 256) (hlen : f.b.length ≤ 16777216) (hm : f.mark ≤ f.b.length) : WF (s.setf i f) := { hwf with
  bytes := fun j x hx => by
    by_cases hj : j = i
    · subst hj; simp only [DS.setf, upd_same] at hx; exact hl x hx
    · simp only [DS.setf, upd_other _ _ hj] at hx; exact hwf.bytes j x hx
  len := fun j => by
    by_cases hj : j = i
    · subst hj; simp only [DS.setf, upd_same]; exact hlen
    · simp only [DS.setf, upd_other _ _ hj]; exact hwf.len j
  mark := fun j => by
    by_cases hj : j = i
    · subst hj; simp only [DS.setf, upd_same]; exact hm
    · simp only [DS.setf, upd_other _ _ hj]; exact hwf.mark j }

/-- What holds of a disk to which no more than m deeds were done. -/
structure Sound (m : Nat) (s : DS) : Prop where
  wf : WF s
  tn : Tidied s.names
  tk : Tidied s.kept
  tw : ∀ q ∈ s.works, q.2.2 ≠ none → q.2.1.size ≤ 40
  nb : s.births ≤ m
  nw : s.works.length ≤ m
  na : ∀ n, (after s n).length ≤ m
  eq : s.names = after s s.works.length
theorem Sound.nn {m : Nat} (h : Sound m s) : s.names.length ≤ m := by rw [h.eq]; exact h.na _
theorem Sound.nk {m : Nat} (h : Sound m s) : s.kept.length ≤ m := by have := h.na 0; simpa [after] using this
theorem Sound.mono {m k : Nat} (h : Sound m s) (hk : m ≤ k) : Sound k s := { h with
  nb := Nat.le_trans h.nb hk
  nw := Nat.le_trans h.nw hk
  na := fun n => Nat.le_trans (h.na n) hk }
theorem tidied_nil : Tidied ([] : List (ByteArray × β)) := ⟨by simp, by simp⟩
theorem sound_new {room : Nat} (h : room ≤ 16777216) : Sound 0 (DS.new room) := {
  wf := wf_new room h
  tn := tidied_nil
  tk := tidied_nil
  tw := by simp [DS.new]
  nb := by simp [DS.new]
  nw := by simp [DS.new]
  na := by simp [DS.new, after]
  eq := by simp [DS.new, after] }
theorem sound_tick {m : Nat} (h : Sound m s) : Sound m s.tick := { h with wf := wf_tick h.wf }
theorem sound_setf {m : Nat} {i : Nat} {f : FileS} (h : Sound m s) (hl : ∀ x ∈ f.b, x < 256) (hlen : f.b.length ≤ 16777216) (hm : f.mark ≤ f.b.length) : Sound m (s.setf i f) := { h with wf := wf_setf h.wf hl hlen hm }
theorem after_renamed (a b : ByteArray) (f : Option Nat) (n : Nat) : after (s.renamed a b f) n = if n ≤ s.works.length then after s n else stepW (after s s.works.length) (a, b, f) := by
  unfold after DS.renamed
  simp only
  split
  · rename_i h
    rw [List.take_append_of_le_length h]
  · rename_i h
    rw [List.take_of_length_le (by simp; omega), List.take_of_length_le (Nat.le_refl _), List.foldl_append]
    rfl
theorem sound_renamed {m : Nat} {a b : ByteArray} {f : Option Nat} (h : Sound m s) (hm : m < 1073741824) (hf : ∀ i, f = some i → 1 ≤ i ∧ i ≤ s.births) (hb : f ≠ none → b.size ≤ 40) : Sound (m + 1) (s.renamed a b f) := {
  wf := wf_renamed h.wf (by have := h.nw; omega) hf
  tn := step_tidied h.tn hb
  tk := h.tk
  tw := fun q hq hq2 => by
    rcases List.mem_append.1 hq with hq | hq
    · exact h.tw q hq hq2
    · rw [List.mem_singleton] at hq; subst hq; exact hb hq2
  nb := Nat.le_succ_of_le h.nb
  nw := by show (s.works ++ [(a, b, f)]).length ≤ _; have := h.nw; simp; omega
  na := fun n => by
    rw [after_renamed]
    split
    · exact Nat.le_succ_of_le (h.na n)
    · have := step_len a b f (after s s.works.length); have := h.na s.works.length; unfold stepW; simp only; omega
  eq := by
    rw [after_renamed, if_neg (by show ¬ (s.works ++ [(a, b, f)]).length ≤ _; simp), ← h.eq]; rfl }
theorem sound_born {m : Nat} (h : Sound m s) (hm : m < 1073741824) : Sound (m + 1) s.born := { h with
  wf := wf_born h.wf (by have := h.nb; omega)
  nb := by show s.births + 1 ≤ _; have := h.nb; omega
  nw := Nat.le_succ_of_le h.nw
  na := fun n => Nat.le_succ_of_le (h.na n) }
theorem Sound.used {m : Nat} (h : Sound m s) {x : ByteArray} {i : Nat} (hf : fileOf s x = some i) : (s.file i).b.length ≤ usedOf s := by
  have h3 := fileOf_in h.wf hf
  exact held_used h3.1 h3.2 (held_of_name (look_mem hf))
theorem sound_crash {m : Nat} (h : Sound m s) (keep : List Int) : Sound m (s.crash keep) := by
  unfold DS.crash
  split
  · exact h
  · obtain ⟨e1, e2, e3, e4, e5, e6⟩ := crashFiles_same keep (rising ((after s (brought keep 0 s.works.length)).map (·.2))) s 0
    have hw := wf_crashFiles keep (rising ((after s (brought keep 0 s.works.length)).map (·.2))) s 0 h.wf
    have hin := after_in h.wf (brought keep 0 s.works.length)
    have hlen := h.na (brought keep 0 s.works.length)
    have htid : Tidied (after s (brought keep 0 s.works.length)) := by
      unfold after
      have key : ∀ (ws : List (ByteArray × ByteArray × Option Nat)) (l : List (ByteArray × Nat)), (∀ q ∈ ws, q.2.2 ≠ none → q.2.1.size ≤ 40) → Tidied l → Tidied (ws.foldl stepW l) := by
        intro ws
        induction ws with
        | nil => intro l _ hl; exact hl
        | cons x ws ih => intro l hw hl; exact ih (stepW l x) (fun q hq => hw q (.tail _ hq)) (step_tidied hl (hw x (.head _)))
      exact key _ _ (fun q hq => h.tw q (List.mem_of_mem_take hq)) h.tk
    exact {
      wf := { hw with
        room := by rw [e2]; exact h.wf.room
        births := by rw [e1]; exact h.wf.births
        names := by rw [e1]; exact hin
        kept := by rw [e1]; exact hin
        works := by simp
        count := by simp
        fails := by simp }
      tn := htid
      tk := htid
      tw := by simp
      nb := by show (crashFiles _ _ _ _).births ≤ _; rw [e1]; exact h.nb
      nw := by simp
      na := fun n => by simpa [after] using hlen
      eq := by simp [after] }
theorem sound_append {m : Nat} (h : Sound m s) (hm : m < 536870912) (x : ByteArray) (l : List Nat) (hl : ∀ x ∈ l, x < 256) : Sound (m + 2) (s.append x l).1 := by
  unfold DS.append
  split
  · exact h.mono (by omega)
  · split
    · exact h.mono (by omega)
    · rename_i hok
      split
      · exact h.mono (by omega)
      · rename_i hroom
        split
        · exact (sound_crash h _).mono (by omega)
        · have hr := h.wf.room
          have ht := sound_tick h
          simp only [Bool.not_eq_false, Bool.and_eq_true, decide_eq_true_eq] at hok
          cases hf : fileOf s x with
          | some i =>
            have he : s.tick.find x = (s.tick, i) := by unfold DS.find; rw [show fileOf s.tick x = some i from hf]
            rw [he]
            have h4 := h.used hf
            have h5 := h.wf.mark i
            refine (sound_setf (f := ⟨(s.file i).b ++ l, (s.file i).mark⟩) ht (fun y hy => ?_) ?_ ?_).mono (by omega)
            · rcases List.mem_append.1 hy with hy | hy
              · exact h.wf.bytes i y hy
              · exact hl y hy
            · simp only [List.length_append]; omega
            · simp only [List.length_append]; omega
          | none =>
            have he : s.tick.find x = (s.tick.born.renamed ⟨#[]⟩ x (some (s.births + 1)), s.births + 1) := by unfold DS.find; rw [show fileOf s.tick x = none from hf]; rfl
            rw [he]
            have hb : ((s.tick.born.renamed ⟨#[]⟩ x (some (s.births + 1))).file (s.births + 1)) = ⟨[], 0⟩ := upd_same _ _ _
            refine sound_setf (i := s.births + 1) (sound_renamed (sound_born ht (by omega)) (by omega) (fun i hi => ?_) (fun _ => hok.2)) (fun y hy => ?_) ?_ ?_
            · cases hi; exact ⟨by omega, Nat.le_refl _⟩
            · rw [hb] at hy; exact hl y (by simpa using hy)
            · rw [hb]; simp; omega
            · rw [hb]; simp
theorem sound_work {m k : Nat} (h : Sound m s) (hk : m ≤ k) (x : ByteArray) (ok : Bool) (f : DS → Nat → DS) (hf : ∀ i, fileOf s x = some i → ok = true → Sound k (f s.tick i)) : Sound k (s.work (ofRes s x ok) f).1 := by
  unfold DS.work
  split
  · exact h.mono hk
  · rename_i i hi
    split
    · exact (sound_crash h _).mono hk
    · obtain ⟨_, h2, h3⟩ := ofRes_some hi
      exact hf i h2 h3
theorem sound_sync {m : Nat} (h : Sound m s) (x : ByteArray) : Sound m (s.sync x).1 :=
  sound_work h (Nat.le_refl _) x true _ fun i _ _ => sound_setf (f := ⟨(s.file i).b, (s.file i).b.length⟩) (sound_tick h) (h.wf.bytes i) (h.wf.len i) (Nat.le_refl _)
theorem sound_remove {m : Nat} (h : Sound m s) (hm : m < 536870912) (x : ByteArray) : Sound (m + 1) (s.remove x).1 :=
  sound_work h (by omega) x true _ fun i _ _ => sound_renamed (sound_tick h) (by omega) (fun i hi => by cases hi) (fun e => absurd rfl e)
theorem sound_rename {m : Nat} (h : Sound m s) (hm : m < 536870912) (x y : ByteArray) : Sound (m + 1) (s.rename x y).1 :=
  sound_work h (by omega) x (okName y) _ fun i hi hok => by
    split
    · exact (sound_tick h).mono (by omega)
    · unfold okName at hok
      simp only [Bool.and_eq_true, decide_eq_true_eq] at hok
      exact sound_renamed (sound_tick h) (by omega) (fun j hj => by cases hj; exact fileOf_in h.wf hi) (fun _ => hok.2)
theorem sound_syncNames {m : Nat} (h : Sound m s) : Sound m s.syncNames.1 := by
  unfold DS.syncNames
  split
  · exact h
  · split
    · exact sound_crash h _
    · exact {
        wf := { wf_tick h.wf with
          kept := h.wf.names
          works := by simp
          count := by simp }
        tn := h.tn
        tk := h.tn
        tw := by simp
        nb := h.nb
        nw := by simp
        na := fun n => by simpa [after] using h.nn
        eq := by simp [after, DS.tick] }
def DS.boot (s : DS) : DS := { s with dead := false, fails := -1 }
theorem sound_boot {m : Nat} (h : Sound m s) : Sound m s.boot := { h with wf := { h.wf with fails := by simp [DS.boot] } }
/-- Fail, plainly. -/
def DS.fail (s : DS) (n : Int) (keep : List Int) : DS := if s.dead then s else { s with fails := max n (-1), keep := keep }
theorem sound_fail {m : Nat} (h : Sound m s) (n : Int) (keep : List Int) (hn : n ≤ 9223372036854775807) (h1 : ∀ x ∈ keep, -9223372036854775808 ≤ x ∧ x ≤ 9223372036854775807) (h2 : keep.length ≤ 17592186044416) : Sound m (s.fail n keep) := by
  unfold DS.fail
  split
  · exact h
  · exact { h with wf := { h.wf with
      fails := by simp only; omega
      keepB := h1
      keepL := h2 } }
/-- Cut, plainly. -/
def DS.cut (s : DS) (x : ByteArray) (n : Int) : DS × Int :=
  if s.dead then (s, 51) else match fileOf s x with
    | none => (s, 50)
    | some i => if n < 0 ∨ ((s.file i).b.length : Int) < n then (s, 9) else if s.fails = 0 then (s.crash s.keep, 51) else (s.tick.setf i ⟨(s.file i).b.take n.toNat, min (s.file i).mark n.toNat⟩, 0)
theorem sound_cut {m : Nat} (h : Sound m s) (x : ByteArray) (n : Int) : Sound m (s.cut x n).1 := by
  unfold DS.cut
  split
  · exact h
  · split
    · exact h
    · rename_i i _
      split
      · exact h
      · split
        · exact sound_crash h _
        · have := h.wf.len i
          have := h.wf.mark i
          refine sound_setf (sound_tick h) (fun y hy => h.wf.bytes i y (List.mem_of_mem_take hy)) ?_ ?_
          · simp only [List.length_take]; omega
          · simp only [List.length_take]; omega
/-- Turn, plainly. -/
def DS.turn (s : DS) (x : ByteArray) (k bit : Int) : DS × Int :=
  if s.dead then (s, 51) else match fileOf s x with
    | none => (s, 50)
    | some i => if k < 0 ∨ ((s.file i).b.length : Int) ≤ k ∨ bit < 0 ∨ 7 < bit then (s, 9) else (s.setf i ⟨(s.file i).b.set k.toNat ((s.file i).b.getD k.toNat 0 ^^^ 2 ^ bit.toNat), (s.file i).mark⟩, 0)
theorem sound_turn {m : Nat} (h : Sound m s) (x : ByteArray) (k bit : Int) : Sound m (s.turn x k bit).1 := by
  unfold DS.turn
  split
  · exact h
  · split
    · exact h
    · rename_i i _
      split
      · exact h
      · rename_i hc
        refine sound_setf h (fun y hy => ?_) ?_ ?_
        · rcases List.mem_or_eq_of_mem_set hy with hy | rfl
          · exact h.wf.bytes i y hy
          · refine Nat.xor_lt_two_pow (n := 8) ?_ ?_
            · rw [List.getD_eq_getElem?_getD, List.getElem?_eq_getElem (by omega)]
              exact h.wf.bytes i _ (List.getElem_mem _)
            · exact Nat.pow_lt_pow_right (by omega) (by omega)
        · simp only [List.length_set]; exact h.wf.len i
        · simp only [List.length_set]; exact h.wf.mark i
end Go.Proofs.YtmcmagplaflegaaGreat

namespace Go.LawKit
open Go Go.RowKit Go.WideShapes Go.ChangeShapes Go.WideMaps

section
variable {H : Type} {enc : TypeId × Value → H} {P : Program}
theorem post_of_below {f : Func} {s : ChangeSpec} {apart fresh handsOn again : Bool} {W W' : World} {args : Array Value} {v : Value} {ds gs : List (DataW H)} {before pa pv : List MemPlace}
    (hW : DataW.Whole enc P f.params.toList s.vars apart W args.toList ds gs before)
    (hres : ∀ (b : Nat) (sp : Nat → Bool) (hd : Bool), DataW.TrodAll enc P W' b sp hd f.resultTypes.toList (v.resultList f.resultTypes.size) (s.fn H (ds ++ gs)).results [])
    (hargs : ∀ sp : Nat → Bool, (∀ p ∈ before, sp p.block = true) → DataW.TrodAll enc P W' 0 sp true f.params.toList args.toList (s.fn H (ds ++ gs)).args pa)
    (hvars : ∀ sp : Nat → Bool, (∀ p ∈ before, sp p.block = true) → DataW.TrodVars enc P W' sp s.vars (s.fn H (ds ++ gs)).vars pv)
    (hps : before = pa ++ pv) (hb : Below W.heap.size W W')
    (hok : ∀ (j : Nat) (t : TypeId) (r : Value), f.resultTypes[j]? = some t → (v.resultList f.resultTypes.size)[j]? = some r → Value.okWide P W' .any 0 t r) :
    s.post enc P f apart fresh handsOn again W args v W' := by
  have hlt : ∀ p ∈ before, p.block < W.heap.size := fun p hp => hW.lt p hp
  have hold : ∀ p ∈ before, (fun b => decide (b < W.heap.size)) p.block = true := fun p hp => by simpa using hlt p hp
  refine ⟨ds, gs, before, [], pa, pv, hW, hres _ _ _, hargs _ hold, hvars _ hold, World.keptBut_mono (fun p hp => ⟨hp, ?_⟩) (hb.frame (· ∈ before)), fun _ => ?_⟩
  · rw [hps, List.mem_append] at hp
    exact Or.inr hp
  · obtain ⟨_, _, _, _, _, hz, hn⟩ := hW
    refine ⟨hok, _, _, ([] ++ pa) ++ pv, ⟨[] ++ pa, pv, trodAll_append (hargs _ (fun _ _ => rfl)) (hres _ _ _), hvars _ (fun _ _ => rfl), rfl, ?_, ?_⟩, ?_⟩
    · intro b off hp
      have hin : MemPlace.cell b off ∈ before := by rw [hps]; simpa using hp
      rw [hb.frozen (hlt _ hin)]
      exact hz b off hin
    · intro ha
      have := hn ha
      rw [hps] at this
      simpa using this
    · intro p hp _
      rw [hps]
      simpa using hp

theorem trodAll_stays (hl : laidOutB P = true) {W W' : World} {sp : Nat → Bool} : ∀ (ts : List TypeId) (vs : List Value) (ds : List (DataW H)) (ps : List MemPlace), (∀ t ∈ ts, P.readableRec t = true ∧ t < P.types.size) →
    DataW.TrodAll enc P W 0 (fun _ => true) true ts vs ds ps → (∀ p ∈ ps, W.sameAt W' p) → (∀ p ∈ ps, sp p.block = true) → DataW.TrodAll enc P W' 0 sp true ts vs ds ps
  | [], [], [], _, _, h, _, _ => h
  | t :: ts, v :: vs, d :: ds, ps, hr, h, hs, hp => by
    obtain ⟨p, q, h1, h2, rfl⟩ := h
    exact ⟨p, q, WideElems.Trod_stays hl (hr t (by simp)).1 (hr t (by simp)).2 h1 (fun x hx => hs x (by simp [hx])) (fun x hx => hp x (by simp [hx])),
      trodAll_stays hl ts vs ds q (fun t ht => hr t (by simp [ht])) h2 (fun x hx => hs x (by simp [hx])) (fun x hx => hp x (by simp [hx])), rfl⟩
  | [], [], _ :: _, _, _, h, _, _ => h.elim
  | [], _ :: _, _, _, _, h, _, _ => h.elim
  | _ :: _, [], _, _, _, h, _, _ => h.elim
  | _ :: _, _ :: _, [], _, _, h, _, _ => h.elim

/-- The post of a law: true, every argument as it read. -/
theorem law_post {f : Func} {s : ChangeSpec} {apart fresh handsOn again : Bool} {W W' : World} {args : Array Value} {ds : List (DataW H)} {before : List MemPlace} {tb : TypeId}
    (hl : laidOutB P = true) (hr : ∀ t ∈ f.params.toList, P.readableRec t = true ∧ t < P.types.size) (hrt : f.resultTypes = #[tb]) (htb : P.underlying tb = some .bool) (hvs : s.vars = [])
    (hW : DataW.Whole enc P f.params.toList s.vars apart W args.toList ds [] before) (hfn : s.fn H (ds ++ []) = { results := [.lit (.bool true)], args := ds }) (hb : Below W.heap.size W W') :
    s.post enc P f apart fresh handsOn again W args (.bool true) W' := by
  have hlt := hW.lt
  have hW' := hW
  obtain ⟨p, q, hA, hV, hpq, _, _⟩ := hW
  rw [hvs] at hV
  have hq : q = [] := by simpa [DataW.TrodVars] using hV
  have hpb : p = before := by rw [hpq, hq, List.append_nil]
  have hlt' : ∀ x ∈ p, x.block < W.heap.size := fun x hx => hlt x (hpb ▸ hx)
  refine post_of_below (pa := p) (pv := []) hW' ?_ ?_ ?_ (by rw [hpb, List.append_nil]) hb ?_
  · intro b sp hd
    rw [hfn, hrt]
    exact trodAll_cons_mk (shut_bool htb _) trodAll_mk0
  · intro sp hsp
    rw [hfn]
    exact trodAll_stays hl _ _ _ _ hr hA (fun x hx => hb.same (hlt' x hx)) (fun x hx => hsp x (hpb ▸ hx))
  · intro sp hsp
    rw [hfn, hvs]
    rfl
  · exact ok_one hrt rfl (okWide_bool_mk htb _)

/-! ### An array of four numbers of 64 bits -/
variable {W : World} {base : Nat} {sp : Nat → Bool} {held : Bool} {k e : TypeId} {q : IntKind}
theorem okWide_four (A : ArrKey P k e 4) {r : Reach} {b0 : Nat} {v : Value} (h : Value.okWide P W r b0 k v) : ∃ c0 c1 c2 c3, v = .agg #[c0, c1, c2, c3] := by
  simp only [Value.okWide, A.hu] at h
  obtain ⟨cs, h1, h2, _⟩ := h
  rw [A.size] at h2
  obtain ⟨l⟩ := cs
  match l, h2 with
  | [c0, c1, c2, c3], _ => exact ⟨c0, c1, c2, c3, h1⟩

theorem open_four (A : ArrKey P k e 4) (he : P.underlying e = some (.int q)) {r : Reach} {b0 : Nat} {v : Value} {d : DataW H} {ps : List MemPlace} (hval : Value.okWide P W r b0 k v) (hd : DataW.Trod enc P W base sp held k v d ps) :
    ∃ a b c d' : Int, v = .agg #[.int q a, .int q b, .int q c, .int q d'] ∧ ps = [] ∧ (Lit.int q a).wf = true ∧ (Lit.int q b).wf = true ∧ (Lit.int q c).wf = true ∧ (Lit.int q d').wf = true := by
  obtain ⟨c0, c1, c2, c3, rfl⟩ := okWide_four A hval
  obtain ⟨fuel, hf⟩ := hd
  cases fuel with
  | zero => simp [DataW.trod] at hf
  | succ n =>
    rw [DataW.trod_step] at hf
    unfold DataW.trodStep at hf
    simp only [A.hu, Value.cells] at hf
    rw [if_pos (by rw [A.size]; rfl)] at hf
    simp only [Option.map_eq_some_iff] at hf
    obtain ⟨xs, hx, e1⟩ := hf
    rw [show List.range 4 = [0, 1, 2, 3] from rfl, List.mapM_cons, List.mapM_cons, List.mapM_cons, List.mapM_cons, List.mapM_nil] at hx
    simp only [bind, Option.bind_eq_some_iff, pure, Option.some.injEq, A.one] at hx
    obtain ⟨y0, h0, _, ⟨y1, h1, _, ⟨y2, h2, _, ⟨y3, h3, _, rfl, rfl⟩, rfl⟩, rfl⟩, rfl⟩ := hx
    obtain ⟨a, ea, rfl, wa⟩ := DataW.trod_int he h0
    obtain ⟨b, eb, rfl, wb⟩ := DataW.trod_int he h1
    obtain ⟨c, ec, rfl, wc⟩ := DataW.trod_int he h2
    obtain ⟨d', ed, rfl, wd⟩ := DataW.trod_int he h3
    simp at ea eb ec ed
    subst ea; subst eb; subst ec; subst ed
    simp only [Prod.mk.injEq] at e1
    exact ⟨a, b, c, d', rfl, by rw [← e1.2]; rfl, wa, wb, wc, wd⟩

end
end Go.LawKit
