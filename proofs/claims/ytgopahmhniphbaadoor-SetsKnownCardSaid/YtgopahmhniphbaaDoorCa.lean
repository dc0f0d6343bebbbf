/-
  What all eight cards of this seat share: the table of math/bits, what the arguments are, a world for the witness.
-/
import Derived.Test.YtgopahmhniphbaaDoorCards
import Derived.Test.YtgopahmhniphbaaDoorTie
import Derived.Test.YtgopahmhniphbaaDoorKit
import Derived.Test.YtgopahmhniphbaaDoorWe
namespace Go.Proofs.YtgopahmhniphbaaDoor
open Go.ChangeShapes Go.WideShapes Go.ChangeAt Go.RowKit Go.WideMaps Go.LawKit Sp

theorem own : ownKnob Tryd.prog.godebug = none := by kernel_rfl
theorem gTab : Tryd.prog.globalNamed "math/bits.deBruijn64tab" = some 0 := by kernel_rfl
theorem gTabType : (Tryd.prog.globals[0]?).map (·.type) = some 53 := by kernel_rfl
theorem cells53 : Tryd.prog.cellsOf 53 = 64 := by kernel_rfl
theorem cells5 : Tryd.prog.cellsOf 5 = 1 := by kernel_rfl
theorem laidOut : laidOutB Tryd.prog = true := by kernel_rfl
theorem arr24 : ArrKey Tryd.prog 24 22 4 := ⟨Tryd.underlying24, by kernel_rfl, by kernel_rfl, by kernel_rfl⟩

def tabInts : List Int := Lib.deBruijn64tab.map fun (n : Nat) => (n : Int)
theorem tab_of {W : World} (h : laidMetH Tryd.prog [("math/bits.deBruijn64tab", Rows.laid_math_bits_deBruijn64tab)] W) : Tab W := by
  have ht : Lib.TabIs Tryd.prog W "math/bits.deBruijn64tab" .u8 tabInts :=
    Lib.tabIs_of_head (rest := []) gTab gTabType Tryd.underlying53 Tryd.underlying5 cells5 cells53 h
  intro j hj
  have := ht.cell gTab j (by simpa [tabInts, Lib.deBruijn64tab] using hj)
  rw [this]
  congr 2
  have hl : j < Lib.deBruijn64tab.length := hj
  simp [tabInts, List.getD_eq_getElem?_getD, hl]

theorem wf_u64 {a : Int} (h : (Lit.int .u64 a).wf = true) : 0 ≤ a ∧ a < 18446744073709551616 := by
  simp [Lit.wf, IntKind.min, IntKind.max, IntKind.signed, IntKind.bits] at h
  omega

theorem byte_nat {a : Int} (h : (Lit.int .u8 a).wf = true) : ∃ n : Nat, n < 256 ∧ a = n := by
  simp [Lit.wf, IntKind.min, IntKind.max, IntKind.signed, IntKind.bits] at h
  exact ⟨a.toNat, by omega, by omega⟩
theorem slice_cells {W : World} {r : Reach} {b0 : Nat} {v : Value} (h : Value.okWide Tryd.prog W r b0 30 v) : v.cells = #[v] := by
  simp only [Value.okWide, Tryd.underlying30, Cell.okWide] at h
  cases v <;> first | rfl | (simp [Cell.ok, Tryd.underlying30] at h)

theorem wn_of (n i : Nat) : wn (BitVec.ofNat 256 n) i = n % 2 ^ 256 / 2 ^ (64 * i) % 2 ^ 64 := by
  simp [wn, wd, BitVec.extractLsb'_toNat, Nat.shiftRight_eq_div_pow]

/-- What an argument of the type Set is. -/
theorem open_set {H : Type} {enc : TypeId × Value → H} {W : World} {base : Nat} {sp : Nat → Bool} {held : Bool} {r : Reach} {b0 : Nat} {v : Value} {d : DataW H} {ps : List MemPlace} (hval : Value.okWide Tryd.prog W r b0 24 v) (hd : DataW.Trod enc Tryd.prog W base sp held 24 v d ps) :
    ∃ s : S, v = sv s := by
  obtain ⟨a, b, c, e, rfl, _, wa, wb, wc, we⟩ := open_four arr24 Tryd.underlying22 hval hd
  have ha := wf_u64 wa
  have hb := wf_u64 wb
  have hc := wf_u64 wc
  have he := wf_u64 we
  obtain ⟨a, rfl⟩ := Int.eq_ofNat_of_zero_le ha.1
  obtain ⟨b, rfl⟩ := Int.eq_ofNat_of_zero_le hb.1
  obtain ⟨c, rfl⟩ := Int.eq_ofNat_of_zero_le hc.1
  obtain ⟨e, rfl⟩ := Int.eq_ofNat_of_zero_le he.1
  refine ⟨BitVec.ofNat 256 (a + 18446744073709551616 * (b + 18446744073709551616 * (c + 18446744073709551616 * e))), ?_⟩
  have h0 := wn_of (a + 18446744073709551616 * (b + 18446744073709551616 * (c + 18446744073709551616 * e))) 0
  have h1 := wn_of (a + 18446744073709551616 * (b + 18446744073709551616 * (c + 18446744073709551616 * e))) 1
  have h2 := wn_of (a + 18446744073709551616 * (b + 18446744073709551616 * (c + 18446744073709551616 * e))) 2
  have h3 := wn_of (a + 18446744073709551616 * (b + 18446744073709551616 * (c + 18446744073709551616 * e))) 3
  unfold sv
  rw [h0, h1, h2, h3]
  have k0 : (a + 18446744073709551616 * (b + 18446744073709551616 * (c + 18446744073709551616 * e))) % 2 ^ 256 / 2 ^ (64 * 0) % 2 ^ 64 = a := by omega
  have k1 : (a + 18446744073709551616 * (b + 18446744073709551616 * (c + 18446744073709551616 * e))) % 2 ^ 256 / 2 ^ (64 * 1) % 2 ^ 64 = b := by omega
  have k2 : (a + 18446744073709551616 * (b + 18446744073709551616 * (c + 18446744073709551616 * e))) % 2 ^ 256 / 2 ^ (64 * 2) % 2 ^ 64 = c := by omega
  have k3 : (a + 18446744073709551616 * (b + 18446744073709551616 * (c + 18446744073709551616 * e))) % 2 ^ 256 / 2 ^ (64 * 3) % 2 ^ 64 = e := by omega
  rw [k0, k1, k2, k3]

/-- What a slice of bytes is. -/
theorem open_bytes {H : Type} {enc : TypeId × Value → H} {W : World} {v : Value} {d : DataW H} {ps : List MemPlace} (hd : DataW.Trod enc Tryd.prog W 0 (fun _ => true) true 30 v d ps) (hcell : v.cells = #[v]) :
    ∃ l : List Nat, BytesIn W v l := by
  obtain ⟨fuel, hf⟩ := hd
  rw [hcell] at hf
  rcases open_ints Tryd.underlying30 Tryd.underlying5 cells5 hf with ⟨h1, _⟩ | ⟨a, len, cap, zs, h1, _, hlc, hcm, hzl, _, hcells, hwf⟩
  · obtain rfl : v = .slice none 0 0 := by simpa using h1
    exact ⟨[], by simp, by simp, .inl ⟨rfl, rfl⟩⟩
  · obtain rfl : v = .slice (some a) len cap := by simpa using h1
    have hz : ∀ z ∈ zs, 0 ≤ z ∧ z < 256 := fun z hz => by
      have := hwf z hz
      simp [Lit.wf, IntKind.min, IntKind.max, IntKind.signed, IntKind.bits] at this
      omega
    have hlen : len ≤ zs.length := by rw [hzl]; simp; omega
    have hmax : len ≤ 9223372036854775807 := by unfold maxLen at hcm; omega
    refine ⟨(zs.take len).map Int.toNat, ?_, by simp; omega, ?_⟩
    · intro x hx
      obtain ⟨z, hz1, rfl⟩ := List.mem_map.1 hx
      have := hz z (List.mem_of_mem_take hz1)
      omega
    · by_cases h0 : len = 0
      · subst h0; exact .inr (.inl ⟨a, cap, rfl, by simp⟩)
      · have hc0 := hcells 0 (by omega)
        rw [Addr.add_zero'] at hc0
        obtain ⟨b, off, spot⟩ := a
        obtain rfl : spot = none := by
          cases spot with
          | none => rfl
          | some n =>
            simp only [World.cell?] at hc0
            split at hc0 <;> simp at hc0
        have hl' : ((zs.take len).map Int.toNat).length = len := by simp; omega
        refine .inr (.inr ⟨b, off, cap, by rw [hl'], fun k hk => ?_⟩)
        rw [hl'] at hk
        have hk' := hcells k (by omega)
        have hadd : (⟨b, off, none⟩ : Addr).add k = ⟨b, off + k, none⟩ := by
          unfold Addr.add; split
          · rename_i h; subst h; rfl
          · rfl
        rw [hadd] at hk'
        rw [hk']
        congr 2
        have hkz : k < zs.length := by omega
        have hb := hz (zs.getD k 0) (by rw [List.getD_eq_getElem?_getD, List.getElem?_eq_getElem hkz]; exact List.getElem_mem hkz)
        have : ((zs.take len).map Int.toNat).getD k 0 = (zs.getD k 0).toNat := by
          simp [List.getD_eq_getElem?_getD, hk, hkz]
        rw [this]
        omega

/-- A world for the witnesses: the settled one, the table (block 0) holding what its initialiser lays. -/
noncomputable def laidWorld (os : Os) : World :=
  { World.holding Tryd.prog os ⟨#[], #[], []⟩ with heap := (World.holding Tryd.prog os ⟨#[], #[], []⟩).heap.modify 0 fun
      | .cells _ t frozen => .cells (tabInts.map (Value.int .u8)).toArray t frozen
      | o => o }
end Go.Proofs.YtgopahmhniphbaaDoor
