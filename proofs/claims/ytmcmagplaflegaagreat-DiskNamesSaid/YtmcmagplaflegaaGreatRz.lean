/-
  THE DOCUMENT'S DISK: names, the room that is, walked. Conditions: those of each theorem.
-/
import Derived.Test.YtmcmagplaflegaaGreatRy
namespace Go.Proofs.YtmcmagplaflegaaGreat
open Go Go.RowKit Go.MapL Go.Poised
variable {w w' : World} {p n₀ : Nat} {r : RRep} {d : RD}

set_option maxRecDepth 100000 in
set_option maxHeartbeats 4000000 in
theorem sizeR_any (x : ByteArray) (w : World) (h : RLies w p n₀ r d) (hw : RWF d) :
    Calls Tryz.prog 118 #[ofBlock p, .string x] w fun e w' => e = .returned (.tuple #[.int .i64 ((readR d x).1.length : Nat), .int .i64 (readR d x).2]) ∧ Below w.heap.size w w' := by
  have hr := readR_any x w h hw
  unfold ofBlock at *
  generalize readR d x = q at *
  obtain ⟨l, c⟩ := q
  clear h hw
  go_enter Tryz.func118, Tryz.ntmps118
  go_wp2_with (go_at_call 117; refine hr.mono ?_; clear hr; rintro e w2 ⟨v', rfl, hv, hb⟩; obtain ⟨vq, vc, rfl⟩ := own_shape hv; replace hv : Hid _ := hv)
  go_returns
  exact ⟨rfl, hb⟩
theorem info9 : (Tryz.prog.info? 9).map (fun i => (i.zero, i.size, i.bytes)) = some (some (.string ⟨#[]⟩), 1, 16) := by kernel_rfl
set_option maxRecDepth 100000 in
set_option maxHeartbeats 4000000 in
theorem namesR_any (w : World) (h : RLies w p n₀ r d) (hw : RWF d) :
    Calls Tryz.prog 114 #[ofBlock p] w fun e w' => ∃ v', e = .returned v' ∧ w'.ownsRow w.heap.size 9 1 v' (namesR d).length ((namesR d).map Value.string) ∧ Below w.heap.size w w' := by
  obtain ⟨i0, hi, hz0, hz1, hz2⟩ := info_parts info9
  have hlen := hw.now
  have hcs := h.cells
  have hpl := (Array.getElem?_eq_some_iff.1 h.top).1
  obtain ⟨nq, nc, hne⟩ := own_shape h.now
  unfold ofBlock
  rw [hne] at hcs
  by_cases hd : d.dead = true
  · have he : namesR d = [] := by unfold namesR; rw [if_pos hd]
    rw [he]
    rw [hd] at hcs
    obtain ⟨c0, c1, c2, c3, c4, c5, c6, c7⟩ := hcs
    clear h hw he hd hne
    go_enter Tryz.func114, Tryz.ntmps114
    go_wp2_with fail
    go_loopw [4, 3] (fun i o wr => i = .int .i64 0 ∧ o = .slice none 0 0 ∧ wr = w) (fun _ _ _ => 0)
    case atStart => exact ⟨rfl, rfl, rfl⟩
    case round =>
      obtain ⟨rfl, rfl, rfl⟩ := hrel
      by_cases hl0 : (0 : Int) < (d.now.length : Int)
      · go_wp2_with fail
        go_returns
        exact ⟨_, rfl, World.ownsRow_nil _ _ _ _, Below.refl _ _⟩
      · go_wp2_with fail
        go_returns
        exact ⟨_, rfl, World.ownsRow_nil _ _ _ _, Below.refl _ _⟩
  · have he : namesR d = d.now.map (·.1) := by unfold namesR; rw [if_neg hd]
    rw [he]
    have hd' : d.dead = false := by simpa using hd
    rw [hd'] at hcs
    clear he hd hd'
    replace hz0 : Hid _ := hz0
    replace hz1 : Hid _ := hz1
    replace hz2 : Hid _ := hz2
    replace hne : Hid _ := hne
    replace h : Hid _ := h
    replace hcs : Hid _ := hcs
    replace hw : Hid _ := hw
    go_enter Tryz.func114, Tryz.ntmps114
    go_wp2_with fail
    go_loopw [4, 3] (fun i o wr => ∃ k : Nat, k ≤ d.now.length ∧ i = .int .i64 k ∧ wr.ownsRow w.heap.size 9 1 o k (((d.now.take k).map (·.1)).map Value.string) ∧ Below w.heap.size w wr) (fun i _ _ => d.now.length - (intOf i).toNat)
    case atStart => exact ⟨0, by omega, rfl, World.ownsRow_nil _ _ _ _, Below.refl _ _⟩
    case round =>
      obtain ⟨k, hk, rfl, hout, hB⟩ := hrel
      obtain ⟨po, co, rfl⟩ := own_shape hout
      obtain ⟨c0, c1, c2, c3, c4, c5, c6, c7⟩ := hcs.out
      have b2 := (hB.cell (p := ⟨p, 2, none⟩) hpl).trans c2
      have b5 := (hB.cell (p := ⟨p, 5, none⟩) hpl).trans c5
      clear c0 c1 c2 c3 c4 c5 c6 c7
      by_cases hlt : k < d.now.length
      · have hlt' : (k : Int) < (d.now.length : Int) := by omega
        obtain ⟨g, cap', e, hg, c0', c1'⟩ := h.out.now.cells k hlt
        rw [hne.out] at e
        cases e
        have c0 := (hB.cell (p := ⟨g, k * 2, none⟩) hg).trans c0'
        clear c0' c1'
        have hn : Hid (((d.now.take (k + 1)).map (·.1)).map Value.string = ((d.now.take k).map (·.1)).map Value.string ++ [Value.string d.now[k].1]) := by
          show _ = _
          rw [List.take_succ_eq_append_getElem hlt, List.map_append, List.map_append]; rfl
        generalize d.now[k].1 = y at c0 hn
        replace hout : Hid (wr.ownsRow w.heap.size 9 1 (.slice po k co) k (((d.now.take k).map (·.1)).map Value.string)) := hout
        go_wp2_with (at_builtin; refine wpList_append_own _ rfl _ _ 37 rfl w.heap.size 9 i0 (.string ⟨#[]⟩) 1 16 Tryz.underlying37 hi hz0.out hz1.out hz2.out rfl (by decide) _ k _ rfl (own_kept hout.out ((Below.refl _ _).alloc (Nat.le_refl _) _)) ⟨wr.heap.size, 0, none⟩ 1 1 [.string y] rfl rfl (cell_one_new _ _ _) (by simp [Value.oneCell']) (by unfold maxLen; omega) (by omega) (by have := hB.size; simp; omega) ?_; intro v' w1 hown' hgrow _)
        go_roundw
        case rel => exact ⟨k + 1, by omega, by go_num, by rw [hn.out]; exact hown', (hB.alloc hB.size _).grown hgrow (by simp; have := hB.size; omega) (fun k hk => (hout.out.lt k hk).1)⟩
        case measure => simp [intOf]; omega
      · obtain rfl : k = d.now.length := by omega
        have hlt' : ¬ ((d.now.length : Nat) : Int) < (d.now.length : Int) := by omega
        have hfin : wr.ownsRow w.heap.size 9 1 (.slice po d.now.length co) (d.now.map (·.1)).length ((d.now.map (·.1)).map Value.string) := by
          rw [List.take_of_length_le (Nat.le_refl _)] at hout
          rw [List.length_map]; exact hout
        replace hfin : Hid (wr.ownsRow w.heap.size 9 1 (.slice po d.now.length co) (d.now.map (·.1)).length ((d.now.map (·.1)).map Value.string)) := hfin
        clear hout
        go_wp2_with fail
        go_returns
        exact ⟨.slice po d.now.length co, rfl, by simpa using hfin.out, hB⟩
theorem any_take_succ {m : NL} {i k : Nat} (hk : k < m.length) : ((m.take (k + 1)).any fun q => q.2 == i) = (((m.take k).any fun q => q.2 == i) || m[k].2 == i) := by
  rw [List.take_succ_eq_append_getElem hk, List.any_append]; simp
def usedTo (d : RD) (i : Nat) : Nat := ((List.range i).map fun i => if heldIn d.now i || heldIn d.kept i then (fileD d i).b.length else 0).sum
theorem usedTo_succ (d : RD) (i : Nat) : usedTo d (i + 1) = usedTo d i + if heldIn d.now i || heldIn d.kept i then (fileD d i).b.length else 0 := by
  unfold usedTo; rw [List.range_succ, List.map_append, List.sum_append]; simp
theorem usedTo_most {C : Nat} (hC : ∀ i, i < d.files.length → (fileD d i).b.length ≤ C) : ∀ i, i ≤ d.files.length → usedTo d i ≤ i * C
  | 0, _ => by simp [usedTo]
  | i + 1, hi => by
    have := usedTo_most hC i (by omega)
    have h2 := hC i (by omega)
    rw [usedTo_succ, Nat.succ_mul]
    split <;> omega
theorem usedTo_le (hw : RWF d) (i : Nat) (hi : i ≤ d.files.length) : usedTo d i ≤ i * 16777216 := usedTo_most (fun _ hi => hw.len _ (hw.mem hi)) i hi
set_option maxRecDepth 100000 in
set_option maxHeartbeats 8000000 in
theorem usedR_any (w : World) (h : RLies w p n₀ r d) (hw : RWF d) :
    Calls Tryz.prog 138 #[ofBlock p] w fun e w' => e = .returned (.int .i64 (d.used : Nat)) ∧ w' = w := by
  obtain ⟨c0, c1, c2, c3, c4, c5, c6, c7⟩ := h.cells
  obtain ⟨nq, nc, hne⟩ := own_shape h.now
  obtain ⟨kq, kc, hke⟩ := own_shape h.kept
  obtain ⟨fq, fc, hfe⟩ := own_shape h.files
  have hl1 := hw.now
  have hl2 := hw.kept
  have hl3 := hw.files
  rw [hne] at c2
  rw [hke] at c3
  rw [hfe] at c1
  have hu : d.used = usedTo d d.files.length := rfl
  rw [hu]
  unfold ofBlock
  replace hne : Hid _ := hne
  replace hke : Hid _ := hke
  replace hfe : Hid _ := hfe
  replace h : Hid _ := h
  replace hw : Hid _ := hw
  clear hu c0 c4 c5 c6 c7
  go_enter Tryz.func138, Tryz.ntmps138
  go_wp2_with fail
  go_loopw [4, 3] (fun i n wr => ∃ k : Nat, k ≤ d.files.length ∧ i = .int .i64 k ∧ n = .int .i64 (usedTo d k : Nat) ∧ wr = w) (fun i _ _ => d.files.length - (intOf i).toNat)
  case atStart => exact ⟨0, by omega, rfl, rfl, rfl⟩
  case round =>
    obtain ⟨k, hk, rfl, rfl, rfl⟩ := hrel
    by_cases hlt : k < d.files.length
    · have hlt' : (k : Int) < (d.files.length : Int) := by omega
      go_wp2_with fail
      go_loopw [6, 5] (fun j b wx => ∃ i : Nat, i ≤ d.now.length ∧ j = .int .i64 i ∧ b = .bool ((d.now.take i).any fun q => q.2 == k) ∧ wx = wr) (fun j _ _ => d.now.length - (intOf j).toNat)
      case atStart => exact ⟨0, by omega, rfl, rfl, rfl⟩
      case round =>
        rename World => w0
        obtain ⟨i, hi, rfl, rfl, rfl⟩ := hrel
        by_cases hlti : i < d.now.length
        · have hlti' : (i : Int) < (d.now.length : Int) := by omega
          obtain ⟨g, cap', e, hg, a0, a1⟩ := h.out.now.cells i hlti
          rw [hne.out] at e
          cases e
          have hs := any_take_succ (i := k) hlti
          generalize d.now[i].2 = y at a1 hs
          obtain ⟨b, hb⟩ : ∃ b, ((d.now.take i).any fun q => q.2 == k) = b := ⟨_, rfl⟩
          rw [hb] at hs ⊢
          have hyk : ((y : Int) == (k : Int)) = (y == k) := by
            rw [Bool.eq_iff_iff]; simp; omega
          obtain ⟨c, hc⟩ : ∃ c, (y == k) = c := ⟨_, rfl⟩
          rw [hc] at hs hyk
          clear hb hc a0
          replace hs : Hid _ := hs
          cases b <;> cases c
          all_goals
            go_wp2_with fail
            go_roundw
            case rel => exact ⟨i + 1, by omega, by go_num, by first | rfl | (rw [hs.out]; done) | (rw [hs.out]; rfl), by first | rfl | trivial⟩
            case measure => simp [intOf]; omega
        · obtain rfl : i = d.now.length := by omega
          have hlti' : ¬ ((d.now.length : Nat) : Int) < (d.now.length : Int) := by omega
          rw [List.take_of_length_le (Nat.le_refl _)]
          obtain ⟨b0, hb0⟩ : ∃ b0, (d.now.any fun q => q.2 == k) = b0 := ⟨_, rfl⟩
          have hb0' : heldIn d.now k = b0 := hb0
          rw [hb0]
          clear hb0
          replace hb0' : Hid _ := hb0'
          go_wp2_with fail
          go_loopw [7, 5] (fun j b wx => ∃ i : Nat, i ≤ d.kept.length ∧ j = .int .i64 i ∧ b = .bool (b0 || (d.kept.take i).any fun q => q.2 == k) ∧ wx = w0) (fun j _ _ => d.kept.length - (intOf j).toNat)
          case atStart => exact ⟨0, by omega, rfl, by simp, rfl⟩
          case round =>
            obtain ⟨i, hi, rfl, rfl, rfl⟩ := hrel
            by_cases hlti : i < d.kept.length
            · have hlti' : (i : Int) < (d.kept.length : Int) := by omega
              obtain ⟨g, cap', e, hg, a0, a1⟩ := h.out.kept.cells i hlti
              rw [hke.out] at e
              cases e
              have hs := any_take_succ (i := k) hlti
              generalize d.kept[i].2 = y at a1 hs
              obtain ⟨b, hb⟩ : ∃ b, ((d.kept.take i).any fun q => q.2 == k) = b := ⟨_, rfl⟩
              rw [hb] at hs ⊢
              have hyk : ((y : Int) == (k : Int)) = (y == k) := by
                rw [Bool.eq_iff_iff]; simp; omega
              obtain ⟨c, hc⟩ : ∃ c, (y == k) = c := ⟨_, rfl⟩
              rw [hc] at hs hyk
              clear hb hc a0
              replace hs : Hid _ := hs
              cases b0 <;> cases b <;> cases c
              all_goals
                simp only [Bool.true_or, Bool.false_or, Bool.or_true, Bool.or_false] at *
                go_wp2_with fail
                go_roundw
                case rel => exact ⟨i + 1, by omega, by go_num, by first | rfl | (rw [hs.out]; done) | (rw [hs.out]; rfl), by first | rfl | trivial⟩
                case measure => simp [intOf]; omega
            · obtain rfl : i = d.kept.length := by omega
              have hlti' : ¬ ((d.kept.length : Nat) : Int) < (d.kept.length : Int) := by omega
              rw [List.take_of_length_le (Nat.le_refl _)]
              have hus := usedTo_succ d k
              have hul := usedTo_le hw.out k (by omega)
              rw [hb0'.out] at hus
              obtain ⟨b1, hb1⟩ : ∃ b1, (b0 || d.kept.any fun q => q.2 == k) = b1 := ⟨_, rfl⟩
              have hb1' : (b0 || heldIn d.kept k) = b1 := hb1
              rw [hb1'] at hus
              rw [hb1]
              clear hb1 hb1'
              obtain ⟨g, cap', e, hg, a0, a1⟩ := h.out.fileCells hlt
              rw [hfe.out] at e
              cases e
              have hda := h.out.data k hlt
              have hll := hw.out.len _ (hw.out.mem hlt)
              obtain ⟨bq, bc, hbe⟩ := own_shape hda
              rw [hbe] at a0
              clear hda hbe a1
              cases b1 with
              | true =>
                rw [if_pos rfl] at hus
                replace hus : Hid _ := hus
                go_wp2_with fail
                go_roundw
                case rel => exact ⟨k + 1, by omega, by go_num, by rw [hus.out]; go_num, by first | rfl | trivial⟩
                case measure => simp [intOf]; omega
              | false =>
                rw [if_neg (by simp)] at hus
                replace hus : Hid _ := hus
                go_wp2_with fail
                go_roundw
                case rel => exact ⟨k + 1, by omega, by go_num, by rw [hus.out]; rfl, by first | rfl | trivial⟩
                case measure => simp [intOf]; omega
    · obtain rfl : k = d.files.length := by omega
      have hlt' : ¬ ((d.files.length : Nat) : Int) < (d.files.length : Int) := by omega
      go_wp2_with fail
      go_returns
      exact ⟨rfl, rfl⟩
end Go.Proofs.YtmcmagplaflegaaGreat
