/-
  THE DOCUMENT'S DISK: a fall, walked. Conditions: those of each theorem.
-/
import Derived.Test.YtmcmagplaflegaaGreatRu
namespace Go.Proofs.YtmcmagplaflegaaGreat
open Go Go.RowKit Go.MapL Go.Poised
variable {w w' : World} {p n₀ : Nat} {r : RRep} {d : RD}

theorem info175 : (Tryz.prog.info? 175).map (fun i => (i.zero, i.size, i.bytes)) = some (some (.agg #[.slice none 0 0, .int .i64 0]), 2, 32) := by kernel_rfl
theorem one2b (q : Option Addr) (a b : Nat) (i : Int) : ∀ u ∈ [Value.slice q a b, .int .i64 i], u.oneCell' = true := by
  intro u hu
  rcases List.mem_cons.1 hu with rfl | hu
  · rfl
  · rw [List.mem_singleton] at hu; subst hu; rfl
theorem rows_ne {w : World} {b b' e e' z z' k k' : Nat} {v v' : Value} {xs ys : List Value} (h : w.ownsRow b e z v k xs) (h' : w.ownsRow b' e' z' v' k' ys) (hne : e ≠ e') : v.ownBlock = none ∨ v.ownBlock ≠ v'.ownBlock := by
  cases hv : v.ownBlock with
  | none => exact .inl rfl
  | some g =>
    right
    intro e2
    have h1 := sort_row h hv
    have h2 := sort_row h' e2.symm
    omega
theorem any_held (m : NL) (i : Nat) : (m.any fun q => q.2 == i) = heldIn m i := rfl
theorem innerN_succ {m : NL} {j : Nat} (hj : j < m.length) (i k : Nat) (acc : NL) : innerN (m.take (j + 1)) i k acc = if m[j].2 = i then withN m[j].1 k (innerN (m.take j) i k acc) else innerN (m.take j) i k acc := by
  rw [List.take_succ_eq_append_getElem hj]
  unfold innerN
  rw [List.foldl_append]; rfl
theorem innerN_most (m acc : NL) (i k j : Nat) : (innerN (m.take j) i k acc).length ≤ acc.length + m.length := by
  have h1 := innerN_len i k (m.take j) acc
  have h2 := List.length_filter_le (fun q : ByteArray × Nat => q.2 == i) (m.take j)
  rw [List.length_take] at h2
  omega
theorem crAll_held {keep : List Int} {m : NL} {old : List FileS} {n : Nat} (h : heldIn m n = true) : crAll keep m old (n + 1) = ((crAll keep m old n).1 ++ [cutFile keep (crAll keep m old n).1.length (old.getD n ⟨[], 0⟩)], innerN m n (crAll keep m old n).1.length (crAll keep m old n).2) := by
  rw [crAll_succ]; unfold crStep; rw [if_pos h]
theorem crAll_free {keep : List Int} {m : NL} {old : List FileS} {n : Nat} (h : heldIn m n = false) : crAll keep m old (n + 1) = ((crAll keep m old n).1, innerN m n (crAll keep m old n).1.length (crAll keep m old n).2) := by
  rw [crAll_succ]; unfold crStep; rw [if_neg (by rw [h]; simp)]
set_option maxRecDepth 100000 in
set_option maxHeartbeats 32000000 in
theorem crashR_any (kv : Value) (keep : List Int) (w : World) (h : RLies w p n₀ r d) (hw : RWF d) (hn : n₀ ≤ w.heap.size) (hkv : IntsIn w kv keep) :
    Calls Tryz.prog 109 #[ofBlock p, kv] w fun e w' => e = .returned (.tuple #[]) ∧ RTurns w w' p n₀ r d (d.crash keep) := by
  obtain ⟨i2, hi2, hz20, hz21, hz22⟩ := info_parts info175
  have hcs := h.cells
  have hpl := (Array.getElem?_eq_some_iff.1 h.top).1
  by_cases hd : d.dead = true
  · have he : d.crash keep = d := by unfold RD.crash; rw [if_pos hd]
    rw [he]
    rw [hd] at hcs
    obtain ⟨c0, c1, c2, c3, c4, c5, c6, c7⟩ := hcs
    replace h : Hid _ := h
    clear he hd hw hkv
    unfold ofBlock
    go_enter Tryz.func109, Tryz.ntmps109
    go_wp2_with fail
    go_returns
    exact ⟨rfl, .none h.out (Below.refl _ _)⟩
  · have hd' : d.dead = false := by simpa using hd
    obtain ⟨many, hmany⟩ : ∃ many, brought keep 0 d.works.length = many := ⟨_, rfl⟩
    have hml : many ≤ d.works.length := by rw [← hmany]; exact brought_le _ _ _
    have he : d.crash keep = { d with files := (crAll keep (d.aft many) d.files d.files.length).1, now := (crAll keep (d.aft many) d.files d.files.length).2, kept := (crAll keep (d.aft many) d.files d.files.length).2, works := [], dead := true, fails := -1 } := by
      unfold RD.crash; rw [if_neg hd, hmany]
    rw [he]
    have hl1 := hw.works
    have hl2 := hw.kept
    have hl3 := hw.files
    have hbr0 := fun W (hW : Below w.heap.size w W) => broughtR_any kv keep 0 d.works.length (by omega) (by omega) W (hkv.below hW)
    rw [hmany] at hbr0
    rw [hd'] at hcs
    obtain ⟨wq, wc, hwe⟩ := own_shape h.works
    obtain ⟨kq, kc, hke⟩ := own_shape h.kept
    obtain ⟨fq, fc, hfe⟩ := own_shape h.files
    rw [hwe, hke, hfe] at hcs
    have hkept := h.kept
    rw [hke] at hkept
    obtain ⟨c0, c1, c2, c3, c4, c5, c6, c7⟩ := hcs
    have t1 : ∀ W, Below w.heap.size w W → W.cell? ⟨p, 1, none⟩ = some (.slice fq d.files.length fc) := fun W hW => (hW.cell (p := ⟨p, 1, none⟩) hpl).trans c1
    have t4 : ∀ W, Below w.heap.size w W → W.cell? ⟨p, 4, none⟩ = some (.slice wq d.works.length wc) := fun W hW => (hW.cell (p := ⟨p, 4, none⟩) hpl).trans c4
    unfold ofBlock
    replace h : Hid _ := h
    replace hw : Hid _ := hw
    replace hkv : Hid (IntsIn w kv keep) := hkv
    replace hwe : Hid _ := hwe
    replace hfe : Hid _ := hfe
    replace hkept : Hid (NamesAt w n₀ (.slice kq d.kept.length kc) d.kept) := hkept
    replace t1 : Hid _ := t1
    replace t4 : Hid _ := t4
    replace hz20 : Hid _ := hz20
    replace hz21 : Hid _ := hz21
    replace hz22 : Hid _ := hz22
    clear he hd hd' hmany hke
    go_enter Tryz.func109, Tryz.ntmps109
    go_wp2_with (go_at_call 143; refine (hbr0 _ (Below.refl _ _)).mono ?_; clear hbr0; rintro e w2 ⟨rfl, hw2⟩; obtain rfl := hw2.symm)
    clear c0 c1 c2 c3 c4 c5 c6 c7
    go_loopw [6, 4] (fun i nv wr => ∃ k : Nat, k ≤ many ∧ i = .int .i64 k ∧ NamesAt wr n₀ nv (d.aft k) ∧ Below w.heap.size w wr) (fun i _ _ => many - (intOf i).toNat)
    case atStart => exact ⟨0, by omega, rfl, hkept.out, Below.refl _ _⟩
    case round =>
      obtain ⟨k, hk, rfl, hnow, hB⟩ := hrel
      have hal := aft_len d k (by omega)
      obtain ⟨q, c, rfl⟩ := own_shape hnow
      by_cases hlt : k < many
      · have hlt' : (k : Int) < (many : Int) := by omega
        have y4 := t4.out wr hB
        obtain ⟨g, cap', e, hg, a0', a1', a2'⟩ := h.out.workCells (k := k) (by omega)
        rw [hwe.out] at e
        cases e
        have a0 := (hB.cell (p := ⟨g, k * 3, none⟩) hg).trans a0'
        have a1 := (hB.cell (p := ⟨g, k * 3 + 1, none⟩) hg).trans a1'
        have a2 := (hB.cell (p := ⟨g, k * 3 + 2, none⟩) hg).trans a2'
        have hs := aft_succ d k (by omega)
        have hlk : (k : Int) < (d.works.length : Int) := by omega
        clear a0' a1' a2'
        generalize d.works[k] = qk at a0 a1 a2 hs
        obtain ⟨fr, to, fi⟩ := qk
        simp only at a0 a1 a2 hs
        have hdo := doesR_any (.slice q (d.aft k).length c) (d.aft k) fr to fi n₀ wr hnow (Nat.le_trans hn hB.size) (by omega)
        replace hs : Hid _ := hs
        replace hnow : Hid _ := hnow
        go_wp2_with (go_at_call 142; refine hdo.mono ?_; clear hdo; rintro e w2 ⟨v2, rfl, h2, hb2, _⟩; replace h2 : Hid _ := h2)
        go_roundw
        case rel => exact ⟨k + 1, by omega, by go_num, by rw [hs.out]; exact h2.out, hB.trans (hb2.mono hB.size)⟩
        case measure => simp [intOf]; omega
      · obtain rfl : k = many := by omega
        have hlt' : ¬ ((k : Nat) : Int) < (k : Int) := by omega
        obtain ⟨m, hm⟩ : ∃ m, d.aft k = m := ⟨_, rfl⟩
        rw [hm] at hnow hal ⊢
        rename World => w1
        have hB1 := hB
        have hnow1 : Hid (NamesAt w1 n₀ (.slice q m.length c) m) := hnow
        replace hm : Hid (d.aft k = m) := hm
        clear hB hnow
        go_wp2_with fail
        go_loopw [10, 7, 8, 9] (fun i fv nv kk wr => ∃ (n : Nat) (bv : Nat → Value), n ≤ d.files.length ∧ i = .int .i64 n ∧ FilesAt wr w1.heap.size fv (crAll keep m d.files n).1 bv ∧ NamesAt wr w1.heap.size nv (crAll keep m d.files n).2 ∧ kk = .int .i64 ((crAll keep m d.files n).1.length : Nat) ∧ Below w1.heap.size w1 wr) (fun i _ _ _ _ => d.files.length - (intOf i).toNat)
        case atStart => exact ⟨0, fun _ => undef, by omega, rfl, FilesAt.nil _ _ _, NamesAt.nil _ _, rfl, Below.refl _ _⟩
        case round =>
          obtain ⟨n, bv, hn1, rfl, hfiles, hnames, rfl, hB⟩ := hrel
          obtain ⟨q2, cq2, rfl⟩ := own_shape hfiles.row
          obtain ⟨q3, cq3, rfl⟩ := own_shape hnames
          have hBw := hB1.trans (hB.mono hB1.size)
          have y1 := t1.out wr hBw
          by_cases hlt : n < d.files.length
          · have hlt' : (n : Int) < (d.files.length : Int) := by omega
            have hheld := crAll_held (keep := keep) (m := m) (old := d.files) (n := n)
            have hfree := crAll_free (keep := keep) (m := m) (old := d.files) (n := n)
            have hposn := posIn_le m n
            have hll := crAll_len keep m d.files n
            have hnl := crAll_names_len keep m d.files n
            obtain ⟨st, hst⟩ : ∃ st, crAll keep m d.files n = st := ⟨_, rfl⟩
            rw [hst] at hfiles hnames hheld hfree hll hnl ⊢
            obtain ⟨F, A⟩ := st
            simp only at hfiles hnames hheld hfree hll hnl ⊢
            have hFl : F.length ≤ 1073741824 := by omega
            clear hst hll hposn
            replace hfiles : Hid _ := hfiles
            replace hheld : Hid _ := hheld
            replace hfree : Hid _ := hfree
            replace hnames : Hid (NamesAt wr w1.heap.size (.slice q3 A.length cq3) A) := hnames
            rename World => wo
            go_wp2_with fail
            go_loopw [12, 11, 8] (fun j b nv wx => ∃ jj : Nat, jj ≤ m.length ∧ j = .int .i64 jj ∧ b = .bool ((m.take jj).any fun q => q.2 == n) ∧ NamesAt wx w1.heap.size nv (innerN (m.take jj) n F.length A) ∧ Below wo.heap.size wo wx) (fun j _ _ _ => m.length - (intOf j).toNat)
            case atStart => exact ⟨0, by omega, rfl, rfl, hnames.out, Below.refl _ _⟩
            case round =>
              obtain ⟨jj, hj, rfl, rfl, hnm, hBi⟩ := hrel
              obtain ⟨q4, c4, rfl⟩ := own_shape hnm
              have hmo := innerN_most m A n F.length jj
              have hB2 := hB.trans (hBi.mono hB.size)
              by_cases hltj : jj < m.length
              · have hltj' : (jj : Int) < (m.length : Int) := by omega
                obtain ⟨g, cap', e, hg, a0', a1'⟩ := hnow1.out.cells jj hltj
                have a0 := (hB2.cell (p := ⟨g, jj * 2, none⟩) hg).trans a0'
                have a1 := (hB2.cell (p := ⟨g, jj * 2 + 1, none⟩) hg).trans a1'
                clear a0' a1'
                cases e
                have hs := any_take_succ (i := n) hltj
                have hi := innerN_succ hltj n F.length A
                generalize m[jj] = x at a0 a1 hs hi
                obtain ⟨x, y⟩ := x
                simp only at a0 a1 hs hi
                obtain ⟨b, hb⟩ : ∃ b, ((m.take jj).any fun q => q.2 == n) = b := ⟨_, rfl⟩
                rw [hb] at hs ⊢
                clear hb
                by_cases hy : y = n
                · rw [if_pos hy] at hi
                  have hyb : ((y : Int) == (n : Int)) = true := by simp [hy]
                  have hys : (b || y == n) = true := by simp [hy]
                  rw [hys] at hs
                  have hwi := with_any (.slice q4 (innerN (m.take jj) n F.length A).length c4) (innerN (m.take jj) n F.length A) x F.length w1.heap.size wr hnm (by omega)
                  replace hs : Hid _ := hs
                  replace hi : Hid _ := hi
                  replace hnm : Hid _ := hnm
                  clear hy hys
                  go_wp2_with (go_at_call 141; refine hwi.mono ?_; clear hwi; rintro e w5 ⟨v5, rfl, h5, hb5⟩; replace h5 : Hid (NamesAt w5 wr.heap.size v5 (withN x F.length (innerN (m.take jj) n F.length A))) := h5)
                  go_roundw
                  case rel => exact ⟨jj + 1, by omega, by go_num, by rw [hs.out], by rw [hi.out]; exact h5.out.lower (Nat.le_trans hB.size hBi.size), hBi.trans (hb5.mono hBi.size)⟩
                  case measure => simp [intOf]; omega
                · rw [if_neg hy] at hi
                  have hyb : ((y : Int) == (n : Int)) = false := by simp; omega
                  have hys : (b || y == n) = b := by simp [hy]
                  rw [hys] at hs
                  replace hs : Hid _ := hs
                  replace hi : Hid _ := hi
                  replace hnm : Hid _ := hnm
                  clear hy hys
                  go_wp2_with fail
                  go_roundw
                  case rel => exact ⟨jj + 1, by omega, by go_num, by rw [hs.out], by rw [hi.out]; exact hnm.out, hBi⟩
                  case measure => simp [intOf]; omega
              · obtain rfl : jj = m.length := by omega
                have hltj' : ¬ ((m.length : Nat) : Int) < (m.length : Int) := by omega
                rename World => wi
                rw [List.take_of_length_le (Nat.le_refl _)] at hnm ⊢
                rw [any_held]
                obtain ⟨b, hb⟩ : ∃ b, heldIn m n = b := ⟨_, rfl⟩
                rw [hb] at hheld hfree ⊢
                clear hb
                cases b with
                | false =>
                  have hf := hfree.out rfl
                  replace hf : Hid _ := hf
                  replace hnm : Hid _ := hnm
                  have hFi := hfiles.out.below hBi
                  replace hFi : Hid _ := hFi
                  go_wp2_with fail
                  go_roundw
                  case rel => exact ⟨n + 1, bv, by omega, by go_num, by rw [hf.out]; exact hFi.out, by rw [hf.out]; exact hnm.out, by rw [hf.out], hB2⟩
                  case measure => simp [intOf]; omega
                | true =>
                  have hf := hheld.out rfl
                  have hBwi : Below w.heap.size w wi := hB1.trans (hB2.mono hB1.size)
                  obtain ⟨g, cap', e, hg, b0', b1'⟩ := h.out.fileCells hlt
                  rw [hfe.out] at e
                  cases e
                  have b0 := (hBwi.cell (p := ⟨g, n * 2, none⟩) hg).trans b0'
                  have b1 := (hBwi.cell (p := ⟨g, n * 2 + 1, none⟩) hg).trans b1'
                  have y1 := t1.out wi hBwi
                  clear b0' b1'
                  obtain ⟨bq, bc, hbe, hbl⟩ := own_cap (h.out.data n hlt)
                  have hdi := (h.out.dataIn hw.out hlt).below hBwi
                  have hmk := hw.out.mark _ (hw.out.mem hlt)
                  have hln := hw.out.len _ (hw.out.mem hlt)
                  rw [hbe] at b0 hdi
                  have hcf : cutFile keep F.length (d.files.getD n ⟨[], 0⟩) = ⟨(fileD d n).b.take ((fileD d n).mark + brought keep (1 + F.length) ((fileD d n).b.length - (fileD d n).mark)), (fileD d n).mark + brought keep (1 + F.length) ((fileD d n).b.length - (fileD d n).mark)⟩ := rfl
                  rw [hcf] at hf
                  clear hcf hbe
                  generalize fileD d n = fd at b0 b1 hdi hmk hln hf hbl
                  obtain ⟨fb, mk⟩ := fd
                  simp only at b0 b1 hdi hmk hln hf hbl
                  obtain ⟨x, hx⟩ : ∃ x, brought keep (1 + F.length) (fb.length - mk) = x := ⟨_, rfl⟩
                  have hxl : x ≤ fb.length - mk := by rw [← hx]; exact brought_le _ _ _
                  have hbr : ∀ W, Below (wi.alloc (.cells #[.slice bq fb.length bc, .int .i64 (mk : Nat)] 175)).heap.size (wi.alloc (.cells #[.slice bq fb.length bc, .int .i64 (mk : Nat)] 175)) W → Calls Tryz.prog 143 #[kv, .int .i64 ((1 + F.length : Nat) : Int), .int .i64 ((fb.length - mk : Nat) : Int)] W fun e w' => e = .returned (.int .i64 (x : Nat)) ∧ w' = W := fun W hW => by
                    have := broughtR_any kv keep (1 + F.length) (fb.length - mk) (by omega) (by omega) W (hkv.out.below (hBwi.trans (((Below.refl wi.heap.size wi).alloc (Nat.le_refl _) (.cells #[.slice bq fb.length bc, .int .i64 (mk : Nat)] 175)).trans (hW.mono (by simp)) |>.mono hBwi.size)))
                    rw [hx] at this
                    exact this
                  rw [hx] at hf
                  obtain ⟨cn, hcn⟩ : ∃ cn, mk + x = cn := ⟨_, rfl⟩
                  rw [hcn] at hf
                  have hcl : cn ≤ fb.length := by omega
                  obtain ⟨T, hT⟩ : ∃ T, fb.take cn = T := ⟨_, rfl⟩
                  have hTl : T.length = cn := by rw [← hT, List.length_take]; omega
                  have hsl0 : BytesIn wi (.slice bq cn bc) T := by
                    obtain ⟨_, _, _, e9, h10, _⟩ := hdi.take cn hcl
                    cases e9
                    rw [hT] at h10
                    exact h10
                  rw [hT] at hf
                  clear hT hx hdi
                  have g1 : IntKind.i64.wrap (1 + (F.length : Int)) = ((1 + F.length : Nat) : Int) := by rw [show 1 + (F.length : Int) = ((1 + F.length : Nat) : Int) by omega]; exact IntWalk.i64_in _ (by omega)
                  have g2 : IntKind.i64.wrap ((fb.length : Int) - (mk : Int)) = ((fb.length - mk : Nat) : Int) := by rw [show (fb.length : Int) - (mk : Int) = ((fb.length - mk : Nat) : Int) by omega]; exact IntWalk.i64_in _ (by omega)
                  have g3 : IntKind.i64.wrap ((mk : Int) + (x : Int)) = (cn : Int) := by rw [show (mk : Int) + (x : Int) = (cn : Int) by omega]; exact IntWalk.i64_in _ (by omega)
                  have g4 : IntKind.i64.wrap ((F.length : Int) + 1) = ((F.length + 1 : Nat) : Int) := by rw [show (F.length : Int) + 1 = ((F.length + 1 : Nat) : Int) by omega]; exact IntWalk.i64_in _ (by omega)
                  have hc0 : (0 : Int) ≤ (cn : Int) := by omega
                  have hcb : (cn : Int) ≤ (bc : Int) := by omega
                  have hcl' : (cn : Int) ≤ (fb.length : Int) := by omega
                  have hal := (Below.refl wi.heap.size wi).alloc (Nat.le_refl _) (.cells #[.slice bq fb.length bc, .int .i64 (mk : Nat)] 175)
                  obtain ⟨z0, z1⟩ := getD_cell (heap_new wi (.cells #[.slice bq fb.length bc, .int .i64 (mk : Nat)] 175))
                  have hfl : wi.heap.size < (wi.alloc (.cells #[.slice bq fb.length bc, .int .i64 (mk : Nat)] 175)).heap.size := by simp
                  replace hf : Hid _ := hf
                  replace hnm : Hid (NamesAt wi w1.heap.size (.slice q4 (innerN m n F.length A).length c4) (innerN m n F.length A)) := hnm
                  replace hsl0 : Hid (BytesIn wi (.slice bq cn bc) T) := hsl0
                  replace hTl : Hid (T.length = cn) := hTl
                  clear hcn
                  replace hal : Hid _ := hal
                  go_wp2_with fail
                  refine poised_whole (fun x => Below (wi.alloc (.cells #[.slice bq fb.length bc, .int .i64 (mk : Nat)] 175)).heap.size (wi.alloc (.cells #[.slice bq fb.length bc, .int .i64 (mk : Nat)] 175)) x) (fun x y => Below (wi.alloc (.cells #[.slice bq fb.length bc, .int .i64 (mk : Nat)] 175)).heap.size x y) (by kernel_rfl) (by kernel_rfl) (by kernel_rfl) (fun _ _ h k => h.trans k) ((Below.refl _ _).drew) ?_
                  apply Exists.intro
                  apply walk_det
                  · rfl
                  · intro w2 hC hF
                    simp only [upon]
                    go_simp
                    exact ⟨Below.refl _ _, rfl⟩
                  simp only [put_lit, List.set_cons_succ, List.set_cons_zero]
                  apply walk_det
                  · rfl
                  · intro w2 hC hF
                    have y0 := (hC.cell (p := ⟨wi.heap.size, 0, none⟩) hfl).trans z0
                    have y1 := (hC.cell (p := ⟨wi.heap.size, 1, none⟩) hfl).trans z1
                    simp only [upon]
                    go_simp
                    exact ⟨Below.refl _ _, rfl⟩
                  simp only [put_lit, List.set_cons_succ, List.set_cons_zero]
                  iterate 4
                    apply walk_det
                    · rfl
                    · intro w2 hC hF
                      simp only [upon]
                      go_simp
                      exact ⟨Below.refl _ _, rfl⟩
                    simp only [put_lit, List.set_cons_succ, List.set_cons_zero]
                  apply walk_det
                  · rfl
                  · intro w2 hC hF
                    have y0 := (hC.cell (p := ⟨wi.heap.size, 0, none⟩) hfl).trans z0
                    have y1 := (hC.cell (p := ⟨wi.heap.size, 1, none⟩) hfl).trans z1
                    simp only [upon]
                    go_simp
                    exact ⟨Below.refl _ _, rfl⟩
                  simp only [put_lit, List.set_cons_succ, List.set_cons_zero]
                  iterate 2
                    apply walk_det
                    · rfl
                    · intro w2 hC hF
                      simp only [upon]
                      go_simp
                      exact ⟨Below.refl _ _, rfl⟩
                    simp only [put_lit, List.set_cons_succ, List.set_cons_zero]
                  apply walk_det
                  · rfl
                  · intro w2 hC hF
                    have y0 := (hC.cell (p := ⟨wi.heap.size, 0, none⟩) hfl).trans z0
                    have y1 := (hC.cell (p := ⟨wi.heap.size, 1, none⟩) hfl).trans z1
                    simp only [upon]
                    go_simp
                    exact ⟨Below.refl _ _, rfl⟩
                  simp only [put_lit, List.set_cons_succ, List.set_cons_zero]
                  apply walk_det
                  · rfl
                  · intro w2 hC hF
                    simp only [upon]
                    go_simp
                    exact ⟨Below.refl _ _, rfl⟩
                  simp only [put_lit, List.set_cons_succ, List.set_cons_zero]
                  apply walk_det
                  · rfl
                  · intro w2 hC hF
                    have y0 := (hC.cell (p := ⟨wi.heap.size, 0, none⟩) hfl).trans z0
                    have y1 := (hC.cell (p := ⟨wi.heap.size, 1, none⟩) hfl).trans z1
                    simp only [upon]
                    go_simp
                    exact still_call (hbr w2 hC)
                  simp only [put_lit, List.set_cons_succ, List.set_cons_zero]
                  iterate 2
                    apply walk_det
                    · rfl
                    · intro w2 hC hF
                      simp only [upon]
                      go_simp
                      exact ⟨Below.refl _ _, rfl⟩
                    simp only [put_lit, List.set_cons_succ, List.set_cons_zero]
                  apply walk_nil
                  intro w7 hC7 _
                  have hB7 : Below wi.heap.size wi w7 := hal.out.trans (hC7.mono (by simp))
                  have hBw7 : Below w.heap.size w w7 := hBwi.trans (hB7.mono hBwi.size)
                  have hB17 : Below w1.heap.size w1 w7 := hB2.trans (hB7.mono hB2.size)
                  have hF7 := (hfiles.out.below hBi).below hB7
                  have hsl7 := hsl0.out.below hB7
                  have x0 := (hC7.cell (p := ⟨wi.heap.size, 0, none⟩) hfl).trans z0
                  have x1 := (hC7.cell (p := ⟨wi.heap.size, 1, none⟩) hfl).trans z1
                  replace hF7 : Hid _ := hF7
                  replace hsl7 : Hid (BytesIn w7 (.slice bq cn bc) T) := hsl7
                  have k1 : True := trivial
                  go_wp2_with (first
                    | (clear k1; at_builtin; refine wpList_append_bytes _ rfl _ _ rfl w1.heap.size (.slice none 0 0) (.slice bq cn bc) [] T rfl rfl (World.ownsRow_nil _ _ _ _) hsl7.out (by simp; have := hTl.out; omega) hB17.size ?_
                       intro v8 w8 hown8 hgrow8 hwhere8
                       have hown8' : w8.ownsRow w1.heap.size 5 1 v8 T.length (encB T) := hown8
                       have hB8 : Below w7.heap.size w7 w8 := (Below.refl _ w7).grown hgrow8 (Nat.le_refl _) (fun k hk => by simp [Value.ownBlock] at hk)
                       rw [hTl.out] at hown8'
                       obtain ⟨q8, c8, rfl⟩ := own_shape hown8'
                       have hx8 : ∀ g, (Value.slice q8 cn c8).ownBlock = some g → w7.heap.size ≤ g := fun g hg => (hwhere8 g hg).elim (fun h => by simp [Value.ownBlock] at h) id
                       have hal8 := (Below.refl w8.heap.size w8).alloc (Nat.le_refl _) (.cells #[.slice q8 cn c8, .int .i64 (cn : Nat)] 175)
                       have hF8 := (hF7.out.below hB8).below hal8
                       have hx8' := own_kept hown8' hal8
                       clear hown8
                       replace hown8' : Hid _ := hown8'
                       replace hF8 : Hid _ := hF8
                       replace hx8 : Hid _ := hx8
                       replace hx8' : Hid _ := hx8'
                       replace hwhere8 : Hid _ := hwhere8
                       have k2 : True := trivial)
                    | (clear k2; at_builtin; refine wpList_append_own _ rfl _ _ 150 rfl w1.heap.size 175 i2 (.agg #[.slice none 0 0, .int .i64 0]) 2 32 Tryz.underlying150 hi2 hz20.out hz21.out hz22.out rfl (by decide) _ F.length _ rfl hF8.out.row ⟨w8.heap.size, 0, none⟩ 1 1 [.slice q8 cn c8, .int .i64 (cn : Nat)] rfl rfl (cells_new2 w8 _ _ 175) (one2b _ _ _ _) (by unfold maxLen; omega) (by omega) (by have := hB17.size; have := hB8.size; simp; omega) ?_
                       intro v9 w9 hown9 hgrow9 _))
                  have hB18 : Below w1.heap.size w1 (w8.alloc (.cells #[.slice q8 cn c8, .int .i64 (cn : Nat)] 175)) := (hB17.trans (hB8.mono hB17.size)).trans (hal8.mono (Nat.le_trans hB17.size hB8.size))
                  have hN8 := (((hnm.out.below hB7).below hB8).below hal8)
                  go_roundw
                  case rel =>
                    refine ⟨n + 1, upd bv F.length (.slice q8 cn c8), by omega, by go_num, ?_, ?_, ?_, ?_⟩
                    · rw [hf.out]
                      refine FilesAt.push (f := ⟨T, cn⟩) hF7.out hown9 ?_ (fun i hi => ?_) hx8.out
                      · show w9.ownsRow _ 5 1 _ T.length (encB T)
                        rw [hTl.out]
                        exact World.ownsRow.kept hx8'.out hgrow9 (rows_ne hx8'.out hF8.out.row (by decide))
                      · exact World.ownsRow.kept (hF8.out.data i hi) hgrow9 (rows_ne (hF8.out.data i hi) hF8.out.row (by decide))
                    · rw [hf.out]
                      exact World.ownsRow.kept hN8 hgrow9 (rows_ne hN8 hF8.out.row (by decide))
                    · rw [hf.out, List.length_append]; rfl
                    · exact hB18.grown hgrow9 hB18.size (fun k hk => (World.ownsRow.lt hF8.out.row k hk).1)
                  case measure => simp [intOf]; omega
          · obtain rfl : n = d.files.length := by omega
            have hlt' : ¬ ((d.files.length : Nat) : Int) < (d.files.length : Int) := by omega
            obtain ⟨st, hst⟩ : ∃ st, crAll keep m d.files d.files.length = st := ⟨_, rfl⟩
            rw [hst] at hfiles hnames ⊢
            obtain ⟨F, A⟩ := st
            simp only at hfiles hnames
            replace hst : Hid (crAll keep m d.files d.files.length = (F, A)) := hst
            have hpw : ∀ k, w1.heap.size ≤ k → k ≠ p := fun k hk e => by have := hB1.size; omega
            have t0 : wr.heap[p]? = some (.cells #[.int .i64 d.room, .slice fq d.files.length fc, r.nv, r.kv, .slice wq d.works.length wc, .bool d.dead, .int .i64 d.fails, r.pv] 154) := by
              have := h.out.top
              unfold topR at this
              rw [hfe.out, hwe.out] at this
              exact (hBw.block p hpl).trans this
            obtain ⟨c0, c1, c2, c3, c4, c5, c6, c7⟩ := cells8 t0
            have f1 := free_of t0 1
            have u1 := setCell_heap (i := 1) (v := (.slice q2 F.length cq2)) t0
            have f2 := free_of u1 2
            have u2 := setCell_heap (i := 2) (v := (.slice q3 A.length cq3)) u1
            have f3 := free_of u2 3
            have u3 := setCell_heap (i := 3) (v := (.slice q3 A.length cq3)) u2
            have f4 := free_of u3 4
            have u4 := setCell_heap (i := 4) (v := (.slice none 0 0)) u3
            have f5 := free_of u4 5
            have u5 := setCell_heap (i := 5) (v := (.bool true)) u4
            have f6 := free_of u5 6
            have u6 := setCell_heap (i := 6) (v := (.int .i64 (-1))) u5
            obtain ⟨wz, hwz⟩ : ∃ wz, ((((((wr.setCell ⟨p, 1, none⟩ (.slice q2 F.length cq2)).setCell ⟨p, 2, none⟩ (.slice q3 A.length cq3)).setCell ⟨p, 3, none⟩ (.slice q3 A.length cq3)).setCell ⟨p, 4, none⟩ (.slice none 0 0)).setCell ⟨p, 5, none⟩ (.bool true)).setCell ⟨p, 6, none⟩ (.int .i64 (-1))) = wz := ⟨_, rfl⟩
            have hz : ∀ k, k ≠ p → wz.heap[k]? = wr.heap[k]? := fun k hk => by
              rw [← hwz]
              exact (Below.heap_setCell _ _ _ _ hk).trans ((Below.heap_setCell _ _ _ _ hk).trans ((Below.heap_setCell _ _ _ _ hk).trans ((Below.heap_setCell _ _ _ _ hk).trans ((Below.heap_setCell _ _ _ _ hk).trans (Below.heap_setCell _ _ _ _ hk)))))
            have hGz : Grown (ownR p r d) w wz := by
              rw [← hwz]
              exact ((((((Grown.of_below hBw).setCell (p := ⟨p, 1, none⟩) (.inl (.inl rfl)) _).setCell (p := ⟨p, 2, none⟩) (.inl (.inl rfl)) _).setCell (p := ⟨p, 3, none⟩) (.inl (.inl rfl)) _).setCell (p := ⟨p, 4, none⟩) (.inl (.inl rfl)) _).setCell (p := ⟨p, 5, none⟩) (.inl (.inl rfl)) _).setCell (p := ⟨p, 6, none⟩) (.inl (.inl rfl)) _
            have uz : wz.heap[p]? = some (topR { d with files := F, now := A, kept := A, works := [], dead := true, fails := -1 } ⟨.slice q2 F.length cq2, bv, .slice q3 A.length cq3, .slice q3 A.length cq3, .slice none 0 0, r.pv⟩) := by
              rw [← hwz]; exact u6
            have fin : RTurns w wz p n₀ r d { d with files := F, now := A, kept := A, works := [], dead := true, fails := -1 } := by
              have hnw : n₀ ≤ w1.heap.size := Nat.le_trans hn hB1.size
              have hkp := h.out.keep
              refine ⟨_, { top := uz, files := ?_, data := fun i hi => ?_, rowInj := hfiles.inj, now := ?_, kept := ?_, works := World.ownsRow_nil _ _ _ _, keep := ?_, base := h.out.base }, hGz, fun k hk => ?_⟩
              · exact own_base' (row_same hfiles.row (fun g hg => hz g (hpw g (hfiles.row.lt g hg).1))) hnw
              · exact own_base' (row_same (hfiles.data i hi) (fun g hg => hz g (hpw g ((hfiles.data i hi).lt g hg).1))) hnw
              · exact own_base' (row_same hnames (fun g hg => hz g (hpw g (World.ownsRow.lt hnames g hg).1))) hnw
              · exact own_base' (row_same hnames (fun g hg => hz g (hpw g (World.ownsRow.lt hnames g hg).1))) hnw
              · refine row_same hkp (fun g hg => (hz g (fun e => ?_)).trans (hBw.block g (hkp.lt g hg).2))
                have h1 := h.out.sV hg
                have h2 := h.out.sP
                rw [e] at h1; omega
              · have hw1 := hB1.size
                rcases hk with hk | hk | ⟨i, hi, hk⟩ | hk | hk | hk | hk
                · exact .inl (.inl hk)
                · exact .inr (Nat.le_trans hw1 (hfiles.row.lt k hk).1)
                · exact .inr (Nat.le_trans hw1 ((hfiles.data i hi).lt k hk).1)
                · exact .inr (Nat.le_trans hw1 (World.ownsRow.lt hnames k hk).1)
                · exact .inr (Nat.le_trans hw1 (World.ownsRow.lt hnames k hk).1)
                · cases hk
                · exact .inl (.inr (.inr (.inr (.inr (.inr (.inr hk))))))
            have hfin : Hid (RTurns w ((((((wr.setCell ⟨p, 1, none⟩ (.slice q2 F.length cq2)).setCell ⟨p, 2, none⟩ (.slice q3 A.length cq3)).setCell ⟨p, 3, none⟩ (.slice q3 A.length cq3)).setCell ⟨p, 4, none⟩ (.slice none 0 0)).setCell ⟨p, 5, none⟩ (.bool true)).setCell ⟨p, 6, none⟩ (.int .i64 (-1))) p n₀ r d { d with files := F, now := A, kept := A, works := [], dead := true, fails := -1 }) := by
              show RTurns w _ p n₀ r d _
              rw [hwz]; exact fin
            clear u1 u2 u3 u4 u5 u6 t0 hwz hz hGz uz fin y1
            replace hfiles : Hid _ := hfiles
            replace hnames : Hid _ := hnames
            go_wp2_with fail
            go_returns
            refine ⟨rfl, ?_⟩
            rw [hm.out, hst.out]
            exact hfin.out
end Go.Proofs.YtmcmagplaflegaaGreat
