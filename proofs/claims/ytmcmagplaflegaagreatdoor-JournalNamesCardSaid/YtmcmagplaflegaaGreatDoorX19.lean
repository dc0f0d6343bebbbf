/-
 THE DOCUMENT'S DISK: a fall, walked: the files that are left. Conditions: those of each theorem.
 THE DOCUMENT'S DISK: a fall, walked. Conditions: those of each theorem.
 THE DOCUMENT'S DISK: does the power go; sync, cut, turn: walked. Conditions: those of each theorem.
 THE DOCUMENT'S DISK: cut and turn, walked. Conditions: those of each theorem.
-/
import Derived.Test.YtmcmagplaflegaaGreatDoorX18

namespace Go.Proofs.YtmcmagplaflegaaGreatDoor
open Go Go.RowKit Go.MapL Go.Poised
variable {w w' : World} {p n₀ : Nat} {r : RRep} {d : RD}

/-- A list of files in memory. -/
structure FilesAt (w : World) (b : Nat) (v : Value) (l : List FileS) (bv : Nat → Value) : Prop where
 row : w.ownsRow b 162 2 v l.length (encF bv l)
 data : ∀ i, i < l.length → w.ownsRow b 5 1 (bv i) (l.getD i ⟨[], 0⟩).b.length (encB (l.getD i ⟨[], 0⟩).b)
 inj : ∀ i j, i < l.length → j < l.length → i ≠ j → (bv i).ownBlock ≠ none → (bv i).ownBlock ≠ (bv j).ownBlock
theorem FilesAt.nil (w : World) (b : Nat) (bv : Nat → Value) : FilesAt w b (.slice none 0 0) [] bv := ⟨World.ownsRow_nil _ _ _ _, fun _ hi => absurd hi (Nat.not_lt_zero _), fun _ _ hi => absurd hi (Nat.not_lt_zero _)⟩
theorem FilesAt.below {b : Nat} {v : Value} {l : List FileS} {bv : Nat → Value} (h : FilesAt w b v l bv) (hb : Below w.heap.size w w') : FilesAt w' b v l bv := ⟨own_kept h.row hb, fun i hi => own_kept (h.data i hi) hb, h.inj⟩
theorem flatMap_same {α β : Type} {f g : α → List β} : ∀ {l : List α}, (∀ x ∈ l, f x = g x) → l.flatMap f = l.flatMap g
 | [], _ => rfl
 | x :: l, h => by rw [List.flatMap_cons, List.flatMap_cons, h x (.head _), flatMap_same (fun y hy => h y (.tail _ hy))]
theorem encF_push (bv : Nat → Value) (l : List FileS) (x : Value) (f : FileS) : encF (upd bv l.length x) (l ++ [f]) = encF bv l ++ [x, .int .i64 (f.mark : Nat)] := by
 unfold encF
 rw [List.length_append, List.length_singleton, List.range_succ, List.flatMap_append]
 congr 1
 ·refine flatMap_same fun i hi => ?_
  have hi' := List.mem_range.1 hi
  unfold encF1
  rw [upd_other _ _ (by omega), List.getD_eq_getElem?_getD, List.getD_eq_getElem?_getD, List.getElem?_append_left hi']
 ·unfold encF1
  simp [upd_same]
theorem FilesAt.push {b : Nat} {v v' x : Value} {l : List FileS} {bv : Nat → Value} {f : FileS} (h : FilesAt w b v l bv)
  (hrow : w'.ownsRow b 162 2 v' (l.length + 1) (encF bv l ++ [x, .int .i64 (f.mark : Nat)])) (hx : w'.ownsRow b 5 1 x f.b.length (encB f.b))
  (hold : ∀ i, i < l.length → w'.ownsRow b 5 1 (bv i) (l.getD i ⟨[], 0⟩).b.length (encB (l.getD i ⟨[], 0⟩).b)) (hne : ∀ g, x.ownBlock = some g → w.heap.size ≤ g) : FilesAt w' b v' (l ++ [f]) (upd bv l.length x) where
 row := by rw [encF_push, List.length_append]; exact hrow
 data := fun i hi => by
  rw [List.length_append, List.length_singleton] at hi
  by_cases e : i = l.length
  ·subst e
   rw [upd_same]
   have : (l ++ [f]).getD l.length ⟨[], 0⟩ = f := by simp [List.getD_eq_getElem?_getD]
   rw [this]; exact hx
  ·rw [upd_other _ _ e, List.getD_eq_getElem?_getD, List.getElem?_append_left (by omega), ← List.getD_eq_getElem?_getD]
   exact hold i (by omega)
 inj := fun i j hi hj hij => by
  rw [List.length_append, List.length_singleton] at hi hj
  have old : ∀ i, i < l.length → ∀ g, (bv i).ownBlock = some g → g < w.heap.size := fun i hi g hg => ((h.data i hi).lt g hg).2
  by_cases e : i = l.length
  ·subst e
   rw [upd_same, upd_other _ _ (fun e => hij e.symm)]
   intro hn e2
   cases hx : x.ownBlock with
   | none => exact hn hx
   | some g =>
    rw [hx] at e2
    have h1 := hne g hx
    have h2 := old j (by omega) g e2.symm
    omega
  ·rw [upd_other _ _ e]
   by_cases e2 : j = l.length
   ·subst e2
    rw [upd_same]
    intro hn e3
    cases hx : (bv i).ownBlock with
    | none => exact hn hx
    | some g =>
     rw [hx] at e3
     have h1 := hne g e3.symm
     have h2 := old i (by omega) g hx
     omega
   ·rw [upd_other _ _ e2]
    exact h.inj i j (by omega) (by omega) hij
/-! ### lengths -/
theorem innerN_len (i k : Nat) : ∀ (m acc : NL), (innerN m i k acc).length ≤ acc.length + (m.filter fun q => q.2 == i).length
 | [], acc => by simp [innerN]
 | q :: m, acc => by
  have e : innerN (q :: m) i k acc = innerN m i k (if q.2 = i then withN q.1 k acc else acc) := rfl
  rw [e]
  have := innerN_len i k m (if q.2 = i then withN q.1 k acc else acc)
  by_cases hq : q.2 = i
  ·rw [if_pos hq] at this ⊢
   rw [List.filter_cons_of_pos (by simpa using hq), List.length_cons]
   have h2 : (withN q.1 k acc).length ≤ acc.length + 1 := by
    unfold withN; rw [(insN_perm _ _ _).length_eq, List.length_cons]; exact Nat.succ_le_succ (without_len _ _)
   omega
  ·rw [if_neg hq] at this ⊢
   rw [List.filter_cons_of_neg (by simpa using hq)]
   exact this
theorem filter_lt_succ (m : NL) (n : Nat) : (m.filter fun q => decide (q.2 < n + 1)).length = (m.filter fun q => decide (q.2 < n)).length + (m.filter fun q => q.2 == n).length := by
 induction m with
 | nil => rfl
 | cons q m ih =>
  by_cases h1 : q.2 < n
  ·rw [List.filter_cons_of_pos (by simp; omega), List.filter_cons_of_pos (by simpa using h1), List.filter_cons_of_neg (by simp; omega), List.length_cons, List.length_cons, ih]; omega
  ·by_cases h2 : q.2 = n
   ·rw [List.filter_cons_of_pos (by simp; omega), List.filter_cons_of_neg (by simpa using h1), List.filter_cons_of_pos (by simpa using h2), List.length_cons, List.length_cons, ih]; omega
   ·rw [List.filter_cons_of_neg (by simp; omega), List.filter_cons_of_neg (by simpa using h1), List.filter_cons_of_neg (by simpa using h2), ih]
theorem crAll_most (keep : List Int) (m : NL) (old : List FileS) : ∀ n, (crAll keep m old n).2.length ≤ (m.filter fun q => decide (q.2 < n)).length
 | 0 => by simp [crAll]
 | n + 1 => by
  rw [crAll_succ, filter_lt_succ]
  have h1 := crAll_most keep m old n
  have h2 := innerN_len n (crAll keep m old n).1.length m (crAll keep m old n).2
  exact Nat.le_trans h2 (by omega)
theorem crAll_names_len (keep : List Int) (m : NL) (old : List FileS) (n : Nat) : (crAll keep m old n).2.length ≤ m.length := Nat.le_trans (crAll_most keep m old n) (List.length_filter_le _ _)
theorem posIn_le (m : NL) (n : Nat) : posIn m n ≤ n := by
 unfold posIn
 have := List.length_filter_le (heldIn m) (List.range n)
 rw [List.length_range] at this
 exact this
theorem aft_succ (d : RD) (k : Nat) (hk : k < d.works.length) : d.aft (k + 1) = doesR (d.aft k) d.works[k] := by
 unfold RD.aft
 rw [List.take_succ_eq_append_getElem hk, List.foldl_append]; rfl
theorem aft_len (d : RD) : ∀ k, k ≤ d.works.length → (d.aft k).length ≤ d.kept.length + k
 | 0, _ => by simp [RD.aft]
 | k + 1, hk => by
  rw [aft_succ d k (by omega)]
  have := aft_len d k (by omega)
  have := doesR_len (d.aft k) d.works[k]
  omega
theorem RLies.workCells (h : RLies w p n₀ r d) {k : Nat} (hk : k < d.works.length) : ∃ g cap, r.wv = .slice (some ⟨g, 0, none⟩) d.works.length cap ∧ g < w.heap.size ∧ w.cell? ⟨g, k * 3, none⟩ = some (.string d.works[k].1) ∧ w.cell? ⟨g, k * 3 + 1, none⟩ = some (.string d.works[k].2.1) ∧ w.cell? ⟨g, k * 3 + 2, none⟩ = some (.int .i64 (fInt d.works[k].2.2)) := by
 obtain ⟨g, cap, h1, h2, h3⟩ := flat_cells (enc := encWR) (z := 3) (fun _ => rfl) h.works k hk
 exact ⟨g, cap, h1, h2, h3 0 (by omega), h3 1 (by omega), h3 2 (by omega)⟩
end Go.Proofs.YtmcmagplaflegaaGreatDoor

namespace Go.Proofs.YtmcmagplaflegaaGreatDoor
open Go Go.RowKit Go.MapL Go.Poised
variable {w w' : World} {p n₀ : Nat} {r : RRep} {d : RD}

theorem info162 : (Tryz.prog.info? 162).map (fun i => (i.zero, i.size, i.bytes)) = some (some (.agg #[.slice none 0 0, .int .i64 0]), 2, 32) := by kernel_rfl
theorem one2b (q : Option Addr) (a b : Nat) (i : Int) : ∀ u ∈ [Value.slice q a b, .int .i64 i], u.oneCell' = true := by
 intro u hu
 rcases List.mem_cons.1 hu with rfl | hu
 ·rfl
 ·rw [List.mem_singleton] at hu; subst hu; rfl
theorem rows_ne {w : World} {b b' e e' z z' k k' : Nat} {v v' : Value} {xs ys : List Value} (h : w.ownsRow b e z v k xs) (h' : w.ownsRow b' e' z' v' k' ys) (hne : e ≠ e') : v.ownBlock = none ∨ v.ownBlock ≠ v'.ownBlock := by
 cases hv : v.ownBlock with
 | none => exact .inl rfl
 | some g =>
  right
  intro e2
  have h1 := sort_row h hv
  have h2 := sort_row h' e2.symm
  omega
theorem any_held (m : NL) (i : Nat) : (m.any fun q => q.2 == i) = heldIn m i := rfl
theorem innerN_succ {m : NL} {j : Nat} (hj : j < m.length) (i k : Nat) (acc : NL) : innerN (m.take (j + 1)) i k acc = if m[j].2 = i then withN m[j].1 k (innerN (m.take j) i k acc) else innerN (m.take j) i k acc := by
 rw [List.take_succ_eq_append_getElem hj]
 unfold innerN
 rw [List.foldl_append]; rfl
theorem innerN_most (m acc : NL) (i k j : Nat) : (innerN (m.take j) i k acc).length ≤ acc.length + m.length := by
 have h1 := innerN_len i k (m.take j) acc
 have h2 := List.length_filter_le (fun q : ByteArray × Nat => q.2 == i) (m.take j)
 rw [List.length_take] at h2
 omega
theorem crAll_held {keep : List Int} {m : NL} {old : List FileS} {n : Nat} (h : heldIn m n = true) : crAll keep m old (n + 1) = ((crAll keep m old n).1 ++ [cutFile keep (crAll keep m old n).1.length (old.getD n ⟨[], 0⟩)], innerN m n (crAll keep m old n).1.length (crAll keep m old n).2) := by
 rw [crAll_succ]; unfold crStep; rw [if_pos h]
theorem crAll_free {keep : List Int} {m : NL} {old : List FileS} {n : Nat} (h : heldIn m n = false) : crAll keep m old (n + 1) = ((crAll keep m old n).1, innerN m n (crAll keep m old n).1.length (crAll keep m old n).2) := by
 rw [crAll_succ]; unfold crStep; rw [if_neg (by rw [h]; simp)]
set_option maxRecDepth 100000 in
set_option maxHeartbeats 32000000 in
theorem crashR_any (kv : Value) (keep : List Int) (w : World) (h : RLies w p n₀ r d) (hw : RWF d) (hn : n₀ ≤ w.heap.size) (hkv : IntsIn w kv keep) :
  Calls Tryz.prog 65 #[ofBlock p, kv] w fun e w' => e = .returned (.tuple #[]) ∧ RTurns w w' p n₀ r d (d.crash keep) := by
 obtain ⟨i2, hi2, hz20, hz21, hz22⟩ := info_parts info162
 have hcs := h.cells
 have hpl := (Array.getElem?_eq_some_iff.1 h.top).1
 by_cases hd : d.dead = true
 ·have he : d.crash keep = d := by unfold RD.crash; rw [if_pos hd]
  rw [he]
  rw [hd] at hcs
  obtain ⟨c0, c1, c2, c3, c4, c5, c6, c7⟩ := hcs
  replace h : Hid _ := h
  clear he hd hw hkv
  unfold ofBlock
  go_enter Tryz.func65, Tryz.ntmps65
  go_wp2_with fail
  go_returns
  exact ⟨rfl, .none h.out (Below.refl _ _)⟩
 ·have hd' : d.dead = false := by simpa using hd
  obtain ⟨many, hmany⟩ : ∃ many, brought keep 0 d.works.length = many := ⟨_, rfl⟩
  have hml : many ≤ d.works.length := by rw [← hmany]; exact brought_le _ _ _
  have he : d.crash keep = { d with files := (crAll keep (d.aft many) d.files d.files.length).1, now := (crAll keep (d.aft many) d.files d.files.length).2, kept := (crAll keep (d.aft many) d.files d.files.length).2, works := [], dead := true, fails := -1 } := by
   unfold RD.crash; rw [if_neg hd, hmany]
  rw [he]
  have hl1 := hw.works
  have hl2 := hw.kept
  have hl3 := hw.files
  have hbr0 := fun W (hW : Below w.heap.size w W) => broughtR_any kv keep 0 d.works.length (by omega) (by omega) W (hkv.below hW)
  rw [hmany] at hbr0
  rw [hd'] at hcs
  obtain ⟨wq, wc, hwe⟩ := own_shape h.works
  obtain ⟨kq, kc, hke⟩ := own_shape h.kept
  obtain ⟨fq, fc, hfe⟩ := own_shape h.files
  rw [hwe, hke, hfe] at hcs
  have hkept := h.kept
  rw [hke] at hkept
  obtain ⟨c0, c1, c2, c3, c4, c5, c6, c7⟩ := hcs
  have t1 : ∀ W, Below w.heap.size w W → W.cell? ⟨p, 1, none⟩ = some (.slice fq d.files.length fc) := fun W hW => (hW.cell (p := ⟨p, 1, none⟩) hpl).trans c1
  have t4 : ∀ W, Below w.heap.size w W → W.cell? ⟨p, 4, none⟩ = some (.slice wq d.works.length wc) := fun W hW => (hW.cell (p := ⟨p, 4, none⟩) hpl).trans c4
  unfold ofBlock
  replace h : Hid _ := h
  replace hw : Hid _ := hw
  replace hkv : Hid (IntsIn w kv keep) := hkv
  replace hwe : Hid _ := hwe
  replace hfe : Hid _ := hfe
  replace hkept : Hid (NamesAt w n₀ (.slice kq d.kept.length kc) d.kept) := hkept
  replace t1 : Hid _ := t1
  replace t4 : Hid _ := t4
  replace hz20 : Hid _ := hz20
  replace hz21 : Hid _ := hz21
  replace hz22 : Hid _ := hz22
  clear he hd hd' hmany hke
  go_enter Tryz.func65, Tryz.ntmps65
  go_wp2_with (go_at_call 114; refine (hbr0 _ (Below.refl _ _)).mono ?_; clear hbr0; rintro e w2 ⟨rfl, hw2⟩; obtain rfl := hw2.symm)
  clear c0 c1 c2 c3 c4 c5 c6 c7
  go_loopw [6, 4] (fun i nv wr => ∃ k : Nat, k ≤ many ∧ i = .int .i64 k ∧ NamesAt wr n₀ nv (d.aft k) ∧ Below w.heap.size w wr) (fun i _ _ => many - (intOf i).toNat)
  case atStart => exact ⟨0, by omega, rfl, hkept.out, Below.refl _ _⟩
  case round =>
   obtain ⟨k, hk, rfl, hnow, hB⟩ := hrel
   have hal := aft_len d k (by omega)
   obtain ⟨q, c, rfl⟩ := own_shape hnow
   by_cases hlt : k < many
   ·have hlt' : (k : Int) < (many : Int) := by omega
    have y4 := t4.out wr hB
    obtain ⟨g, cap', e, hg, a0', a1', a2'⟩ := h.out.workCells (k := k) (by omega)
    rw [hwe.out] at e
    cases e
    have a0 := (hB.cell (p := ⟨g, k * 3, none⟩) hg).trans a0'
    have a1 := (hB.cell (p := ⟨g, k * 3 + 1, none⟩) hg).trans a1'
    have a2 := (hB.cell (p := ⟨g, k * 3 + 2, none⟩) hg).trans a2'
    have hs := aft_succ d k (by omega)
    have hlk : (k : Int) < (d.works.length : Int) := by omega
    clear a0' a1' a2'
    generalize d.works[k] = qk at a0 a1 a2 hs
    obtain ⟨fr, to, fi⟩ := qk
    simp only at a0 a1 a2 hs
    have hdo := doesR_any (.slice q (d.aft k).length c) (d.aft k) fr to fi n₀ wr hnow (Nat.le_trans hn hB.size) (by omega)
    replace hs : Hid _ := hs
    replace hnow : Hid _ := hnow
    go_wp2_with (go_at_call 115; refine hdo.mono ?_; clear hdo; rintro e w2 ⟨v2, rfl, h2, hb2, _⟩; replace h2 : Hid _ := h2)
    go_roundw
    case rel => exact ⟨k + 1, by omega, by go_num, by rw [hs.out]; exact h2.out, hB.trans (hb2.mono hB.size)⟩
    case measure => simp [intOf]; omega
   ·obtain rfl : k = many := by omega
    have hlt' : ¬ ((k : Nat) : Int) < (k : Int) := by omega
    obtain ⟨m, hm⟩ : ∃ m, d.aft k = m := ⟨_, rfl⟩
    rw [hm] at hnow hal ⊢
    rename World => w1
    have hB1 := hB
    have hnow1 : Hid (NamesAt w1 n₀ (.slice q m.length c) m) := hnow
    replace hm : Hid (d.aft k = m) := hm
    clear hB hnow
    go_wp2_with fail
    go_loopw [10, 7, 8, 9] (fun i fv nv kk wr => ∃ (n : Nat) (bv : Nat → Value), n ≤ d.files.length ∧ i = .int .i64 n ∧ FilesAt wr w1.heap.size fv (crAll keep m d.files n).1 bv ∧ NamesAt wr w1.heap.size nv (crAll keep m d.files n).2 ∧ kk = .int .i64 ((crAll keep m d.files n).1.length : Nat) ∧ Below w1.heap.size w1 wr) (fun i _ _ _ _ => d.files.length - (intOf i).toNat)
    case atStart => exact ⟨0, fun _ => undef, by omega, rfl, FilesAt.nil _ _ _, NamesAt.nil _ _, rfl, Below.refl _ _⟩
    case round =>
     obtain ⟨n, bv, hn1, rfl, hfiles, hnames, rfl, hB⟩ := hrel
     obtain ⟨q2, cq2, rfl⟩ := own_shape hfiles.row
     obtain ⟨q3, cq3, rfl⟩ := own_shape hnames
     have hBw := hB1.trans (hB.mono hB1.size)
     have y1 := t1.out wr hBw
     by_cases hlt : n < d.files.length
     ·have hlt' : (n : Int) < (d.files.length : Int) := by omega
      have hheld := crAll_held (keep := keep) (m := m) (old := d.files) (n := n)
      have hfree := crAll_free (keep := keep) (m := m) (old := d.files) (n := n)
      have hposn := posIn_le m n
      have hll := crAll_len keep m d.files n
      have hnl := crAll_names_len keep m d.files n
      obtain ⟨st, hst⟩ : ∃ st, crAll keep m d.files n = st := ⟨_, rfl⟩
      rw [hst] at hfiles hnames hheld hfree hll hnl ⊢
      obtain ⟨F, A⟩ := st
      simp only at hfiles hnames hheld hfree hll hnl ⊢
      have hFl : F.length ≤ 1073741824 := by omega
      clear hst hll hposn
      replace hfiles : Hid _ := hfiles
      replace hheld : Hid _ := hheld
      replace hfree : Hid _ := hfree
      replace hnames : Hid (NamesAt wr w1.heap.size (.slice q3 A.length cq3) A) := hnames
      rename World => wo
      go_wp2_with fail
      go_loopw [12, 11, 8] (fun j b nv wx => ∃ jj : Nat, jj ≤ m.length ∧ j = .int .i64 jj ∧ b = .bool ((m.take jj).any fun q => q.2 == n) ∧ NamesAt wx w1.heap.size nv (innerN (m.take jj) n F.length A) ∧ Below wo.heap.size wo wx) (fun j _ _ _ => m.length - (intOf j).toNat)
      case atStart => exact ⟨0, by omega, rfl, rfl, hnames.out, Below.refl _ _⟩
      case round =>
       obtain ⟨jj, hj, rfl, rfl, hnm, hBi⟩ := hrel
       obtain ⟨q4, c4, rfl⟩ := own_shape hnm
       have hmo := innerN_most m A n F.length jj
       have hB2 := hB.trans (hBi.mono hB.size)
       by_cases hltj : jj < m.length
       ·have hltj' : (jj : Int) < (m.length : Int) := by omega
        obtain ⟨g, cap', e, hg, a0', a1'⟩ := hnow1.out.cells jj hltj
        have a0 := (hB2.cell (p := ⟨g, jj * 2, none⟩) hg).trans a0'
        have a1 := (hB2.cell (p := ⟨g, jj * 2 + 1, none⟩) hg).trans a1'
        clear a0' a1'
        cases e
        have hs := any_take_succ (i := n) hltj
        have hi := innerN_succ hltj n F.length A
        generalize m[jj] = x at a0 a1 hs hi
        obtain ⟨x, y⟩ := x
        simp only at a0 a1 hs hi
        obtain ⟨b, hb⟩ : ∃ b, ((m.take jj).any fun q => q.2 == n) = b := ⟨_, rfl⟩
        rw [hb] at hs ⊢
        clear hb
        by_cases hy : y = n
        ·rw [if_pos hy] at hi
         have hyb : ((y : Int) == (n : Int)) = true := by simp [hy]
         have hys : (b || y == n) = true := by simp [hy]
         rw [hys] at hs
         have hwi := with_any (.slice q4 (innerN (m.take jj) n F.length A).length c4) (innerN (m.take jj) n F.length A) x F.length w1.heap.size wr hnm (by omega)
         replace hs : Hid _ := hs
         replace hi : Hid _ := hi
         replace hnm : Hid _ := hnm
         clear hy hys
         go_wp2_with (go_at_call 116; refine hwi.mono ?_; clear hwi; rintro e w5 ⟨v5, rfl, h5, hb5⟩; replace h5 : Hid (NamesAt w5 wr.heap.size v5 (withN x F.length (innerN (m.take jj) n F.length A))) := h5)
         go_roundw
         case rel => exact ⟨jj + 1, by omega, by go_num, by rw [hs.out], by rw [hi.out]; exact h5.out.lower (Nat.le_trans hB.size hBi.size), hBi.trans (hb5.mono hBi.size)⟩
         case measure => simp [intOf]; omega
        ·rw [if_neg hy] at hi
         have hyb : ((y : Int) == (n : Int)) = false := by simp; omega
         have hys : (b || y == n) = b := by simp [hy]
         rw [hys] at hs
         replace hs : Hid _ := hs
         replace hi : Hid _ := hi
         replace hnm : Hid _ := hnm
         clear hy hys
         go_wp2_with fail
         go_roundw
         case rel => exact ⟨jj + 1, by omega, by go_num, by rw [hs.out], by rw [hi.out]; exact hnm.out, hBi⟩
         case measure => simp [intOf]; omega
       ·obtain rfl : jj = m.length := by omega
        have hltj' : ¬ ((m.length : Nat) : Int) < (m.length : Int) := by omega
        rename World => wi
        rw [List.take_of_length_le (Nat.le_refl _)] at hnm ⊢
        rw [any_held]
        obtain ⟨b, hb⟩ : ∃ b, heldIn m n = b := ⟨_, rfl⟩
        rw [hb] at hheld hfree ⊢
        clear hb
        cases b with
        | false =>
         have hf := hfree.out rfl
         replace hf : Hid _ := hf
         replace hnm : Hid _ := hnm
         have hFi := hfiles.out.below hBi
         replace hFi : Hid _ := hFi
         go_wp2_with fail
         go_roundw
         case rel => exact ⟨n + 1, bv, by omega, by go_num, by rw [hf.out]; exact hFi.out, by rw [hf.out]; exact hnm.out, by rw [hf.out], hB2⟩
         case measure => simp [intOf]; omega
        | true =>
         have hf := hheld.out rfl
         have hBwi : Below w.heap.size w wi := hB1.trans (hB2.mono hB1.size)
         obtain ⟨g, cap', e, hg, b0', b1'⟩ := h.out.fileCells hlt
         rw [hfe.out] at e
         cases e
         have b0 := (hBwi.cell (p := ⟨g, n * 2, none⟩) hg).trans b0'
         have b1 := (hBwi.cell (p := ⟨g, n * 2 + 1, none⟩) hg).trans b1'
         have y1 := t1.out wi hBwi
         clear b0' b1'
         obtain ⟨bq, bc, hbe, hbl⟩ := own_cap (h.out.data n hlt)
         have hdi := (h.out.dataIn hw.out hlt).below hBwi
         have hmk := hw.out.mark _ (hw.out.mem hlt)
         have hln := hw.out.len _ (hw.out.mem hlt)
         rw [hbe] at b0 hdi
         have hcf : cutFile keep F.length (d.files.getD n ⟨[], 0⟩) = ⟨(fileD d n).b.take ((fileD d n).mark + brought keep (1 + F.length) ((fileD d n).b.length - (fileD d n).mark)), (fileD d n).mark + brought keep (1 + F.length) ((fileD d n).b.length - (fileD d n).mark)⟩ := rfl
         rw [hcf] at hf
         clear hcf hbe
         generalize fileD d n = fd at b0 b1 hdi hmk hln hf hbl
         obtain ⟨fb, mk⟩ := fd
         simp only at b0 b1 hdi hmk hln hf hbl
         obtain ⟨x, hx⟩ : ∃ x, brought keep (1 + F.length) (fb.length - mk) = x := ⟨_, rfl⟩
         have hxl : x ≤ fb.length - mk := by rw [← hx]; exact brought_le _ _ _
         have hbr : ∀ W, Below (wi.alloc (.cells #[.slice bq fb.length bc, .int .i64 (mk : Nat)] 162)).heap.size (wi.alloc (.cells #[.slice bq fb.length bc, .int .i64 (mk : Nat)] 162)) W → Calls Tryz.prog 114 #[kv, .int .i64 ((1 + F.length : Nat) : Int), .int .i64 ((fb.length - mk : Nat) : Int)] W fun e w' => e = .returned (.int .i64 (x : Nat)) ∧ w' = W := fun W hW => by
          have := broughtR_any kv keep (1 + F.length) (fb.length - mk) (by omega) (by omega) W (hkv.out.below (hBwi.trans (((Below.refl wi.heap.size wi).alloc (Nat.le_refl _) (.cells #[.slice bq fb.length bc, .int .i64 (mk : Nat)] 162)).trans (hW.mono (by simp)) |>.mono hBwi.size)))
          rw [hx] at this
          exact this
         rw [hx] at hf
         obtain ⟨cn, hcn⟩ : ∃ cn, mk + x = cn := ⟨_, rfl⟩
         rw [hcn] at hf
         have hcl : cn ≤ fb.length := by omega
         obtain ⟨T, hT⟩ : ∃ T, fb.take cn = T := ⟨_, rfl⟩
         have hTl : T.length = cn := by rw [← hT, List.length_take]; omega
         have hsl0 : BytesIn wi (.slice bq cn bc) T := by
          obtain ⟨_, _, _, e9, h10, _⟩ := hdi.take cn hcl
          cases e9
          rw [hT] at h10
          exact h10
         rw [hT] at hf
         clear hT hx hdi
         have g1 : IntKind.i64.wrap (1 + (F.length : Int)) = ((1 + F.length : Nat) : Int) := by rw [show 1 + (F.length : Int) = ((1 + F.length : Nat) : Int) by omega]; exact IntWalk.i64_in _ (by omega)
         have g2 : IntKind.i64.wrap ((fb.length : Int) - (mk : Int)) = ((fb.length - mk : Nat) : Int) := by rw [show (fb.length : Int) - (mk : Int) = ((fb.length - mk : Nat) : Int) by omega]; exact IntWalk.i64_in _ (by omega)
         have g3 : IntKind.i64.wrap ((mk : Int) + (x : Int)) = (cn : Int) := by rw [show (mk : Int) + (x : Int) = (cn : Int) by omega]; exact IntWalk.i64_in _ (by omega)
         have g4 : IntKind.i64.wrap ((F.length : Int) + 1) = ((F.length + 1 : Nat) : Int) := by rw [show (F.length : Int) + 1 = ((F.length + 1 : Nat) : Int) by omega]; exact IntWalk.i64_in _ (by omega)
         have hc0 : (0 : Int) ≤ (cn : Int) := by omega
         have hcb : (cn : Int) ≤ (bc : Int) := by omega
         have hcl' : (cn : Int) ≤ (fb.length : Int) := by omega
         have hal := (Below.refl wi.heap.size wi).alloc (Nat.le_refl _) (.cells #[.slice bq fb.length bc, .int .i64 (mk : Nat)] 162)
         obtain ⟨z0, z1⟩ := getD_cell (heap_new wi (.cells #[.slice bq fb.length bc, .int .i64 (mk : Nat)] 162))
         have hfl : wi.heap.size < (wi.alloc (.cells #[.slice bq fb.length bc, .int .i64 (mk : Nat)] 162)).heap.size := by simp
         replace hf : Hid _ := hf
         replace hnm : Hid (NamesAt wi w1.heap.size (.slice q4 (innerN m n F.length A).length c4) (innerN m n F.length A)) := hnm
         replace hsl0 : Hid (BytesIn wi (.slice bq cn bc) T) := hsl0
         replace hTl : Hid (T.length = cn) := hTl
         clear hcn
         replace hal : Hid _ := hal
         go_wp2_with fail
         refine poised_whole (fun x => Below (wi.alloc (.cells #[.slice bq fb.length bc, .int .i64 (mk : Nat)] 162)).heap.size (wi.alloc (.cells #[.slice bq fb.length bc, .int .i64 (mk : Nat)] 162)) x) (fun x y => Below (wi.alloc (.cells #[.slice bq fb.length bc, .int .i64 (mk : Nat)] 162)).heap.size x y) (by kernel_rfl) (by kernel_rfl) (by kernel_rfl) (fun _ _ h k => h.trans k) ((Below.refl _ _).drew) ?_
         apply Exists.intro
         apply walk_det
         ·rfl
         ·intro w2 hC hF
          simp only [upon]
          go_simp
          exact ⟨Below.refl _ _, rfl⟩
         simp only [put_lit, List.set_cons_succ, List.set_cons_zero]
         apply walk_det
         ·rfl
         ·intro w2 hC hF
          have y0 := (hC.cell (p := ⟨wi.heap.size, 0, none⟩) hfl).trans z0
          have y1 := (hC.cell (p := ⟨wi.heap.size, 1, none⟩) hfl).trans z1
          simp only [upon]
          go_simp
          exact ⟨Below.refl _ _, rfl⟩
         simp only [put_lit, List.set_cons_succ, List.set_cons_zero]
         iterate 4
          apply walk_det
          ·rfl
          ·intro w2 hC hF
           simp only [upon]
           go_simp
           exact ⟨Below.refl _ _, rfl⟩
          simp only [put_lit, List.set_cons_succ, List.set_cons_zero]
         apply walk_det
         ·rfl
         ·intro w2 hC hF
          have y0 := (hC.cell (p := ⟨wi.heap.size, 0, none⟩) hfl).trans z0
          have y1 := (hC.cell (p := ⟨wi.heap.size, 1, none⟩) hfl).trans z1
          simp only [upon]
          go_simp
          exact ⟨Below.refl _ _, rfl⟩
         simp only [put_lit, List.set_cons_succ, List.set_cons_zero]
         iterate 2
          apply walk_det
          ·rfl
          ·intro w2 hC hF
           simp only [upon]
           go_simp
           exact ⟨Below.refl _ _, rfl⟩
          simp only [put_lit, List.set_cons_succ, List.set_cons_zero]
         apply walk_det
         ·rfl
         ·intro w2 hC hF
          have y0 := (hC.cell (p := ⟨wi.heap.size, 0, none⟩) hfl).trans z0
          have y1 := (hC.cell (p := ⟨wi.heap.size, 1, none⟩) hfl).trans z1
          simp only [upon]
          go_simp
          exact ⟨Below.refl _ _, rfl⟩
         simp only [put_lit, List.set_cons_succ, List.set_cons_zero]
         apply walk_det
         ·rfl
         ·intro w2 hC hF
          simp only [upon]
          go_simp
          exact ⟨Below.refl _ _, rfl⟩
         simp only [put_lit, List.set_cons_succ, List.set_cons_zero]
         apply walk_det
         ·rfl
         ·intro w2 hC hF
          have y0 := (hC.cell (p := ⟨wi.heap.size, 0, none⟩) hfl).trans z0
          have y1 := (hC.cell (p := ⟨wi.heap.size, 1, none⟩) hfl).trans z1
          simp only [upon]
          go_simp
          exact still_call (hbr w2 hC)
         simp only [put_lit, List.set_cons_succ, List.set_cons_zero]
         iterate 2
          apply walk_det
          ·rfl
          ·intro w2 hC hF
           simp only [upon]
           go_simp
           exact ⟨Below.refl _ _, rfl⟩
          simp only [put_lit, List.set_cons_succ, List.set_cons_zero]
         apply walk_nil
         intro w7 hC7 _
         have hB7 : Below wi.heap.size wi w7 := hal.out.trans (hC7.mono (by simp))
         have hBw7 : Below w.heap.size w w7 := hBwi.trans (hB7.mono hBwi.size)
         have hB17 : Below w1.heap.size w1 w7 := hB2.trans (hB7.mono hB2.size)
         have hF7 := (hfiles.out.below hBi).below hB7
         have hsl7 := hsl0.out.below hB7
         have x0 := (hC7.cell (p := ⟨wi.heap.size, 0, none⟩) hfl).trans z0
         have x1 := (hC7.cell (p := ⟨wi.heap.size, 1, none⟩) hfl).trans z1
         replace hF7 : Hid _ := hF7
         replace hsl7 : Hid (BytesIn w7 (.slice bq cn bc) T) := hsl7
         have k1 : True := trivial
         go_wp2_with (first
          |(clear k1; at_builtin; refine wpList_append_bytes _ rfl _ _ rfl w1.heap.size (.slice none 0 0) (.slice bq cn bc) [] T rfl rfl (World.ownsRow_nil _ _ _ _) hsl7.out (by simp; have := hTl.out; omega) hB17.size ?_
            intro v8 w8 hown8 hgrow8 hwhere8
            have hown8' : w8.ownsRow w1.heap.size 5 1 v8 T.length (encB T) := hown8
            have hB8 : Below w7.heap.size w7 w8 := (Below.refl _ w7).grown hgrow8 (Nat.le_refl _) (fun k hk => by simp [Value.ownBlock] at hk)
            rw [hTl.out] at hown8'
            obtain ⟨q8, c8, rfl⟩ := own_shape hown8'
            have hx8 : ∀ g, (Value.slice q8 cn c8).ownBlock = some g → w7.heap.size ≤ g := fun g hg => (hwhere8 g hg).elim (fun h => by simp [Value.ownBlock] at h) id
            have hal8 := (Below.refl w8.heap.size w8).alloc (Nat.le_refl _) (.cells #[.slice q8 cn c8, .int .i64 (cn : Nat)] 162)
            have hF8 := (hF7.out.below hB8).below hal8
            have hx8' := own_kept hown8' hal8
            clear hown8
            replace hown8' : Hid _ := hown8'
            replace hF8 : Hid _ := hF8
            replace hx8 : Hid _ := hx8
            replace hx8' : Hid _ := hx8'
            replace hwhere8 : Hid _ := hwhere8
            have k2 : True := trivial)
          |(clear k2; at_builtin; refine wpList_append_own _ rfl _ _ 103 rfl w1.heap.size 162 i2 (.agg #[.slice none 0 0, .int .i64 0]) 2 32 Tryz.underlying103 hi2 hz20.out hz21.out hz22.out rfl (by decide) _ F.length _ rfl hF8.out.row ⟨w8.heap.size, 0, none⟩ 1 1 [.slice q8 cn c8, .int .i64 (cn : Nat)] rfl rfl (cells_new2 w8 _ _ 162) (one2b _ _ _ _) (by unfold maxLen; omega) (by omega) (by have := hB17.size; have := hB8.size; simp; omega) ?_
            intro v9 w9 hown9 hgrow9 _))
         have hB18 : Below w1.heap.size w1 (w8.alloc (.cells #[.slice q8 cn c8, .int .i64 (cn : Nat)] 162)) := (hB17.trans (hB8.mono hB17.size)).trans (hal8.mono (Nat.le_trans hB17.size hB8.size))
         have hN8 := (((hnm.out.below hB7).below hB8).below hal8)
         go_roundw
         case rel =>
          refine ⟨n + 1, upd bv F.length (.slice q8 cn c8), by omega, by go_num, ?_, ?_, ?_, ?_⟩
          ·rw [hf.out]
           refine FilesAt.push (f := ⟨T, cn⟩) hF7.out hown9 ?_ (fun i hi => ?_) hx8.out
           ·show w9.ownsRow _ 5 1 _ T.length (encB T)
            rw [hTl.out]
            exact World.ownsRow.kept hx8'.out hgrow9 (rows_ne hx8'.out hF8.out.row (by decide))
           ·exact World.ownsRow.kept (hF8.out.data i hi) hgrow9 (rows_ne (hF8.out.data i hi) hF8.out.row (by decide))
          ·rw [hf.out]
           exact World.ownsRow.kept hN8 hgrow9 (rows_ne hN8 hF8.out.row (by decide))
          ·rw [hf.out, List.length_append]; rfl
          ·exact hB18.grown hgrow9 hB18.size (fun k hk => (World.ownsRow.lt hF8.out.row k hk).1)
         case measure => simp [intOf]; omega
     ·obtain rfl : n = d.files.length := by omega
      have hlt' : ¬ ((d.files.length : Nat) : Int) < (d.files.length : Int) := by omega
      obtain ⟨st, hst⟩ : ∃ st, crAll keep m d.files d.files.length = st := ⟨_, rfl⟩
      rw [hst] at hfiles hnames ⊢
      obtain ⟨F, A⟩ := st
      simp only at hfiles hnames
      replace hst : Hid (crAll keep m d.files d.files.length = (F, A)) := hst
      have hpw : ∀ k, w1.heap.size ≤ k → k ≠ p := fun k hk e => by have := hB1.size; omega
      have t0 : wr.heap[p]? = some (.cells #[.int .i64 d.room, .slice fq d.files.length fc, r.nv, r.kv, .slice wq d.works.length wc, .bool d.dead, .int .i64 d.fails, r.pv] 107) := by
       have := h.out.top
       unfold topR at this
       rw [hfe.out, hwe.out] at this
       exact (hBw.block p hpl).trans this
      obtain ⟨c0, c1, c2, c3, c4, c5, c6, c7⟩ := cells8 t0
      have f1 := free_of t0 1
      have u1 := setCell_heap (i := 1) (v := (.slice q2 F.length cq2)) t0
      have f2 := free_of u1 2
      have u2 := setCell_heap (i := 2) (v := (.slice q3 A.length cq3)) u1
      have f3 := free_of u2 3
      have u3 := setCell_heap (i := 3) (v := (.slice q3 A.length cq3)) u2
      have f4 := free_of u3 4
      have u4 := setCell_heap (i := 4) (v := (.slice none 0 0)) u3
      have f5 := free_of u4 5
      have u5 := setCell_heap (i := 5) (v := (.bool true)) u4
      have f6 := free_of u5 6
      have u6 := setCell_heap (i := 6) (v := (.int .i64 (-1))) u5
      obtain ⟨wz, hwz⟩ : ∃ wz, ((((((wr.setCell ⟨p, 1, none⟩ (.slice q2 F.length cq2)).setCell ⟨p, 2, none⟩ (.slice q3 A.length cq3)).setCell ⟨p, 3, none⟩ (.slice q3 A.length cq3)).setCell ⟨p, 4, none⟩ (.slice none 0 0)).setCell ⟨p, 5, none⟩ (.bool true)).setCell ⟨p, 6, none⟩ (.int .i64 (-1))) = wz := ⟨_, rfl⟩
      have hz : ∀ k, k ≠ p → wz.heap[k]? = wr.heap[k]? := fun k hk => by
       rw [← hwz]
       exact (Below.heap_setCell _ _ _ _ hk).trans ((Below.heap_setCell _ _ _ _ hk).trans ((Below.heap_setCell _ _ _ _ hk).trans ((Below.heap_setCell _ _ _ _ hk).trans ((Below.heap_setCell _ _ _ _ hk).trans (Below.heap_setCell _ _ _ _ hk)))))
      have hGz : Grown (ownR p r d) w wz := by
       rw [← hwz]
       exact ((((((Grown.of_below hBw).setCell (p := ⟨p, 1, none⟩) (.inl (.inl rfl)) _).setCell (p := ⟨p, 2, none⟩) (.inl (.inl rfl)) _).setCell (p := ⟨p, 3, none⟩) (.inl (.inl rfl)) _).setCell (p := ⟨p, 4, none⟩) (.inl (.inl rfl)) _).setCell (p := ⟨p, 5, none⟩) (.inl (.inl rfl)) _).setCell (p := ⟨p, 6, none⟩) (.inl (.inl rfl)) _
      have uz : wz.heap[p]? = some (topR { d with files := F, now := A, kept := A, works := [], dead := true, fails := -1 } ⟨.slice q2 F.length cq2, bv, .slice q3 A.length cq3, .slice q3 A.length cq3, .slice none 0 0, r.pv⟩) := by
       rw [← hwz]; exact u6
      have fin : RTurns w wz p n₀ r d { d with files := F, now := A, kept := A, works := [], dead := true, fails := -1 } := by
       have hnw : n₀ ≤ w1.heap.size := Nat.le_trans hn hB1.size
       have hkp := h.out.keep
       refine ⟨_, { top := uz, files := ?_, data := fun i hi => ?_, rowInj := hfiles.inj, now := ?_, kept := ?_, works := World.ownsRow_nil _ _ _ _, keep := ?_, base := h.out.base }, hGz, fun k hk => ?_⟩
       ·exact own_base' (row_same hfiles.row (fun g hg => hz g (hpw g (hfiles.row.lt g hg).1))) hnw
       ·exact own_base' (row_same (hfiles.data i hi) (fun g hg => hz g (hpw g ((hfiles.data i hi).lt g hg).1))) hnw
       ·exact own_base' (row_same hnames (fun g hg => hz g (hpw g (World.ownsRow.lt hnames g hg).1))) hnw
       ·exact own_base' (row_same hnames (fun g hg => hz g (hpw g (World.ownsRow.lt hnames g hg).1))) hnw
       ·refine row_same hkp (fun g hg => (hz g (fun e => ?_)).trans (hBw.block g (hkp.lt g hg).2))
        have h1 := h.out.sV hg
        have h2 := h.out.sP
        rw [e] at h1; omega
       ·have hw1 := hB1.size
        rcases hk with hk | hk | ⟨i, hi, hk⟩ | hk | hk | hk | hk
        ·exact .inl (.inl hk)
        ·exact .inr (Nat.le_trans hw1 (hfiles.row.lt k hk).1)
        ·exact .inr (Nat.le_trans hw1 ((hfiles.data i hi).lt k hk).1)
        ·exact .inr (Nat.le_trans hw1 (World.ownsRow.lt hnames k hk).1)
        ·exact .inr (Nat.le_trans hw1 (World.ownsRow.lt hnames k hk).1)
        ·cases hk
        ·exact .inl (.inr (.inr (.inr (.inr (.inr (.inr hk))))))
      have hfin : Hid (RTurns w ((((((wr.setCell ⟨p, 1, none⟩ (.slice q2 F.length cq2)).setCell ⟨p, 2, none⟩ (.slice q3 A.length cq3)).setCell ⟨p, 3, none⟩ (.slice q3 A.length cq3)).setCell ⟨p, 4, none⟩ (.slice none 0 0)).setCell ⟨p, 5, none⟩ (.bool true)).setCell ⟨p, 6, none⟩ (.int .i64 (-1))) p n₀ r d { d with files := F, now := A, kept := A, works := [], dead := true, fails := -1 }) := by
       show RTurns w _ p n₀ r d _
       rw [hwz]; exact fin
      clear u1 u2 u3 u4 u5 u6 t0 hwz hz hGz uz fin y1
      replace hfiles : Hid _ := hfiles
      replace hnames : Hid _ := hnames
      go_wp2_with fail
      go_returns
      refine ⟨rfl, ?_⟩
      rw [hm.out, hst.out]
      exact hfin.out
end Go.Proofs.YtmcmagplaflegaaGreatDoor

namespace Go.Proofs.YtmcmagplaflegaaGreatDoor
open Go Go.RowKit Go.MapL Go.Poised
variable {w w' : World} {p n₀ : Nat} {r : RRep} {d : RD}

set_option maxRecDepth 100000 in
set_option maxHeartbeats 4000000 in
theorem diesR_0 (w : World) (h : RLies w p n₀ r d) (hw : RWF d) (hn : n₀ ≤ w.heap.size) (hf : d.fails = 0) : Calls Tryz.prog 119 #[ofBlock p] w fun e w' => e = .returned (.bool true) ∧ RTurns w w' p n₀ r d (d.crash d.keep) := by
 have hcr := crashR_any r.pv d.keep w h hw hn (intsIn_of_own h.keep hw.keepB (by have := hw.keepL; omega))
 obtain ⟨c0, c1, c2, c3, c4, c5, c6, c7⟩ := h.cells
 rw [hf] at c6
 obtain ⟨vq, vc, hve⟩ := own_shape h.keep
 rw [hve] at c7 hcr
 clear h hw hf hve
 unfold ofBlock at *
 go_enter Tryz.func119, Tryz.ntmps119
 go_wp2_with (go_at_call 65; refine hcr.mono ?_; clear hcr; rintro e w2 ⟨rfl, h2⟩; replace h2 : Hid _ := h2)
 go_returns
 exact ⟨rfl, h2.out⟩
theorem RLies.tickTo (h : RLies w p n₀ r d) {x : Int} : RLies (w.setCell ⟨p, 6, none⟩ (.int .i64 x)) p n₀ r { d with fails := x } :=
 have hs : ∀ k, k ≠ p → (w.setCell ⟨p, 6, none⟩ (.int .i64 x)).heap[k]? = w.heap[k]? := fun _ hk => Below.heap_setCell _ _ _ _ hk
 h.setTop (d' := { d with fails := x }) (nv := r.nv) (kv := r.kv) (wv := r.wv) (pv := r.pv) (setCell_heap (i := 6) h.top) (fun k _ hk => hs k hk) rfl (h.nowTo (fun k _ hk => hs k hk)) (h.keptTo (fun k _ hk => hs k hk)) (h.worksTo (fun k _ hk => hs k hk)) (h.keepTo (fun k _ hk => hs k hk))
set_option maxRecDepth 100000 in
set_option maxHeartbeats 4000000 in
theorem diesR_1 (w : World) (h : RLies w p n₀ r d) (hf : d.fails ≠ 0) (hf1 : -1 ≤ d.fails ∧ d.fails ≤ 9223372036854775807) : Calls Tryz.prog 119 #[ofBlock p] w fun e w' => e = .returned (.bool false) ∧ RLies w' p n₀ r d.tick ∧ Grown (fun k => k = p) w w' ∧ w'.heap.size = w.heap.size := by
 obtain ⟨c0, c1, c2, c3, c4, c5, c6, c7⟩ := h.cells
 have f6 := h.free 6
 have hf0 : (d.fails == 0) = false := by simpa using hf
 by_cases hp : 0 < d.fails
 ·have he : d.tick = { d with fails := d.fails - 1 } := by unfold RD.tick; rw [if_pos hp]
  have hw1 : IntKind.i64.wrap (d.fails - 1) = d.fails - 1 := IntWalk.i64_in _ (by omega)
  rw [he]
  have ht := h.tickTo (x := d.fails - 1)
  replace ht : Hid _ := ht
  unfold ofBlock
  clear he h
  generalize d.fails = fl at *
  go_enter Tryz.func119, Tryz.ntmps119
  go_wp2_with fail
  go_returns
  exact ⟨rfl, ht.out, (Grown.refl (fun k => k = p) w).setCell (p := ⟨p, 6, none⟩) (.inl rfl) _, by simp⟩
 ·have he : d.tick = d := by unfold RD.tick; rw [if_neg hp]
  rw [he]
  unfold ofBlock
  have hp' : ¬ d.fails > 0 := hp
  replace h : Hid _ := h
  clear he
  go_enter Tryz.func119, Tryz.ntmps119
  go_wp2_with fail
  go_returns
  exact ⟨rfl, h.out, Grown.refl _ _, rfl⟩
/-! ### a file is another -/
theorem set_same {α : Type} {l : List α} {k : Nat} {x : α} (h : l[k]? = some x) : l.set k x = l := by
 obtain ⟨hk, e⟩ := List.getElem?_eq_some_iff.1 h
 rw [← e]; exact List.set_getElem_self hk
theorem encF_at (bv : Nat → Value) (l : List FileS) {i : Nat} (hi : i < l.length) : (encF bv l)[i * 2]? = some (bv i) ∧ (encF bv l)[i * 2 + 1]? = some (.int .i64 ((l.getD i ⟨[], 0⟩).mark : Nat)) := by
 have h0 := flat_get (enc := encF1 bv l) (z := 2) (fun _ => rfl) (List.range l.length) i (by rw [List.length_range]; exact hi) 0 (by omega)
 have h1 := flat_get (enc := encF1 bv l) (z := 2) (fun _ => rfl) (List.range l.length) i (by rw [List.length_range]; exact hi) 1 (by omega)
 rw [List.getElem_range] at h0 h1
 exact ⟨h0, h1⟩
theorem encF_len (bv : Nat → Value) (l : List FileS) : (encF bv l).length = l.length * 2 := by
 unfold encF
 have : ∀ m : List Nat, (m.flatMap (encF1 bv l)).length = m.length * 2 := by
  intro m
  induction m with
  | nil => rfl
  | cons x m ih => rw [List.flatMap_cons, List.length_append, ih, List.length_cons]; show 2 + _ = _; omega
 rw [this, List.length_range]
theorem encF_set (bv : Nat → Value) (l : List FileS) {i : Nat} (hi : i < l.length) (x : Value) (f : FileS) : encF (upd bv i x) (l.set i f) = ((encF bv l).set (i * 2) x).set (i * 2 + 1) (.int .i64 (f.mark : Nat)) := by
 refine List.ext_getElem? (fun k => ?_)
 have hl := encF_len bv l
 have hl' := encF_len (upd bv i x) (l.set i f)
 rw [List.length_set] at hl'
 by_cases hk : k < l.length * 2
 ·obtain ⟨j, b, hb, rfl⟩ : ∃ j b, b < 2 ∧ k = j * 2 + b := ⟨k / 2, k % 2, by omega, by omega⟩
  have hj : j < l.length := by omega
  obtain ⟨a0, a1⟩ := encF_at bv l hj
  obtain ⟨b0, b1⟩ := encF_at (upd bv i x) (l.set i f) (i := j) (by rw [List.length_set]; exact hj)
  rw [List.getElem?_set, List.getElem?_set]
  by_cases e : j = i
  ·subst e
   have eg : (l.set j f).getD j ⟨[], 0⟩ = f := by simp [List.getD_eq_getElem?_getD, hj]
   rw [eg] at b1
   rw [upd_same] at b0
   obtain rfl | rfl : b = 0 ∨ b = 1 := by omega
   ·rw [Nat.add_zero, b0, if_neg (by omega), if_pos rfl, if_pos (by omega)]
   ·rw [b1, if_pos rfl, if_pos (by rw [List.length_set]; omega)]
  ·have eg : (l.set i f).getD j ⟨[], 0⟩ = l.getD j ⟨[], 0⟩ := by
    rw [List.getD_eq_getElem?_getD, List.getD_eq_getElem?_getD, List.getElem?_set_ne (fun h => e h.symm)]
   rw [eg] at b1
   rw [upd_other _ _ e] at b0
   obtain rfl | rfl : b = 0 ∨ b = 1 := by omega
   ·rw [Nat.add_zero, b0, if_neg (by omega), if_neg (by omega), a0]
   ·rw [b1, if_neg (by omega), if_neg (by omega), a1]
 ·rw [List.getElem?_eq_none (by omega), List.getElem?_eq_none (by rw [List.length_set, List.length_set]; omega)]
theorem RLies.setF (h : RLies w p n₀ r d) {i : Nat} (hi : i < d.files.length) {x : Value} {f : FileS}
  (hrow : w'.ownsRow n₀ 162 2 r.fv d.files.length (((encF r.bv d.files).set (i * 2) x).set (i * 2 + 1) (.int .i64 (f.mark : Nat))))
  (hx : w'.ownsRow n₀ 5 1 x f.b.length (encB f.b)) (hxn : ∀ k, x.ownBlock = some k → (r.bv i).ownBlock = some k ∨ w.heap.size ≤ k)
  (hs : ∀ k, k < w.heap.size → r.fv.ownBlock ≠ some k → (r.bv i).ownBlock ≠ some k → w'.heap[k]? = w.heap[k]?) :
  RLies w' p n₀ { r with bv := upd r.bv i x } (d.setf i f) ∧ ∀ k, ownR p { r with bv := upd r.bv i x } (d.setf i f) k → ownR p r d k ∨ w.heap.size ≤ k := by
 have hl : (d.setf i f).files.length = d.files.length := List.length_set
 have other : ∀ k, k < w.heap.size → sort w k ≠ 163 → sort w k ≠ 6 → w'.heap[k]? = w.heap[k]? := fun k hk h1 h2 => hs k hk (fun e => h1 (h.sF e)) (fun e => h2 (h.sB hi e))
 have hpl := (Array.getElem?_eq_some_iff.1 h.top).1
 refine ⟨{ top := ?_, files := ?_, data := fun j hj => ?_, rowInj := fun j k hj hk hjk => ?_, now := ?_, kept := ?_, works := ?_, keep := ?_, base := h.base }, fun k hk => ?_⟩
 ·exact (other p hpl (by rw [h.sP]; omega) (by rw [h.sP]; omega)).trans h.top
 ·show w'.ownsRow n₀ 162 2 r.fv (d.files.set i f).length (encF (upd r.bv i x) (d.files.set i f))
  rw [encF_set _ _ hi, List.length_set]; exact hrow
 ·rw [hl] at hj
  show w'.ownsRow n₀ 5 1 (upd r.bv i x j) ((d.files.set i f).getD j ⟨[], 0⟩).b.length (encB ((d.files.set i f).getD j ⟨[], 0⟩).b)
  by_cases e : j = i
  ·subst e
   have eg : (d.files.set j f).getD j ⟨[], 0⟩ = f := by simp [List.getD_eq_getElem?_getD, hi]
   rw [eg, upd_same]; exact hx
  ·have eg : (d.files.set i f).getD j ⟨[], 0⟩ = fileD d j := by
    unfold fileD
    rw [List.getD_eq_getElem?_getD, List.getD_eq_getElem?_getD, List.getElem?_set_ne (fun h => e h.symm)]
   rw [eg, upd_other _ _ e]
   refine row_same (h.data j hj) (fun g hg => hs g ((h.data j hj).lt g hg).2 (fun e2 => ?_) (fun e2 => ?_))
   ·have h1 := h.sF e2; have h2 := h.sB hj hg; omega
   ·exact h.rowInj j i hj hi e (by rw [hg]; simp) (by rw [hg, e2])
 ·rw [hl] at hj hk
  show (upd r.bv i x j).ownBlock ≠ none → (upd r.bv i x j).ownBlock ≠ (upd r.bv i x k).ownBlock
  by_cases e : j = i
  ·subst e
   rw [upd_same, upd_other _ _ (fun e => hjk e.symm)]
   intro hn e2
   cases hb : x.ownBlock with
   | none => exact hn hb
   | some g =>
    rw [hb] at e2
    rcases hxn g hb with h3 | h3
    ·exact h.rowInj j k hj hk hjk (by rw [h3]; simp) (by rw [h3, e2])
    ·have := ((h.data k hk).lt g e2.symm).2; omega
  ·rw [upd_other _ _ e]
   by_cases e3 : k = i
   ·subst e3
    rw [upd_same]
    intro hn e2
    cases hb : (r.bv j).ownBlock with
    | none => exact hn hb
    | some g =>
     rw [hb] at e2
     rcases hxn g e2.symm with h3 | h3
     ·exact h.rowInj j k hj hk hjk (by rw [hb]; simp) (by rw [hb, h3])
     ·have := ((h.data j hj).lt g hb).2; omega
   ·rw [upd_other _ _ e3]; exact h.rowInj j k hj hk hjk
 ·exact row_same h.now (fun g hg => other g (World.ownsRow.lt h.now g hg).2 (by rw [h.sN hg]; omega) (by rw [h.sN hg]; omega))
 ·exact row_same h.kept (fun g hg => other g (World.ownsRow.lt h.kept g hg).2 (by rw [h.sK hg]; omega) (by rw [h.sK hg]; omega))
 ·exact row_same h.works (fun g hg => other g (h.works.lt g hg).2 (by rw [h.sW hg]; omega) (by rw [h.sW hg]; omega))
 ·exact row_same h.keep (fun g hg => other g (h.keep.lt g hg).2 (by rw [h.sV hg]; omega) (by rw [h.sV hg]; omega))
 ·rcases hk with hk | hk | ⟨j, hj, hk⟩ | hk | hk | hk | hk
  ·exact .inl (.inl hk)
  ·exact .inl (.inr (.inl hk))
  ·rw [hl] at hj
   have hk : (upd r.bv i x j).ownBlock = some k := hk
   by_cases e : j = i
   ·subst e
    rw [upd_same] at hk
    exact (hxn k hk).imp (fun h => .inr (.inr (.inl ⟨j, hj, h⟩))) id
   ·rw [upd_other _ _ e] at hk
    exact .inl (.inr (.inr (.inl ⟨j, hj, hk⟩)))
  ·exact .inl (.inr (.inr (.inr (.inl hk))))
  ·exact .inl (.inr (.inr (.inr (.inr (.inl hk)))))
  ·exact .inl (.inr (.inr (.inr (.inr (.inr (.inl hk))))))
  ·exact .inl (.inr (.inr (.inr (.inr (.inr (.inr hk))))))
theorem rwf_tick (hw : RWF d) : RWF d.tick := { hw with fails := by have := hw.fails; unfold RD.tick; simp only; split <;> omega }
theorem RTurns.of {w0 : World} {d0 : RD} {r0 : RRep} {r' : RRep} {d' : RD} (h : RLies w' p n₀ r' d') (hG : Grown (ownR p r0 d0) w0 w') (ho : ∀ k, ownR p r' d' k → ownR p r0 d0 k ∨ w0.heap.size ≤ k) : RTurns w0 w' p n₀ r0 d0 d' := ⟨r', h, hG, ho⟩
theorem free_row {w W : World} {n e z k : Nat} {v : Value} {xs : List Value} (h : w.ownsRow n e z v k xs) {g cap : Nat} (hv : v = .slice (some ⟨g, 0, none⟩) k cap) (hW : Below w.heap.size w W) (j : Nat) : W.frozen? ⟨g, j, none⟩ = false := by
 subst hv
 exact World.ownsRow.frozenAt (own_kept h hW) j

set_option maxRecDepth 100000 in
set_option maxHeartbeats 8000000 in
theorem syncR_any (x : ByteArray) (w : World) (h : RLies w p n₀ r d) (hw : RWF d) (hn : n₀ ≤ w.heap.size) :
  Calls Tryz.prog 112 #[ofBlock p, .string x] w fun e w' => e = .returned (.int .i64 (d.sync x).2) ∧ RTurns w w' p n₀ r d (d.sync x).1 := by
 have hcs := h.cells
 by_cases hd : d.dead = true
 ·have he : d.sync x = (d, 51) := by unfold RD.sync RD.work ofResR; rw [if_pos hd]
  rw [he]
  rw [hd] at hcs
  obtain ⟨c0, c1, c2, c3, c4, c5, c6, c7⟩ := hcs
  unfold ofBlock
  replace h : Hid _ := h
  clear he hw hd
  go_enter Tryz.func112, Tryz.ntmps112
  go_wp2_with fail
  go_returns
  exact ⟨rfl, .none h.out (Below.refl _ _)⟩
 have hd' : d.dead = false := by simpa using hd
 have hfi := find_any r.nv d.now x n₀ w h.now (by have := hw.now; omega)
 rw [hd'] at hcs
 obtain ⟨c0, c1, c2, c3, c4, c5, c6, c7⟩ := hcs
 cases hf : fileR d x with
 | none =>
  have he : d.sync x = (d, 50) := by unfold RD.sync RD.work ofResR; rw [if_neg hd, hf]
  rw [he]
  rw [idxOf_none hf] at hfi
  unfold ofBlock
  replace h : Hid _ := h
  clear he hw hd hd' hf
  go_enter Tryz.func112, Tryz.ntmps112
  go_wp2_with (go_at_call 120; refine hfi.mono ?_; clear hfi; rintro e w2 ⟨rfl, hw2⟩; obtain rfl := hw2.symm)
  go_returns
  exact ⟨rfl, .none h.out (Below.refl _ _)⟩
 | some i =>
  rw [idxOf_some hf] at hfi
  have hi := hw.look hf
  by_cases h0 : d.fails = 0
  ·have he : d.sync x = (d.crash d.keep, 51) := by unfold RD.sync RD.work ofResR; rw [if_neg hd, hf]; simp only [if_true]; rw [if_pos h0]
   rw [he]
   have hdi := diesR_0 w h hw hn h0
   unfold ofBlock at *
   clear he hw hd hd' hf h
   go_enter Tryz.func112, Tryz.ntmps112
   go_wp2_with (first
    |(go_at_call 120; refine hfi.mono ?_; clear hfi; rintro e w2 ⟨rfl, hw2⟩; obtain rfl := hw2.symm)
    |(go_at_call 119; refine hdi.mono ?_; clear hdi; rintro e w3 ⟨rfl, h3⟩; replace h3 : Hid _ := h3))
   go_returns
   exact ⟨rfl, h3.out⟩
  ·have he : d.sync x = (d.tick.setf i ⟨(fileD d i).b, (fileD d i).b.length⟩, 0) := by unfold RD.sync RD.work ofResR; rw [if_neg hd, hf]; simp only [if_true]; rw [if_neg h0]; rfl
   rw [he]
   have hdi := diesR_1 w h h0 hw.fails
   have hwt := rwf_tick hw
   have hft : d.tick.files.length = d.files.length := rfl
   unfold ofBlock at *
   replace h : Hid _ := h
   clear he hd hd' hf h0
   go_enter Tryz.func112, Tryz.ntmps112
   go_wp2_with (first
    |(go_at_call 120; refine hfi.mono ?_; clear hfi; rintro e w2 ⟨rfl, hw2⟩; obtain rfl := hw2.symm)
    |(go_at_call 119; refine hdi.mono ?_; clear hdi; rintro e w3 ⟨rfl, h3, hG3, hz3⟩
      obtain ⟨d0, d1, d2, d3, d4, d5, d6, d7⟩ := h3.cells
      have hpl := (Array.getElem?_eq_some_iff.1 h3.top).1
      obtain ⟨g, cap, e, hg, b0, b1⟩ := h3.fileCells hi
      obtain ⟨bq, bc, hbe⟩ := own_shape (h3.data i hi)
      have hlen := hwt.len _ (hwt.mem hi)
      rw [e] at d1
      rw [hbe] at b0
      have hilt : (i : Int) < (d.tick.files.length : Int) := by rw [hft]; omega
      have hfr := fun W (hW : Below w3.heap.size w3 W) => free_row (h3.files) e hW (i * 2 + 1)
      replace h3 : Hid _ := h3
      replace e : Hid _ := e
      replace hbe : Hid _ := hbe
      replace hG3 : Hid _ := hG3
      clear c0 c1 c2 c3 c4 c5 c6 c7 d0 d2 d3 d4 d5 d6 d7))
   refine poised_then 16 (fun x => Below w3.heap.size w3 x) (fun x y => Below w3.heap.size x y) (by kernel_rfl) (by kernel_rfl) (by kernel_rfl) (fun _ _ h k => h.trans k) ((Below.refl _ _).drew) ?_
   apply Exists.intro
   simp only [List.take_succ_cons, List.take_zero]
   iterate 3
    apply walk_det
    ·rfl
    ·intro w2 hC hF
     simp only [upon]
     go_simp
     exact ⟨Below.refl _ _, rfl⟩
    simp only [put_lit, List.set_cons_succ, List.set_cons_zero]
   apply walk_det
   ·rfl
   ·intro w2 hC hF
    have y1 := (hC.cell (p := ⟨p, 1, none⟩) hpl).trans d1
    have y2 := (hC.cell (p := ⟨g, i * 2, none⟩) hg).trans b0
    simp only [upon]
    go_simp
    exact ⟨Below.refl _ _, rfl⟩
   simp only [put_lit, List.set_cons_succ, List.set_cons_zero]
   iterate 4
    apply walk_det
    ·rfl
    ·intro w2 hC hF
     simp only [upon]
     go_simp
     exact ⟨Below.refl _ _, rfl⟩
    simp only [put_lit, List.set_cons_succ, List.set_cons_zero]
   apply walk_det
   ·rfl
   ·intro w2 hC hF
    have y1 := (hC.cell (p := ⟨p, 1, none⟩) hpl).trans d1
    have y2 := (hC.cell (p := ⟨g, i * 2, none⟩) hg).trans b0
    simp only [upon]
    go_simp
    exact ⟨Below.refl _ _, rfl⟩
   simp only [put_lit, List.set_cons_succ, List.set_cons_zero]
   iterate 3
    apply walk_det
    ·rfl
    ·intro w2 hC hF
     simp only [upon]
     go_simp
     exact ⟨Below.refl _ _, rfl⟩
    simp only [put_lit, List.set_cons_succ, List.set_cons_zero]
   apply walk_det
   ·rfl
   ·intro w2 hC hF
    have y1 := (hC.cell (p := ⟨p, 1, none⟩) hpl).trans d1
    have y2 := (hC.cell (p := ⟨g, i * 2, none⟩) hg).trans b0
    simp only [upon]
    go_simp
    exact ⟨Below.refl _ _, rfl⟩
   simp only [put_lit, List.set_cons_succ, List.set_cons_zero]
   iterate 3
    apply walk_det
    ·rfl
    ·intro w2 hC hF
     simp only [upon]
     go_simp
     exact ⟨Below.refl _ _, rfl⟩
    simp only [put_lit, List.set_cons_succ, List.set_cons_zero]
   apply walk_nil
   intro w7 hC7 _
   simp only [List.drop_succ_cons, List.drop_zero]
   have fr7 := hfr w7 hC7
   have b07 := (hC7.cell (p := ⟨g, i * 2, none⟩) hg).trans b0
   have b17 := (hC7.cell (p := ⟨g, i * 2 + 1, none⟩) hg).trans b1
   go_wp2_with fail
   go_returns
   have h7 := h3.out.below hC7
   have hrow7 := h7.files
   rw [e.out] at hrow7
   obtain ⟨hst, hgr⟩ := World.ownsRow.stored hrow7 (i * 2 + 1) (.int .i64 ((fileD d.tick i).b.length : Nat))
   have hx7 := h7.data i hi
   have hse := h7.setF hi (w' := w7.setCell ⟨g, i * 2 + 1, none⟩ (.int .i64 ((fileD d.tick i).b.length : Nat))) (x := r.bv i) (f := ⟨(fileD d.tick i).b, (fileD d.tick i).b.length⟩)
    (by rw [set_same (encF_at r.bv d.tick.files hi).1, e.out]; exact hst)
    (World.ownsRow.kept hx7 hgr (by
     have := rows_ne hx7 hrow7 (by decide)
     exact this))
    (fun k hk => .inl hk) (fun k hk h1 _ => hgr.block k hk (fun e2 => h1 (by rw [e.out, e2]; rfl)))
   refine ⟨rfl, .of hse.1 ?_ ?_⟩
   ·have hG7 : Grown (ownR p r d) w w7 := (hG3.out.mono (fun k hk => .inl hk)).step hC7
    exact hG7.setCell (p := ⟨g, i * 2 + 1, none⟩) (.inl (.inr (.inl (by rw [e.out]; rfl)))) _
   ·intro k hk
    rcases hse.2 k hk with h1 | h1
    ·exact .inl h1
    ·exact .inr (by have := hC7.size; omega)
end Go.Proofs.YtmcmagplaflegaaGreatDoor

namespace Go.Proofs.YtmcmagplaflegaaGreatDoor
open Go Go.RowKit Go.MapL Go.Poised
variable {w w' : World} {p n₀ : Nat} {r : RRep} {d : RD}

/-- An append, as an operation of a region walked in the text's order. -/
theorem upon_append {P : Program} {R : World → World → Prop} {D : Value → World → Prop} {o : Oper} {a : Act} {W W' : World} {v u v' : Value} (s x : Operand) (t : TypeId)
  (ho : o.op = .call { callee := .builtin .append, args := #[s, x], argTypes := #[t, t] }) (hs : a.eval s = v) (hx : a.eval x = u) (hr : (Builtin.append_ #[t, t] o.type #[v, u]).run P W = .ok v' W') (h : R W W' ∧ D v' W') :
  upon P R W D ((execOp a.eval o).run P W) := by
 unfold execOp
 simp only [ho, resolve, invoke, builtin, Sem.run_bind, Sem.run_pure, Result.andThen_ok, List.map_toArray, List.map_cons, List.map_nil, hs, hx, hr]
 exact h

set_option maxRecDepth 100000 in
set_option maxHeartbeats 16000000 in
theorem cutR_any (x : ByteArray) (n : Int) (hn1 : -9223372036854775808 ≤ n) (hn2 : n ≤ 9223372036854775807) (w : World) (h : RLies w p n₀ r d) (hw : RWF d) (hn : n₀ ≤ w.heap.size) :
  Calls Tryz.prog 138 #[ofBlock p, .string x, .int .i64 n] w fun e w' => e = .returned (.int .i64 (d.cut x n).2) ∧ RTurns w w' p n₀ r d (d.cut x n).1 := by
 have hcs := h.cells
 by_cases hd : d.dead = true
 ·have he : d.cut x n = (d, 51) := by unfold RD.cut; rw [if_pos hd]
  rw [he]
  rw [hd] at hcs
  obtain ⟨c0, c1, c2, c3, c4, c5, c6, c7⟩ := hcs
  unfold ofBlock
  replace h : Hid _ := h
  clear he hw hd
  go_enter Tryz.func138, Tryz.ntmps138
  go_wp2_with fail
  go_returns
  exact ⟨rfl, .none h.out (Below.refl _ _)⟩
 have hd' : d.dead = false := by simpa using hd
 have hfi := find_any r.nv d.now x n₀ w h.now (by have := hw.now; omega)
 rw [hd'] at hcs
 obtain ⟨c0, c1, c2, c3, c4, c5, c6, c7⟩ := hcs
 cases hf : fileR d x with
 | none =>
  have he : d.cut x n = (d, 50) := by unfold RD.cut; rw [if_neg hd, hf]
  rw [he]
  rw [idxOf_none hf] at hfi
  unfold ofBlock
  replace h : Hid _ := h
  clear he hw hd hd' hf
  go_enter Tryz.func138, Tryz.ntmps138
  go_wp2_with (go_at_call 120; refine hfi.mono ?_; clear hfi; rintro e w2 ⟨rfl, hw2⟩; obtain rfl := hw2.symm)
  go_returns
  exact ⟨rfl, .none h.out (Below.refl _ _)⟩
 | some i =>
  rw [idxOf_some hf] at hfi
  have hi := hw.look hf

  obtain ⟨g0, cap0, e0, hg0, z0, z1⟩ := h.fileCells hi
  obtain ⟨bq0, bc0, hbe0⟩ := own_shape (h.data i hi)
  rw [e0] at c1
  rw [hbe0] at z0
  have hilt0 : (i : Int) < (d.files.length : Int) := by omega
  by_cases hbad : n < 0 ∨ ((fileD d i).b.length : Int) < n
  ·have he : d.cut x n = (d, 9) := by unfold RD.cut; rw [if_neg hd, hf]; simp only; rw [if_pos hbad]
   rw [he]
   have two : ∀ P : Prop, (n < 0 → P) → (¬ n < 0 → ((fileD d i).b.length : Int) < n → P) → P := by
    intro P a1 a2
    by_cases b1 : n < 0
    ·exact a1 b1
    ·exact a2 b1 (by omega)
   unfold ofBlock at *
   replace h : Hid _ := h
   clear he hw hd hd' hf hbad e0 hbe0
   apply two
   all_goals
    intros
    go_enter Tryz.func138, Tryz.ntmps138
    go_wp2_with (go_at_call 120; refine hfi.mono ?_; clear hfi; rintro e w2 ⟨rfl, hw2⟩; obtain rfl := hw2.symm)
    go_returns
    exact ⟨rfl, .none h.out (Below.refl _ _)⟩
  have m1 : ¬ n < 0 := by omega
  have m2 : ¬ ((fileD d i).b.length : Int) < n := by omega
  by_cases h0 : d.fails = 0
  ·have he : d.cut x n = (d.crash d.keep, 51) := by unfold RD.cut; rw [if_neg hd, hf]; simp only; rw [if_neg hbad, if_pos h0]
   rw [he]
   have hdi := diesR_0 w h hw hn h0
   unfold ofBlock at *
   clear he hw hd hd' hf h hbad e0 hbe0
   go_enter Tryz.func138, Tryz.ntmps138
   go_wp2_with (first
    |(go_at_call 120; refine hfi.mono ?_; clear hfi; rintro e w2 ⟨rfl, hw2⟩; obtain rfl := hw2.symm)
    |(go_at_call 119; refine hdi.mono ?_; clear hdi; rintro e w3 ⟨rfl, h3⟩; replace h3 : Hid _ := h3))
   go_returns
   exact ⟨rfl, h3.out⟩
  ·obtain ⟨k, rfl⟩ : ∃ k : Nat, n = k := ⟨n.toNat, by omega⟩
   have hkl : k ≤ (fileD d i).b.length := by omega
   have he : d.cut x k = (d.tick.setf i ⟨(fileD d i).b.take k, min (fileD d i).mark k⟩, 0) := by unfold RD.cut; rw [if_neg hd, hf]; simp only; rw [if_neg hbad, if_neg h0]; rfl
   rw [he]
   have hdi := diesR_1 w h h0 hw.fails
   have hwt := rwf_tick hw
   have hft : d.tick.files.length = d.files.length := rfl
   have hfd : fileD d.tick i = fileD d i := rfl
   unfold ofBlock at *
   replace h : Hid _ := h
   clear he hd hd' hf h0 hbad e0 hbe0
   go_enter Tryz.func138, Tryz.ntmps138
   go_wp2_with (first
    |(go_at_call 120; refine hfi.mono ?_; clear hfi; rintro e w2 ⟨rfl, hw2⟩; obtain rfl := hw2.symm)
    |(go_at_call 119; refine hdi.mono ?_; clear hdi; rintro e w3 ⟨rfl, h3, hG3, hz3⟩
      obtain ⟨d0, d1, d2, d3, d4, d5, d6, d7⟩ := h3.cells
      have hpl := (Array.getElem?_eq_some_iff.1 h3.top).1
      obtain ⟨g, cap, e, hg, b0, b1⟩ := h3.fileCells hi
      obtain ⟨bq, bc, hbe, hbl⟩ := own_cap (h3.data i hi)
      have hlen := hwt.len _ (hwt.mem hi)
      rw [e] at d1
      rw [hbe] at b0
      have hilt : (i : Int) < (d.tick.files.length : Int) := by rw [hft]; omega
      have hfr := fun W (hW : Below w3.heap.size w3 W) j => free_row (h3.files) e hW j
      replace h3 : Hid _ := h3
      replace e : Hid _ := e
      replace hbe : Hid _ := hbe
      replace hG3 : Hid _ := hG3
      clear c0 c1 c2 c3 c4 c5 c6 c7 d0 d2 d3 d4 d5 d6 d7))
   have hdi3 := h3.out.dataIn hwt hi
   rw [hbe.out] at hdi3
   obtain ⟨T, hT⟩ : ∃ T, (fileD d i).b.take k = T := ⟨_, rfl⟩
   have hTl : T.length = k := by rw [← hT, List.length_take]; omega
   have hsl0 : BytesIn w3 (.slice bq k bc) T := by
    obtain ⟨_, _, _, e9, h10, _⟩ := hdi3.take k (by rw [hfd]; exact hkl)
    cases e9
    rw [hfd, hT] at h10
    exact h10
   rw [hfd] at b0 b1 hbl hlen hbe
   have hkc : (k : Int) ≤ (bc : Int) := by omega
   have hk0 : (0 : Int) ≤ (k : Int) := by omega
   have hkb : (k : Int) ≤ ((fileD d i).b.length : Int) := by omega
   clear hdi3
   replace hT : Hid ((fileD d i).b.take k = T) := hT
   replace hTl : Hid (T.length = k) := hTl
   replace hsl0 : Hid (BytesIn w3 (.slice bq k bc) T) := hsl0
   replace hw : Hid _ := hw
   replace hwt : Hid _ := hwt
   refine poised_then 19 (fun x => Below w3.heap.size w3 x) (fun x y => Below x.heap.size x y) (by kernel_rfl) (by kernel_rfl) (by kernel_rfl) (fun _ _ h k => h.trans (k.mono h.size)) ((Below.refl _ _).drew) ?_
   apply Exists.intro
   simp only [List.take_succ_cons, List.take_zero]
   iterate 3
    apply walk_det
    ·rfl
    ·intro w2 hC hF
     simp only [upon]
     go_simp
     exact ⟨Below.refl _ _, rfl⟩
    simp only [put_lit, List.set_cons_succ, List.set_cons_zero]
   apply walk_det
   ·rfl
   ·intro w2 hC hF
    have y1 := (hC.cell (p := ⟨p, 1, none⟩) hpl).trans d1
    have y2 := (hC.cell (p := ⟨g, i * 2, none⟩) hg).trans b0
    simp only [upon]
    go_simp
    exact ⟨Below.refl _ _, rfl⟩
   simp only [put_lit, List.set_cons_succ, List.set_cons_zero]
   iterate 5
    apply walk_det
    ·rfl
    ·intro w2 hC hF
     simp only [upon]
     go_simp
     exact ⟨Below.refl _ _, rfl⟩
    simp only [put_lit, List.set_cons_succ, List.set_cons_zero]
   apply walk_det
   ·rfl
   ·intro w2 hC hF
    have y1 := (hC.cell (p := ⟨p, 1, none⟩) hpl).trans d1
    have y2 := (hC.cell (p := ⟨g, i * 2, none⟩) hg).trans b0
    simp only [upon]
    go_simp
    exact ⟨Below.refl _ _, rfl⟩
   simp only [put_lit, List.set_cons_succ, List.set_cons_zero]
   iterate 3
    apply walk_det
    ·rfl
    ·intro w2 hC hF
     simp only [upon]
     go_simp
     exact ⟨Below.refl _ _, rfl⟩
    simp only [put_lit, List.set_cons_succ, List.set_cons_zero]
   apply walk_det
   ·rfl
   ·intro w2 hC hF
    have y1 := (hC.cell (p := ⟨p, 1, none⟩) hpl).trans d1
    have y2 := (hC.cell (p := ⟨g, i * 2, none⟩) hg).trans b0
    simp only [upon]
    go_simp
    exact ⟨Below.refl _ _, rfl⟩
   simp only [put_lit, List.set_cons_succ, List.set_cons_zero]
   iterate 2
    apply walk_det
    ·rfl
    ·intro w2 hC hF
     simp only [upon]
     go_simp
     exact ⟨Below.refl _ _, rfl⟩
    simp only [put_lit, List.set_cons_succ, List.set_cons_zero]
   apply walk_free (fun v w' => CopyV w3.heap.size T v w') (fun _ _ _ _ hR h => CopyV.last hR h)
   ·rfl
   ·intro w2 hC hF
    obtain ⟨v', w', hr, g2, g3, g4⟩ := run_append_bytes w2 w3.heap.size 32 (.slice none 0 0) (.slice bq k bc) [] T (World.ownsRow_nil _ _ _ _) (hsl0.out.below hC) (by have := hTl.out; simp; omega) hC.size
    refine upon_append (.tmp 43) (.tmp 53) 32 rfl rfl rfl hr ?_
    exact ⟨(Below.refl _ _).grown g3 (Nat.le_refl _) (fun k hk => by simp [Value.ownBlock] at hk), g2⟩
   intro v16
   simp only [put_lit, List.set_cons_succ, List.set_cons_zero]
   iterate 2
    apply walk_det
    ·rfl
    ·intro w2 hC hF
     simp only [upon]
     go_simp
     exact ⟨Below.refl _ _, rfl⟩
    simp only [put_lit, List.set_cons_succ, List.set_cons_zero]
   apply walk_nil
   intro w7 hC7 hF7
   simp only [List.drop_succ_cons, List.drop_zero]
   obtain ⟨q7, c7, hq7⟩ := own_shape (show w7.ownsRow w3.heap.size 5 1 v16 T.length (encB T) from hF7 16)
   subst hq7
   have hcv : w7.ownsRow w3.heap.size 5 1 (.slice q7 T.length c7) T.length (encB T) := hF7 16
   have hn3 : n₀ ≤ w3.heap.size := by omega
   have fr7 := hfr w7 hC7 (i * 2)
   have b07 := (hC7.cell (p := ⟨g, i * 2, none⟩) hg).trans b0
   have hrow7 := (h3.out.below hC7).files
   rw [e.out] at hrow7
   obtain ⟨hst, hgr⟩ := World.ownsRow.stored hrow7 (i * 2) (.slice q7 T.length c7)
   have hea := encF_at r.bv d.tick.files hi
   have hse := h3.out.setF hi (w' := w7.setCell ⟨g, i * 2, none⟩ (.slice q7 T.length c7)) (x := .slice q7 T.length c7) (f := ⟨T, (fileD d i).mark⟩)
    (by rw [set_same (k := i * 2 + 1) (by rw [List.getElem?_set_ne (by omega)]; exact hea.2), e.out]; exact hst)
    (own_base' (World.ownsRow.kept hcv hgr (rows_ne hcv hrow7 (by decide))) hn3)
    (fun k hk => .inr (hcv.lt k hk).1) (fun k hk h1 _ => (hgr.block k (Nat.lt_of_lt_of_le hk hC7.size) (fun e2 => h1 (by rw [e.out, e2]; rfl))).trans (hC7.block k hk))
   have hGA : Grown (ownR p r d) w (w7.setCell ⟨g, i * 2, none⟩ (.slice q7 T.length c7)) := ((hG3.out.mono (fun k hk => .inl hk)).step hC7).setCell (p := ⟨g, i * 2, none⟩) (.inl (.inr (.inl (by rw [e.out]; rfl)))) _
   replace hse : Hid _ := hse
   replace hcv : Hid _ := hcv
   clear hF7 hrow7 hst hgr hea
   go_wp2_with fail
   obtain ⟨wA, hwA⟩ : ∃ wA, w7.setCell ⟨g, i * 2, none⟩ (.slice q7 T.length c7) = wA := ⟨_, rfl⟩
   have hseA := hse.out
   rw [hwA] at hseA hGA ⊢
   clear hse
   obtain ⟨hA, hoA⟩ := hseA
   obtain ⟨r1, hr1⟩ : ∃ r1 : RRep, { r with bv := upd r.bv i (.slice q7 T.length c7) } = r1 := ⟨_, rfl⟩
   have e1 : r1.fv = .slice (some ⟨g, 0, none⟩) d.tick.files.length cap := by rw [← hr1]; exact e.out
   have x1 : r1.bv i = .slice q7 T.length c7 := by rw [← hr1]; exact upd_same _ _ _
   rw [hr1] at hA hoA
   obtain ⟨dq, hd1⟩ : ∃ dq, d.tick.setf i ⟨T, (fileD d i).mark⟩ = dq := ⟨_, rfl⟩
   have hl1 : dq.files.length = d.tick.files.length := by rw [← hd1]; exact List.length_set
   have hf1 : fileD dq i = ⟨T, (fileD d i).mark⟩ := by
    rw [← hd1]; unfold fileD RD.setf
    have : i < d.tick.files.length := hi
    simp [List.getD_eq_getElem?_getD, this]
   rw [hd1] at hA hoA
   have hi1 : i < dq.files.length := by rw [hl1]; exact hi
   obtain ⟨dd0, dd1, dd2, dd3, dd4, dd5, dd6, dd7⟩ := hA.cells
   have hplA := (Array.getElem?_eq_some_iff.1 hA.top).1
   obtain ⟨gA, capA, eA, hgA, bA0, bA1⟩ := hA.fileCells hi1
   have eAg : gA = g ∧ capA = cap := by rw [e1, hl1] at eA; cases eA; exact ⟨rfl, rfl⟩
   obtain ⟨rfl, rfl⟩ := eAg
   rw [eA] at dd1
   rw [hf1] at bA1
   simp only at bA1
   have hilt1 : (i : Int) < (dq.files.length : Int) := by omega
   have hfrA := fun W (hW : Below wA.heap.size wA W) => free_row hA.files eA hW (i * 2 + 1)
   obtain ⟨mn, hmn⟩ : ∃ mn, min (fileD d i).mark k = mn := ⟨_, rfl⟩
   have hmi : min ((fileD d i).mark : Int) (k : Int) = (mn : Int) := by omega
   replace hmn : Hid (min (fileD d i).mark k = mn) := hmn
   replace hA : Hid _ := hA
   replace hoA : Hid _ := hoA
   replace hGA : Hid _ := hGA
   replace eA : Hid _ := eA
   replace hr1 : Hid _ := hr1
   replace hd1 : Hid (d.tick.setf i ⟨T, (fileD d i).mark⟩ = dq) := hd1
   replace hf1 : Hid _ := hf1
   replace e1 : Hid _ := e1
   replace x1 : Hid _ := x1
   clear dd0 dd2 dd3 dd4 dd5 dd6 dd7 hwA
   refine poised_then 17 (fun x => Below wA.heap.size wA x) (fun x y => Below wA.heap.size x y) (by kernel_rfl) (by kernel_rfl) (by kernel_rfl) (fun _ _ h k => h.trans k) ((Below.refl _ _).drew) ?_
   apply Exists.intro
   simp only [List.take_succ_cons, List.take_zero]
   iterate 3
    apply walk_det
    ·rfl
    ·intro w2 hC hF
     simp only [upon]
     go_simp
     exact ⟨Below.refl _ _, rfl⟩
    simp only [put_lit, List.set_cons_succ, List.set_cons_zero]
   apply walk_det
   ·rfl
   ·intro w2 hC hF
    have y1 := (hC.cell (p := ⟨p, 1, none⟩) hplA).trans dd1
    have y2 := (hC.cell (p := ⟨gA, i * 2 + 1, none⟩) hgA).trans bA1
    simp only [upon]
    go_simp
    exact ⟨Below.refl _ _, rfl⟩
   simp only [put_lit, List.set_cons_succ, List.set_cons_zero]
   iterate 4
    apply walk_det
    ·rfl
    ·intro w2 hC hF
     simp only [upon]
     go_simp
     exact ⟨Below.refl _ _, rfl⟩
    simp only [put_lit, List.set_cons_succ, List.set_cons_zero]
   apply walk_det
   ·rfl
   ·intro w2 hC hF
    have y1 := (hC.cell (p := ⟨p, 1, none⟩) hplA).trans dd1
    have y2 := (hC.cell (p := ⟨gA, i * 2 + 1, none⟩) hgA).trans bA1
    simp only [upon]
    go_simp
    exact ⟨Below.refl _ _, rfl⟩
   simp only [put_lit, List.set_cons_succ, List.set_cons_zero]
   iterate 3
    apply walk_det
    ·rfl
    ·intro w2 hC hF
     simp only [upon]
     go_simp
     exact ⟨Below.refl _ _, rfl⟩
    simp only [put_lit, List.set_cons_succ, List.set_cons_zero]
   apply walk_det
   ·rfl
   ·intro w2 hC hF
    have y1 := (hC.cell (p := ⟨p, 1, none⟩) hplA).trans dd1
    have y2 := (hC.cell (p := ⟨gA, i * 2 + 1, none⟩) hgA).trans bA1
    simp only [upon]
    go_simp
    exact ⟨Below.refl _ _, rfl⟩
   simp only [put_lit, List.set_cons_succ, List.set_cons_zero]
   iterate 4
    apply walk_det
    ·rfl
    ·intro w2 hC hF
     simp only [upon]
     go_simp
     exact ⟨Below.refl _ _, rfl⟩
    simp only [put_lit, List.set_cons_succ, List.set_cons_zero]
   apply walk_nil
   intro w8 hC8 hF8
   simp only [List.drop_succ_cons, List.drop_zero]
   have frA := hfrA w8 hC8
   have bA1' := (hC8.cell (p := ⟨gA, i * 2 + 1, none⟩) hgA).trans bA1
   go_wp2_with fail
   go_returns
   have h8 := hA.out.below hC8
   have hrow8 := h8.files
   rw [eA.out] at hrow8
   obtain ⟨hst, hgr⟩ := World.ownsRow.stored hrow8 (i * 2 + 1) (.int .i64 (mn : Nat))
   have hx8 := h8.data i hi1
   have hea := encF_at r1.bv dq.files hi1
   have hf8 : (fileD dq i).b = T := by rw [hf1.out]
   rw [hf8] at hx8
   have hse := h8.setF hi1 (w' := w8.setCell ⟨gA, i * 2 + 1, none⟩ (.int .i64 (mn : Nat))) (x := r1.bv i) (f := ⟨T, mn⟩)
    (by rw [set_same hea.1, eA.out]; exact hst)
    (World.ownsRow.kept hx8 hgr (rows_ne hx8 hrow8 (by decide)))
    (fun k hk => .inl hk) (fun k hk h1 _ => hgr.block k hk (fun e2 => h1 (by rw [eA.out, e2]; rfl)))
   have hdd : dq.setf i ⟨T, mn⟩ = d.tick.setf i ⟨T, mn⟩ := by rw [← hd1.out]; unfold RD.setf; simp [List.set_set]
   rw [hdd] at hse
   rw [hT.out, hmn.out]
   refine ⟨rfl, .of hse.1 ?_ ?_⟩
   ·exact (hGA.out.step hC8).setCell (p := ⟨gA, i * 2 + 1, none⟩) (.inl (.inr (.inl (by rw [e.out]; rfl)))) _
   ·intro k hk
    rcases hse.2 k hk with h1 | h1
    ·rcases hoA.out k h1 with h2 | h2
     ·exact .inl h2
     ·exact .inr (by omega)
    ·have a1 := hC8.size
     have a2 := hGA.out.size
     exact .inr (by omega)

set_option maxRecDepth 100000 in
set_option maxHeartbeats 16000000 in
theorem turnR_any (x : ByteArray) (n bit : Int) (hlo : -9223372036854775808 ≤ n) (hhi : n ≤ 9223372036854775807) (hblo : -9223372036854775808 ≤ bit) (hbhi : bit ≤ 9223372036854775807) (w : World) (h : RLies w p n₀ r d) (hw : RWF d) (_ : n₀ ≤ w.heap.size) :
  Calls Tryz.prog 71 #[ofBlock p, .string x, .int .i64 n, .int .i64 bit] w fun e w' => e = .returned (.int .i64 (d.turn x n bit).2) ∧ RTurns w w' p n₀ r d (d.turn x n bit).1 := by
 have hcs := h.cells
 by_cases hd : d.dead = true
 ·have he : d.turn x n bit = (d, 51) := by unfold RD.turn; rw [if_pos hd]
  rw [he]
  rw [hd] at hcs
  obtain ⟨c0, c1, c2, c3, c4, c5, c6, c7⟩ := hcs
  unfold ofBlock
  replace h : Hid _ := h
  clear he hw hd
  go_enter Tryz.func71, Tryz.ntmps71
  go_wp2_with fail
  go_returns
  exact ⟨rfl, .none h.out (Below.refl _ _)⟩
 have hd' : d.dead = false := by simpa using hd
 have hfi := find_any r.nv d.now x n₀ w h.now (by have := hw.now; omega)
 rw [hd'] at hcs
 obtain ⟨c0, c1, c2, c3, c4, c5, c6, c7⟩ := hcs
 cases hf : fileR d x with
 | none =>
  have he : d.turn x n bit = (d, 50) := by unfold RD.turn; rw [if_neg hd, hf]
  rw [he]
  rw [idxOf_none hf] at hfi
  unfold ofBlock
  replace h : Hid _ := h
  clear he hw hd hd' hf
  go_enter Tryz.func71, Tryz.ntmps71
  go_wp2_with (go_at_call 120; refine hfi.mono ?_; clear hfi; rintro e w2 ⟨rfl, hw2⟩; obtain rfl := hw2.symm)
  go_returns
  exact ⟨rfl, .none h.out (Below.refl _ _)⟩
 | some i =>
  rw [idxOf_some hf] at hfi
  have hi := hw.look hf

  obtain ⟨g, cap, e, hg, b0, b1⟩ := h.fileCells hi
  obtain ⟨bq, bc, hbe⟩ := own_shape (h.data i hi)
  have hlen := hw.len _ (hw.mem hi)
  have hpl := (Array.getElem?_eq_some_iff.1 h.top).1
  rw [e] at c1
  rw [hbe] at b0
  have hilt : (i : Int) < (d.files.length : Int) := by omega
  by_cases hbad : n < 0 ∨ ((fileD d i).b.length : Int) ≤ n ∨ bit < 0 ∨ 7 < bit
  ·have he : d.turn x n bit = (d, 9) := by unfold RD.turn; rw [if_neg hd, hf]; simp only; rw [if_pos hbad]
   rw [he]
   have four : ∀ P : Prop, (n < 0 → P) → (¬ n < 0 → ((fileD d i).b.length : Int) ≤ n → P) → (¬ n < 0 → ¬ ((fileD d i).b.length : Int) ≤ n → bit < 0 → P) → (¬ n < 0 → ¬ ((fileD d i).b.length : Int) ≤ n → ¬ bit < 0 → 7 < bit → P) → P := by
    intro P a1 a2 a3 a4
    by_cases b1 : n < 0
    ·exact a1 b1
    ·by_cases b2 : ((fileD d i).b.length : Int) ≤ n
     ·exact a2 b1 b2
     ·by_cases b3 : bit < 0
      ·exact a3 b1 b2 b3
      ·exact a4 b1 b2 b3 (by omega)
   unfold ofBlock at *
   replace h : Hid _ := h
   replace hhi : Hid _ := hhi
   replace hbhi : Hid _ := hbhi
   clear he hw hd hd' hf hbad
   apply four
   all_goals
    intros
    go_enter Tryz.func71, Tryz.ntmps71
    go_wp2_with (go_at_call 120; refine hfi.mono ?_; clear hfi; rintro e w2 ⟨rfl, hw2⟩; obtain rfl := hw2.symm)
    go_returns
    exact ⟨rfl, .none h.out (Below.refl _ _)⟩
  obtain ⟨k, rfl⟩ : ∃ k : Nat, n = k := ⟨n.toNat, by omega⟩
  obtain ⟨bt, rfl⟩ : ∃ bt : Nat, bit = bt := ⟨bit.toNat, by omega⟩
  have hk : k < (fileD d i).b.length := by omega
  have hbt : bt ≤ 7 := by omega
  have m1 : ¬ (k : Int) < 0 := by omega
  have m2 : ¬ ((fileD d i).b.length : Int) ≤ (k : Int) := by omega
  have m3 : ¬ (bt : Int) < 0 := by omega
  have m4 : ¬ (7 : Int) < (bt : Int) := by omega
  have he : d.turn x k bt = (d.setf i ⟨(fileD d i).b.set k ((fileD d i).b.getD k 0 ^^^ 2 ^ bt), (fileD d i).mark⟩, 0) := by unfold RD.turn; rw [if_neg hd, hf]; simp only; rw [if_neg hbad]; simp only [Int.toNat_natCast]
  rw [he]
  obtain ⟨gb, hq⟩ : ∃ gb, bq = some ⟨gb, 0, none⟩ := by
   rcases (h.data i hi).2 with ⟨e, h0⟩ | ⟨g, c, cu, e, _⟩
   ·omega
   ·rw [hbe] at e; cases e; exact ⟨g, rfl⟩
  subst hq
  have hgo : (r.bv i).ownBlock = some gb := by rw [hbe]; rfl
  have hgl := ((h.data i hi).lt gb hgo).2
  have hcell : w.cell? ⟨gb, k, none⟩ = some (.int .u8 ((fileD d i).b.getD k 0 : Nat)) := by
   have := (h.data i hi).cells (g := gb) hgo k _ (encB_get _ k hk)
   rw [Addr.add_lit, Nat.zero_add] at this
   exact this
  have hyl : (fileD d i).b.getD k 0 < 256 := by rw [List.getD_eq_getElem?_getD, List.getElem?_eq_getElem hk]; exact hw.bytes _ (hw.mem hi) _ (List.getElem_mem hk)
  have hpw : 2 ^ bt < 256 := Nat.pow_lt_pow_right (n := 8) (by omega) (by omega)
  obtain ⟨y, hy⟩ : ∃ y, (fileD d i).b.getD k 0 = y := ⟨_, rfl⟩
  obtain ⟨pb, hpb⟩ : ∃ pb, 2 ^ bt = pb := ⟨_, rfl⟩
  rw [hy] at hcell hyl ⊢
  rw [hpb] at hpw ⊢
  have gx := xor8 y pb hyl hpw
  have gs : IntKind.u8.wrap (1 * 2 ^ bt) = (pb : Int) := by
   have : ((2 : Int) ^ bt) = ((2 ^ bt : Nat) : Int) := by simp
   rw [Int.one_mul, this, hpb]
   exact IntWalk.u8_in _ (by omega)
  have gs2 : IntKind.u8.wrap (2 ^ bt) = (pb : Int) := by rw [Int.one_mul] at gs; exact gs
  have hK0 : (0 : Int) ≤ (k : Int) := by omega
  have hK1 : (k : Int) < ((fileD d i).b.length : Int) := by omega
  have hfr := fun W (hW : Below w.heap.size w W) => free_row (h.data i hi) hbe hW k
  unfold ofBlock at *
  replace hpb : Hid _ := hpb
  replace hy : Hid _ := hy
  replace h : Hid _ := h
  replace hw : Hid _ := hw
  replace hgo : Hid _ := hgo
  clear c0 c3 c4 c6 c7 he hd hd' hf hbad
  go_enter Tryz.func71, Tryz.ntmps71
  go_wp2_with (go_at_call 120; refine hfi.mono ?_; clear hfi; rintro e w2 ⟨rfl, hw2⟩; obtain rfl := hw2.symm)
  refine poised_then 24 (fun x => Below w.heap.size w x) (fun x y => Below w.heap.size x y) (by kernel_rfl) (by kernel_rfl) (by kernel_rfl) (fun _ _ h k => h.trans k) ((Below.refl _ _).drew) ?_
  apply Exists.intro
  simp only [List.take_succ_cons, List.take_zero]
  iterate 3
   apply walk_det
   ·rfl
   ·intro w2 hC hF
    simp only [upon]
    go_simp
    exact ⟨Below.refl _ _, rfl⟩
   simp only [put_lit, List.set_cons_succ, List.set_cons_zero]
  apply walk_det
  ·rfl
  ·intro w2 hC hF
   have y1 := (hC.cell (p := ⟨p, 1, none⟩) hpl).trans c1
   have y2 := (hC.cell (p := ⟨g, i * 2, none⟩) hg).trans b0
   have y3 := (hC.cell (p := ⟨gb, k, none⟩) hgl).trans hcell
   simp only [upon]
   go_simp
   exact ⟨Below.refl _ _, rfl⟩
  simp only [put_lit, List.set_cons_succ, List.set_cons_zero]
  iterate 3
   apply walk_det
   ·rfl
   ·intro w2 hC hF
    simp only [upon]
    go_simp
    exact ⟨Below.refl _ _, rfl⟩
   simp only [put_lit, List.set_cons_succ, List.set_cons_zero]
  apply walk_det
  ·rfl
  ·intro w2 hC hF
   have y1 := (hC.cell (p := ⟨p, 1, none⟩) hpl).trans c1
   have y2 := (hC.cell (p := ⟨g, i * 2, none⟩) hg).trans b0
   have y3 := (hC.cell (p := ⟨gb, k, none⟩) hgl).trans hcell
   simp only [upon]
   go_simp
   exact ⟨Below.refl _ _, rfl⟩
  simp only [put_lit, List.set_cons_succ, List.set_cons_zero]
  iterate 4
   apply walk_det
   ·rfl
   ·intro w2 hC hF
    simp only [upon]
    go_simp
    exact ⟨Below.refl _ _, rfl⟩
   simp only [put_lit, List.set_cons_succ, List.set_cons_zero]
  apply walk_det
  ·rfl
  ·intro w2 hC hF
   have y1 := (hC.cell (p := ⟨p, 1, none⟩) hpl).trans c1
   have y2 := (hC.cell (p := ⟨g, i * 2, none⟩) hg).trans b0
   have y3 := (hC.cell (p := ⟨gb, k, none⟩) hgl).trans hcell
   simp only [upon]
   go_simp
   exact ⟨Below.refl _ _, rfl⟩
  simp only [put_lit, List.set_cons_succ, List.set_cons_zero]
  iterate 3
   apply walk_det
   ·rfl
   ·intro w2 hC hF
    simp only [upon]
    go_simp
    exact ⟨Below.refl _ _, rfl⟩
   simp only [put_lit, List.set_cons_succ, List.set_cons_zero]
  apply walk_det
  ·rfl
  ·intro w2 hC hF
   have y1 := (hC.cell (p := ⟨p, 1, none⟩) hpl).trans c1
   have y2 := (hC.cell (p := ⟨g, i * 2, none⟩) hg).trans b0
   have y3 := (hC.cell (p := ⟨gb, k, none⟩) hgl).trans hcell
   simp only [upon]
   go_simp
   exact ⟨Below.refl _ _, rfl⟩
  simp only [put_lit, List.set_cons_succ, List.set_cons_zero]
  iterate 2
   apply walk_det
   ·rfl
   ·intro w2 hC hF
    simp only [upon]
    go_simp
    exact ⟨Below.refl _ _, rfl⟩
   simp only [put_lit, List.set_cons_succ, List.set_cons_zero]
  apply walk_det
  ·rfl
  ·intro w2 hC hF
   have y1 := (hC.cell (p := ⟨p, 1, none⟩) hpl).trans c1
   have y2 := (hC.cell (p := ⟨g, i * 2, none⟩) hg).trans b0
   have y3 := (hC.cell (p := ⟨gb, k, none⟩) hgl).trans hcell
   simp only [upon]
   go_simp
   exact ⟨Below.refl _ _, rfl⟩
  simp only [put_lit, List.set_cons_succ, List.set_cons_zero]
  iterate 4
   apply walk_det
   ·rfl
   ·intro w2 hC hF
    simp only [upon]
    go_simp
    exact ⟨Below.refl _ _, rfl⟩
   simp only [put_lit, List.set_cons_succ, List.set_cons_zero]
  apply walk_nil
  intro w8 hC8 hF8
  simp only [List.drop_succ_cons, List.drop_zero]
  have fr8 := hfr w8 hC8
  have hc8 := (hC8.cell (p := ⟨gb, k, none⟩) hgl).trans hcell
  go_wp2_with fail
  go_returns
  have h8 := h.out.below hC8
  have hx8 := h8.data i hi
  have hrow8 := h8.files
  have hxs := row_set (x := y ^^^ pb) hx8 hk hgo.out
  have hne : ∀ g', r.fv.ownBlock = some g' → g' ≠ gb := fun g' hg' e2 => by
   have s1 := h8.sF hg'; have s2 := h8.sB hi hgo.out; rw [e2] at s1; omega
  have hea := encF_at r.bv d.files hi
  have hse := h8.setF hi (w' := w8.setCell ⟨gb, k, none⟩ (.int .u8 ((y ^^^ pb : Nat) : Int))) (x := r.bv i) (f := ⟨(fileD d i).b.set k (y ^^^ pb), (fileD d i).mark⟩)
   (by
    have e3 : (encF r.bv d.files).set (i * 2 + 1) (.int .i64 ((fileD d i).mark : Nat)) = encF r.bv d.files := set_same hea.2
    show (w8.setCell ⟨gb, k, none⟩ (.int .u8 ((y ^^^ pb : Nat) : Int))).ownsRow n₀ 162 2 r.fv d.files.length (((encF r.bv d.files).set (i * 2) (r.bv i)).set (i * 2 + 1) (.int .i64 ((fileD d i).mark : Nat)))
    rw [set_same hea.1, e3]
    exact row_same hrow8 (fun g' hg' => Below.heap_setCell _ _ _ _ (hne g' hg')))
   hxs (fun k hk => .inl hk) (fun k' hk' _ h2 => Below.heap_setCell _ _ _ _ (fun e2 => h2 (by rw [hgo.out]; exact congrArg some e2.symm)))
  refine ⟨rfl, .of hse.1 ?_ ?_⟩
  ·exact (Grown.of_below hC8).setCell (p := ⟨gb, k, none⟩) (.inl (.inr (.inr (.inl ⟨i, hi, hgo.out⟩)))) _
  ·intro k' hk'
   rcases hse.2 k' hk' with h1 | h1
   ·exact .inl h1
   ·exact .inr (Nat.le_trans hC8.size h1)
end Go.Proofs.YtmcmagplaflegaaGreatDoor
