/-
 THE PAIR: the program's journal and the document's, side by side. Conditions: those of each theorem.
 What a row's argument is: a list of deeds, and how long their bytes are. Conditions: those of each theorem.
 THE PAIR: one call of one side. Conditions: those of each theorem.
 A STEP OF THE PAIR. Conditions: those of each theorem.
-/
import Derived.Test.YtmcmagplaflegaaGreatDoorX21
import Derived.Test.YtmcmagplaflegaaGreatDoorX13

namespace Go.Proofs.YtmcmagplaflegaaGreatDoor
open Go Go.RowKit Go.MapL Go.Poised

variable {P pd pu J M n₀ m m' : Nat} {s s' : DS} {d d' : RD} {j : Jn} {r : Jr} {jv mv : Value} {w w' w'' : World} {K K' : Nat → Prop}
def pairO (pd pu : Nat) (jv mv : Value) (b : Bool) : Obj := .cells #[ofBlock pd, jv, ofBlock pu, mv, .bool b] 58
theorem cells5p {w : World} {B : Nat} {a b c d e : Value} {t : TypeId} (h : w.heap[B]? = some (.cells #[a, b, c, d, e] t)) : w.cell? ⟨B, 0, none⟩ = some a ∧ w.cell? ⟨B, 1, none⟩ = some b ∧ w.cell? ⟨B, 2, none⟩ = some c ∧ w.cell? ⟨B, 3, none⟩ = some d ∧ w.cell? ⟨B, 4, none⟩ = some e := by
 simp [World.cell?, h]
/-- The pair lies at P, with two disks. -/
structure PV (w : World) (P pd pu n₀ m : Nat) (s : DS) (d : RD) (jv mv : Value) (K : Nat → Prop) : Prop where
 both : Both w pd pu n₀ m s d K
 cell : w.heap[P]? = some (pairO pd pu jv mv true)
 kp : K P
 base : n₀ ≤ P
structure PClosed (w : World) (P pd pu n₀ m : Nat) (s : DS) (d : RD) : Prop where
 pv : PV w P pd pu n₀ m s d (.pointer none) (.pointer none) (fun g => g = P)
 al : Alike m s d
/-- The pair lies at P, with two journals. -/
structure PJ (w : World) (P pd pu J M n₀ m : Nat) (j : Jn) (r : Jr) (K : Nat → Prop) : Prop where
 both : Both w pd pu n₀ m j.s r.d (fun g => K g ∨ g = J ∨ g = M)
 cell : w.heap[P]? = some (pairO pd pu (ofBlock J) (ofBlock M) true)
 kp : K P
 base : n₀ ≤ P
 jnl : JnlAt w J pd j.many j.kept j.br
 rj : RjAt w M pu r.many r.safe r.br
 nj : ¬ K J
 nm : ¬ K M
 ne : J ≠ M
 baseJ : n₀ ≤ J
 baseM : n₀ ≤ M
structure POpen (w : World) (P pd pu J M n₀ m : Nat) (j : Jn) (r : Jr) : Prop where
 pj : PJ w P pd pu J M n₀ m j r (fun g => g = P)
 al : AlikeJ m j r
 many : j.many ≤ 16777216 + m
theorem PJ.pv (h : PJ w P pd pu J M n₀ m j r K) : PV w P pd pu n₀ m j.s r.d (ofBlock J) (ofBlock M) (fun g => K g ∨ g = J ∨ g = M) := ⟨h.both, h.cell, .inl h.kp, h.base⟩
def PairIn (w : World) (P pd pu n₀ m : Nat) : Prop := (∃ s d, PClosed w P pd pu n₀ m s d) ∨ ∃ J M j r, POpen w P pd pu J M n₀ m j r
theorem PV.mono (h : PV w P pd pu n₀ m s d jv mv K) (hm : m ≤ m') : PV w P pd pu n₀ m' s d jv mv K := ⟨h.both.mono hm, h.cell, h.kp, h.base⟩
theorem PV.below (h : PV w P pd pu n₀ m s d jv mv K) (hb : Below w.heap.size w w') : PV w' P pd pu n₀ m s d jv mv K := ⟨h.both.below hb, (hb.block P (h.both.lt P h.kp)).trans h.cell, h.kp, h.base⟩
/-- What a pair is, apart from its journals; and back. -/
theorem PairIn.view (h : PairIn w P pd pu n₀ m) : ∃ s d jv mv K, PV w P pd pu n₀ m s d jv mv K ∧ Alike m s d ∧ ∀ w' s' d' m', PV w' P pd pu n₀ m' s' d' jv mv K → Kept K n₀ w w' → Alike m' s' d' → m ≤ m' → PairIn w' P pd pu n₀ m' := by
 rcases h with ⟨s, d, h⟩ | ⟨J, M, j, r, h⟩
 ·exact ⟨s, d, _, _, _, h.pv, h.al, fun w' s' d' m' hp _ ha _ => .inl ⟨s', d', hp, ha⟩⟩
 ·refine ⟨j.s, r.d, _, _, _, h.pj.pv, h.al.al, fun w' s' d' m' hp hk ha hm => .inr ⟨J, M, { j with s := s' }, { r with d := d' }, ⟨hp.both, hp.cell, rfl, hp.base, (hk.same J (.inr (.inl rfl))).trans h.pj.jnl, (hk.same M (.inr (.inr rfl))).trans h.pj.rj, h.pj.nj, h.pj.nm, h.pj.ne, h.pj.baseJ, h.pj.baseM⟩, ⟨ha, h.al.many, h.al.safe, h.al.br⟩, ?_⟩⟩
  have := h.many
  show j.many ≤ _
  omega
theorem PairIn.below (h : PairIn w P pd pu n₀ m) (hb : Below w.heap.size w w') : PairIn w' P pd pu n₀ m := by
 obtain ⟨s, d, jv, mv, K, hp, ha, hback⟩ := h.view
 exact hback w' s d m (hp.below hb) (hp.both.kept hb) ha (Nat.le_refl _)
theorem PairIn.mono (h : PairIn w P pd pu n₀ m) (hm : m ≤ m') : PairIn w P pd pu n₀ m' := by
 obtain ⟨s, d, jv, mv, K, hp, ha, hback⟩ := h.view
 exact hback w s d m' (hp.mono hm) (Kept.refl _ _ _) (ha.mono hm) hm
theorem PairIn.fine (h : PairIn w P pd pu n₀ m) : w.cell? ⟨P, 4, none⟩ = some (.bool true) := by
 obtain ⟨s, d, jv, mv, K, hp, ha, hback⟩ := h.view
 exact (cells5p hp.cell).2.2.2.2
theorem recsOf_few : ∀ (k : Nat) (b : List Nat) (n : Nat) (l : List (List Nat)) (c : Nat), recsOf k b n = some (l, c) → l.length ≤ b.length
 | 0, b, n, l, c, h => by cases h; exact Nat.zero_le _
 | k + 1, b, n, l, c, h => by
  unfold recsOf at h
  split at h
  ·cases h; exact Nat.zero_le _
  ·split at h
   ·cases h
   ·cases h; exact Nat.zero_le _
   ·rename_i size ho
    have h2 := oneRes_size ho
    rcases hr : recsOf k (b.drop (20 + size)) (n + 1) with _ | ⟨l2, c2⟩
    ·rw [hr] at h; cases h
    ·rw [hr] at h
     have ih := recsOf_few k _ _ _ _ hr
     rw [List.length_drop] at ih
     cases h
     simp only [List.length_cons]
     omega
theorem readL_few (hs : Sound m s) : (readL s).length ≤ 16777216 := by
 unfold readL
 split
 ·rcases hr : recs (readRes s jN).1 with _ | ⟨l, c⟩
  ·exact Nat.zero_le _
  ·have h1 := recsOf_few _ _ _ _ _ hr
   have h2 : (readRes s jN).1.length ≤ 16777216 := by
    unfold readRes
    split
    ·simp
    ·split
     ·simp
     ·exact hs.wf.len _
   show l.length ≤ _
   omega
 ·exact Nat.zero_le _
theorem openL_few (hs : Sound m s) (hm : m < 536870912) : (openL s).length ≤ 16777216 := by
 unfold openL
 refine readL_few (m := m + 1) ?_
 unfold dropNew
 split
 ·exact sound_remove hs hm jM
 ·exact hs.mono (by omega)
theorem listIn_nil (W : World) : ListIn W (.slice none 0 0) [] := ⟨⟨none, 0, rfl, fun k hk => by simp at hk⟩, by simp, by simp⟩
theorem readRes_byte (hs : Sound m s) (x : ByteArray) : ∀ y ∈ (readRes s x).1, y < 256 := by
 unfold readRes
 split
 ·exact fun y hy => (List.not_mem_nil hy).elim
 ·split
  ·exact fun y hy => (List.not_mem_nil hy).elim
  ·exact hs.wf.bytes _
theorem openL_byte (hs : Sound m s) (hm : m < 536870912) : ∀ l ∈ openL s, (∀ x ∈ l, x < 256) ∧ l.length ≤ 262144 := by
 have hs' : Sound (m + 1) (dropNew s).1 := by
  unfold dropNew
  split
  ·exact sound_remove hs hm jM
  ·exact hs.mono (by omega)
 unfold openL readL
 split
 ·exact recsOf_bytes _ _ _ (readRes_byte hs' jN)
 ·exact fun l hl => (List.not_mem_nil hl).elim
theorem pset {B : Nat} {i : Nat} {v : Value} : Grown (fun k => k = B) w (w.setCell ⟨B, i, none⟩ v) := (Grown.refl (fun k => k = B) w).setCell (p := ⟨B, i, none⟩) (.inl rfl) v
/-- The pair's own block is written. -/
theorem Both.write (h : Both w pd pu n₀ m s d K) (hP : K P) (hG : Grown (fun k => k = P) w w') : Both w' pd pu n₀ m s d K := h.set (fun g hl hg => hG.block g hl (fun e => hg (by rw [e]; exact hP))) hG.size
theorem grown_one {B : Nat} {w w' : World} (hG : Grown (fun k => k = B) w w') (hn : n₀ ≤ B) (hw : n₀ ≤ w.heap.size) : Below n₀ w w' := ⟨hG.os, hG.tape, hG.output, hG.size, fun i hi => hG.block i (by omega) (by omega)⟩
set_option maxRecDepth 100000 in
set_option maxHeartbeats 8000000 in
theorem opens_any (h : PV w P pd pu n₀ m s d jv mv K) (al : Alike m s d) (hm : m < 100000000) :
  Calls Tryz.prog 26 #[ofBlock P] w fun e w' => e = .returned (.tuple #[]) ∧ PairIn w' P pd pu n₀ (m + 6) ∧ Below n₀ w w' := by
 obtain ⟨x0, x1, x2, x3, x4⟩ := cells5p h.cell
 have hPl := h.both.lt P h.kp
 have hcell := h.cell
 obtain ⟨F, hL, hF, _, hback⟩ := h.both.left
 have ho := open_any hL (by omega)
 have hal := al.open (by omega)
 have hol := al.openL (by omega)
 have hlen := openL_few al.sound (by omega)
 have hby := openL_byte al.sound (by omega)
 have hkp := h.kp
 have hbase := h.base
 have hb0 := h.both.base
 have hlt0 := h.both.lt
 clear h hL
 obtain ⟨⟨s', c⟩, hq⟩ : ∃ q, openD s = q := ⟨_, rfl⟩
 obtain ⟨⟨d', c'⟩, hr⟩ : ∃ q, openR d = q := ⟨_, rfl⟩
 rw [hq] at ho hal hol
 rw [hr] at hal
 obtain ⟨rfl, hal2⟩ : c = c' ∧ Alike (m + 3) s' d' := ⟨hal.code, hal.al⟩
 have hcs : (c == c) = true := by simp
 simp only at ho hol
 have hoR : Hid (∀ W k (K' : Nat → Prop) (hl : RLive W pu n₀ k d K'), k < 134217728 → Calls Tryz.prog 64 #[ofBlock pu] W fun e w' => ROpens W w' pu n₀ (k + 3) (d', c) (openRL d) K' e) := fun W k K' hl hk => by
  have := openR_any hl hk
  rw [hr] at this
  exact this
 replace hback : Hid _ := hback
 replace hby : Hid _ := hby
 replace hal2 : Hid _ := hal2
 replace hcell : Hid _ := hcell
 replace hlt0 : Hid _ := hlt0
 replace hkp : Hid _ := hkp
 clear hal hq hr al
 by_cases hc : c = 0
 ·subst hc
  have hol := hol rfl
  generalize openL s = T at *
  generalize openRL d = T' at *
  subst hol
  unfold pairO ofBlock at *
  go_enter Tryz.func26, Tryz.ntmps26
  go_wp2_with (first
   |(go_at_call 10; refine ho.mono ?_; clear ho; rintro e w1 ⟨hK1, hok, _⟩; obtain ⟨J, u, L, rfl, hJ, hR, hT, hJn, hL1⟩ := (hok rfl).ex
     clear hok
     have hB1 : Both w1 pd pu n₀ (m + 3) s' d (fun g => K g ∨ g = J ∨ rowsK u L g) := hback.out w1 s' (m + 3) _ (hL1.sub (fun g hg => by
      rcases hg with (hg | hg | hg) | hg
      ·exact .inl (.inl hg)
      ·exact .inr (.inl hg)
      ·exact .inr (.inr hg)
      ·exact .inl (.inr hg))) (fun g hg => hK1.same g (.inr hg)) (fun g hg => by
      rcases hg with hg | hg | hg
      ·exact .inl hg
      ·exact .inr (by rw [hg]; exact hJn)
      ·exact .inr (hR.lt hg).1) (by omega)
     obtain ⟨uq, ucap, rfl⟩ := own_shape hR.row
     have hc1 := (hK1.same P (.inl hkp.out)).trans hcell.out
     obtain ⟨y0, y1, y2, y3, y4⟩ := cells5p hc1
     replace hc1 : Hid _ := hc1
     obtain ⟨F2, hL2, hF2, hs2, hback2⟩ := hB1.right
     replace hback2 : Hid _ := hback2
     unfold ofBlock)
   |(go_at_call 64; refine (hoR.out _ _ _ hL2 (by omega)).mono ?_; rintro e w2 hop; obtain ⟨M, u2, L2, rfl, hM, hR2, hT2, hMn, hL3⟩ := (hop.ok rfl).ex
     have hK2 := hop.kept
     clear hop
     have hB2 : Both w2 pd pu n₀ (m + 6) s' d' (fun g => (K g ∨ g = J ∨ rowsK (.slice uq L.length ucap) L g) ∨ g = M) := hback2.out w2 d' (m + 6) _ (hL3.sub (fun g hg => by
      rcases hg with (hg | hg) | hg
      ·exact .inl (.inl hg)
      ·exact .inr hg
      ·exact .inl (.inr hg))) (fun g hg => hK2.same g (.inr hg)) (fun g hg => by
      rcases hg with hg | hg
      ·exact .inl hg
      ·exact .inr (by rw [hg]; exact hMn)) (by omega)
     obtain ⟨p2, c2, rfl, _⟩ := hR2.shape
     have hR1 : RowsAt w2 w.heap.size (.slice uq L.length ucap) L := hR.same (fun g hg => hK2.same g (.inl (.inr (.inr hg))))
     have hli : ListIn w2 (.slice uq L.length ucap) L := hR1.list (fun q hq x hx => (hby.out q.2 (by rw [← hT]; exact List.mem_map_of_mem hq)).1 x hx) (fun q hq => (hby.out q.2 (by rw [← hT]; exact List.mem_map_of_mem hq)).2)
     have hsa := same_any _ _ L L2 w2 hli hR2
     rw [hT, hT2, decide_eq_true rfl] at hsa
     have hc2 := (hK2.same P (.inl (.inl hkp.out))).trans hc1.out
     obtain ⟨z0, z1, z2, z3, z4⟩ := cells5p hc2
     replace hc2 : Hid _ := hc2
     unfold ofBlock)
   |(go_at_call 15; refine hsa.mono ?_; clear hsa; rintro e w3 ⟨rfl, hb3⟩
     have hc3 := (hb3.block P (hB2.lt P (.inl (.inl hkp.out)))).trans hc2.out
     obtain ⟨v0, v1, v2, v3, v4⟩ := cells5p hc3
     have hf4 := free_of hc3 4
     have hf1 := free_of hc3 1
     have hf3 := free_of hc3 3
     replace hc3 : Hid _ := hc3))
  go_returns
  have hw3 : w.heap.size ≤ w3.heap.size := Nat.le_trans hK1.below.size (Nat.le_trans hK2.below.size hb3.size)
  have hB3 := hB2.below hb3
  have g1 := ((pset (w := w3) (B := P) (i := 4) (v := .bool true)).trans (pset (B := P) (i := 1) (v := ofBlock J)) (fun x hx => .inl hx)).trans (pset (B := P) (i := 3) (v := ofBlock M)) (fun x hx => .inl hx)
  unfold ofBlock at g1
  have hB4 := hB3.write (.inl (.inl hkp.out)) g1
  have hJ3 : JnlAt w3 J pd L.length L.length false := ((hb3.block J (hB2.lt J (.inl (.inr (.inl rfl))))).trans (hK2.same J (.inl (.inr (.inl rfl))))).trans hJ
  have hM3 : RjAt w3 M pu L2.length L2.length false := hM.below hb3
  have hL2 : L2.length = L.length := by
   have e1 := congrArg List.length hT
   have e2 := congrArg List.length hT2
   rw [List.length_map] at e1 e2
   omega
  have hLn : L.length ≤ 16777216 := by
   have e1 := congrArg List.length hT
   rw [List.length_map] at e1
   omega
  have hPw := hlt0.out P hkp.out
  have hJw := hB1.lt J (.inr (.inl rfl))
  have nJ : ¬ J = P := by omega
  have nM : ¬ M = P := by have := hK1.below.size; omega
  have nJM : ¬ J = M := by omega
  refine ⟨rfl, .inr ⟨J, M, ⟨s', L.length, L.length, false⟩, ⟨d', L2.length, L2.length, false⟩, ⟨(hB4.mono (Nat.le_refl _)).sub (fun g hg => ?_), ?_, rfl, hbase, ?_, ?_, nJ, nM, nJM, Nat.le_trans hb0 hJn, Nat.le_trans hb0 (Nat.le_trans hK1.below.size hMn)⟩, ⟨hal2.out.mono (by omega), hL2.symm, hL2.symm, rfl⟩, by show L.length ≤ _; omega⟩, ((hK1.below.trans hK2.below).trans (hb3.mono hB2.base)).trans (grown_one g1 hbase hB3.base)⟩
  ·rcases hg with hg | hg | hg
   ·exact .inl (.inl (by rw [hg]; exact hkp.out))
   ·exact .inl (.inr (.inl hg))
   ·exact .inr hg
  ·exact (setCell_heap (setCell_heap (setCell_heap hc3.out))).trans rfl
  ·exact (g1.block J (Array.getElem?_eq_some_iff.1 hJ3).1 nJ).trans hJ3
  ·exact (g1.block M (Array.getElem?_eq_some_iff.1 hM3).1 nM).trans hM3
 ·unfold pairO ofBlock at *
  go_enter Tryz.func26, Tryz.ntmps26
  go_wp2_with (first
   |(go_at_call 10; refine ho.mono ?_; clear ho; rintro e w1 ⟨hK1, _, hok⟩; obtain ⟨rfl, hL1⟩ := hok hc
     clear hok
     have hB1 : Both w1 pd pu n₀ (m + 3) s' d K := hback.out w1 s' (m + 3) _ hL1 (fun g hg => hK1.same g (.inr hg)) (fun g hg => .inl hg) (by omega)
     have hc1 := (hK1.same P (.inl hkp.out)).trans hcell.out
     obtain ⟨y0, y1, y2, y3, y4⟩ := cells5p hc1
     replace hc1 : Hid _ := hc1
     obtain ⟨F2, hL2, hF2, hs2, hback2⟩ := hB1.right
     replace hback2 : Hid _ := hback2)
   |(go_at_call 64; refine (hoR.out _ _ _ hL2 (by omega)).mono ?_; rintro e w2 hop; obtain ⟨rfl, hL3⟩ := hop.bad hc
     have hK2 := hop.kept
     clear hop
     have hB2 : Both w2 pd pu n₀ (m + 6) s' d' K := hback2.out w2 d' (m + 6) _ hL3 (fun g hg => hK2.same g (.inr hg)) (fun g hg => .inl hg) (by omega)
     have hsa := same_any _ _ [] [] w2 (listIn_nil w2) (listIn_nil w2)
     rw [decide_eq_true rfl] at hsa
     have hc2 := (hK2.same P (.inl hkp.out)).trans hc1.out
     obtain ⟨z0, z1, z2, z3, z4⟩ := cells5p hc2
     replace hc2 : Hid _ := hc2)
   |(go_at_call 15; refine hsa.mono ?_; clear hsa; rintro e w3 ⟨rfl, hb3⟩
     have hc3 := (hb3.block P (hB2.lt P hkp.out)).trans hc2.out
     obtain ⟨v0, v1, v2, v3, v4⟩ := cells5p hc3
     have hf4 := free_of hc3 4
     have hf1 := free_of hc3 1
     have hf3 := free_of hc3 3
     replace hc3 : Hid _ := hc3))
  go_returns
  have hB3 := hB2.below hb3
  have g1 := ((pset (w := w3) (B := P) (i := 4) (v := .bool true)).trans (pset (B := P) (i := 1) (v := .pointer none)) (fun x hx => .inl hx)).trans (pset (B := P) (i := 3) (v := .pointer none)) (fun x hx => .inl hx)
  have hB4 := hB3.write hkp.out g1
  exact ⟨rfl, .inl ⟨s', d', ⟨hB4.sub (fun g hg => by rw [hg]; exact hkp.out), (setCell_heap (setCell_heap (setCell_heap hc3.out))).trans rfl, rfl, hbase⟩, hal2.out.mono (by omega)⟩, ((hK1.below.trans hK2.below).trans (hb3.mono hB2.base)).trans (grown_one g1 hbase hB3.base)⟩
end Go.Proofs.YtmcmagplaflegaaGreatDoor

namespace Go.Proofs.YtmcmagplaflegaaGreatDoor
open Go Go.ChangeShapes Go.WideShapes Go.ChangeAt Go.RowKit Go.WideMaps Go.LawKit Go.Deep

/-- A deed of a pair. -/
structure De where
 kind : Int
 n : Int
 b : List Nat
 l : List (Value × List Nat)
 keep : List Int
/-- It lies in memory. -/
structure DeIn (w : World) (d : De) (bv lv kv : Value) : Prop where
 b : ArgB w bv d.b
 l : ArgR w lv d.l
 keep : IntsIn w kv d.keep
 klen : d.keep.length ≤ 17592186044416
 blen : d.b.length ≤ 140737488355328
 llen : ∀ q ∈ d.l, q.2.length ≤ 140737488355328
 kind1 : -9223372036854775808 ≤ d.kind
 kind2 : d.kind ≤ 9223372036854775807
 n1 : -9223372036854775808 ≤ d.n
 n2 : d.n ≤ 9223372036854775807
def DesIn (w : World) (v : Value) (D : List De) : Prop :=
 D.length ≤ 9223372036854775807 ∧ ∃ q cap, v = .slice q D.length cap ∧ ∀ k (hk : k < D.length), ∃ b off bv lv kv, q = some ⟨b, off, none⟩ ∧ DeIn w D[k] bv lv kv ∧
  w.cell? ⟨b, off + k * 5, none⟩ = some (.int .i64 D[k].kind) ∧ w.cell? ⟨b, off + k * 5 + 1, none⟩ = some (.int .i64 D[k].n) ∧ w.cell? ⟨b, off + k * 5 + 2, none⟩ = some bv ∧ w.cell? ⟨b, off + k * 5 + 3, none⟩ = some lv ∧ w.cell? ⟨b, off + k * 5 + 4, none⟩ = some kv
theorem DeIn.below {w w' : World} {d : De} {bv lv kv : Value} (h : DeIn w d bv lv kv) (hb : Below w.heap.size w w') : DeIn w' d bv lv kv :=
 ⟨h.b.below hb, h.l.below hb, h.keep.below hb, h.klen, h.blen, h.llen, h.kind1, h.kind2, h.n1, h.n2⟩

section
variable {H : Type} {enc : TypeId × Value → H} {P : Program} {w : World} {base : Nat} {spare : Nat → Bool} {held : Bool}
end
section
variable {H : Type} {enc : TypeId × Value → H} {W : World} {fuel : Nat} {v : Value} {x : DataW H × List MemPlace}
end
section
variable {H : Type} {enc : TypeId × Value → H} {W : World} {v : Value} {d : DataW H} {ps : List MemPlace} {r : Reach} {b0 : Nat}
end
end Go.Proofs.YtmcmagplaflegaaGreatDoor

namespace Go.Proofs.YtmcmagplaflegaaGreatDoor
open Go Go.RowKit Go.MapL Go.Poised

variable {P pd pu J M n₀ m m' : Nat} {s s' : DS} {d d' : RD} {j j' : Jn} {r r' : Jr} {jv mv : Value} {w w' w'' : World} {K K' : Nat → Prop} {f : FuncId} {args : Array Value} {X : Ending}
theorem PV.more (h : PV w P pd pu n₀ m s d jv mv K) (hb : Below w.heap.size w w') (hP : K' P) (hK : ∀ g, K' g → K g ∨ (w.heap.size ≤ g ∧ g < w'.heap.size)) : PV w' P pd pu n₀ m s d jv mv K' :=
 ⟨h.both.more hb hK, (hb.block P (h.both.lt P h.kp)).trans h.cell, hP, h.base⟩
theorem PV.sub (h : PV w P pd pu n₀ m s d jv mv K) (hP : K' P) (hK : ∀ g, K' g → K g) : PV w P pd pu n₀ m s d jv mv K' := ⟨h.both.sub hK, h.cell, hP, h.base⟩
theorem PV.callL (h : PV w P pd pu n₀ m s d jv mv K) (hm : m ≤ m') (hc : ∀ F : Nat → Prop, Live w pd n₀ m s (fun g => K g ∨ F g) → Calls Tryz.prog f args w fun e w' => e = X ∧ Live w' pd n₀ m' s' (fun g => K g ∨ F g) ∧ Kept (fun g => K g ∨ F g) n₀ w w') :
  Calls Tryz.prog f args w fun e w' => e = X ∧ PV w' P pd pu n₀ m' s' d jv mv K ∧ Kept K n₀ w w' := by
 obtain ⟨F, hL, hF, _, hback⟩ := h.both.left
 refine (hc F hL).mono ?_
 rintro e w' ⟨rfl, hL', hK'⟩
 exact ⟨rfl, ⟨hback w' s' m' K hL' (fun g hg => hK'.same g (.inr hg)) (fun g hg => .inl hg) hm, (hK'.same P (.inl h.kp)).trans h.cell, h.kp, h.base⟩, hK'.sub (fun g hg => .inl hg)⟩
theorem PV.callR (h : PV w P pd pu n₀ m s d jv mv K) (hm : m ≤ m') (hc : ∀ F : Nat → Prop, RLive w pu n₀ m d (fun g => K g ∨ F g) → Calls Tryz.prog f args w fun e w' => e = X ∧ RLive w' pu n₀ m' d' (fun g => K g ∨ F g) ∧ Kept (fun g => K g ∨ F g) n₀ w w') :
  Calls Tryz.prog f args w fun e w' => e = X ∧ PV w' P pd pu n₀ m' s d' jv mv K ∧ Kept K n₀ w w' := by
 obtain ⟨F, hL, hF, _, hback⟩ := h.both.right
 refine (hc F hL).mono ?_
 rintro e w' ⟨rfl, hL', hK'⟩
 exact ⟨rfl, ⟨hback w' d' m' K hL' (fun g hg => hK'.same g (.inr hg)) (fun g hg => .inl hg) hm, (hK'.same P (.inl h.kp)).trans h.cell, h.kp, h.base⟩, hK'.sub (fun g hg => .inl hg)⟩
theorem PJ.mono (h : PJ w P pd pu J M n₀ m j r K) (hm : m ≤ m') : PJ w P pd pu J M n₀ m' j r K := { h with both := h.both.mono hm }
theorem PJ.more (h : PJ w P pd pu J M n₀ m j r K) (hb : Below w.heap.size w w') (hP : K' P) (hK : ∀ g, K' g → K g ∨ (w.heap.size ≤ g ∧ g < w'.heap.size)) : PJ w' P pd pu J M n₀ m j r K' where
 both := h.both.more hb (fun g hg => by
  rcases hg with hg | hg
  ·exact (hK g hg).imp .inl id
  ·exact .inl (.inr hg))
 cell := (hb.block P (h.both.lt P (.inl h.kp))).trans h.cell
 kp := hP
 base := h.base
 jnl := h.jnl.below hb
 rj := h.rj.below hb
 nj := fun hg => (hK J hg).elim h.nj (fun h2 => by have := h.both.lt J (.inr (.inl rfl)); omega)
 nm := fun hg => (hK M hg).elim h.nm (fun h2 => by have := h.both.lt M (.inr (.inr rfl)); omega)
 ne := h.ne
 baseJ := h.baseJ
 baseM := h.baseM
theorem PJ.below (h : PJ w P pd pu J M n₀ m j r K) (hb : Below w.heap.size w w') : PJ w' P pd pu J M n₀ m j r K := h.more hb h.kp (fun _ hg => .inl hg)
theorem PJ.sub (h : PJ w P pd pu J M n₀ m j r K) (hP : K' P) (hK : ∀ g, K' g → K g) : PJ w P pd pu J M n₀ m j r K' := { h with both := h.both.sub (fun g hg => hg.imp (hK g) id), kp := hP, nj := fun hg => h.nj (hK J hg), nm := fun hg => h.nm (hK M hg) }
theorem PJ.callL (h : PJ w P pd pu J M n₀ m j r K) (hm : m ≤ m') (hc : ∀ F : Nat → Prop, JLive w J pd n₀ m j (fun g => (K g ∨ g = M) ∨ F g) → Calls Tryz.prog f args w fun e w' => e = X ∧ JLive w' J pd n₀ m' j' (fun g => (K g ∨ g = M) ∨ F g) ∧ Kept (fun g => (K g ∨ g = M) ∨ F g) n₀ w w') :
  Calls Tryz.prog f args w fun e w' => e = X ∧ PJ w' P pd pu J M n₀ m' j' r K ∧ Kept K n₀ w w' := by
 obtain ⟨F, hL, hF, _, hback⟩ := h.both.left
 have hJ : ¬ F J := fun hf => (hF J hf).2 (.inr (.inl rfl))
 refine (hc F ⟨hL.sub (fun g hg => ?_), h.jnl, h.baseJ, ?_⟩).mono ?_
 ·rcases hg with ((hg | hg) | hg) | hg
  ·exact .inl (.inl hg)
  ·exact .inl (.inr (.inr hg))
  ·exact .inr hg
  ·exact .inl (.inr (.inl hg))
 ·rintro ((hg | hg) | hg)
  ·exact h.nj hg
  ·exact h.ne hg
  ·exact hJ hg
 ·rintro e w' ⟨rfl, hL', hK'⟩
  refine ⟨rfl, { h with both := hback w' j'.s m' _ (hL'.live.sub (fun g hg => ?_)) (fun g hg => hK'.same g (.inr hg)) (fun g hg => .inl hg) hm, cell := (hK'.same P (.inl (.inl h.kp))).trans h.cell, jnl := hL'.jnl, rj := (hK'.same M (.inl (.inr rfl))).trans h.rj }, hK'.sub (fun g hg => .inl (.inl hg))⟩
  rcases hg with (hg | hg | hg) | hg
  ·exact .inl (.inl (.inl hg))
  ·exact .inr hg
  ·exact .inl (.inl (.inr hg))
  ·exact .inl (.inr hg)
theorem PJ.callR (h : PJ w P pd pu J M n₀ m j r K) (hm : m ≤ m') (hc : ∀ F : Nat → Prop, RJLive w M pu n₀ m r (fun g => (K g ∨ g = J) ∨ F g) → Calls Tryz.prog f args w fun e w' => e = X ∧ RJLive w' M pu n₀ m' r' (fun g => (K g ∨ g = J) ∨ F g) ∧ Kept (fun g => (K g ∨ g = J) ∨ F g) n₀ w w') :
  Calls Tryz.prog f args w fun e w' => e = X ∧ PJ w' P pd pu J M n₀ m' j r' K ∧ Kept K n₀ w w' := by
 obtain ⟨F, hL, hF, _, hback⟩ := h.both.right
 have hM : ¬ F M := fun hf => (hF M hf).2 (.inr (.inr rfl))
 refine (hc F ⟨hL.sub (fun g hg => ?_), h.rj, h.baseM, ?_⟩).mono ?_
 ·rcases hg with ((hg | hg) | hg) | hg
  ·exact .inl (.inl hg)
  ·exact .inl (.inr (.inl hg))
  ·exact .inr hg
  ·exact .inl (.inr (.inr hg))
 ·rintro ((hg | hg) | hg)
  ·exact h.nm hg
  ·exact h.ne hg.symm
  ·exact hM hg
 ·rintro e w' ⟨rfl, hL', hK'⟩
  refine ⟨rfl, { h with both := hback w' r'.d m' _ (hL'.live.sub (fun g hg => ?_)) (fun g hg => hK'.same g (.inr hg)) (fun g hg => .inl hg) hm, cell := (hK'.same P (.inl (.inl h.kp))).trans h.cell, rj := hL'.jnl, jnl := (hK'.same J (.inl (.inr rfl))).trans h.jnl }, hK'.sub (fun g hg => .inl (.inl hg))⟩
  rcases hg with (hg | hg | hg) | hg
  ·exact .inl (.inl (.inl hg))
  ·exact .inl (.inl (.inr hg))
  ·exact .inr hg
  ·exact .inl (.inr hg)
end Go.Proofs.YtmcmagplaflegaaGreatDoor

namespace Go.Proofs.YtmcmagplaflegaaGreatDoor
open Go Go.RowKit Go.MapL Go.Poised

variable {P pd pu J M n₀ m m' : Nat} {s s' : DS} {d d' : RD} {j j' : Jn} {r r' : Jr} {jv mv : Value} {w w' w'' W : World} {K K' : Nat → Prop}
theorem and_bit (n : Int) : bits .and .i64 n 1 = 0 ∨ bits .and .i64 n 1 = 1 := by
 have e : bits .and .i64 n 1 = IntKind.i64.wrap (((BitVec.ofInt 64 n &&& BitVec.ofInt 64 1).toNat : Nat) : Int) := rfl
 rw [e, BitVec.toNat_and, show (BitVec.ofInt 64 1).toNat = 1 by decide, Nat.and_one_is_mod]
 rcases (show (BitVec.ofInt 64 n).toNat % 2 = 0 ∨ (BitVec.ofInt 64 n).toNat % 2 = 1 by omega) with h | h
 ·rw [h]; left; rfl
 ·rw [h]; right; rfl
/-- The stages of a region in which first the one side is called, then the other. -/
structure StC (P pd pu n₀ m : Nat) (ss : Nat → DS) (dd : Nat → RD) (jv mv : Value) (K : Nat → Prop) (W : World) (σ : Nat) (w' : World) : Prop where
 pv : PV w' P pd pu n₀ (m + 2 * σ) (ss σ) (dd σ) jv mv K
 kept : Kept K n₀ W w'
theorem StC.below {ss : Nat → DS} {dd : Nat → RD} {σ : Nat} (h : StC P pd pu n₀ m ss dd jv mv K W σ w) (hb : Below w.heap.size w w') : Kept K n₀ w w' ∧ StC P pd pu n₀ m ss dd jv mv K W σ w' :=
 ⟨h.pv.both.kept hb, h.pv.below hb, h.kept.trans (h.pv.both.kept hb)⟩
structure StJ (P pd pu J M n₀ m : Nat) (js : Nat → Jn) (rs : Nat → Jr) (K : Nat → Prop) (W : World) (σ : Nat) (w' : World) : Prop where
 pj : PJ w' P pd pu J M n₀ (m + 3 * σ) (js σ) (rs σ) K
 kept : Kept K n₀ W w'
theorem StJ.below {js : Nat → Jn} {rs : Nat → Jr} {σ : Nat} (h : StJ P pd pu J M n₀ m js rs K W σ w) (hb : Below w.heap.size w w') : Kept K n₀ w w' ∧ StJ P pd pu J M n₀ m js rs K W σ w' :=
 have hk : Kept K n₀ w w' := .of_below hb h.pj.both.base (fun g hg => h.pj.both.lt g (.inl hg))
 ⟨hk, h.pj.below hb, h.kept.trans hk⟩
theorem argR_list {v : Value} {L : List (Value × List Nat)} (h : ArgR w v L) : ListIn w v L := by
 obtain ⟨h1, ⟨p, cap, e, _, h2⟩, h3⟩ := h
 exact ⟨⟨p, cap, e, h2⟩, fun q hq => (h3 q hq).1, h1⟩
def two {α : Type} (a b : α) (k : Nat) (σ : Nat) : α := if σ ≤ k then a else b
/-- What the step has made ahead of its kinds: its argument's own block, and two names. -/
def stepMem (x : De) (bv lv kv : Value) (w : World) : World := (w.alloc (.cells #[.int .i64 x.kind, .int .i64 x.n, bv, lv, kv] 46)).alloc (.cells #[.string jN, .string jM] 9)
structure Ahead (x : De) (bv lv kv : Value) (w W : World) : Prop where
 below : Below w.heap.size w W
 x : W.heap[w.heap.size]? = some (.cells #[.int .i64 x.kind, .int .i64 x.n, bv, lv, kv] 46)
 lt : w.heap.size < W.heap.size
theorem stepMem_ahead (x : De) (bv lv kv : Value) (w : World) : Ahead x bv lv kv w (stepMem x bv lv kv w) :=
 ⟨((Below.refl _ _).alloc (Nat.le_refl _) _).alloc (by simp) _, (Below.heap_alloc _ _ _ (by simp)).trans (heap_new _ _), by simp [stepMem]; omega⟩
/-- What is left behind a step. -/
structure StepOk (w0 w' : World) (P pd pu m : Nat) (e : Ending) : Prop where
 code : e = .returned (.tuple #[])
 pair : PairIn w' P pd pu w0.heap.size (m + 8)
 below : Below w0.heap.size w0 w'
set_option maxHeartbeats 2000000 in
theorem bringB_any (i n : Int) (h1 : 1 ≤ n) (h2 : n ≤ 1000000000) (_ : -9223372036854775808 ≤ i) (_ : i ≤ 9223372036854775807) (w : World) :
  Calls Tryz.prog 17 #[.int .i64 i, .int .i64 n] w fun e w' => e = .returned (.int .i64 (i % n)) ∧ w' = w := by
 have hm : -n < i.tmod n := by have := Int.lt_tmod_of_pos i (show 0 < n by omega); omega
 have hm' : i.tmod n < n := Int.tmod_lt_of_pos i (by omega)
 have hn0 : ¬ n ≤ 0 := by omega
 by_cases hneg : i.tmod n < 0
 ·have hr : Hid (i.tmod n + n = i % n) := by
   show i.tmod n + n = i % n
   have e1 := Int.emod_add_mul_ediv i n
   have e2 := Int.tmod_add_mul_tdiv i n
   have e3 : (i.tmod n + n - i % n) = n * (i / n - i.tdiv n + 1) := by rw [Int.mul_add, Int.mul_sub]; omega
   have a1 := Int.emod_nonneg i (show n ≠ 0 by omega)
   have a2 := Int.emod_lt_of_pos i (show 0 < n by omega)
   have h5 : (i / n - i.tdiv n + 1) = 0 := by
    have b1 : n * (i / n - i.tdiv n + 1) < n * 1 := by omega
    have b2 : n * (-1) < n * (i / n - i.tdiv n + 1) := by omega
    have c1 := Int.lt_of_mul_lt_mul_left b1 (by omega)
    have c2 := Int.lt_of_mul_lt_mul_left b2 (by omega)
    omega
   rw [h5] at e3
   omega
  go_enter Tryz.func17, Tryz.ntmps17
  go_wp2
  go_returns
  exact ⟨ret_int hr.out, rfl⟩
 ·have hr : Hid (i.tmod n = i % n) := by
   show i.tmod n = i % n
   have e1 := Int.emod_add_mul_ediv i n
   have e2 := Int.tmod_add_mul_tdiv i n
   have e3 : (i.tmod n - i % n) = n * (i / n - i.tdiv n) := by rw [Int.mul_sub]; omega
   have a1 := Int.emod_nonneg i (show n ≠ 0 by omega)
   have a2 := Int.emod_lt_of_pos i (show 0 < n by omega)
   have h5 : (i / n - i.tdiv n) = 0 := by
    have b1 : n * (i / n - i.tdiv n) < n * 1 := by omega
    have b2 : n * (-1) < n * (i / n - i.tdiv n) := by omega
    have c1 := Int.lt_of_mul_lt_mul_left b1 (by omega)
    have c2 := Int.lt_of_mul_lt_mul_left b2 (by omega)
    omega
   rw [h5] at e3
   omega
  go_enter Tryz.func17, Tryz.ntmps17
  go_wp2
  go_returns
  exact ⟨ret_int hr.out, rfl⟩
/-- Bring, of any number of things. -/
def brg (i : Int) (N : Nat) : Int := if N = 0 then 0 else i % (N : Int)
set_option maxHeartbeats 2000000 in
theorem bringG_any (i : Int) (N : Nat) (h2 : N ≤ 1000000000) (h3 : -9223372036854775808 ≤ i) (h4 : i ≤ 9223372036854775807) (w : World) :
  Calls Tryz.prog 17 #[.int .i64 i, .int .i64 N] w fun e w' => e = .returned (.int .i64 (brg i N)) ∧ w' = w := by
 unfold brg
 by_cases h0 : N = 0
 ·subst h0
  simp only [if_true]
  go_enter Tryz.func17, Tryz.ntmps17
  go_wp2
  go_returns
  exact ⟨rfl, rfl⟩
 ·rw [if_neg h0]
  exact bringB_any i N (by omega) (by omega) h3 h4 w
theorem brg_range (i : Int) (N : Nat) (h2 : N ≤ 1000000000) : -9223372036854775808 ≤ brg i N ∧ brg i N ≤ 9223372036854775807 := by
 unfold brg
 split
 ·omega
 ·have h1 := Int.emod_nonneg i (b := (N : Int)) (by omega)
  have h2 := Int.emod_lt_of_pos i (b := (N : Int)) (by omega)
  omega
/-- What is written into the pair is what stands there. -/
theorem pair_same (h : w.heap[P]? = some (pairO pd pu jv mv true)) : ∀ g : Nat, (w.setCell ⟨P, 4, none⟩ (.bool true)).heap[g]? = w.heap[g]? := fun g => by
 by_cases e : g = P
 ·subst e
  rw [setCell_heap (i := 4) (v := .bool true) h, h]; rfl
 ·exact Below.heap_setCell _ _ _ _ e
theorem PV.stored (h : PV w P pd pu n₀ m s d jv mv K) : PV (w.setCell ⟨P, 4, none⟩ (.bool true)) P pd pu n₀ m s d jv mv K ∧ Kept K n₀ w (w.setCell ⟨P, 4, none⟩ (.bool true)) :=
 ⟨⟨h.both.set (fun g _ _ => pair_same h.cell g) pset.size, (pair_same h.cell P).trans h.cell, h.kp, h.base⟩, grown_one pset h.base h.both.base, fun g _ => pair_same h.cell g⟩
theorem PJ.stored (h : PJ w P pd pu J M n₀ m j r K) : PJ (w.setCell ⟨P, 4, none⟩ (.bool true)) P pd pu J M n₀ m j r K ∧ Kept K n₀ w (w.setCell ⟨P, 4, none⟩ (.bool true)) :=
 ⟨{ h with both := h.both.set (fun g _ _ => pair_same h.cell g) pset.size, cell := (pair_same h.cell P).trans h.cell, jnl := (pair_same h.cell J).trans h.jnl, rj := (pair_same h.cell M).trans h.rj }, grown_one pset h.base h.both.base, fun g _ => pair_same h.cell g⟩
theorem Jn.after_many {q : DS × Int} {f : Jn → Jn} {k : Nat} (hj : j.many ≤ k) (hf : ∀ j', j'.many = j.many → (f j').many ≤ k) : (j.after q f).1.many ≤ k := by
 unfold Jn.after
 split
 ·exact hf _ rfl
 split
 ·exact hj
 ·exact hj
theorem Jn.append_many (b : List Nat) : (j.append b).1.many ≤ j.many + 1 := by
 unfold Jn.append
 split
 ·exact Nat.le_succ _
 split
 ·exact Jn.after_many (Nat.le_succ _) (fun j' h => by show j'.many + 1 ≤ _; omega)
 ·exact Nat.le_succ _
theorem Jn.sync_many : j.sync.1.many ≤ j.many := by
 unfold Jn.sync
 split
 ·exact Nat.le_refl _
 ·exact Jn.after_many (Nat.le_refl _) (fun j' h => by show j'.many ≤ _; omega)
theorem Jn.checkpoint_many (L : List (List Nat)) {k : Nat} (hj : j.many ≤ k) (hk : 10000 ≤ k) : (j.checkpoint L).1.many ≤ k := by
 unfold Jn.checkpoint
 split
 ·exact hj
 split
 ·rename_i hz
  refine Jn.after_many hj (fun j' h => ?_)
  show L.length ≤ k
  unfold listRes at hz
  split at hz
  ·simp at hz
  ·omega
 ·exact hj
set_option maxRecDepth 100000 in
set_option maxHeartbeats 16000000 in
theorem step3_any (w0 : World) (x : De) (bv lv kv : Value) (hd : DeIn w0 x bv lv kv) (hk : x.kind % 8 = 3) (h : PV w P pd pu w0.heap.size m s d jv mv K) (al : Alike m s d) (hB : Below w0.heap.size w0 w) (hm : m < 50000000) :
  Calls Tryz.prog 27 #[ofBlock P, .agg #[.int .i64 x.kind, .int .i64 x.n, bv, lv, kv]] w fun e w' => StepOk w0 w' P pd pu m e := by
 obtain ⟨kind, n, b, l, keep⟩ := x
 have hbr8 := fun W => bring_any kind 8 (by omega) (by omega) hd.kind1 hd.kind2 W
 simp only at hk
 rw [hk] at hbr8
 replace hbr8 : Hid _ := hbr8
 obtain ⟨bq, bcap, rfl⟩ : ∃ bq bcap, bv = .slice bq b.length bcap := by
  obtain ⟨_, q, c, e, _⟩ := hd.b
  exact ⟨q, c, e⟩
 obtain ⟨lq, lcap, rfl⟩ : ∃ lq lcap, lv = .slice lq l.length lcap := by
  obtain ⟨_, ⟨q, c, e, _⟩, _⟩ := hd.l
  exact ⟨q, c, e⟩
 obtain ⟨kq, kcap, rfl⟩ : ∃ kq kcap, kv = .slice kq keep.length kcap := by
  rcases hd.keep.2.2 with ⟨rfl, e⟩ | ⟨a, c, rfl, e⟩ | ⟨a, o, c, rfl, _⟩
  ·exact ⟨none, 0, by rw [show keep = [] from e]; rfl⟩
  ·exact ⟨some a, c, by rw [show keep = [] from e]; rfl⟩
  ·exact ⟨_, c, rfl⟩
 obtain ⟨W, hW⟩ : ∃ W, (w.alloc (.cells #[.int .i64 kind, .int .i64 n, .slice bq b.length bcap, .slice lq l.length lcap, .slice kq keep.length kcap] 46)).alloc (.cells #[.string jN, .string jM] 9) = W := ⟨_, rfl⟩
 have hA := stepMem_ahead ⟨kind, n, b, l, keep⟩ (.slice bq b.length bcap) (.slice lq l.length lcap) (.slice kq keep.length kcap) w
 rw [show stepMem ⟨kind, n, b, l, keep⟩ (.slice bq b.length bcap) (.slice lq l.length lcap) (.slice kq keep.length kcap) w = W from hW] at hA
 obtain ⟨hbW, hxW, hlW⟩ := hA
 have hW' : Hid ((w.alloc (.cells #[.int .i64 kind, .int .i64 n, .slice bq b.length bcap, .slice lq l.length lcap, .slice kq keep.length kcap] 46)).alloc (.cells #[.string ⟨#[106, 111, 117, 114, 110, 97, 108]⟩, .string ⟨#[106, 111, 117, 114, 110, 97, 108, 46, 110, 101, 119]⟩] 9) = W) := hW
 clear hW
 have hBW := hB.trans (hbW.mono hB.size)
 have hK0P := h.kp
 have hnW : ¬ K w.heap.size := fun hg => by have := h.both.lt _ hg; omega
 have hp0 : PV W P pd pu w0.heap.size m s d jv mv (fun g => K g ∨ g = w.heap.size) := h.more hbW (.inl h.kp) (fun g hg => hg.imp id (fun e => ⟨by omega, by omega⟩))
 have hk0 : Kept K w0.heap.size w W := h.both.kept hbW
 have hde : ∀ w', Kept (fun g => K g ∨ g = w.heap.size) w0.heap.size W w' → DeIn w' ⟨kind, n, b, l, keep⟩ (.slice bq b.length bcap) (.slice lq l.length lcap) (.slice kq keep.length kcap) := fun w' hk => hd.below (hBW.trans hk.below)
 clear h hd
 have e0 : Hid (∀ w1, PV w1 P pd pu w0.heap.size m s d jv mv (fun g => K g ∨ g = w.heap.size) → Kept (fun g => K g ∨ g = w.heap.size) w0.heap.size W w1 → Calls Tryz.prog 19 #[ofBlock pd, .slice kq keep.length kcap] w1 fun e w' => e = .returned (.tuple #[]) ∧ PV w' P pd pu w0.heap.size m (s.crash keep) d jv mv (fun g => K g ∨ g = w.heap.size) ∧ Kept (fun g => K g ∨ g = w.heap.size) w0.heap.size w1 w') :=
  fun w1 hp hk => hp.callL (Nat.le_refl _) (fun F hl => live_crash _ keep hl (by omega) (fun w2 hk2 => (hde w2 (hk.trans (hk2.sub (fun g hg => .inl hg)))).keep))
 have e1 : Hid (∀ w1, PV w1 P pd pu w0.heap.size m (s.crash keep) d jv mv (fun g => K g ∨ g = w.heap.size) → Kept (fun g => K g ∨ g = w.heap.size) w0.heap.size W w1 → Calls Tryz.prog 65 #[ofBlock pu, .slice kq keep.length kcap] w1 fun e w' => e = .returned (.tuple #[]) ∧ PV w' P pd pu w0.heap.size m (s.crash keep) (d.crash keep) jv mv (fun g => K g ∨ g = w.heap.size) ∧ Kept (fun g => K g ∨ g = w.heap.size) w0.heap.size w1 w') :=
  fun w1 hp hk => hp.callR (Nat.le_refl _) (fun F hl => rlive_crash _ keep hl (by omega) ((hde w1 hk).keep))
 have e2 : Hid (∀ w1, PV w1 P pd pu w0.heap.size m (s.crash keep) (d.crash keep) jv mv (fun g => K g ∨ g = w.heap.size) → Calls Tryz.prog 23 #[ofBlock pd] w1 fun e w' => e = .returned (.tuple #[]) ∧ PV w' P pd pu w0.heap.size m (s.crash keep).boot (d.crash keep) jv mv (fun g => K g ∨ g = w.heap.size) ∧ Kept (fun g => K g ∨ g = w.heap.size) w0.heap.size w1 w') :=
  fun w1 hp => hp.callL (Nat.le_refl _) (fun F hl => live_boot hl)
 have e3 : Hid (∀ w1, PV w1 P pd pu w0.heap.size m (s.crash keep).boot (d.crash keep) jv mv (fun g => K g ∨ g = w.heap.size) → Calls Tryz.prog 66 #[ofBlock pu] w1 fun e w' => e = .returned (.tuple #[]) ∧ PV w' P pd pu w0.heap.size m (s.crash keep).boot (d.crash keep).boot jv mv (fun g => K g ∨ g = w.heap.size) ∧ Kept (fun g => K g ∨ g = w.heap.size) w0.heap.size w1 w') :=
  fun w1 hp => hp.callR (Nat.le_refl _) (fun F hl => rlive_boot hl)
 have al2 : Hid (Alike m (s.crash keep).boot (d.crash keep).boot) := (al.crash keep).boot
 clear al
 obtain ⟨y0, y1, y2, y3, y4⟩ := cells5p hp0.cell
 obtain ⟨x0, x1, x2, x3, x4⟩ := cells5p hxW
 have hPl := hp0.both.lt P hp0.kp
 replace hxW : Hid _ := hxW
 replace hde : Hid _ := hde
 rcases and_bit n with hnb | hnb
 all_goals
  unfold ofBlock at *
  go_enter Tryz.func27, Tryz.ntmps27
  go_wp2_with (first
   |(go_at_call 17; refine (hbr8.out _).mono ?_; rintro e w6 ⟨rfl, hw6⟩; subst hw6))
  rw [hW'.out]
  refine poised_then 6 (fun x => Below W.heap.size W x) (fun x y => Below W.heap.size x y) (by kernel_rfl) (by kernel_rfl) (by kernel_rfl) (fun _ _ h k => h.trans k) ((Below.refl _ _).drew) ?_
  apply Exists.intro
  simp only [List.take_succ_cons, List.take_zero]
  iterate 3
   apply walk_det
   ·rfl
   ·intro w2 hC hF
    simp only [upon]
    go_simp
    exact ⟨Below.refl _ _, rfl⟩
   simp only [put_lit, List.set_cons_succ, List.set_cons_zero]
  apply walk_det
  ·rfl
  ·intro w2 hC hF
   have z0 := (hC.cell (p := ⟨P, 0, none⟩) hPl).trans y0
   have z4 := (hC.cell (p := ⟨w.heap.size, 4, none⟩) hlW).trans x4
   simp only [upon]
   go_simp
   exact ⟨Below.refl _ _, rfl⟩
  simp only [put_lit, List.set_cons_succ, List.set_cons_zero]
  apply walk_det
  ·rfl
  ·intro w2 hC hF
   simp only [upon]
   go_simp
   exact ⟨Below.refl _ _, rfl⟩
  simp only [put_lit, List.set_cons_succ, List.set_cons_zero]
  apply walk_det
  ·rfl
  ·intro w2 hC hF
   have z0 := (hC.cell (p := ⟨P, 0, none⟩) hPl).trans y0
   have z4 := (hC.cell (p := ⟨w.heap.size, 4, none⟩) hlW).trans x4
   simp only [upon]
   go_simp
   exact ⟨Below.refl _ _, rfl⟩
  simp only [put_lit, List.set_cons_succ, List.set_cons_zero]
  apply walk_nil
  intro a0 ha0 _
  simp only [List.drop_succ_cons, List.drop_zero]
  have hp1 := hp0.below ha0
  have hk1 : Kept (fun g => K g ∨ g = w.heap.size) w0.heap.size W a0 := hp0.both.kept ha0
  have q0 := e0.out a0 hp1 hk1
  unfold ofBlock at q0
  go_wp2_with (go_at_call 19; refine q0.mono ?_; clear q0; rintro e a1 ⟨rfl, hp2, hk2'⟩; have hk2 := hk1.trans hk2'; obtain ⟨u0, u1, u2, u3, u4⟩ := cells5p hp2.cell; have v4 := (hk2.cell (q := ⟨w.heap.size, 4, none⟩) (.inr rfl)).trans x4; have hPl2 := hp2.both.lt P hp2.kp; have hXl2 := hp2.both.lt w.heap.size (.inr rfl))
  unfold ofBlock at u0 u2
  refine poised_then 6 (fun x => Below a1.heap.size a1 x) (fun x y => Below a1.heap.size x y) (by kernel_rfl) (by kernel_rfl) (by kernel_rfl) (fun _ _ h k => h.trans k) ((Below.refl _ _).drew) ?_
  apply Exists.intro
  simp only [List.take_succ_cons, List.take_zero]
  iterate 3
   apply walk_det
   ·rfl
   ·intro w2 hC hF
    simp only [upon]
    go_simp
    exact ⟨Below.refl _ _, rfl⟩
   simp only [put_lit, List.set_cons_succ, List.set_cons_zero]
  apply walk_det
  ·rfl
  ·intro w2 hC hF
   have z2 := (hC.cell (p := ⟨P, 2, none⟩) hPl2).trans u2
   have z4 := (hC.cell (p := ⟨w.heap.size, 4, none⟩) hXl2).trans v4
   simp only [upon]
   go_simp
   exact ⟨Below.refl _ _, rfl⟩
  simp only [put_lit, List.set_cons_succ, List.set_cons_zero]
  apply walk_det
  ·rfl
  ·intro w2 hC hF
   simp only [upon]
   go_simp
   exact ⟨Below.refl _ _, rfl⟩
  simp only [put_lit, List.set_cons_succ, List.set_cons_zero]
  apply walk_det
  ·rfl
  ·intro w2 hC hF
   have z2 := (hC.cell (p := ⟨P, 2, none⟩) hPl2).trans u2
   have z4 := (hC.cell (p := ⟨w.heap.size, 4, none⟩) hXl2).trans v4
   simp only [upon]
   go_simp
   exact ⟨Below.refl _ _, rfl⟩
  simp only [put_lit, List.set_cons_succ, List.set_cons_zero]
  apply walk_nil
  intro a2 ha2 _
  simp only [List.drop_succ_cons, List.drop_zero]
  have hp3 := hp2.below ha2
  have hk3 := hk2.trans (hp2.both.kept ha2)
  have q1 := e1.out a2 hp3 hk3
  unfold ofBlock at q1
  go_wp2_with (first
   |(go_at_call 65; refine q1.mono ?_; clear q1; rintro e a3 ⟨rfl, hp4, hk4'⟩; have hk4 := hk3.trans hk4'; obtain ⟨s0, s1, s2, s3, s4⟩ := cells5p hp4.cell; have q2 := e2.out a3 hp4; unfold ofBlock at q2 s0)
   |(go_at_call 23; refine q2.mono ?_; clear q2; rintro e a4 ⟨rfl, hp5, hk5'⟩; have hk5 := hk4.trans hk5'; obtain ⟨r0, r1, r2, r3, r4⟩ := cells5p hp5.cell; have q3 := e3.out a4 hp5; unfold ofBlock at q3 r2)
   |(go_at_call 66; refine q3.mono ?_; clear q3; rintro e a5 ⟨rfl, hp6, hk6'⟩; have hk6 := hk5.trans hk6'; have q4 := opens_any hp6 al2.out (by omega); unfold ofBlock at q4)
   |(go_at_call 26; refine q4.mono ?_; clear q4; rintro e a6 ⟨rfl, hpi, hb6⟩))
  go_returns
  exact ⟨rfl, hpi.mono (by omega), (hBW.trans hk6.below).trans hb6⟩
set_option maxRecDepth 100000 in
set_option maxHeartbeats 16000000 in
theorem step4_any (w0 : World) (x : De) (bv lv kv : Value) (hd : DeIn w0 x bv lv kv) (hk : x.kind % 8 = 4) (h : PV w P pd pu w0.heap.size m s d jv mv K) (al : Alike m s d) (hB : Below w0.heap.size w0 w) (_ : m < 50000000) (hback : ∀ w' s' d' m', PV w' P pd pu w0.heap.size m' s' d' jv mv K → Kept K w0.heap.size w w' → Alike m' s' d' → m ≤ m' → PairIn w' P pd pu w0.heap.size m') :
  Calls Tryz.prog 27 #[ofBlock P, .agg #[.int .i64 x.kind, .int .i64 x.n, bv, lv, kv]] w fun e w' => StepOk w0 w' P pd pu m e := by
 obtain ⟨kind, n, b, l, keep⟩ := x
 have hbr8 := fun W => bring_any kind 8 (by omega) (by omega) hd.kind1 hd.kind2 W
 simp only at hk
 rw [hk] at hbr8
 replace hbr8 : Hid _ := hbr8
 obtain ⟨bq, bcap, rfl⟩ : ∃ bq bcap, bv = .slice bq b.length bcap := by
  obtain ⟨_, q, c, e, _⟩ := hd.b
  exact ⟨q, c, e⟩
 obtain ⟨lq, lcap, rfl⟩ : ∃ lq lcap, lv = .slice lq l.length lcap := by
  obtain ⟨_, ⟨q, c, e, _⟩, _⟩ := hd.l
  exact ⟨q, c, e⟩
 obtain ⟨kq, kcap, rfl⟩ : ∃ kq kcap, kv = .slice kq keep.length kcap := by
  rcases hd.keep.2.2 with ⟨rfl, e⟩ | ⟨a, c, rfl, e⟩ | ⟨a, o, c, rfl, _⟩
  ·exact ⟨none, 0, by rw [show keep = [] from e]; rfl⟩
  ·exact ⟨some a, c, by rw [show keep = [] from e]; rfl⟩
  ·exact ⟨_, c, rfl⟩
 obtain ⟨W, hW⟩ : ∃ W, (w.alloc (.cells #[.int .i64 kind, .int .i64 n, .slice bq b.length bcap, .slice lq l.length lcap, .slice kq keep.length kcap] 46)).alloc (.cells #[.string jN, .string jM] 9) = W := ⟨_, rfl⟩
 have hA := stepMem_ahead ⟨kind, n, b, l, keep⟩ (.slice bq b.length bcap) (.slice lq l.length lcap) (.slice kq keep.length kcap) w
 rw [show stepMem ⟨kind, n, b, l, keep⟩ (.slice bq b.length bcap) (.slice lq l.length lcap) (.slice kq keep.length kcap) w = W from hW] at hA
 obtain ⟨hbW, hxW, hlW⟩ := hA
 have hW' : Hid ((w.alloc (.cells #[.int .i64 kind, .int .i64 n, .slice bq b.length bcap, .slice lq l.length lcap, .slice kq keep.length kcap] 46)).alloc (.cells #[.string ⟨#[106, 111, 117, 114, 110, 97, 108]⟩, .string ⟨#[106, 111, 117, 114, 110, 97, 108, 46, 110, 101, 119]⟩] 9) = W) := hW
 clear hW
 have hBW := hB.trans (hbW.mono hB.size)
 have hK0P := h.kp
 have hnW : ¬ K w.heap.size := fun hg => by have := h.both.lt _ hg; omega
 have hp0 : PV W P pd pu w0.heap.size m s d jv mv (fun g => K g ∨ g = w.heap.size) := h.more hbW (.inl h.kp) (fun g hg => hg.imp id (fun e => ⟨by omega, by omega⟩))
 have hk0 : Kept K w0.heap.size w W := h.both.kept hbW
 have hde : ∀ w', Kept (fun g => K g ∨ g = w.heap.size) w0.heap.size W w' → DeIn w' ⟨kind, n, b, l, keep⟩ (.slice bq b.length bcap) (.slice lq l.length lcap) (.slice kq keep.length kcap) := fun w' hk => hd.below (hBW.trans hk.below)
 clear h
 have hf1 := Int.emod_nonneg n (b := 12) (by omega)
 have hf2 := Int.emod_lt_of_pos n (b := 12) (by omega)
 have hbr12 := fun W => bring_any n 12 (by omega) (by omega) hd.n1 hd.n2 W
 obtain ⟨f, hf⟩ : ∃ f, n % 12 = f := ⟨_, rfl⟩
 rw [hf] at hbr12 hf1 hf2
 clear hf
 replace hbr12 : Hid _ := hbr12
 have hkl := hd.klen
 have hkb := hd.keep.1
 clear hd
 have e0 : Hid (∀ w1, PV w1 P pd pu w0.heap.size m s d jv mv (fun g => K g ∨ g = w.heap.size) → Kept (fun g => K g ∨ g = w.heap.size) w0.heap.size W w1 → Calls Tryz.prog 20 #[ofBlock pd, .int .i64 f, .slice kq keep.length kcap] w1 fun e w' => e = .returned (.tuple #[]) ∧ PV w' P pd pu w0.heap.size m (s.fail f keep) d jv mv (fun g => K g ∨ g = w.heap.size) ∧ Kept (fun g => K g ∨ g = w.heap.size) w0.heap.size w1 w') :=
  fun w1 hp hk => hp.callL (Nat.le_refl _) (fun F hl => live_fail f _ keep hl (by omega) (by omega) (hde w1 hk).keep hkl)
 have e1 : Hid (∀ w1, PV w1 P pd pu w0.heap.size m (s.fail f keep) d jv mv (fun g => K g ∨ g = w.heap.size) → Kept (fun g => K g ∨ g = w.heap.size) w0.heap.size W w1 → Calls Tryz.prog 67 #[ofBlock pu, .int .i64 f, .slice kq keep.length kcap] w1 fun e w' => e = .returned (.tuple #[]) ∧ PV w' P pd pu w0.heap.size m (s.fail f keep) (d.fail f keep) jv mv (fun g => K g ∨ g = w.heap.size) ∧ Kept (fun g => K g ∨ g = w.heap.size) w0.heap.size w1 w') :=
  fun w1 hp hk => hp.callR (Nat.le_refl _) (fun F hl => rlive_fail f _ keep hl (by omega) (by omega) (fun w2 hk2 => (hde w2 (hk.trans (hk2.sub (fun g hg => .inl hg)))).keep) hkl)
 have al2 : Hid (Alike m (s.fail f keep) (d.fail f keep)) := al.fail f keep (by omega) hkb hkl
 clear al hkb
 obtain ⟨y0, y1, y2, y3, y4⟩ := cells5p hp0.cell
 obtain ⟨x0, x1, x2, x3, x4⟩ := cells5p hxW
 have hPl := hp0.both.lt P hp0.kp
 replace hxW : Hid _ := hxW
 replace hde : Hid _ := hde
 replace hback : Hid _ := hback
 rcases and_bit n with hnb | hnb
 all_goals
  unfold ofBlock at *
  go_enter Tryz.func27, Tryz.ntmps27
  go_wp2_with (first
   |(go_at_call 17; refine (hbr8.out _).mono ?_; rintro e w6 ⟨rfl, hw6⟩; subst hw6))
  rw [hW'.out]
  refine poised_then 9 (fun x => Below W.heap.size W x) (fun x y => Below W.heap.size x y) (by kernel_rfl) (by kernel_rfl) (by kernel_rfl) (fun _ _ h k => h.trans k) ((Below.refl _ _).drew) ?_
  apply Exists.intro
  simp only [List.take_succ_cons, List.take_zero]
  iterate 3
   apply walk_det
   ·rfl
   ·intro w2 hC hF
    simp only [upon]
    go_simp
    exact ⟨Below.refl _ _, rfl⟩
   simp only [put_lit, List.set_cons_succ, List.set_cons_zero]
  apply walk_det
  ·rfl
  ·intro w2 hC hF
   have z0 := (hC.cell (p := ⟨P, 0, none⟩) hPl).trans y0
   have z1 := (hC.cell (p := ⟨w.heap.size, 1, none⟩) hlW).trans x1
   have z4 := (hC.cell (p := ⟨w.heap.size, 4, none⟩) hlW).trans x4
   simp only [upon]
   go_simp
   exact ⟨Below.refl _ _, rfl⟩
  simp only [put_lit, List.set_cons_succ, List.set_cons_zero]
  apply walk_det
  ·rfl
  ·intro w2 hC hF
   simp only [upon]
   go_simp
   exact ⟨Below.refl _ _, rfl⟩
  simp only [put_lit, List.set_cons_succ, List.set_cons_zero]
  apply walk_det
  ·rfl
  ·intro w2 hC hF
   have z0 := (hC.cell (p := ⟨P, 0, none⟩) hPl).trans y0
   have z1 := (hC.cell (p := ⟨w.heap.size, 1, none⟩) hlW).trans x1
   have z4 := (hC.cell (p := ⟨w.heap.size, 4, none⟩) hlW).trans x4
   simp only [upon]
   go_simp
   exact ⟨Below.refl _ _, rfl⟩
  simp only [put_lit, List.set_cons_succ, List.set_cons_zero]
  apply walk_det
  ·rfl
  ·intro w2 hC hF
   simp only [upon]
   go_simp
   exact still_call (hbr12.out w2)
  simp only [put_lit, List.set_cons_succ, List.set_cons_zero]
  apply walk_det
  ·rfl
  ·intro w2 hC hF
   simp only [upon]
   go_simp
   exact ⟨Below.refl _ _, rfl⟩
  simp only [put_lit, List.set_cons_succ, List.set_cons_zero]
  apply walk_det
  ·rfl
  ·intro w2 hC hF
   have z0 := (hC.cell (p := ⟨P, 0, none⟩) hPl).trans y0
   have z1 := (hC.cell (p := ⟨w.heap.size, 1, none⟩) hlW).trans x1
   have z4 := (hC.cell (p := ⟨w.heap.size, 4, none⟩) hlW).trans x4
   simp only [upon]
   go_simp
   exact ⟨Below.refl _ _, rfl⟩
  simp only [put_lit, List.set_cons_succ, List.set_cons_zero]
  apply walk_nil
  intro a0 ha0 _
  simp only [List.drop_succ_cons, List.drop_zero]
  have hp1 := hp0.below ha0
  have hk1 : Kept (fun g => K g ∨ g = w.heap.size) w0.heap.size W a0 := hp0.both.kept ha0
  have q0 := e0.out a0 hp1 hk1
  unfold ofBlock at q0
  go_wp2_with (go_at_call 20; refine q0.mono ?_; clear q0; rintro e a1 ⟨rfl, hp2, hk2'⟩; have hk2 := hk1.trans hk2'; obtain ⟨u0, u1, u2, u3, u4⟩ := cells5p hp2.cell; have v1 := (hk2.cell (q := ⟨w.heap.size, 1, none⟩) (.inr rfl)).trans x1; have v4 := (hk2.cell (q := ⟨w.heap.size, 4, none⟩) (.inr rfl)).trans x4; have hPl2 := hp2.both.lt P hp2.kp; have hXl2 := hp2.both.lt w.heap.size (.inr rfl))
  unfold ofBlock at u0 u2
  refine poised_then 9 (fun x => Below a1.heap.size a1 x) (fun x y => Below a1.heap.size x y) (by kernel_rfl) (by kernel_rfl) (by kernel_rfl) (fun _ _ h k => h.trans k) ((Below.refl _ _).drew) ?_
  apply Exists.intro
  simp only [List.take_succ_cons, List.take_zero]
  iterate 3
   apply walk_det
   ·rfl
   ·intro w2 hC hF
    simp only [upon]
    go_simp
    exact ⟨Below.refl _ _, rfl⟩
   simp only [put_lit, List.set_cons_succ, List.set_cons_zero]
  apply walk_det
  ·rfl
  ·intro w2 hC hF
   have z2 := (hC.cell (p := ⟨P, 2, none⟩) hPl2).trans u2
   have z1 := (hC.cell (p := ⟨w.heap.size, 1, none⟩) hXl2).trans v1
   have z4 := (hC.cell (p := ⟨w.heap.size, 4, none⟩) hXl2).trans v4
   simp only [upon]
   go_simp
   exact ⟨Below.refl _ _, rfl⟩
  simp only [put_lit, List.set_cons_succ, List.set_cons_zero]
  apply walk_det
  ·rfl
  ·intro w2 hC hF
   simp only [upon]
   go_simp
   exact ⟨Below.refl _ _, rfl⟩
  simp only [put_lit, List.set_cons_succ, List.set_cons_zero]
  apply walk_det
  ·rfl
  ·intro w2 hC hF
   have z2 := (hC.cell (p := ⟨P, 2, none⟩) hPl2).trans u2
   have z1 := (hC.cell (p := ⟨w.heap.size, 1, none⟩) hXl2).trans v1
   have z4 := (hC.cell (p := ⟨w.heap.size, 4, none⟩) hXl2).trans v4
   simp only [upon]
   go_simp
   exact ⟨Below.refl _ _, rfl⟩
  simp only [put_lit, List.set_cons_succ, List.set_cons_zero]
  apply walk_det
  ·rfl
  ·intro w2 hC hF
   simp only [upon]
   go_simp
   exact still_call (hbr12.out w2)
  simp only [put_lit, List.set_cons_succ, List.set_cons_zero]
  apply walk_det
  ·rfl
  ·intro w2 hC hF
   simp only [upon]
   go_simp
   exact ⟨Below.refl _ _, rfl⟩
  simp only [put_lit, List.set_cons_succ, List.set_cons_zero]
  apply walk_det
  ·rfl
  ·intro w2 hC hF
   have z2 := (hC.cell (p := ⟨P, 2, none⟩) hPl2).trans u2
   have z1 := (hC.cell (p := ⟨w.heap.size, 1, none⟩) hXl2).trans v1
   have z4 := (hC.cell (p := ⟨w.heap.size, 4, none⟩) hXl2).trans v4
   simp only [upon]
   go_simp
   exact ⟨Below.refl _ _, rfl⟩
  simp only [put_lit, List.set_cons_succ, List.set_cons_zero]
  apply walk_nil
  intro a2 ha2 _
  simp only [List.drop_succ_cons, List.drop_zero]
  have hp3 := hp2.below ha2
  have hk3 := hk2.trans (hp2.both.kept ha2)
  have q1 := e1.out a2 hp3 hk3
  unfold ofBlock at q1
  go_wp2_with (go_at_call 67; refine q1.mono ?_; clear q1; rintro e a3 ⟨rfl, hp4, hk4'⟩; have hk4 := hk3.trans hk4')
  go_returns
  exact ⟨rfl, (hback.out a3 _ _ m (hp4.sub (hK0P) (fun g hg => .inl hg)) (hk0.trans (hk4.sub (fun g hg => .inl hg))) al2.out (Nat.le_refl _)).mono (by omega), hBW.trans hk4.below⟩
set_option maxRecDepth 100000 in
set_option maxHeartbeats 16000000 in
theorem step5_any (w0 : World) (x : De) (bv lv kv : Value) (hd : DeIn w0 x bv lv kv) (hk : x.kind % 8 = 5) (h : PV w P pd pu w0.heap.size m s d jv mv K) (al : Alike m s d) (hB : Below w0.heap.size w0 w) (hm : m < 50000000) :
  Calls Tryz.prog 27 #[ofBlock P, .agg #[.int .i64 x.kind, .int .i64 x.n, bv, lv, kv]] w fun e w' => StepOk w0 w' P pd pu m e := by
 obtain ⟨kind, n, b, l, keep⟩ := x
 have hbr8 := fun W => bring_any kind 8 (by omega) (by omega) hd.kind1 hd.kind2 W
 simp only at hk
 rw [hk] at hbr8
 replace hbr8 : Hid _ := hbr8
 obtain ⟨bq, bcap, rfl⟩ : ∃ bq bcap, bv = .slice bq b.length bcap := by
  obtain ⟨_, q, c, e, _⟩ := hd.b
  exact ⟨q, c, e⟩
 obtain ⟨lq, lcap, rfl⟩ : ∃ lq lcap, lv = .slice lq l.length lcap := by
  obtain ⟨_, ⟨q, c, e, _⟩, _⟩ := hd.l
  exact ⟨q, c, e⟩
 obtain ⟨kq, kcap, rfl⟩ : ∃ kq kcap, kv = .slice kq keep.length kcap := by
  rcases hd.keep.2.2 with ⟨rfl, e⟩ | ⟨a, c, rfl, e⟩ | ⟨a, o, c, rfl, _⟩
  ·exact ⟨none, 0, by rw [show keep = [] from e]; rfl⟩
  ·exact ⟨some a, c, by rw [show keep = [] from e]; rfl⟩
  ·exact ⟨_, c, rfl⟩
 obtain ⟨W, hW⟩ : ∃ W, (w.alloc (.cells #[.int .i64 kind, .int .i64 n, .slice bq b.length bcap, .slice lq l.length lcap, .slice kq keep.length kcap] 46)).alloc (.cells #[.string jN, .string jM] 9) = W := ⟨_, rfl⟩
 have hA := stepMem_ahead ⟨kind, n, b, l, keep⟩ (.slice bq b.length bcap) (.slice lq l.length lcap) (.slice kq keep.length kcap) w
 rw [show stepMem ⟨kind, n, b, l, keep⟩ (.slice bq b.length bcap) (.slice lq l.length lcap) (.slice kq keep.length kcap) w = W from hW] at hA
 obtain ⟨hbW, hxW, hlW⟩ := hA
 have hW' : Hid ((w.alloc (.cells #[.int .i64 kind, .int .i64 n, .slice bq b.length bcap, .slice lq l.length lcap, .slice kq keep.length kcap] 46)).alloc (.cells #[.string ⟨#[106, 111, 117, 114, 110, 97, 108]⟩, .string ⟨#[106, 111, 117, 114, 110, 97, 108, 46, 110, 101, 119]⟩] 9) = W) := hW
 clear hW
 have hBW := hB.trans (hbW.mono hB.size)
 have hK0P := h.kp
 have hnW : ¬ K w.heap.size := fun hg => by have := h.both.lt _ hg; omega
 have hp0 : PV W P pd pu w0.heap.size m s d jv mv (fun g => K g ∨ g = w.heap.size) := h.more hbW (.inl h.kp) (fun g hg => hg.imp id (fun e => ⟨by omega, by omega⟩))
 have hk0 : Kept K w0.heap.size w W := h.both.kept hbW
 have hde : ∀ w', Kept (fun g => K g ∨ g = w.heap.size) w0.heap.size W w' → DeIn w' ⟨kind, n, b, l, keep⟩ (.slice bq b.length bcap) (.slice lq l.length lcap) (.slice kq keep.length kcap) := fun w' hk => hd.below (hBW.trans hk.below)
 clear h hd
 have q4 := opens_any hp0 al (by omega)
 clear al hde
 obtain ⟨y0, y1, y2, y3, y4⟩ := cells5p hp0.cell
 obtain ⟨x0, x1, x2, x3, x4⟩ := cells5p hxW
 have hPl := hp0.both.lt P hp0.kp
 replace hxW : Hid _ := hxW
 rcases and_bit n with hnb | hnb
 all_goals
  unfold ofBlock at *
  go_enter Tryz.func27, Tryz.ntmps27
  go_wp2_with (first
   |(go_at_call 17; refine (hbr8.out _).mono ?_; rintro e w6 ⟨rfl, hw6⟩; subst hw6)
   |(go_at_call 26; rw [hW'.out]; refine q4.mono ?_; clear q4; rintro e a6 ⟨rfl, hpi, hb6⟩))
  go_returns
  exact ⟨rfl, hpi.mono (by omega), hBW.trans hb6⟩
set_option maxRecDepth 100000 in
set_option maxHeartbeats 16000000 in
theorem step6_any (w0 : World) (x : De) (bv lv kv : Value) (hd : DeIn w0 x bv lv kv) (hk : x.kind % 8 = 6) (h : PV w P pd pu w0.heap.size m s d jv mv K) (al : Alike m s d) (hB : Below w0.heap.size w0 w) (hm : m < 50000000) (hback : ∀ w' s' d' m', PV w' P pd pu w0.heap.size m' s' d' jv mv K → Kept K w0.heap.size w w' → Alike m' s' d' → m ≤ m' → PairIn w' P pd pu w0.heap.size m') :
  Calls Tryz.prog 27 #[ofBlock P, .agg #[.int .i64 x.kind, .int .i64 x.n, bv, lv, kv]] w fun e w' => StepOk w0 w' P pd pu m e := by
 obtain ⟨kind, n, b, l, keep⟩ := x
 have hbr8 := fun W => bring_any kind 8 (by omega) (by omega) hd.kind1 hd.kind2 W
 simp only at hk
 rw [hk] at hbr8
 replace hbr8 : Hid _ := hbr8
 obtain ⟨bq, bcap, rfl⟩ : ∃ bq bcap, bv = .slice bq b.length bcap := by
  obtain ⟨_, q, c, e, _⟩ := hd.b
  exact ⟨q, c, e⟩
 obtain ⟨lq, lcap, rfl⟩ : ∃ lq lcap, lv = .slice lq l.length lcap := by
  obtain ⟨_, ⟨q, c, e, _⟩, _⟩ := hd.l
  exact ⟨q, c, e⟩
 obtain ⟨kq, kcap, rfl⟩ : ∃ kq kcap, kv = .slice kq keep.length kcap := by
  rcases hd.keep.2.2 with ⟨rfl, e⟩ | ⟨a, c, rfl, e⟩ | ⟨a, o, c, rfl, _⟩
  ·exact ⟨none, 0, by rw [show keep = [] from e]; rfl⟩
  ·exact ⟨some a, c, by rw [show keep = [] from e]; rfl⟩
  ·exact ⟨_, c, rfl⟩
 obtain ⟨W, hW⟩ : ∃ W, (w.alloc (.cells #[.int .i64 kind, .int .i64 n, .slice bq b.length bcap, .slice lq l.length lcap, .slice kq keep.length kcap] 46)).alloc (.cells #[.string jN, .string jM] 9) = W := ⟨_, rfl⟩
 have hA := stepMem_ahead ⟨kind, n, b, l, keep⟩ (.slice bq b.length bcap) (.slice lq l.length lcap) (.slice kq keep.length kcap) w
 rw [show stepMem ⟨kind, n, b, l, keep⟩ (.slice bq b.length bcap) (.slice lq l.length lcap) (.slice kq keep.length kcap) w = W from hW] at hA
 obtain ⟨hbW, hxW, hlW⟩ := hA
 have hW' : Hid ((w.alloc (.cells #[.int .i64 kind, .int .i64 n, .slice bq b.length bcap, .slice lq l.length lcap, .slice kq keep.length kcap] 46)).alloc (.cells #[.string ⟨#[106, 111, 117, 114, 110, 97, 108]⟩, .string ⟨#[106, 111, 117, 114, 110, 97, 108, 46, 110, 101, 119]⟩] 9) = W) := hW
 clear hW
 have hBW := hB.trans (hbW.mono hB.size)
 have hK0P := h.kp
 have hnW : ¬ K w.heap.size := fun hg => by have := h.both.lt _ hg; omega
 have hp0 : PV W P pd pu w0.heap.size m s d jv mv (fun g => K g ∨ g = w.heap.size) := h.more hbW (.inl h.kp) (fun g hg => hg.imp id (fun e => ⟨by omega, by omega⟩))
 have hk0 : Kept K w0.heap.size w W := h.both.kept hbW
 have hde : ∀ w', Kept (fun g => K g ∨ g = w.heap.size) w0.heap.size W w' → DeIn w' ⟨kind, n, b, l, keep⟩ (.slice bq b.length bcap) (.slice lq l.length lcap) (.slice kq keep.length kcap) := fun w' hk => hd.below (hBW.trans hk.below)
 clear h
 have hby := hd.b.1.1
 have hbl := hd.blen
 simp only at hbl hby
 clear hd
 obtain ⟨x0, x1, x2, x3, x4⟩ := cells5p hxW
 replace hxW : Hid _ := hxW
 replace hback : Hid _ := hback
 rcases and_bit n with hnb | hnb
 ·have hap := al.append (by omega) jN b hby
  obtain ⟨⟨s1, c⟩, hq⟩ : ∃ q, s.append jN b = q := ⟨_, rfl⟩
  obtain ⟨⟨d1, c'⟩, hr⟩ : ∃ q, d.append jN b = q := ⟨_, rfl⟩
  rw [hq, hr] at hap
  obtain ⟨hcc, hal⟩ := hap
  simp only at hcc hal
  subst hcc
  have hcs : (c == c) = true := by simp
  have e0 : Hid (∀ w1, StC P pd pu w0.heap.size m (two s s1 0) (two d d1 1) jv mv (fun g => K g ∨ g = w.heap.size) W 0 w1 → Calls Tryz.prog 47 #[ofBlock pd, .string ⟨#[106, 111, 117, 114, 110, 97, 108]⟩, .slice bq b.length bcap] w1 fun e w' => e = .returned (.int .i64 c) ∧ Kept (fun g => K g ∨ g = w.heap.size) w0.heap.size w1 w' ∧ StC P pd pu w0.heap.size m (two s s1 0) (two d d1 1) jv mv (fun g => K g ∨ g = w.heap.size) W 1 w') := fun w1 hst =>
   (hst.pv.callL (s' := s1) (m' := m + 2 * 1) (X := .returned (.int .i64 c)) (by omega) (fun F hl => by
    have := live_append jN (.slice bq b.length bcap) b hl (by omega) hby (by omega) (fun w2 hk2 => (hde w2 (hst.kept.trans (hk2.sub (fun g hg => .inl hg)))).b.1)
    rw [show (two s s1 0 0) = s from rfl, hq] at this
    exact this)).mono (fun e w' h => ⟨h.1, h.2.2, h.2.1, hst.kept.trans h.2.2⟩)
  have e1 : Hid (∀ w1, StC P pd pu w0.heap.size m (two s s1 0) (two d d1 1) jv mv (fun g => K g ∨ g = w.heap.size) W 1 w1 → Calls Tryz.prog 68 #[ofBlock pu, .string ⟨#[106, 111, 117, 114, 110, 97, 108]⟩, .slice bq b.length bcap] w1 fun e w' => e = .returned (.int .i64 c) ∧ Kept (fun g => K g ∨ g = w.heap.size) w0.heap.size w1 w' ∧ StC P pd pu w0.heap.size m (two s s1 0) (two d d1 1) jv mv (fun g => K g ∨ g = w.heap.size) W 2 w') := fun w1 hst =>
   (hst.pv.callR (d' := d1) (m' := m + 2 * 2) (X := .returned (.int .i64 c)) (by omega) (fun F hl => by
    have := rlive_append jN (.slice bq b.length bcap) b hl (by omega) (by decide) hby (by omega) (fun w2 hk2 => (hde w2 (hst.kept.trans (hk2.sub (fun g hg => .inl hg)))).b.1)
    rw [show (two d d1 1 1) = d from rfl, hr] at this
    exact this)).mono (fun e w' h => ⟨h.1, h.2.2, h.2.1, hst.kept.trans h.2.2⟩)
  clear hq hr
  replace hal : Hid _ := hal
  replace hde : Hid _ := hde
  replace al : Hid _ := al
  replace hby : Hid _ := hby
  unfold ofBlock at *
  go_enter Tryz.func27, Tryz.ntmps27
  go_wp2_with (first
   |(go_at_call 17; refine (hbr8.out _).mono ?_; rintro e w6 ⟨rfl, hw6⟩; subst hw6))
  rw [hW'.out]
  have hst0 : StC P pd pu w0.heap.size m (two s s1 0) (two d d1 1) jv mv (fun g => K g ∨ g = w.heap.size) W 0 W := ⟨hp0, Kept.refl _ _ _⟩
  replace hp0 : Hid _ := hp0
  refine Staged.staged_then 26 [13, 21] (StC P pd pu w0.heap.size m (two s s1 0) (two d d1 1) jv mv (fun g => K g ∨ g = w.heap.size) W) (fun z1 z2 => Kept (fun g => K g ∨ g = w.heap.size) w0.heap.size z1 z2) (by kernel_rfl) (by kernel_rfl) (by kernel_rfl) (by kernel_rfl) (hst0.below (Below.refl _ _).drew).2 ?_
  apply Exists.intro
  simp only [List.take_succ_cons, List.take_zero]
  iterate 4
   apply Staged.walk_det
   ·exact fun τ z1 z2 h hb => StC.below h hb
   ·rfl
   ·rfl
   ·intro τ w2 hC hF
    simp only [upon]
    go_simp
    exact ⟨Below.refl _ _, rfl⟩
   simp only [put_lit, List.set_cons_succ, List.set_cons_zero]
  apply Staged.walk_det
  ·exact fun τ z1 z2 h hb => StC.below h hb
  ·rfl
  ·rfl
  ·intro τ w2 hC hF
   obtain ⟨y0, y1, y2, y3, y4⟩ := cells5p hC.pv.cell
   unfold ofBlock at y0 y2
   have z2 := (hC.kept.cell (q := ⟨w.heap.size, 2, none⟩) (.inr rfl)).trans x2
   simp only [upon]
   go_simp
   exact ⟨Below.refl _ _, rfl⟩
  simp only [put_lit, List.set_cons_succ, List.set_cons_zero]
  iterate 4
   apply Staged.walk_det
   ·exact fun τ z1 z2 h hb => StC.below h hb
   ·rfl
   ·rfl
   ·intro τ w2 hC hF
    simp only [upon]
    go_simp
    exact ⟨Below.refl _ _, rfl⟩
   simp only [put_lit, List.set_cons_succ, List.set_cons_zero]
  apply Staged.walk_det
  ·exact fun τ z1 z2 h hb => StC.below h hb
  ·rfl
  ·rfl
  ·intro τ w2 hC hF
   obtain ⟨y0, y1, y2, y3, y4⟩ := cells5p hC.pv.cell
   unfold ofBlock at y0 y2
   have z2 := (hC.kept.cell (q := ⟨w.heap.size, 2, none⟩) (.inr rfl)).trans x2
   simp only [upon]
   go_simp
   exact ⟨Below.refl _ _, rfl⟩
  simp only [put_lit, List.set_cons_succ, List.set_cons_zero]
  iterate 2
   apply Staged.walk_det
   ·exact fun τ z1 z2 h hb => StC.below h hb
   ·rfl
   ·rfl
   ·intro τ w2 hC hF
    simp only [upon]
    go_simp
    exact ⟨Below.refl _ _, rfl⟩
   simp only [put_lit, List.set_cons_succ, List.set_cons_zero]
  apply Staged.walk_det
  ·exact fun τ z1 z2 h hb => StC.below h hb
  ·rfl
  ·rfl
  ·intro τ w2 hC hF
   obtain ⟨y0, y1, y2, y3, y4⟩ := cells5p hC.pv.cell
   unfold ofBlock at y0 y2
   have z2 := (hC.kept.cell (q := ⟨w.heap.size, 2, none⟩) (.inr rfl)).trans x2
   simp only [upon]
   go_simp
   exact ⟨Below.refl _ _, rfl⟩
  simp only [put_lit, List.set_cons_succ, List.set_cons_zero]
  apply Staged.walk_turn
  ·rfl
  ·rfl
  ·intro w2 hC hF
   simp only [upon]
   go_simp
   exact (e0.out w2 hC).mono (fun e w3 h => ⟨h.1, ⟨h.2.1, h.2.2⟩⟩)
  simp only [put_lit, List.set_cons_succ, List.set_cons_zero]
  iterate 3
   apply Staged.walk_det
   ·exact fun τ z1 z2 h hb => StC.below h hb
   ·rfl
   ·rfl
   ·intro τ w2 hC hF
    simp only [upon]
    go_simp
    exact ⟨Below.refl _ _, rfl⟩
   simp only [put_lit, List.set_cons_succ, List.set_cons_zero]
  apply Staged.walk_det
  ·exact fun τ z1 z2 h hb => StC.below h hb
  ·rfl
  ·rfl
  ·intro τ w2 hC hF
   obtain ⟨y0, y1, y2, y3, y4⟩ := cells5p hC.pv.cell
   unfold ofBlock at y0 y2
   have z2 := (hC.kept.cell (q := ⟨w.heap.size, 2, none⟩) (.inr rfl)).trans x2
   simp only [upon]
   go_simp
   exact ⟨Below.refl _ _, rfl⟩
  simp only [put_lit, List.set_cons_succ, List.set_cons_zero]
  iterate 2
   apply Staged.walk_det
   ·exact fun τ z1 z2 h hb => StC.below h hb
   ·rfl
   ·rfl
   ·intro τ w2 hC hF
    simp only [upon]
    go_simp
    exact ⟨Below.refl _ _, rfl⟩
   simp only [put_lit, List.set_cons_succ, List.set_cons_zero]
  apply Staged.walk_det
  ·exact fun τ z1 z2 h hb => StC.below h hb
  ·rfl
  ·rfl
  ·intro τ w2 hC hF
   obtain ⟨y0, y1, y2, y3, y4⟩ := cells5p hC.pv.cell
   unfold ofBlock at y0 y2
   have z2 := (hC.kept.cell (q := ⟨w.heap.size, 2, none⟩) (.inr rfl)).trans x2
   simp only [upon]
   go_simp
   exact ⟨Below.refl _ _, rfl⟩
  simp only [put_lit, List.set_cons_succ, List.set_cons_zero]
  apply Staged.walk_turn
  ·rfl
  ·rfl
  ·intro w2 hC hF
   simp only [upon]
   go_simp
   exact (e1.out w2 hC).mono (fun e w3 h => ⟨h.1, ⟨h.2.1, h.2.2⟩⟩)
  simp only [put_lit, List.set_cons_succ, List.set_cons_zero]
  iterate 4
   apply Staged.walk_det
   ·exact fun τ z1 z2 h hb => StC.below h hb
   ·rfl
   ·rfl
   ·intro τ w2 hC hF
    simp only [upon]
    go_simp
    exact ⟨Below.refl _ _, rfl⟩
   simp only [put_lit, List.set_cons_succ, List.set_cons_zero]
  apply Staged.walk_nil
  intro a0 ha0 _
  simp only [List.drop_succ_cons, List.drop_zero]
  obtain ⟨y0, y1, y2, y3, y4⟩ := cells5p ha0.pv.cell
  have yf := free_of ha0.pv.cell 4
  replace ha0 : Hid _ := ha0
  go_wp2_with fail
  go_returns
  have hps := ha0.out.pv.stored
  refine ⟨rfl, (hback.out _ _ _ (m + 4) (hps.1.sub hK0P (fun g hg => .inl hg)) (hk0.trans ((ha0.out.kept.trans hps.2).sub (fun g hg => .inl hg))) (hal.out.mono (by omega)) (by omega)).mono (by omega), hBW.trans (ha0.out.kept.trans hps.2).below⟩
 ·have hap := al.append (by omega) jM b hby
  obtain ⟨⟨s1, c⟩, hq⟩ : ∃ q, s.append jM b = q := ⟨_, rfl⟩
  obtain ⟨⟨d1, c'⟩, hr⟩ : ∃ q, d.append jM b = q := ⟨_, rfl⟩
  rw [hq, hr] at hap
  obtain ⟨hcc, hal⟩ := hap
  simp only at hcc hal
  subst hcc
  have hcs : (c == c) = true := by simp
  have e0 : Hid (∀ w1, StC P pd pu w0.heap.size m (two s s1 0) (two d d1 1) jv mv (fun g => K g ∨ g = w.heap.size) W 0 w1 → Calls Tryz.prog 47 #[ofBlock pd, .string ⟨#[106, 111, 117, 114, 110, 97, 108, 46, 110, 101, 119]⟩, .slice bq b.length bcap] w1 fun e w' => e = .returned (.int .i64 c) ∧ Kept (fun g => K g ∨ g = w.heap.size) w0.heap.size w1 w' ∧ StC P pd pu w0.heap.size m (two s s1 0) (two d d1 1) jv mv (fun g => K g ∨ g = w.heap.size) W 1 w') := fun w1 hst =>
   (hst.pv.callL (s' := s1) (m' := m + 2 * 1) (X := .returned (.int .i64 c)) (by omega) (fun F hl => by
    have := live_append jM (.slice bq b.length bcap) b hl (by omega) hby (by omega) (fun w2 hk2 => (hde w2 (hst.kept.trans (hk2.sub (fun g hg => .inl hg)))).b.1)
    rw [show (two s s1 0 0) = s from rfl, hq] at this
    exact this)).mono (fun e w' h => ⟨h.1, h.2.2, h.2.1, hst.kept.trans h.2.2⟩)
  have e1 : Hid (∀ w1, StC P pd pu w0.heap.size m (two s s1 0) (two d d1 1) jv mv (fun g => K g ∨ g = w.heap.size) W 1 w1 → Calls Tryz.prog 68 #[ofBlock pu, .string ⟨#[106, 111, 117, 114, 110, 97, 108, 46, 110, 101, 119]⟩, .slice bq b.length bcap] w1 fun e w' => e = .returned (.int .i64 c) ∧ Kept (fun g => K g ∨ g = w.heap.size) w0.heap.size w1 w' ∧ StC P pd pu w0.heap.size m (two s s1 0) (two d d1 1) jv mv (fun g => K g ∨ g = w.heap.size) W 2 w') := fun w1 hst =>
   (hst.pv.callR (d' := d1) (m' := m + 2 * 2) (X := .returned (.int .i64 c)) (by omega) (fun F hl => by
    have := rlive_append jM (.slice bq b.length bcap) b hl (by omega) (by decide) hby (by omega) (fun w2 hk2 => (hde w2 (hst.kept.trans (hk2.sub (fun g hg => .inl hg)))).b.1)
    rw [show (two d d1 1 1) = d from rfl, hr] at this
    exact this)).mono (fun e w' h => ⟨h.1, h.2.2, h.2.1, hst.kept.trans h.2.2⟩)
  clear hq hr
  replace hal : Hid _ := hal
  replace hde : Hid _ := hde
  replace al : Hid _ := al
  replace hby : Hid _ := hby
  unfold ofBlock at *
  go_enter Tryz.func27, Tryz.ntmps27
  go_wp2_with (first
   |(go_at_call 17; refine (hbr8.out _).mono ?_; rintro e w6 ⟨rfl, hw6⟩; subst hw6))
  rw [hW'.out]
  have hst0 : StC P pd pu w0.heap.size m (two s s1 0) (two d d1 1) jv mv (fun g => K g ∨ g = w.heap.size) W 0 W := ⟨hp0, Kept.refl _ _ _⟩
  replace hp0 : Hid _ := hp0
  refine Staged.staged_then 26 [13, 21] (StC P pd pu w0.heap.size m (two s s1 0) (two d d1 1) jv mv (fun g => K g ∨ g = w.heap.size) W) (fun z1 z2 => Kept (fun g => K g ∨ g = w.heap.size) w0.heap.size z1 z2) (by kernel_rfl) (by kernel_rfl) (by kernel_rfl) (by kernel_rfl) (hst0.below (Below.refl _ _).drew).2 ?_
  apply Exists.intro
  simp only [List.take_succ_cons, List.take_zero]
  iterate 4
   apply Staged.walk_det
   ·exact fun τ z1 z2 h hb => StC.below h hb
   ·rfl
   ·rfl
   ·intro τ w2 hC hF
    simp only [upon]
    go_simp
    exact ⟨Below.refl _ _, rfl⟩
   simp only [put_lit, List.set_cons_succ, List.set_cons_zero]
  apply Staged.walk_det
  ·exact fun τ z1 z2 h hb => StC.below h hb
  ·rfl
  ·rfl
  ·intro τ w2 hC hF
   obtain ⟨y0, y1, y2, y3, y4⟩ := cells5p hC.pv.cell
   unfold ofBlock at y0 y2
   have z2 := (hC.kept.cell (q := ⟨w.heap.size, 2, none⟩) (.inr rfl)).trans x2
   simp only [upon]
   go_simp
   exact ⟨Below.refl _ _, rfl⟩
  simp only [put_lit, List.set_cons_succ, List.set_cons_zero]
  iterate 4
   apply Staged.walk_det
   ·exact fun τ z1 z2 h hb => StC.below h hb
   ·rfl
   ·rfl
   ·intro τ w2 hC hF
    simp only [upon]
    go_simp
    exact ⟨Below.refl _ _, rfl⟩
   simp only [put_lit, List.set_cons_succ, List.set_cons_zero]
  apply Staged.walk_det
  ·exact fun τ z1 z2 h hb => StC.below h hb
  ·rfl
  ·rfl
  ·intro τ w2 hC hF
   obtain ⟨y0, y1, y2, y3, y4⟩ := cells5p hC.pv.cell
   unfold ofBlock at y0 y2
   have z2 := (hC.kept.cell (q := ⟨w.heap.size, 2, none⟩) (.inr rfl)).trans x2
   simp only [upon]
   go_simp
   exact ⟨Below.refl _ _, rfl⟩
  simp only [put_lit, List.set_cons_succ, List.set_cons_zero]
  iterate 2
   apply Staged.walk_det
   ·exact fun τ z1 z2 h hb => StC.below h hb
   ·rfl
   ·rfl
   ·intro τ w2 hC hF
    simp only [upon]
    go_simp
    exact ⟨Below.refl _ _, rfl⟩
   simp only [put_lit, List.set_cons_succ, List.set_cons_zero]
  apply Staged.walk_det
  ·exact fun τ z1 z2 h hb => StC.below h hb
  ·rfl
  ·rfl
  ·intro τ w2 hC hF
   obtain ⟨y0, y1, y2, y3, y4⟩ := cells5p hC.pv.cell
   unfold ofBlock at y0 y2
   have z2 := (hC.kept.cell (q := ⟨w.heap.size, 2, none⟩) (.inr rfl)).trans x2
   simp only [upon]
   go_simp
   exact ⟨Below.refl _ _, rfl⟩
  simp only [put_lit, List.set_cons_succ, List.set_cons_zero]
  apply Staged.walk_turn
  ·rfl
  ·rfl
  ·intro w2 hC hF
   simp only [upon]
   go_simp
   exact (e0.out w2 hC).mono (fun e w3 h => ⟨h.1, ⟨h.2.1, h.2.2⟩⟩)
  simp only [put_lit, List.set_cons_succ, List.set_cons_zero]
  iterate 3
   apply Staged.walk_det
   ·exact fun τ z1 z2 h hb => StC.below h hb
   ·rfl
   ·rfl
   ·intro τ w2 hC hF
    simp only [upon]
    go_simp
    exact ⟨Below.refl _ _, rfl⟩
   simp only [put_lit, List.set_cons_succ, List.set_cons_zero]
  apply Staged.walk_det
  ·exact fun τ z1 z2 h hb => StC.below h hb
  ·rfl
  ·rfl
  ·intro τ w2 hC hF
   obtain ⟨y0, y1, y2, y3, y4⟩ := cells5p hC.pv.cell
   unfold ofBlock at y0 y2
   have z2 := (hC.kept.cell (q := ⟨w.heap.size, 2, none⟩) (.inr rfl)).trans x2
   simp only [upon]
   go_simp
   exact ⟨Below.refl _ _, rfl⟩
  simp only [put_lit, List.set_cons_succ, List.set_cons_zero]
  iterate 2
   apply Staged.walk_det
   ·exact fun τ z1 z2 h hb => StC.below h hb
   ·rfl
   ·rfl
   ·intro τ w2 hC hF
    simp only [upon]
    go_simp
    exact ⟨Below.refl _ _, rfl⟩
   simp only [put_lit, List.set_cons_succ, List.set_cons_zero]
  apply Staged.walk_det
  ·exact fun τ z1 z2 h hb => StC.below h hb
  ·rfl
  ·rfl
  ·intro τ w2 hC hF
   obtain ⟨y0, y1, y2, y3, y4⟩ := cells5p hC.pv.cell
   unfold ofBlock at y0 y2
   have z2 := (hC.kept.cell (q := ⟨w.heap.size, 2, none⟩) (.inr rfl)).trans x2
   simp only [upon]
   go_simp
   exact ⟨Below.refl _ _, rfl⟩
  simp only [put_lit, List.set_cons_succ, List.set_cons_zero]
  apply Staged.walk_turn
  ·rfl
  ·rfl
  ·intro w2 hC hF
   simp only [upon]
   go_simp
   exact (e1.out w2 hC).mono (fun e w3 h => ⟨h.1, ⟨h.2.1, h.2.2⟩⟩)
  simp only [put_lit, List.set_cons_succ, List.set_cons_zero]
  iterate 4
   apply Staged.walk_det
   ·exact fun τ z1 z2 h hb => StC.below h hb
   ·rfl
   ·rfl
   ·intro τ w2 hC hF
    simp only [upon]
    go_simp
    exact ⟨Below.refl _ _, rfl⟩
   simp only [put_lit, List.set_cons_succ, List.set_cons_zero]
  apply Staged.walk_nil
  intro a0 ha0 _
  simp only [List.drop_succ_cons, List.drop_zero]
  obtain ⟨y0, y1, y2, y3, y4⟩ := cells5p ha0.pv.cell
  have yf := free_of ha0.pv.cell 4
  replace ha0 : Hid _ := ha0
  go_wp2_with fail
  go_returns
  have hps := ha0.out.pv.stored
  refine ⟨rfl, (hback.out _ _ _ (m + 4) (hps.1.sub hK0P (fun g hg => .inl hg)) (hk0.trans ((ha0.out.kept.trans hps.2).sub (fun g hg => .inl hg))) (hal.out.mono (by omega)) (by omega)).mono (by omega), hBW.trans (ha0.out.kept.trans hps.2).below⟩
end Go.Proofs.YtmcmagplaflegaaGreatDoor
