/-
 bytes.Buffer's Write and Bytes AT THIS DUMP: the kit's contracts in this dump's numbers. Conditions: those of each theorem.
 A JOURNAL's FILE, WRITTEN ANEW: replace; Checkpoint. Conditions: those of each theorem.
 CHECKPOINT OF A JOURNAL; Broken. Conditions: those of each theorem.
 A JOURNAL's DISK THAT MAY FALL, in plain Lean. Conditions: those of each theorem.
 LISTS PUT TOGETHER; a journal's checkpoint while the power stays. Conditions: those of each theorem.
-/
import Derived.Test.YtmcmagplaflegaaGreatDoorProg
import Derived.Shelf.Bytes.WriteAny
import Derived.Shelf.Bytes.Bytes
import Derived.Test.YtmcmagplaflegaaGreatDoorX11
import Derived.Lib.BufferOld
import Derived.WalkSmall
import Derived.Test.YtmcmagplaflegaaGreatDoorX10

namespace Go.Proofs.YtmcmagplaflegaaGreatDoor
open Go Go.Shelf Go.RowKit

def bufWriteL_ren : Go.Shelf.Ren := ⟨fun | 180 => 98 | 251 => 133 | 252 => 134 | 181 => 149 | 184 => 150 | 290 => 151 | 324 => 171 | n => n, fun | 130 => 178 | 37 => 32 | 3 => 3 | 75 => 143 | 0 => 0 | 93 => 141 | 91 => 139 | 131 => 179 | 4 => 4 | 20 => 20 | 5 => 5 | 80 => 220 | 9 => 9 | n => n, fun | 14 => 0 | n => n⟩
theorem bufWriteL : Go.Proofs.LaysM.n180 Tryz.prog bufWriteL_ren := {
 mixed := by kernel_rfl
 f180 := Tryz.func98.trans (congrArg some (by kernel_rfl))
 f181 := Tryz.func149.trans (congrArg some (by kernel_rfl))
 f184 := Tryz.func150.trans (congrArg some (by kernel_rfl))
 f251 := Tryz.func133.trans (congrArg some (by kernel_rfl))
 f252 := Tryz.func134.trans (congrArg some (by kernel_rfl))
 f290 := Tryz.func151.trans (congrArg some (by kernel_rfl))
 f324 := Tryz.func171.trans (congrArg some (by kernel_rfl))
 t0 := Tryz.underlying0
 a0 := Tryz.isAgg0
 z0 := Tryz.sizeOf0
 v0 := Tryz.zeroValue0
 t3 := Tryz.underlying3
 a3 := Tryz.isAgg3
 z3 := Tryz.sizeOf3
 v3 := Tryz.zeroValue3
 t4 := Tryz.underlying4
 a4 := Tryz.isAgg4
 z4 := Tryz.sizeOf4
 v4 := Tryz.zeroValue4
 t20 := Tryz.underlying20
 a20 := Tryz.isAgg20
 z20 := Tryz.sizeOf20
 v20 := Tryz.zeroValue20
 t37 := Tryz.underlying32
 a37 := Tryz.isAgg32
 z37 := Tryz.sizeOf32
 v37 := Tryz.zeroValue32
 t75 := Tryz.underlying143
 a75 := Tryz.isAgg143
 z75 := Tryz.sizeOf143
 v75 := Tryz.zeroValue143
 t91 := Tryz.underlying139
 a91 := Tryz.isAgg139
 z91 := Tryz.sizeOf139
 v91 := Tryz.zeroValue139
 t93 := Tryz.underlying141
 a93 := Tryz.isAgg141
 z93 := Tryz.sizeOf141
 v93 := Tryz.zeroValue141
 t130 := Tryz.underlying178
 a130 := Tryz.isAgg178
 z130 := Tryz.sizeOf178
 v130 := Tryz.zeroValue178
 t131 := Tryz.underlying179
 a131 := Tryz.isAgg179
 z131 := Tryz.sizeOf179
 v131 := Tryz.zeroValue179
 g14 := by kernel_rfl
 t5 := Tryz.underlying5
 a5 := Tryz.isAgg5
 z5 := Tryz.sizeOf5
 v5 := Tryz.zeroValue5
 t9 := Tryz.underlying9
 a9 := Tryz.isAgg9
 z9 := Tryz.sizeOf9
 v9 := Tryz.zeroValue9
 t80 := Tryz.underlying220
 a80 := Tryz.isAgg220
 z80 := Tryz.sizeOf220
 v80 := Tryz.zeroValue220
 i0 := by kernel_rfl
 i3 := by kernel_rfl
 i4 := by kernel_rfl
 i5 := by kernel_rfl
 i9 := by kernel_rfl
 i20 := by kernel_rfl
 i37 := by kernel_rfl
 i75 := by kernel_rfl
 i80 := by kernel_rfl
 i91 := by kernel_rfl
 i93 := by kernel_rfl
 i130 := by kernel_rfl
 i131 := by kernel_rfl
 m14 := by kernel_rfl }
def bufBytesL_ren : Go.Shelf.Ren := ⟨fun | 183 => 99 | n => n, fun | 130 => 178 | 37 => 32 | 0 => 0 | 93 => 141 | 3 => 3 | 5 => 5 | 91 => 139 | n => n, fun | n => n⟩
theorem bufBytesL : Go.Proofs.LaysM.n183 Tryz.prog bufBytesL_ren := {
 mixed := by kernel_rfl
 f183 := Tryz.func99.trans (congrArg some (by kernel_rfl))
 t0 := Tryz.underlying0
 a0 := Tryz.isAgg0
 z0 := Tryz.sizeOf0
 v0 := Tryz.zeroValue0
 t3 := Tryz.underlying3
 a3 := Tryz.isAgg3
 z3 := Tryz.sizeOf3
 v3 := Tryz.zeroValue3
 t37 := Tryz.underlying32
 a37 := Tryz.isAgg32
 z37 := Tryz.sizeOf32
 v37 := Tryz.zeroValue32
 t93 := Tryz.underlying141
 a93 := Tryz.isAgg141
 z93 := Tryz.sizeOf141
 v93 := Tryz.zeroValue141
 t130 := Tryz.underlying178
 a130 := Tryz.isAgg178
 z130 := Tryz.sizeOf178
 v130 := Tryz.zeroValue178
 t5 := Tryz.underlying5
 a5 := Tryz.isAgg5
 z5 := Tryz.sizeOf5
 v5 := Tryz.zeroValue5
 t91 := Tryz.underlying139
 a91 := Tryz.isAgg139
 z91 := Tryz.sizeOf139
 v91 := Tryz.zeroValue139
 i0 := by kernel_rfl
 i3 := by kernel_rfl
 i5 := by kernel_rfl
 i37 := by kernel_rfl
 i91 := by kernel_rfl
 i93 := by kernel_rfl
 i130 := by kernel_rfl }

theorem bufWrite (B b : Nat) (bs cs : List Value) (a : Addr) (n c : Nat) (w : World) (h : Lib.IsBuffer 141 5 B b bs w) (hBw : B ≤ w.heap.size) (h1 : ∀ v ∈ bs, v.oneCell' = true)
  (hn : cs.length = n) (hab : a.block ≠ b) (hsrc : ∀ j v, cs[j]? = some v → w.cell? (a.add j) = some v) (h1c : ∀ v ∈ cs, v.oneCell' = true) (hlim : bs.length + n ≤ 140737488355328) :
  Calls Tryz.prog 98 #[.pointer (some ⟨b, 0, none⟩), .slice (some a) n c] w fun e w' => e = .returned (.tuple #[.int .i64 n, .nilIface]) ∧ Lib.IsBuffer 141 5 B b (bs ++ cs) w' ∧ Below B w w' ∧ Lib.OthersKept 5 (some b) w w' :=
 Any.Buffer_Write_any bufWriteL B b bs cs a n c w h hBw h1 hn hab hsrc h1c hlim
theorem bufBytes (B b : Nat) (bs : List Value) (w : World) (h : Lib.IsBuffer 141 5 B b bs w) :
  Calls Tryz.prog 99 #[.pointer (some ⟨b, 0, none⟩)] w fun e w' => ∃ v, e = .returned v ∧ w'.ownsRow B 5 1 v bs.length bs ∧ ∃ n, w' = w.drewN n :=
 Any.Buffer_Bytes bufBytesL B b bs w h
end Go.Proofs.YtmcmagplaflegaaGreatDoor

namespace Go.Proofs.YtmcmagplaflegaaGreatDoor
open Go Go.RowKit Go.MapL Go.Poised

variable {J p n₀ m : Nat} {j : Jn} {s : DS} {w w' w'' : World} {K K' : Nat → Prop}

/-! ### a list's bytes -/
def listRes (L : List (List Nat)) : List Nat × Int := if 10000 < L.length then ([], 5) else if L.all (fun b => decide (b.length ≤ 262144)) = true then (listB 1 L, 0) else ([], 5)
theorem listRes_ok {L : List (List Nat)} (h1 : L.length ≤ 10000) (h2 : ∀ b ∈ L, b.length ≤ 262144) : listRes L = (listB 1 L, 0) := by
 unfold listRes
 rw [if_neg (by omega), if_pos (List.all_eq_true.2 (fun b hb => decide_eq_true (h2 b hb)))]
theorem own_pos {w : World} {n e z : Nat} {v : Value} {k : Nat} {xs : List Value} (h : w.ownsRow n e z v k xs) (hk : 0 < k) : ∃ g c, v = .slice (some ⟨g, 0, none⟩) k c := by
 rcases h.2 with ⟨_, h0⟩ | ⟨g, c, cu, e, _⟩
 ·omega
 ·exact ⟨g, c, e⟩
theorem oneCell_encB (l : List Nat) : ∀ v ∈ encB l, v.oneCell' = true := by
 intro v hv
 obtain ⟨x, _, rfl⟩ := List.mem_map.1 hv
 rfl
set_option maxRecDepth 100000 in
set_option maxHeartbeats 8000000 in
theorem list_any (v : Value) (L : List (Value × List Nat)) (w : World) (hL : ListIn w v L) (hlen : ∀ q ∈ L, q.2.length ≤ 140737488355328) :
  Calls Tryz.prog 48 #[v] w fun e w' => ∃ u, e = .returned (.tuple #[u, .int .i64 (listRes (L.map (·.2))).2]) ∧ w'.ownsRow w.heap.size 5 1 u (listRes (L.map (·.2))).1.length (encB (listRes (L.map (·.2))).1) ∧ Below w.heap.size w w' := by
 obtain ⟨p, cap, rfl, hc⟩ := hL.shape
 have hLl := hL.len
 by_cases hbig : 10000 < L.length
 ·have hbI : (10000 : Int) < (L.length : Int) := by omega
  have e : listRes (L.map (·.2)) = ([], 5) := by unfold listRes; rw [if_pos (by simpa using hbig)]
  rw [e]
  clear hc e
  replace hL : Hid _ := hL
  go_enter Tryz.func48, Tryz.ntmps48
  go_wp2_with fail
  go_returns
  exact ⟨_, rfl, World.ownsRow_nil _ _ _ _, Below.refl _ _⟩
 ·have hbI : ¬ (10000 : Int) < (L.length : Int) := by omega
  have hnew := Lib.fresh_isBuffer 141 5 w
  obtain ⟨R, hR⟩ : ∃ R, listRes (L.map (·.2)) = R := ⟨_, rfl⟩
  have hbad : Hid (∀ k (hk : k < L.length), 262144 < L[k].2.length → R = ([], 5)) := fun k hk h => by
   rw [← hR]; unfold listRes
   rw [if_neg (by simp; omega), if_neg]
   intro h2
   have := of_decide_eq_true (List.all_eq_true.1 h2 L[k].2 (List.mem_map_of_mem (List.getElem_mem hk)))
   omega
  have hgood : Hid ((∀ k (hk : k < L.length), L[k].2.length ≤ 262144) → R = (listB 1 (L.map (·.2)), 0)) := fun h => by
   rw [← hR]
   refine listRes_ok (by simp; omega) (fun b hb => ?_)
   obtain ⟨q, hq, rfl⟩ := List.mem_map.1 hb
   obtain ⟨k, hk, rfl⟩ := List.mem_iff_getElem.1 hq
   exact h k hk
  rw [hR]
  clear hR
  replace hL : Hid _ := hL
  replace hc : Hid _ := hc
  replace hlen : Hid _ := hlen
  go_enter Tryz.func48, Tryz.ntmps48
  go_wp2_with fail
  go_loopw [14] (fun i wr => ∃ k : Nat, k ≤ L.length ∧ i = .int .i64 k ∧ Lib.IsBuffer 141 5 w.heap.size w.heap.size (encB (listB 1 ((L.take k).map (·.2)))) wr ∧ (∀ i (hi : i < L.length), i < k → L[i].2.length ≤ 262144) ∧ Below w.heap.size w wr) (fun i _ => L.length - (intOf i).toNat)
  case atStart => exact ⟨0, by omega, rfl, hnew, fun _ _ h => by omega, (Below.refl _ _).alloc (Nat.le_refl _) _⟩
  case round =>
   clear hnew
   obtain ⟨k, hk, rfl, hI, hok, hB⟩ := hrel
   replace hok : Hid _ := hok
   by_cases hlt : k < L.length
   ·have hlt' : (k : Int) < (L.length : Int) := by omega
    obtain ⟨B, off, rfl, hcell0⟩ := hc.out k hlt
    have hcell := (hB.cell (p := ⟨B, off + k, none⟩) (lt_of_cell hcell0)).trans hcell0
    have hx := (hL.out.each L[k] (List.getElem_mem hlt)).below hB
    have hxl := hlen.out L[k] (List.getElem_mem hlt)
    obtain ⟨xq, xcap, hxe, _⟩ := bytes_parts hx
    have hrec := record_any ((k : Int) + 1) L[k].1 L[k].2 wr (by omega) (by omega) hx hxl
    have hgw : IntKind.i64.wrap ((k : Int) + 1) = (k : Int) + 1 := IntWalk.i64_in _ (by omega)
    have hbadk := hbad.out k hlt
    have hst : Hid (listB 1 ((L.take (k + 1)).map (·.2)) = listB 1 ((L.take k).map (·.2)) ++ recB (k + 1) L[k].2) := by
     show _ = _
     rw [List.take_succ_eq_append_getElem hlt, List.map_append, List.map_cons, List.map_nil, listB_snoc]
     have : ((L.take k).map (·.2)).length = k := by rw [List.length_map, List.length_take]; omega
     rw [this, Nat.add_comm 1]
    have hBl : (listB 1 ((L.take k).map (·.2))).length ≤ 10000 * 262164 := by
     rw [listB_len]
     refine Nat.le_trans (sizesB_most (c := 262144) _ (fun b hb => ?_)) (Nat.mul_le_mul_right _ ?_)
     ·obtain ⟨q, hq, rfl⟩ := List.mem_map.1 hb
      obtain ⟨i, hi, rfl⟩ := List.mem_iff_getElem.1 hq
      rw [List.getElem_take]
      exact hok.out i (by rw [List.length_take] at hi; omega) (by rw [List.length_take] at hi; omega)
     ·rw [List.length_map, List.length_take]; omega
    rw [hxe] at hcell hrec
    by_cases hl : L[k].2.length ≤ 262144
    ·rw [recRes_ok k _ (by omega) hl] at hrec
     have hRl := recB_len (k + 1) L[k].2
     have hokn : Hid (∀ i (hi : i < L.length), i < k + 1 → L[i].2.length ≤ 262144) := fun i hi h => by
      by_cases e : i = k
      ·subst e; exact hl
      ·exact hok.out i hi (by omega)
     have hRlen : (recB (k + 1) L[k].2).length ≤ 262164 := by omega
     have hRpos : 0 < (recB (k + 1) L[k].2).length := by omega
     clear hbadk hRl
     generalize recB (k + 1) L[k].2 = RB at *
     generalize listB 1 ((L.take k).map (·.2)) = Bk at *
     generalize hqq : L[k] = q at *
     obtain ⟨qv, ql⟩ := q
     simp only at hrec hcell
     clear hqq hxe hx hl
     go_wp2_with (first
      |(go_at_call 45; refine hrec.mono ?_; clear hrec; rintro e w2 ⟨r, rfl, hr, hb2⟩; obtain ⟨rg, rcap, rfl⟩ := own_pos hr hRpos; have hI2 := Lib.IsBuffer.old hI hb2)
      |(go_at_call 98; refine (bufWrite w.heap.size w.heap.size (encB Bk) (encB RB) ⟨rg, 0, none⟩ RB.length rcap w2 hI2 (Nat.le_trans hB.size hb2.size) (oneCell_encB Bk) (encB_len RB) (by have := (hr.lt rg rfl).1; have := hI.lt; show rg ≠ _; omega) (fun jj vv hv => hr.cells (g := rg) rfl jj vv hv) (oneCell_encB RB) (by rw [encB_len]; omega)).mono ?_; rintro e w3 ⟨rfl, hI3, hb3, _⟩))
     go_roundw
     case rel => exact ⟨k + 1, by omega, by go_num, by rw [hst.out, encB_append]; exact hI3, hokn.out, (hB.trans (hb2.mono hB.size)).trans hb3⟩
     case measure => simp [intOf]; omega
    ·have hRe := hbadk (by omega)
     have hre : recRes ((k : Int) + 1) L[k].2 = ([], 5) := by
      unfold recRes; rw [if_neg (by omega), if_pos (by omega)]
     rw [hre] at hrec
     subst hRe
     clear hbadk hre hst hBl
     generalize hqq : L[k] = q at *
     obtain ⟨qv, ql⟩ := q
     simp only at hrec hcell
     go_wp2_with (go_at_call 45; refine hrec.mono ?_; clear hrec; rintro e w2 ⟨r, rfl, hr, hb2⟩; obtain ⟨rq, rcap, rfl⟩ := own_shape hr)
     go_returns
     exact ⟨_, rfl, World.ownsRow_nil _ _ _ _, hB.trans (hb2.mono hB.size)⟩
   ·obtain rfl : k = L.length := by omega
    have hRe := hgood.out (fun i hi => hok.out i hi hi)
    subst hRe
    rw [List.take_length] at hI
    have hby := bufBytes w.heap.size w.heap.size _ wr hI
    rw [encB_len] at hby
    obtain ⟨Bk, hBk⟩ : ∃ Bk, listB 1 (L.map (·.2)) = Bk := ⟨_, rfl⟩
    rw [hBk] at hby
    replace hBk : Hid _ := hBk
    go_wp2_with (go_at_call 99; refine hby.mono ?_; clear hby; rintro e w2 ⟨u, rfl, hu, nd, rfl⟩; obtain ⟨uq, ucap, rfl⟩ := own_shape hu)
    go_returns
    rw [hBk.out]
    exact ⟨_, rfl, hu, hB.trans (below_drewN (Below.refl _ _) _)⟩

/-! ### replace -/
def replD (s : DS) (l : List Nat) : DS × Int := thenD (thenD (thenD (s.append jM l) (fun s => s.sync jM)) (fun s => s.rename jM jN)) DS.syncNames
theorem replD_eq {l : List Nat} {q1 q2 q3 : DS × Int} (h1 : s.append jM l = q1) (h2 : thenD q1 (fun s => s.sync jM) = q2) (h3 : thenD q2 (fun s => s.rename jM jN) = q3) : replD s l = thenD q3 DS.syncNames := by
 unfold replD; rw [h1, h2, h3]
set_option maxRecDepth 100000 in
set_option maxHeartbeats 4000000 in
theorem replA_any (D Bb : Nat) (u : Value) (l : List Nat) (h : Live w p n₀ m s K) (hm : m < 268435456) (_ : K D) (hc : w.heap[D]? = some (.cells #[ofBlock p] 24)) (hb : w.heap[Bb]? = some (.cells #[u] 32))
  (hl : ∀ x ∈ l, x < 256) (hlen : l.length ≤ 4611686018427387904) (hv : ∀ w', Kept K n₀ w w' → BytesIn w' u l) :
  Calls Tryz.prog 100 #[.pointer (some ⟨D, 0, none⟩), .pointer (some ⟨Bb, 0, none⟩)] w fun e w' => e = .returned (.int .i64 (s.append jM l).2) ∧ Live w' p n₀ (m + 2) (s.append jM l).1 K ∧ Kept K n₀ w w' := by
 have hcell := cell_of hc
 have hcell2 := cell_of hb
 obtain ⟨uq, ucap, rfl, _⟩ := bytes_parts (hv w (Kept.refl _ _ _))
 have hap := live_append jM (.slice uq l.length ucap) l h (by omega) hl hlen hv
 obtain ⟨q, hq⟩ : ∃ q, s.append jM l = q := ⟨_, rfl⟩
 rw [hq] at hap ⊢
 clear hc hb h hv hl hlen hq
 unfold ofBlock at *
 go_enter Tryz.func100, Tryz.ntmps100
 go_wp2_with (go_at_call 47; refine hap.mono ?_; clear hap; rintro e w1 ⟨rfl, hL1, hK1⟩)
 go_returns
 exact ⟨rfl, hL1, hK1⟩
set_option maxRecDepth 100000 in
set_option maxHeartbeats 4000000 in
theorem replS_any (D : Nat) (h : Live w p n₀ m s K) (hm : m < 268435456) (hc : w.heap[D]? = some (.cells #[ofBlock p] 24)) :
  Calls Tryz.prog 101 #[.pointer (some ⟨D, 0, none⟩)] w fun e w' => e = .returned (.int .i64 (s.sync jM).2) ∧ Live w' p n₀ m (s.sync jM).1 K ∧ Kept K n₀ w w' := by
 have hcell := cell_of hc
 have hap := live_sync jM h (by omega)
 obtain ⟨q, hq⟩ : ∃ q, s.sync jM = q := ⟨_, rfl⟩
 rw [hq] at hap ⊢
 clear hc h hq
 unfold ofBlock at *
 go_enter Tryz.func101, Tryz.ntmps101
 go_wp2_with (go_at_call 42; refine hap.mono ?_; clear hap; rintro e w1 ⟨rfl, hL1, hK1⟩)
 go_returns
 exact ⟨rfl, hL1, hK1⟩
set_option maxRecDepth 100000 in
set_option maxHeartbeats 4000000 in
theorem replR_any (D : Nat) (h : Live w p n₀ m s K) (hm : m < 268435456) (hc : w.heap[D]? = some (.cells #[ofBlock p] 24)) :
  Calls Tryz.prog 102 #[.pointer (some ⟨D, 0, none⟩)] w fun e w' => e = .returned (.int .i64 (s.rename jM jN).2) ∧ Live w' p n₀ (m + 1) (s.rename jM jN).1 K ∧ Kept K n₀ w w' := by
 have hcell := cell_of hc
 have hap := live_rename jM jN h (by omega)
 obtain ⟨q, hq⟩ : ∃ q, s.rename jM jN = q := ⟨_, rfl⟩
 rw [hq] at hap ⊢
 clear hc h hq
 unfold ofBlock at *
 go_enter Tryz.func102, Tryz.ntmps102
 go_wp2_with (go_at_call 103; refine hap.mono ?_; clear hap; rintro e w1 ⟨rfl, hL1, hK1⟩)
 go_returns
 exact ⟨rfl, hL1, hK1⟩
/-- The four works. -/
def replWs (p D Bb : Nat) : List Wk := [⟨100, #[], #[.pointer (some ⟨D, 0, none⟩), .pointer (some ⟨Bb, 0, none⟩)]⟩, ⟨101, #[], #[.pointer (some ⟨D, 0, none⟩)]⟩, ⟨102, #[], #[.pointer (some ⟨D, 0, none⟩)]⟩, ⟨43, #[ofBlock p], #[]⟩]
structure RI (K : Nat → Prop) (p n₀ m : Nat) (wD : World) (q : DS × Int) (w' : World) : Prop where
 zero : q.2 = 0
 live : Live w' p n₀ m q.1 K
 kept : Kept K n₀ wD w'
structure RQ (K : Nat → Prop) (p n₀ m : Nat) (wD : World) (q : DS × Int) (c : Int) (w' : World) : Prop where
 code : c = q.2
 live : Live w' p n₀ m q.1 K
 kept : Kept K n₀ wD w'
theorem repl_works (D Bb WB : Nat) (u : Value) (l : List Nat) (wD : World) (h : Live wD p n₀ m s K) (hm : m < 134217728) (hD : K D) (hB : K Bb) (hWB : K WB)
  (hc : wD.heap[D]? = some (.cells #[ofBlock p] 24)) (hb : wD.heap[Bb]? = some (.cells #[u] 32)) (hW : wD.heap[WB]? = some (.cells ((replWs p D Bb).map Wk.v).toArray 61))
  (hl : ∀ x ∈ l, x < 256) (hlen : l.length ≤ 4611686018427387904) (hv : ∀ w', Kept K n₀ wD w' → BytesIn w' u l) :
  Calls Tryz.prog 34 #[.slice (some ⟨WB, 0, none⟩) 4 4] wD fun e w' => e = .returned (.int .i64 (replD s l).2) ∧ Live w' p n₀ (m + 3) (replD s l).1 K ∧ Kept K n₀ wD w' := by
 have hDk : ∀ {w'}, Kept K n₀ wD w' → w'.heap[D]? = some (.cells #[ofBlock p] 24) := fun hk => (hk.same D hD).trans hc
 obtain ⟨q1, hq1⟩ : ∃ q1, s.append jM l = q1 := ⟨_, rfl⟩
 obtain ⟨q2, hq2⟩ : ∃ q2, thenD q1 (fun s => s.sync jM) = q2 := ⟨_, rfl⟩
 obtain ⟨q3, hq3⟩ : ∃ q3, thenD q2 (fun s => s.rename jM jN) = q3 := ⟨_, rfl⟩
 obtain ⟨q4, hq4⟩ : ∃ q4, replD s l = q4 := ⟨_, rfl⟩
 have hq4' := (replD_eq hq1 hq2 hq3).symm.trans hq4
 rw [hq4]
 have key : Calls Tryz.prog 34 #[.slice (some ⟨WB, 0, none⟩) (replWs p D Bb).length 4] wD fun e w' => ∃ c : Int, e = .returned (.int .i64 c) ∧ (c = 0 → (RI K p n₀ (m + 3) wD q4 w')) ∧ (c ≠ 0 → RQ K p n₀ (m + 3) wD q4 c w') := by
  refine first_any (replWs p D Bb) WB 4 (fun k w' => match k with
    | 0 => RI K p n₀ m wD (s, 0) w'
    | 1 => RI K p n₀ (m + 2) wD q1 w'
    | 2 => RI K p n₀ (m + 2) wD q2 w'
    | 3 => RI K p n₀ (m + 3) wD q3 w'
    | _ => RI K p n₀ (m + 3) wD q4 w')
   (fun c w' => RQ K p n₀ (m + 3) wD q4 c w') wD ⟨rfl, h, Kept.refl _ _ _⟩ (by show 4 ≤ 100; omega) ?_ ?_ ?_
  ·intro k hk
   have hk4 : k < 4 := hk
   rcases k with _ | _ | _ | _ | k
   ·exact enters_of Tryz.func100 (by kernel_rfl) rfl
   ·exact enters_of Tryz.func101 (by kernel_rfl) rfl
   ·exact enters_of Tryz.func102 (by kernel_rfl) rfl
   ·exact enters_of Tryz.func43 (by kernel_rfl) rfl
   ·omega
  ·intro k w' hI hk
   have hkept : Kept K n₀ wD w' := by
    rcases k with _ | _ | _ | _ | k
    ·exact hI.kept
    ·exact hI.kept
    ·exact hI.kept
    ·exact hI.kept
    ·exact hI.kept
   have := (hkept.same WB hWB).trans hW
   simp only [World.cell?, this, Option.isSome_none, Bool.false_eq_true, if_false]
   simp [hk]
  ·intro k w' hk hI
   have hk4 : k < 4 := hk
   rcases k with _ | _ | _ | _ | k
   ·have hI : RI K p n₀ m wD (s, 0) w' := hI
    refine (replA_any D Bb u l hI.live (by omega) hD (hDk hI.kept) ((hI.kept.same Bb hB).trans hb) hl hlen (fun w2 hk2 => hv w2 (hI.kept.trans hk2))).mono ?_
    rintro e w1 ⟨rfl, hL1, hK1⟩
    rw [hq1] at hL1 ⊢
    refine ⟨_, rfl, fun h0 => ⟨h0, hL1, hI.kept.trans hK1⟩, fun h0 => ?_⟩
    rw [thenD_no h0] at hq2
    subst hq2
    rw [thenD_no h0] at hq3
    subst hq3
    rw [thenD_no h0] at hq4'
    subst hq4'
    exact ⟨rfl, hL1.mono (by omega), hI.kept.trans hK1⟩
   ·have hI : RI K p n₀ (m + 2) wD q1 w' := hI
    rw [thenD_yes hI.zero] at hq2
    refine (replS_any D hI.live (by omega) (hDk hI.kept)).mono ?_
    rintro e w1 ⟨rfl, hL1, hK1⟩
    rw [hq2] at hL1 ⊢
    refine ⟨_, rfl, fun h0 => ⟨h0, hL1, hI.kept.trans hK1⟩, fun h0 => ?_⟩
    rw [thenD_no h0] at hq3
    subst hq3
    rw [thenD_no h0] at hq4'
    subst hq4'
    exact ⟨rfl, hL1.mono (by omega), hI.kept.trans hK1⟩
   ·have hI : RI K p n₀ (m + 2) wD q2 w' := hI
    rw [thenD_yes hI.zero] at hq3
    refine (replR_any D hI.live (by omega) (hDk hI.kept)).mono ?_
    rintro e w1 ⟨rfl, hL1, hK1⟩
    rw [hq3] at hL1 ⊢
    refine ⟨_, rfl, fun h0 => ⟨h0, hL1, hI.kept.trans hK1⟩, fun h0 => ?_⟩
    rw [thenD_no h0] at hq4'
    subst hq4'
    exact ⟨rfl, hL1, hI.kept.trans hK1⟩
   ·have hI : RI K p n₀ (m + 3) wD q3 w' := hI
    rw [thenD_yes hI.zero] at hq4'
    refine (live_syncNames hI.live (by omega)).mono ?_
    rintro e w1 ⟨rfl, hL1, hK1⟩
    rw [hq4'] at hL1 ⊢
    exact ⟨_, rfl, fun h0 => ⟨h0, hL1, hI.kept.trans hK1⟩, fun h0 => ⟨rfl, hL1, hI.kept.trans hK1⟩⟩
   ·omega
 refine key.mono ?_
 rintro e w' ⟨c, rfl, h0, h1⟩
 by_cases hz : c = 0
 ·obtain ⟨a, b, d⟩ := h0 hz
  exact ⟨by rw [hz, a], b, d⟩
 ·obtain ⟨a, b, d⟩ := h1 hz
  exact ⟨by rw [a], b, d⟩
/-- The memory that replace has made ahead of its works. -/
def replW (p : Nat) (u : Value) (w : World) : World := ((w.alloc (.cells #[ofBlock p] 24)).alloc (.cells #[u] 32)).alloc (.cells #[.func (.func 100) #[] #[.pointer (some ⟨w.heap.size, 0, none⟩), .pointer (some ⟨w.heap.size + 1, 0, none⟩)], .func (.func 101) #[] #[.pointer (some ⟨w.heap.size, 0, none⟩)], .func (.func 102) #[] #[.pointer (some ⟨w.heap.size, 0, none⟩)], .func (.func 43) #[.pointer (some ⟨p, 0, none⟩)] #[]] 61)
theorem repl_all (u : Value) (l : List Nat) (h : Live w p n₀ m s K) (hm : m < 134217728) (hl : ∀ x ∈ l, x < 256) (hlen : l.length ≤ 4611686018427387904) (hv : ∀ w', Kept K n₀ w w' → BytesIn w' u l) :
  Calls Tryz.prog 34 #[.slice (some ⟨w.heap.size + 2, 0, none⟩) 4 4] (replW p u w) fun e w' => e = .returned (.int .i64 (replD s l).2) ∧ Live w' p n₀ (m + 3) (replD s l).1 K ∧ Kept K n₀ w w' := by
 have hB : Below w.heap.size w (replW p u w) := (((Below.refl _ _).alloc (Nat.le_refl _) _).alloc (by simp) _).alloc (by simp; omega) _
 have hz : (replW p u w).heap.size = w.heap.size + 3 := by simp [replW]
 have hk0 := h.kept hB
 have hD : (replW p u w).heap[w.heap.size]? = some (.cells #[ofBlock p] 24) := (Below.heap_alloc _ _ _ (by simp; omega)).trans ((Below.heap_alloc _ _ _ (by simp)).trans (heap_new _ _))
 have hBb : (replW p u w).heap[w.heap.size + 1]? = some (.cells #[u] 32) := by
  refine (Below.heap_alloc _ _ _ (by simp)).trans ?_
  have := heap_new (w.alloc (.cells #[ofBlock p] 24)) (.cells #[u] 32)
  rw [World.size_alloc] at this
  exact this
 have hWW : (replW p u w).heap[w.heap.size + 2]? = some (.cells ((replWs p w.heap.size (w.heap.size + 1)).map Wk.v).toArray 61) := by
  have := heap_new ((w.alloc (.cells #[ofBlock p] 24)).alloc (.cells #[u] 32)) (.cells #[.func (.func 100) #[] #[.pointer (some ⟨w.heap.size, 0, none⟩), .pointer (some ⟨w.heap.size + 1, 0, none⟩)], .func (.func 101) #[] #[.pointer (some ⟨w.heap.size, 0, none⟩)], .func (.func 102) #[] #[.pointer (some ⟨w.heap.size, 0, none⟩)], .func (.func 43) #[.pointer (some ⟨p, 0, none⟩)] #[]] 61)
  rw [World.size_alloc, World.size_alloc] at this
  exact this
 have hL : Live (replW p u w) p n₀ m s (fun g => K g ∨ g = w.heap.size ∨ g = w.heap.size + 1 ∨ g = w.heap.size + 2) := h.more hB (fun g hg => by
  rcases hg with hg | rfl | rfl | rfl
  ·exact .inl hg
  ·exact .inr ⟨Nat.le_refl _, by omega⟩
  ·exact .inr ⟨by omega, by omega⟩
  ·exact .inr ⟨by omega, by omega⟩)
 refine (repl_works w.heap.size (w.heap.size + 1) (w.heap.size + 2) u l (replW p u w) hL hm (.inr (.inl rfl)) (.inr (.inr (.inl rfl))) (.inr (.inr (.inr rfl))) hD hBb hWW hl hlen (fun w2 hk => hv w2 (hk0.trans (hk.sub (fun g hg => .inl hg))))).mono ?_
 rintro e w' ⟨h1, h2, h3⟩
 exact ⟨h1, h2.sub (fun g hg => .inl hg), hk0.trans (h3.sub (fun g hg => .inl hg))⟩
set_option maxRecDepth 100000 in
set_option maxHeartbeats 4000000 in
theorem replace_any (u : Value) (l : List Nat) (h : Live w p n₀ m s K) (hm : m < 134217728) (hl : ∀ x ∈ l, x < 256) (hlen : l.length ≤ 4611686018427387904) (hv : ∀ w', Kept K n₀ w w' → BytesIn w' u l) :
  Calls Tryz.prog 49 #[ofBlock p, u] w fun e w' => e = .returned (.int .i64 (replD s l).2) ∧ Live w' p n₀ (m + 3) (replD s l).1 K ∧ Kept K n₀ w w' := by
 have hmf : ∀ (fn : Fn) (first cap : Array Value) (w : World), (Instr.makeFunc fn first cap).run Tryz.prog w = .ok (.func fn first cap) w := fun _ _ _ _ => rfl
 have hall := repl_all u l h hm hl hlen hv
 obtain ⟨uq, ucap, rfl, _⟩ := bytes_parts (hv w (Kept.refl _ _ _))
 obtain ⟨q, hq⟩ : ∃ q, replD s l = q := ⟨_, rfl⟩
 rw [hq] at hall ⊢
 clear hq h hl hlen hv
 unfold replW at hall
 unfold ofBlock at *
 go_enter Tryz.func49, Tryz.ntmps49
 go_wp2_with (go_at_call 34; refine hall.mono ?_; clear hall; rintro e w1 ⟨rfl, hL1, hK1⟩)
 go_returns
 exact ⟨rfl, hL1, hK1⟩
end Go.Proofs.YtmcmagplaflegaaGreatDoor

namespace Go.Proofs.YtmcmagplaflegaaGreatDoor
open Go Go.RowKit Go.MapL Go.Poised

variable {J p n₀ m : Nat} {j : Jn} {w w' w'' : World} {K K' : Nat → Prop}
def Jn.checkpoint (j : Jn) (L : List (List Nat)) : Jn × Int :=
 if j.br = true then (j, 51) else if (listRes L).2 = 0 then j.after (replD j.s (listRes L).1) (fun j => { j with many := L.length, kept := L.length }) else (j, (listRes L).2)
theorem listRes_byte {L : List (List Nat)} (h : ∀ l ∈ L, ∀ x ∈ l, x < 256) : (∀ x ∈ (listRes L).1, x < 256) ∧ (listRes L).1.length ≤ 2621640000 := by
 unfold listRes
 split
 ·exact ⟨fun x hx => by simp at hx, by simp⟩
 ·rename_i h1
  split
  ·rename_i h2
   refine ⟨listB_byte L 1 h, ?_⟩
   show (listB 1 L).length ≤ _
   rw [listB_len]
   have h3 := sizesB_most L (c := 262144) (fun b hb => of_decide_eq_true (List.all_eq_true.1 h2 b hb))
   have h4 : L.length * (262144 + 20) ≤ 10000 * 262164 := Nat.mul_le_mul_right _ (by omega)
   omega
  ·exact ⟨fun x hx => by simp at hx, by simp⟩
set_option maxRecDepth 100000 in
set_option maxHeartbeats 8000000 in
theorem jcheckpoint_any (v : Value) (L : List (Value × List Nat)) (h : JLive w J p n₀ m j K) (hm : m < 134217728) (hL : ListIn w v L) (hlen : ∀ q ∈ L, q.2.length ≤ 140737488355328) :
  Calls Tryz.prog 12 #[ofBlock J, v] w fun e w' => e = .returned (.int .i64 (j.checkpoint (L.map (·.2))).2) ∧ JLive w' J p n₀ (m + 3) (j.checkpoint (L.map (·.2))).1 K ∧ Kept K n₀ w w' := by
 obtain ⟨vp, vcap, rfl, _⟩ := hL.shape
 have hLl := hL.len
 have hJ := h.jnl
 obtain ⟨x0, x1, x2, x3⟩ := cells4 hJ
 have hJl := (Array.getElem?_eq_some_iff.1 hJ).1
 unfold Jn.checkpoint
 cases hbr : j.br
 ·rw [hbr] at hJ
  have hs := shut_any w J p j.many j.kept false hJ
  have hr := list_any _ L w hL hlen
  obtain ⟨hrb, hrl⟩ := listRes_byte (L := L.map (·.2)) (fun l hl => by
   obtain ⟨q, hq, rfl⟩ := List.mem_map.1 hl
   exact (hL.each q hq).1)
  obtain ⟨N, hN⟩ : ∃ N, L.length = N := ⟨_, rfl⟩
  have hN2 : (L.map (·.2)).length = N := by rw [List.length_map, hN]
  rw [hN2]
  rw [hN] at hr hLl ⊢
  obtain ⟨q, hq⟩ : ∃ q, listRes (L.map (·.2)) = q := ⟨_, rfl⟩
  obtain ⟨rb, rc⟩ := q
  rw [hq] at hr hrb hrl ⊢
  simp only [Bool.false_eq_true, if_false] at hs hr hrb hrl ⊢
  clear hq hN hN2 hlen
  have h' : Hid _ := h
  have hrb' : Hid _ := hrb
  clear h hL hrb
  by_cases hz : rc = 0
  ·subst hz
   simp only [if_true]
   obtain ⟨Q, hQ⟩ : ∃ Q, replD j.s rb = Q := ⟨_, rfl⟩
   have hap : Hid _ := fun W (u : Value) (hb : Below w.heap.size w W) (hrow : W.ownsRow w.heap.size 5 1 u rb.length (encB rb)) => replace_any (w := W) (K := fun g => (K g ∨ g = J) ∨ rowK u g) u rb (h'.out.live.more hb (fun g hg => by
     rcases hg with hg | hg
     ·exact .inl hg
     ·exact .inr (hrow.lt g hg))) (by omega) hrb'.out (by omega) (fun w2 hk => row_bytes (hk.row hrow (fun g hg => .inr hg)) hrb'.out (by omega))
   rw [hQ] at hap ⊢
   obtain ⟨s2, c⟩ := Q
   clear hQ
   unfold Jn.after
   simp only
   by_cases hc0 : c = 0
   ·subst hc0
    simp only [if_true]
    unfold ofBlock at *
    go_enter Tryz.func12, Tryz.ntmps12
    go_wp2_with (first
     |(go_at_call 44; refine hs.mono ?_; clear hs; rintro e w1 ⟨rfl, rfl⟩)
     |(go_at_call 48; refine hr.mono ?_; clear hr; rintro e w2 ⟨u, rfl, hu, hb2⟩; obtain ⟨uq, ucap, rfl⟩ := own_shape hu; have hJ2 := (hb2.block _ hJl).trans hJ; obtain ⟨y0, y1, y2, y3⟩ := cells4 hJ2)
     |(go_at_call 49; refine (hap.out _ _ hb2 hu).mono ?_; rintro e w3 ⟨rfl, hL3, hK3⟩; have hJ3 := (hK3.same J (.inl (.inr rfl))).trans hJ2; obtain ⟨z0, z1, z2, z3⟩ := cells4 hJ3; have hzf := free_of hJ3 1; have hzg := free_of hJ3 2; have haf := after_fine w3 J 0 (.inl rfl))
     |(go_at_call 46; refine haf.mono ?_; rintro e w4 ⟨rfl, rfl⟩))
    go_returns
    have hjl : JLive _ J p n₀ (m + 3) { j with s := s2 } K := ⟨hL3.sub (fun g hg => .inl hg), by rw [← hbr] at hJ3; exact hJ3, h'.out.base, h'.out.out⟩
    obtain ⟨k1, k2⟩ := JLive.write (j := { j with s := s2 }) (j' := { j with s := s2, many := N, kept := N }) rfl hjl (by rw [hbr]; exact (setCell_heap (setCell_heap hJ3)).trans rfl) ((jset (B := J) (i := 1) (v := .int .i64 (N : Int))).setCell (p := ⟨J, 2, none⟩) (.inl rfl) (.int .i64 (N : Int)))
    exact ⟨rfl, k1, ((h'.out.kept hb2).trans (hK3.sub (fun g hg => .inl (.inl hg)))).trans k2⟩
   ·by_cases hc1 : c = 52
    ·subst hc1
     simp only [if_true, show ((52 : Int) = 0) = False from by simp, if_false]
     unfold ofBlock at *
     go_enter Tryz.func12, Tryz.ntmps12
     go_wp2_with (first
      |(go_at_call 44; refine hs.mono ?_; clear hs; rintro e w1 ⟨rfl, rfl⟩)
      |(go_at_call 48; refine hr.mono ?_; clear hr; rintro e w2 ⟨u, rfl, hu, hb2⟩; obtain ⟨uq, ucap, rfl⟩ := own_shape hu; have hJ2 := (hb2.block _ hJl).trans hJ; obtain ⟨y0, y1, y2, y3⟩ := cells4 hJ2)
      |(go_at_call 49; refine (hap.out _ _ hb2 hu).mono ?_; rintro e w3 ⟨rfl, hL3, hK3⟩; have hJ3 := (hK3.same J (.inl (.inr rfl))).trans hJ2; have haf := after_fine w3 J 52 (.inr rfl))
      |(go_at_call 46; refine haf.mono ?_; rintro e w4 ⟨rfl, rfl⟩))
     go_returns
     exact ⟨rfl, ⟨hL3.sub (fun g hg => .inl hg), by rw [hbr]; exact hJ3, h'.out.base, h'.out.out⟩, (h'.out.kept hb2).trans (hK3.sub (fun g hg => .inl (.inl hg)))⟩
    ·simp only [hc0, hc1, if_false]
     unfold ofBlock at *
     go_enter Tryz.func12, Tryz.ntmps12
     go_wp2_with (first
      |(go_at_call 44; refine hs.mono ?_; clear hs; rintro e w1 ⟨rfl, rfl⟩)
      |(go_at_call 48; refine hr.mono ?_; clear hr; rintro e w2 ⟨u, rfl, hu, hb2⟩; obtain ⟨uq, ucap, rfl⟩ := own_shape hu; have hJ2 := (hb2.block _ hJl).trans hJ; obtain ⟨y0, y1, y2, y3⟩ := cells4 hJ2)
      |(go_at_call 49; refine (hap.out _ _ hb2 hu).mono ?_; rintro e w3 ⟨rfl, hL3, hK3⟩; have hJ3 := (hK3.same J (.inl (.inr rfl))).trans hJ2; have haf := after_broken w3 J p j.many j.kept false c hJ3 hc0 hc1)
      |(go_at_call 46; refine haf.mono ?_; clear haf; rintro e w4 ⟨rfl, hJ4, hG4⟩))
     go_returns
     have hjl : JLive _ J p n₀ (m + 3) { j with s := s2 } K := ⟨hL3.sub (fun g hg => .inl hg), by rw [hbr]; exact hJ3, h'.out.base, h'.out.out⟩
     obtain ⟨k1, k2⟩ := JLive.write (j := { j with s := s2 }) (j' := { j with s := s2, br := true }) rfl hjl hJ4 hG4
     exact ⟨rfl, k1, ((h'.out.kept hb2).trans (hK3.sub (fun g hg => .inl (.inl hg)))).trans k2⟩
  ·simp only [hz, if_false]
   have hzb : (rc != 0) = true := by simpa using hz
   unfold ofBlock at *
   go_enter Tryz.func12, Tryz.ntmps12
   go_wp2_with (first
    |(go_at_call 44; refine hs.mono ?_; clear hs; rintro e w1 ⟨rfl, rfl⟩)
    |(go_at_call 48; refine hr.mono ?_; clear hr; rintro e w2 ⟨u, rfl, hu, hb2⟩; obtain ⟨uq, ucap, rfl⟩ := own_shape hu))
   go_returns
   exact ⟨rfl, (h'.out.below hb2).mono (by omega), h'.out.kept hb2⟩
 ·rw [hbr] at hJ
  have hs := shut_any w J p j.many j.kept true hJ
  simp only [if_true] at hs ⊢
  clear hL hlen
  replace h : Hid _ := h
  unfold ofBlock at *
  go_enter Tryz.func12, Tryz.ntmps12
  go_wp2_with (go_at_call 44; refine hs.mono ?_; clear hs; rintro e w1 ⟨rfl, rfl⟩)
  go_returns
  exact ⟨rfl, h.out.mono (by omega), Kept.refl _ _ _⟩
set_option maxRecDepth 100000 in
set_option maxHeartbeats 2000000 in
theorem broken_any (w : World) (J d many kept : Nat) (br : Bool) (h : JnlAt w J d many kept br) :
  Calls Tryz.prog 18 #[ofBlock J] w fun e w' => e = .returned (.bool br) ∧ w' = w := by
 have hs := shut_any w J d many kept br h
 clear h
 unfold ofBlock at *
 cases br
 ·simp only [Bool.false_eq_true, if_false] at hs ⊢
  go_enter Tryz.func18, Tryz.ntmps18
  go_wp2_with (go_at_call 44; refine hs.mono ?_; clear hs; rintro e w' ⟨rfl, rfl⟩)
  go_returns
  exact ⟨rfl, rfl⟩
 ·simp only [if_true] at hs ⊢
  go_enter Tryz.func18, Tryz.ntmps18
  go_wp2_with (go_at_call 44; refine hs.mono ?_; clear hs; rintro e w' ⟨rfl, rfl⟩)
  go_returns
  exact ⟨rfl, rfl⟩
end Go.Proofs.YtmcmagplaflegaaGreatDoor

namespace Go.Proofs.YtmcmagplaflegaaGreatDoor
open Go Go.RowKit Go.MapL Go.Poised

variable {s : DS} {i mark : Nat} {B : List Nat}

/-! ### what a fall leaves -/
theorem crashFiles_file (keep : List Int) : ∀ (l : List Nat) (s : DS) (k : Nat), l.Nodup → ∀ j, (j ∉ l → (crashFiles keep s k l).file j = s.file j) ∧
  (j ∈ l → ∃ x, x ≤ (s.file j).b.length - (s.file j).mark ∧ (crashFiles keep s k l).file j = ⟨(s.file j).b.take ((s.file j).mark + x), (s.file j).mark + x⟩)
 | [], s, k, _, j => ⟨fun _ => rfl, fun h => by cases h⟩
 | i :: l, s, k, hn, j => by
  obtain ⟨h1, h2⟩ := crashFiles_file keep l (crashFile keep s k i) (k + 1) (List.nodup_cons.1 hn).2 j
  have hi := (List.nodup_cons.1 hn).1
  by_cases e : j = i
  ·subst e
   refine ⟨fun h => absurd (List.mem_cons_self ..) h, fun _ => ⟨brought keep (1 + k) ((s.file j).b.length - (s.file j).mark), brought_le _ _ _, ?_⟩⟩
   show (crashFiles keep (crashFile keep s k j) (k + 1) l).file j = _
   rw [h1 hi]
   unfold crashFile
   simp only [upd_same]
  ·have e2 : (crashFile keep s k i).file j = s.file j := by unfold crashFile; exact upd_other _ _ e
   rw [e2] at h1 h2
   refine ⟨fun h => h1 (fun hm => h (.tail _ hm)), fun h => ?_⟩
   rcases List.mem_cons.1 h with h | h
   ·exact absurd h e
   ·exact h2 h
/-- The names are those of "journal", the i-th file, and perhaps of a new one. -/
def NamesOk (i : Nat) (l : List (ByteArray × Nat)) : Prop := l = [(jN, i)] ∨ ∃ i', i' ≠ i ∧ l = [(jN, i), (jM, i')]
/-- A disk behind a fall, or behind what was begun behind it: "journal", the i-th file, has just the bytes B, all of them synced. -/
structure Rest (s : DS) (i : Nat) (B : List Nat) : Prop where
 dead : s.dead = false
 file : s.file i = ⟨B, B.length⟩
 low : 1 ≤ i
 high : i ≤ s.births
 after : ∀ n, NamesOk i (after s n)
theorem take_add {B : List Nat} {mark x : Nat} (hm : mark ≤ B.length) (hx : x ≤ B.length - mark) : (B.take (mark + x)).length = mark + x := by rw [List.length_take]; omega
/-- What a fall leaves of "journal". -/
theorem fall {n : Nat} (hd : s.dead = false) (hf : s.file i = ⟨B, mark⟩) (hm : mark ≤ B.length) (h1 : 1 ≤ i) (h2 : i ≤ s.births) (keep : List Int) (hn : brought keep 0 s.works.length = n) (ha : NamesOk i (after s n)) :
  (s.crash keep).dead = true ∧ (s.crash keep).boot.names = (s.crash keep).boot.kept ∧ (s.crash keep).boot.works = [] ∧ (s.crash keep).room = s.room ∧ (s.crash keep).births = s.births ∧ NamesOk i (s.crash keep).boot.names ∧
   ∃ x, x ≤ B.length - mark ∧ Rest (s.crash keep).boot i (B.take (mark + x)) := by
 obtain ⟨p1, p2, p3, p4, p5⟩ : ((s.crash keep).dead = true ∧ (s.crash keep).boot.names = after s n ∧ (s.crash keep).boot.kept = after s n ∧ (s.crash keep).boot.works = []) ∧ (s.crash keep).room = s.room ∧ (s.crash keep).births = s.births ∧
   (s.crash keep).boot.dead = false ∧ (s.crash keep).file i = (crashFiles keep s 0 (rising ((after s n).map (·.2)))).file i := by
  have hs := crashFiles_same keep (rising ((after s n).map (·.2))) s 0
  unfold DS.crash DS.boot
  rw [if_neg (by rw [hd]; simp), hn]
  exact ⟨⟨rfl, rfl, rfl, rfl⟩, hs.2.1, hs.1, rfl, rfl⟩
 obtain ⟨p1, q1, q2, q3⟩ := p1
 have hnd : (rising ((after s n).map (·.2))).Nodup := by
  refine (rising_perm _).nodup_iff.2 ?_
  rcases ha with e | ⟨i', h, e⟩
  ·rw [e]; simp
  ·rw [e]; simp [Ne.symm h]
 have hmem : i ∈ rising ((after s n).map (·.2)) := by
  refine (rising_perm _).mem_iff.2 ?_
  rcases ha with e | ⟨i', h, e⟩
  ·rw [e]; simp
  ·rw [e]; simp
 obtain ⟨x, hx, hfx⟩ := (crashFiles_file keep _ s 0 hnd i).2 hmem
 rw [hf] at hx hfx
 refine ⟨p1, q1.trans q2.symm, q3, p2, p3, by rw [q1]; exact ha, x, hx, p4, ?_, h1, ?_, fun k => ?_⟩
 ·show (s.crash keep).file i = _
  rw [p5, hfx, take_add hm hx]
 ·show i ≤ (s.crash keep).births
  rw [p3]; exact h2
 ·unfold Go.Proofs.YtmcmagplaflegaaGreatDoor.after
  rw [q3, q2]
  simp only [List.take_nil, List.foldl_nil]
  exact ha
/-- A disk behind a fall, nothing begun yet. -/
structure Wake (s : DS) (i : Nat) (B : List Nat) : Prop where
 rest : Rest s i B
 same : s.names = s.kept
 works : s.works = []
 ok : NamesOk i s.names
structure Woken (s : DS) (i : Nat) (B : List Nat) : Prop extends Wake s i B where
 fails : s.fails = -1
theorem fall_woken {n : Nat} (hd : s.dead = false) (hf : s.file i = ⟨B, mark⟩) (hm : mark ≤ B.length) (h1 : 1 ≤ i) (h2 : i ≤ s.births) (keep : List Int) (hn : brought keep 0 s.works.length = n) (ha : NamesOk i (after s n)) :
  (s.crash keep).dead = true ∧ (s.crash keep).room = s.room ∧ (s.crash keep).births = s.births ∧ ∃ x, x ≤ B.length - mark ∧ Woken (s.crash keep).boot i (B.take (mark + x)) := by
 obtain ⟨a1, a2, a3, a4, a5, a6, x, hx, a7⟩ := fall hd hf hm h1 h2 keep hn ha
 exact ⟨a1, a4, a5, x, hx, ⟨⟨a7, a2, a3, a6⟩, rfl⟩⟩
theorem Rest.crash (h : Rest s i B) (keep : List Int) : (s.crash keep).dead = true ∧ (s.crash keep).room = s.room ∧ (s.crash keep).births = s.births ∧ Woken (s.crash keep).boot i B := by
 obtain ⟨a1, a2, a3, x, hx, a4⟩ := fall_woken h.dead h.file (Nat.le_refl _) h.low h.high keep rfl (h.after _)
 refine ⟨a1, a2, a3, ?_⟩
 rw [List.take_of_length_le (by omega)] at a4
 exact a4
theorem JS.aft (h : JS s i B mark) (n : Nat) : NamesOk i (after s n) := by
 left
 unfold Go.Proofs.YtmcmagplaflegaaGreatDoor.after
 rw [h.works, h.kept]; simp
theorem JS.fall (h : JS s i B mark) (hm : mark ≤ B.length) (keep : List Int) : (s.crash keep).dead = true ∧ (s.crash keep).room = s.room ∧ (s.crash keep).births = s.births ∧ ∃ x, x ≤ B.length - mark ∧ Woken (s.crash keep).boot i (B.take (mark + x)) :=
 fall_woken h.dead h.file hm h.low h.high keep rfl (h.aft _)

/-! ### Open behind a fall -/
theorem Rest.tick (h : Rest s i B) : Rest s.tick i B := ⟨h.dead, h.file, h.low, h.high, h.after⟩
theorem Rest.setf (h : Rest s i B) (B' : List Nat) : Rest (s.setf i ⟨B', B'.length⟩) i B' := ⟨h.dead, upd_same _ _ _, h.low, h.high, h.after⟩
theorem Rest.readRes (h : Rest s i B) (hn : s.names = [(jN, i)]) : readRes s jN = (B, 0) := by
 rw [readRes_of h.dead (i := i) (by unfold fileOf; rw [hn]; exact look_jN i), h.file]
/-- A work fell, the i-th file is B still. -/
structure FellAt (s : DS) (i : Nat) (B : List Nat) (q : DS × Int) : Prop where
 code : q.2 = 51
 dead : q.1.dead = true
 room : q.1.room = s.room
 births : q.1.births = s.births
 woken : Woken q.1.boot i B
theorem Rest.fell (h : Rest s i B) : FellAt s i B (s.crash s.keep, 51) := by
 obtain ⟨a, b, c, d⟩ := h.crash s.keep
 exact ⟨rfl, a, b, c, d⟩
theorem FellAt.of {s' : DS} {q : DS × Int} (h : FellAt s' i B q) (hr : s'.room = s.room) (hb : s'.births = s.births) : FellAt s i B q := ⟨h.code, h.dead, h.room.trans hr, h.births.trans hb, h.woken⟩
/-- No more than n works were done. -/
def Near (n : Int) (s s' : DS) : Prop := ∀ k : Int, 0 ≤ k → (k + n ≤ s.fails ∨ s.fails < 0) → (k ≤ s'.fails ∨ s'.fails < 0)
theorem Near.refl (s : DS) : Near 0 s s := fun k _ h => by omega
theorem Near.tick {n : Int} {s s' : DS} (h : Near n s s') : Near (n + 1) s s'.tick := fun k h1 h2 => by
 have := h (k + 1) (by omega) (by omega)
 unfold DS.tick
 simp only
 split <;> omega
theorem Near.mono {n m : Int} {s s' : DS} (h : Near n s s') (hm : n ≤ m) : Near m s s' := fun k h1 h2 => h k h1 (by omega)
theorem Near.zero {n : Int} {s s' : DS} (h : Near n s s') (h0 : s'.fails = 0) : 0 ≤ s.fails ∧ s.fails ≤ n := by
 have := h 1 (by omega)
 omega
theorem Near.on {n : Int} {s s1 s2 : DS} (h : Near n s s1) (e : s2.fails = s1.fails) : Near n s s2 := fun k h1 h2 => by rw [e]; exact h k h1 h2
/-- What drops a new file. -/
theorem Wake.drops (h : Wake s i B) : (∃ s1, dropNew s = (s1, 0) ∧ Rest s1 i B ∧ s1.names = [(jN, i)] ∧ s1.room = s.room ∧ s1.births = s.births ∧ Near 1 s s1) ∨ (FellAt s i B (dropNew s) ∧ s.fails = 0) := by
 have e : isIn jM (namesOf s) = (fileOf s jM).isSome := isIn_names h.rest.dead jM
 unfold dropNew
 rcases h.ok with hn | ⟨i', hne, hn⟩
 ·have e2 : fileOf s jM = none := by unfold fileOf; rw [hn]; exact look_jM i
  rw [e, e2]
  left
  exact ⟨s, by simp, h.rest, hn, rfl, rfl, (Near.refl s).mono (by omega)⟩
 ·have e2 : fileOf s jM = some i' := by unfold fileOf; rw [hn]; simp [MapL.look, jN_ne]
  rw [e, e2]
  simp only [Option.isSome_some, if_true]
  unfold DS.remove DS.work ofRes
  rw [h.rest.dead, e2]
  simp only [Bool.false_eq_true, if_false, if_true]
  by_cases hf : s.fails = 0
  ·rw [if_pos hf]
   right
   exact ⟨h.rest.fell, hf⟩
  ·rw [if_neg hf]
   left
   refine ⟨_, rfl, ⟨h.rest.dead, h.rest.file, h.rest.low, h.rest.high, fun n => ?_⟩, ?_, rfl, rfl, (Near.refl s).tick⟩
   ·have hw : (s.tick.renamed jM ⟨#[]⟩ none).works = [(jM, ⟨#[]⟩, none)] := by show s.works ++ _ = _; rw [h.works]; rfl
    have hk : (s.tick.renamed jM ⟨#[]⟩ none).kept = [(jN, i), (jM, i')] := by show s.kept = _; rw [← h.same, hn]
    unfold Go.Proofs.YtmcmagplaflegaaGreatDoor.after
    rw [hw, hk]
    rcases n with _ | n
    ·exact .inr ⟨i', hne, rfl⟩
    ·left
     simp [stepW, step, del, jN_ne]
   ·show step jM ⟨#[]⟩ none s.names = _
    rw [hn]
    simp [step, del, jN_ne]
/-- The bytes B read as the records M, whole ones. -/
def Reads (B : List Nat) (M : List (List Nat)) : Prop := recs B = some (M, sizesB M) ∧ B.take (sizesB M) = listB 1 M
theorem Reads.le {M : List (List Nat)} (h : Reads B M) : sizesB M ≤ B.length := recs_end h.1
theorem Reads.self {M : List (List Nat)} (hl : M.length < 1000000000) (hb : ∀ b ∈ M, b.length ≤ 262144) : Reads (listB 1 M) M :=
 ⟨recs_all M hl hb, List.take_of_length_le (by rw [listB_len]; exact Nat.le_refl _)⟩
theorem listB_app : ∀ (L R : List (List Nat)) (n : Nat), listB n (L ++ R) = listB n L ++ listB (n + L.length) R
 | [], R, n => by simp [listB]
 | b :: L, R, n => by
  show recB n b ++ listB (n + 1) (L ++ R) = (recB n b ++ listB (n + 1) L) ++ _
  rw [listB_app L R (n + 1), List.append_assoc, List.length_cons, show n + 1 + L.length = n + (L.length + 1) by omega]
theorem listB_take (L : List (List Nat)) (k : Nat) : (listB 1 L).take (sizesB (L.take k)) = listB 1 (L.take k) := by
 have e : listB 1 L = listB 1 (L.take k) ++ listB (1 + (L.take k).length) (L.drop k) := by rw [← listB_app, List.take_append_drop]
 rw [e]
 exact List.take_left' (listB_len _ 1)
theorem Reads.part {L : List (List Nat)} (hl : L.length < 1000000000) (hb : ∀ b ∈ L, b.length ≤ 262144) (c : Nat) : Reads ((listB 1 L).take c) (L.take (wholeN L c)) := by
 have h := recs_take L c hl hb
 have hle := recs_end h
 refine ⟨h, ?_⟩
 rw [List.length_take] at hle
 rw [List.take_take, Nat.min_eq_left (by omega)]
 exact listB_take L _
theorem whole_ge {L : List (List Nat)} {k c : Nat} (hk : k ≤ L.length) (h : sizesB (L.take k) ≤ c) : k ≤ wholeN L c := by
 rcases k with _ | k
 ·omega
 ·exact (whole_iff L k c (by omega)).1 h
theorem Rest.fileN (_ : Rest s i B) (hn : s.names = [(jN, i)]) : fileOf s jN = some i := by unfold fileOf; rw [hn]; exact look_jN i
theorem Rest.cutN (h : Rest s i B) (hn : s.names = [(jN, i)]) (n : Nat) (hl : n ≤ B.length) : s.cut jN n = if s.fails = 0 then (s.crash s.keep, 51) else (s.tick.setf i ⟨B.take n, (B.take n).length⟩, 0) := by
 unfold DS.cut
 rw [h.dead, h.fileN hn]
 simp only [Bool.false_eq_true, if_false, h.file, Int.toNat_natCast]
 rw [if_neg (by omega), List.length_take, Nat.min_comm B.length n]
theorem Rest.syncN (h : Rest s i B) (hn : s.names = [(jN, i)]) : s.sync jN = if s.fails = 0 then (s.crash s.keep, 51) else (s.tick.setf i ⟨B, B.length⟩, 0) := by
 unfold DS.sync DS.work ofRes
 rw [h.dead, h.fileN hn]
 simp only [Bool.false_eq_true, if_false, if_true]
 have e : s.tick.file i = ⟨B, B.length⟩ := h.file
 rw [e]; rfl
/-- Open of a disk that was woken behind a fall. -/
theorem Wake.open {M : List (List Nat)} (h : Wake s i B) (hM : Reads B M) (hl : M.length < 1000000000) (hb : ∀ b ∈ M, b.length ≤ 262144) :
  ((openD s).2 = 0 ∧ openL s = M ∧ JS (openD s).1 i (listB 1 M) (sizesB M) ∧ (openD s).1.room = s.room ∧ (openD s).1.births = s.births) ∨
  ((∃ B', Reads B' M ∧ FellAt s i B' (openD s)) ∧ 0 ≤ s.fails ∧ s.fails ≤ 3) := by
 have hnd : ¬ s.dead = true := by rw [h.rest.dead]; simp
 rcases h.drops with ⟨s1, e1, r1, n1, m1, b1, k1⟩ | ⟨hfell, hf⟩
 ·have hin : isIn jN (namesOf s1) = true := by rw [isIn_names r1.dead, r1.fileN n1]; rfl
  have hL : openL s = M := by
   unfold openL readL
   rw [e1]
   simp only
   rw [hin, r1.readRes n1, hM.1]; rfl
  have hle := hM.le
  -- the torn end is cut off
  have hcut : (∃ s2 B2, readD s1 = (s2, 0) ∧ B2 = listB 1 M ∧ Rest s2 i B2 ∧ s2.names = [(jN, i)] ∧ s2.room = s.room ∧ s2.births = s.births ∧ Near 2 s s2) ∨ (FellAt s i B (readD s1) ∧ s1.fails = 0) := by
   have er : readD s1 = if sizesB M < B.length then s1.cut jN (sizesB M) else (s1, 0) := by
    unfold readD
    rw [hin, r1.readRes n1, hM.1]; simp
   rw [er]
   by_cases hlt : sizesB M < B.length
   ·rw [if_pos hlt, r1.cutN n1 _ hle]
    by_cases hf : s1.fails = 0
    ·rw [if_pos hf]
     exact .inr ⟨r1.fell.of m1 b1, hf⟩
    ·rw [if_neg hf]
     exact .inl ⟨_, _, rfl, hM.2, r1.tick.setf _, n1, m1, b1, (k1.tick).on rfl⟩
   ·rw [if_neg hlt]
    refine .inl ⟨s1, B, rfl, ?_, r1, n1, m1, b1, k1.mono (by omega)⟩
    rw [← hM.2, List.take_of_length_le (by omega)]
  rcases hcut with ⟨s2, B2, e2, hB2, r2, n2, m2, b2, k2⟩ | ⟨hfell, hf⟩
  ·have hs := r2.syncN n2
   by_cases hf2 : s2.fails = 0
   ·rw [if_pos hf2] at hs
    have e : openD s = (s2.crash s2.keep, 51) := by
     unfold openD
     rw [if_neg hnd, e1, thenD_yes (q := (s1, 0)) rfl, e2, thenD_yes (q := (s2, 0)) rfl, hs, thenD_no (by simp)]
    rw [e]
    have := k2.zero hf2
    exact .inr ⟨⟨B2, by rw [hB2]; exact .self hl hb, r2.fell.of m2 b2⟩, by omega⟩
   ·rw [if_neg hf2] at hs
    have r3 := r2.tick.setf B2
    have k3 : Near 3 s (s2.tick.setf i ⟨B2, B2.length⟩) := k2.tick.on rfl
    have e : openD s = (s2.tick.setf i ⟨B2, B2.length⟩).syncNames := by
     unfold openD
     rw [if_neg hnd, e1, thenD_yes (q := (s1, 0)) rfl, e2, thenD_yes (q := (s2, 0)) rfl, hs, thenD_yes rfl]
    rw [e]
    unfold DS.syncNames
    rw [r3.dead]
    simp only [Bool.false_eq_true, if_false]
    by_cases hf3 : (s2.tick.setf i ⟨B2, B2.length⟩).fails = 0
    ·rw [if_pos hf3]
     have := k3.zero hf3
     exact .inr ⟨⟨B2, by rw [hB2]; exact .self hl hb, (r3.fell.of m2 b2)⟩, by omega⟩
    ·rw [if_neg hf3]
     refine .inl ⟨rfl, hL, ⟨r3.dead, n2, n2, rfl, ?_, r3.low, r3.high⟩, m2, b2⟩
     show (s2.tick.setf i ⟨B2, B2.length⟩).file i = _
     rw [r3.file, hB2, listB_len]
  ·have e : openD s = readD s1 := by
    unfold openD
    rw [if_neg hnd, e1, thenD_yes (q := (s1, 0)) rfl]
    rw [thenD_no (q := readD s1) (by rw [hfell.code]; simp), thenD_no (q := readD s1) (by rw [hfell.code]; simp)]
   rw [e]
   have := k1.zero hf
   exact .inr ⟨⟨B, hM, hfell⟩, by omega⟩
 ·have e : openD s = dropNew s := by
   unfold openD
   have hne : ¬ (dropNew s).2 = 0 := by rw [hfell.code]; simp
   rw [if_neg hnd, thenD_no hne, thenD_no hne, thenD_no hne]
  rw [e]
  exact .inr ⟨⟨B, hM, hfell⟩, by omega⟩
theorem Woken.fail (h : Woken s i B) (n : Int) (keep : List Int) : Wake (s.fail n keep) i B := by
 unfold DS.fail
 rw [if_neg (by rw [h.rest.dead]; simp)]
 exact ⟨⟨h.rest.dead, h.rest.file, h.rest.low, h.rest.high, h.rest.after⟩, h.same, h.works, h.ok⟩

/-! ### a checkpoint's works -/
theorem ofRes_at {x : ByteArray} {i : Nat} (hd : s.dead = false) (h : fileOf s x = some i) : ofRes s x true = (some i, 0) := by unfold ofRes; rw [hd, h]; simp
theorem okM : (decide (1 ≤ jM.size) && decide (jM.size ≤ 40)) = true := by decide
theorem thenD_51 {s : DS} {f : DS → DS × Int} : thenD (s, 51) f = (s, 51) := thenD_no (by simp)
theorem thenD_52 {s : DS} {f : DS → DS × Int} : thenD (s, 52) f = (s, 52) := thenD_no (by simp)
/-- What a checkpoint that fell leaves: the old file, or the new one. -/
structure FellCp (s : DS) (i mark : Nat) (B l : List Nat) (q : DS × Int) : Prop where
 code : q.2 = 51
 dead : q.1.dead = true
 room : q.1.room = s.room
 births : s.births ≤ q.1.births ∧ q.1.births ≤ s.births + 1
 woken : (∃ x, x ≤ B.length - mark ∧ Woken q.1.boot i (B.take (mark + x))) ∨ Woken q.1.boot (s.births + 1) l
theorem JS.repl (h : JS s i B mark) (hm : mark ≤ B.length) (l : List Nat) :
  (s.room < B.length + l.length ∧ replD s l = (s, 52)) ∨
  (B.length + l.length ≤ s.room ∧ (replD s l).2 = 0 ∧ JS (replD s l).1 (s.births + 1) l l.length ∧ (replD s l).1.room = s.room ∧ (replD s l).1.births = s.births + 1 ∧ (s.fails < 0 → (replD s l).1.fails = s.fails)) ∨
  (B.length + l.length ≤ s.room ∧ 0 ≤ s.fails ∧ FellCp s i mark B l (replD s l)) := by
 have hlow := h.low
 have hhigh := h.high
 have hne : s.births + 1 ≠ i := by omega
 by_cases hr : s.room < B.length + l.length
 ·left
  refine ⟨hr, ?_⟩
  have e : s.append jM l = (s, 52) := by
   unfold DS.append
   rw [h.dead, okM, h.used]
   simp only [Bool.false_eq_true, if_false, Bool.true_eq_false]
   rw [if_pos hr]
  unfold replD
  rw [e, thenD_52, thenD_52, thenD_52]
 ·right
  have hr' : B.length + l.length ≤ s.room := by omega
  have h0 := h.fall hm s.keep
  -- behind the new file's bytes
  obtain ⟨s1, hs1⟩ : ∃ s1, (s.tick.find jM).1.grow (s.tick.find jM).2 l = s1 := ⟨_, rfl⟩
  have eapp : s.append jM l = if s.fails = 0 then (s.crash s.keep, 51) else (s1, 0) := by
   unfold DS.append
   rw [h.dead, okM, h.used]
   simp only [Bool.false_eq_true, if_false, Bool.true_eq_false]
   rw [if_neg hr, hs1]
  have efind : s.tick.find jM = (s.tick.born.renamed ⟨#[]⟩ jM (some (s.births + 1)), s.births + 1) := by
   unfold DS.find
   rw [show fileOf s.tick jM = none from h.fileM]
   rfl
  rw [efind] at hs1
  have f1 : s1.dead = false ∧ s1.names = [(jN, i), (jM, s.births + 1)] ∧ s1.kept = [(jN, i)] ∧ s1.works = [(⟨#[]⟩, jM, some (s.births + 1))] ∧ s1.file i = ⟨B, mark⟩ ∧ s1.file (s.births + 1) = ⟨l, 0⟩ ∧ s1.births = s.births + 1 ∧ s1.room = s.room ∧ s1.fails = s.tick.fails := by
   subst hs1
   refine ⟨h.dead, ?_, h.kept, ?_, ?_, ?_, rfl, rfl, rfl⟩
   ·show step ⟨#[]⟩ jM (some (s.births + 1)) s.names = _
    rw [h.names]
    have q1 : jN ≠ (⟨#[]⟩ : ByteArray) := by decide
    simp [step, del, put, jN_ne, q1]
   ·show s.works ++ _ = _
    rw [h.works]; rfl
   ·show upd (upd s.file (s.births + 1) ⟨[], 0⟩) (s.births + 1) _ i = _
    rw [upd_other _ _ (Ne.symm hne), upd_other _ _ (Ne.symm hne), h.file]
   ·show upd (upd s.file (s.births + 1) ⟨[], 0⟩) (s.births + 1) ⟨(upd s.file (s.births + 1) ⟨[], 0⟩ (s.births + 1)).b ++ l, (upd s.file (s.births + 1) ⟨[], 0⟩ (s.births + 1)).mark⟩ (s.births + 1) = _
    simp only [upd_same, List.nil_append]
  obtain ⟨g1, g2, g3, g4, g5, g6, g7, g8, g9⟩ := f1
  by_cases hf0 : s.fails = 0
  ·right
   refine ⟨hr', by omega, ?_⟩
   obtain ⟨a1, a2, a3, x, hx, a4⟩ := h0
   have e : replD s l = (s.crash s.keep, 51) := by unfold replD; rw [eapp, if_pos hf0, thenD_51, thenD_51, thenD_51]
   rw [e]
   exact ⟨rfl, a1, a2, by rw [a3]; omega, .inl ⟨x, hx, a4⟩⟩
  ·rw [if_neg hf0] at eapp
   have at1 : ∀ n, NamesOk i (after s1 n) := fun n => by
    unfold Go.Proofs.YtmcmagplaflegaaGreatDoor.after
    rw [g3, g4]
    rcases n with _ | n
    ·exact .inl rfl
    ·right
     refine ⟨s.births + 1, hne, ?_⟩
     have q1 : jN ≠ (⟨#[]⟩ : ByteArray) := by decide
     simp [stepW, step, del, put, jN_ne, q1]
   have fM : fileOf s1 jM = some (s.births + 1) := by unfold fileOf; rw [g2]; simp [MapL.look, jN_ne]
   have esync : s1.sync jM = if s1.fails = 0 then (s1.crash s1.keep, 51) else (s1.tick.setf (s.births + 1) ⟨l, l.length⟩, 0) := by
    unfold DS.sync DS.work
    rw [ofRes_at g1 fM]
    simp only
    have e : s1.tick.file (s.births + 1) = ⟨l, 0⟩ := g6
    rw [e]; rfl
   have fell1 : ∀ q : DS × Int, q = (s1.crash s1.keep, 51) → FellCp s i mark B l q := fun q hq => by
    subst hq
    obtain ⟨a1, a2, a3, x, hx, a4⟩ := fall_woken g1 g5 hm h.low (by omega) s1.keep rfl (at1 _)
    exact ⟨rfl, a1, a2.trans g8, by rw [a3, g7]; omega, .inl ⟨x, hx, a4⟩⟩
   by_cases hf1 : s1.fails = 0
   ·right
    rw [if_pos hf1] at esync
    have e : replD s l = (s1.crash s1.keep, 51) := by unfold replD; rw [eapp, thenD_yes (q := (s1, 0)) rfl, esync, thenD_51, thenD_51]
    refine ⟨hr', ?_, fell1 _ e⟩
    rw [g9] at hf1
    unfold DS.tick at hf1
    simp only at hf1
    split at hf1 <;> omega
   ·rw [if_neg hf1] at esync
    obtain ⟨s2, hs2⟩ : ∃ s2, s1.tick.setf (s.births + 1) ⟨l, l.length⟩ = s2 := ⟨_, rfl⟩
    rw [hs2] at esync
    have f2 : s2.dead = false ∧ s2.names = [(jN, i), (jM, s.births + 1)] ∧ s2.kept = [(jN, i)] ∧ s2.works = [(⟨#[]⟩, jM, some (s.births + 1))] ∧ s2.file i = ⟨B, mark⟩ ∧ s2.file (s.births + 1) = ⟨l, l.length⟩ ∧ s2.births = s.births + 1 ∧ s2.room = s.room ∧ s2.fails = s1.tick.fails := by
     subst hs2
     refine ⟨g1, g2, g3, g4, ?_, upd_same _ _ _, g7, g8, rfl⟩
     show upd s1.file _ _ i = _
     rw [upd_other _ _ (Ne.symm hne), g5]
    obtain ⟨c1, c2, c3, c4, c5, c6, c7, c8, c9⟩ := f2
    have at2 : ∀ n, NamesOk i (after s2 n) := fun n => by
     have := at1 n
     unfold Go.Proofs.YtmcmagplaflegaaGreatDoor.after at this ⊢
     rw [c3, c4]; rw [g3, g4] at this; exact this
    have fM2 : fileOf s2 jM = some (s.births + 1) := by unfold fileOf; rw [c2]; simp [MapL.look, jN_ne]
    have eren : s2.rename jM jN = if s2.fails = 0 then (s2.crash s2.keep, 51) else (s2.tick.renamed jM jN (some (s.births + 1)), 0) := by
     unfold DS.rename DS.work
     rw [show okName jN = true from by decide, ofRes_at c1 fM2]
     simp only
     rw [if_neg (Ne.symm jN_ne)]
    by_cases hf2 : s2.fails = 0
    ·right
     rw [if_pos hf2] at eren
     have e : replD s l = (s2.crash s2.keep, 51) := by unfold replD; rw [eapp, thenD_yes (q := (s1, 0)) rfl, esync, thenD_yes (q := (s2, 0)) rfl, eren, thenD_51]
     rw [e]
     obtain ⟨a1, a2, a3, x, hx, a4⟩ := fall_woken c1 c5 hm h.low (by omega) s2.keep rfl (at2 _)
     refine ⟨hr', ?_, ⟨rfl, a1, a2.trans c8, by rw [a3, c7]; omega, .inl ⟨x, hx, a4⟩⟩⟩
     have t1 : s1.tick.fails = 0 := by rw [← c9]; exact hf2
     unfold DS.tick at t1 g9
     simp only at t1 g9
     split at t1 <;> split at g9 <;> omega
    ·rw [if_neg hf2] at eren
     obtain ⟨s3, hs3⟩ : ∃ s3, s2.tick.renamed jM jN (some (s.births + 1)) = s3 := ⟨_, rfl⟩
     rw [hs3] at eren
     have f3 : s3.dead = false ∧ s3.names = [(jN, s.births + 1)] ∧ s3.kept = [(jN, i)] ∧ s3.works = [(⟨#[]⟩, jM, some (s.births + 1)), (jM, jN, some (s.births + 1))] ∧ s3.file i = ⟨B, mark⟩ ∧ s3.file (s.births + 1) = ⟨l, l.length⟩ ∧ s3.births = s.births + 1 ∧ s3.room = s.room ∧ s3.fails = s2.tick.fails := by
      subst hs3
      refine ⟨c1, ?_, c3, ?_, c5, c6, c7, c8, rfl⟩
      ·show step jM jN (some (s.births + 1)) s2.names = _
       rw [c2]
       simp [step, del, put, jN_ne]
      ·show s2.works ++ _ = _
       rw [c4]; rfl
     obtain ⟨d1, d2, d3, d4, d5, d6, d7, d8, d9⟩ := f3
     have efull : replD s l = s3.syncNames := by unfold replD; rw [eapp, thenD_yes (q := (s1, 0)) rfl, esync, thenD_yes (q := (s2, 0)) rfl, eren, thenD_yes (q := (s3, 0)) rfl]
     rw [efull]
     unfold DS.syncNames
     rw [d1]
     simp only [Bool.false_eq_true, if_false]
     have ht : s.fails < 0 → s3.fails = s.fails := fun hneg => by
      have t0 : s.tick.fails = s.fails := by rw [tick_off (by omega)]
      have t1 : s1.tick.fails = s1.fails := by rw [tick_off (by omega)]
      have t2 : s2.tick.fails = s2.fails := by rw [tick_off (by omega)]
      omega
     by_cases hf3 : s3.fails = 0
     ·right
      rw [if_pos hf3]
      refine ⟨hr', by omega, ?_⟩
      have e0 : s3.works.length = 2 := by rw [d4]; rfl
      obtain ⟨n, hn, hn2⟩ : ∃ n, brought s3.keep 0 s3.works.length = n ∧ n ≤ 2 := ⟨_, rfl, by rw [e0]; exact brought_le _ _ _⟩
      by_cases hlast : n = 2
      ·have a : after s3 n = [(jN, s.births + 1)] := by
        unfold Go.Proofs.YtmcmagplaflegaaGreatDoor.after
        rw [d3, d4, hlast]
        have q1 : jN ≠ (⟨#[]⟩ : ByteArray) := by decide
        simp [stepW, step, del, put, jN_ne, q1]
       obtain ⟨a1, a2, a3, x, hx, a4⟩ := fall_woken d1 d6 (Nat.le_refl _) (by omega) (by omega) s3.keep hn (.inl a)
       refine ⟨rfl, a1, a2.trans d8, by rw [a3, d7]; omega, .inr ?_⟩
       rw [List.take_of_length_le (by omega)] at a4
       exact a4
      ·have a : NamesOk i (after s3 n) := by
        unfold Go.Proofs.YtmcmagplaflegaaGreatDoor.after
        rw [d3, d4]
        have q1 : jN ≠ (⟨#[]⟩ : ByteArray) := by decide
        rcases n with _ | _ | n
        ·exact .inl rfl
        ·exact .inr ⟨s.births + 1, hne, by simp [stepW, step, del, put, jN_ne, q1]⟩
        ·omega
       obtain ⟨a1, a2, a3, x, hx, a4⟩ := fall_woken d1 d5 hm h.low (by omega) s3.keep hn a
       exact ⟨rfl, a1, a2.trans d8, by rw [a3, d7]; omega, .inl ⟨x, hx, a4⟩⟩
     ·left
      rw [if_neg hf3]
      refine ⟨hr', rfl, ⟨d1, d2, d2, rfl, d6, by omega, by show s.births + 1 ≤ s3.births; omega⟩, d8, d7, fun hneg => ?_⟩
      show s3.tick.fails = _
      rw [tick_off (by have := ht hneg; omega)]
      exact ht hneg
end Go.Proofs.YtmcmagplaflegaaGreatDoor

namespace Go.Proofs.YtmcmagplaflegaaGreatDoor
open Go Go.RowKit Go.MapL Go.Poised

/-- 'append(s, x...)' of lists, s the call's own. -/
theorem run_append_rows (w : World) (base n' ty : Nat) (v u : Value) (n m : Nat) (xs ys : List Value) (hown : w.ownsRow base 32 1 v n xs) (hu : w.ownsRow n' 32 1 u m ys) (h1 : ∀ y ∈ ys, y.oneCell' = true) (hlen : n + m ≤ 1000000) (hbase : base ≤ w.heap.size) :
  ∃ v' w', (Builtin.append_ #[22, 22] ty #[v, u]).run Tryz.prog w = .ok v' w' ∧ w'.ownsRow base 32 1 v' (n + m) (xs ++ ys) ∧ w.grownBy w' v.ownBlock ∧ ∀ k, v'.ownBlock = some k → v.ownBlock = some k ∨ w.heap.size ≤ k := by
 obtain ⟨i0, hi, hz0, hz1, hz2⟩ := info_parts info32
 have hul := hu.1
 have hvl := hown.1
 rcases hu.2 with ⟨rfl, h0⟩ | ⟨g, c, cu, rfl, _⟩
 ·subst h0
  have hy : ys = [] := List.eq_nil_of_length_eq_zero (by omega)
  subst hy
  refine ⟨v, w, ?_, by simpa using hown, ⟨rfl, rfl, rfl, Nat.le_refl _, fun _ _ _ => rfl⟩, fun k hk => .inl hk⟩
  rcases hown.2 with ⟨rfl, h0⟩ | ⟨g, cap, cur, rfl, _, hg, hcc, _, hsz, ht⟩
  ·simp [Builtin.append_, run_underlying Tryz.underlying22, sizeOf, typeInfo, hi, Builtin.lenOf, Builtin.firstCells]
  ·simp [Builtin.append_, run_underlying Tryz.underlying22, sizeOf, typeInfo, hi, Builtin.lenOf, Builtin.firstCells, hcc, storeCells]
 ·exact run_append_where (P := Tryz.prog) w base 22 ty 32 i0 (.slice none 0 0) 1 24 Tryz.underlying22 hi hz0 hz1 hz2 rfl (by decide) v n xs hown ⟨g, 0, none⟩ m c ys (by omega) (fun j y hj => hu.cells (g := g) rfl j y hj) h1 (by unfold maxLen; omega) (by omega) hbase
theorem wpList_append_rows (w : World) {ops : Array Oper} {rest : List Oper} {o : Oper} {a : Act} {Q : Exit → Act → World → Prop} (hgd : o.guard = none) (s x : Operand)
  (ho : o.op = .call { callee := .builtin .append, args := #[s, x], argTypes := #[22, 22] }) (base n' : Nat) (v u : Value) (n m : Nat) (xs ys : List Value) (hs : a.eval s = v) (hx : a.eval x = u) (hown : w.ownsRow base 32 1 v n xs) (hu : w.ownsRow n' 32 1 u m ys) (h1 : ∀ y ∈ ys, y.oneCell' = true) (hlen : n + m ≤ 1000000) (hbase : base ≤ w.heap.size)
  (h : ∀ v' w', w'.ownsRow base 32 1 v' (n + m) (xs ++ ys) → w.grownBy w' v.ownBlock → (∀ k, v'.ownBlock = some k → v.ownBlock = some k ∨ w.heap.size ≤ k) → wpList Tryz.prog ops Q rest (a.put o.dst v') w') : wpList Tryz.prog ops Q (o :: rest) a w := by
 refine wpList_plain hgd fun K hK => ?_
 obtain ⟨v', w', hr, h2, h3, h4⟩ := run_append_rows w base n' o.type v u n m xs ys hown hu h1 hlen hbase
 unfold Oper.wp execOp
 simp only [ho, resolve, invoke, builtin, Sem.run_bind, Sem.run_pure, Result.andThen_ok, List.map_toArray, List.map_cons, List.map_nil, hs, hx, hr]
 exact hK _ _ (h v' w' h2 h3 h4)
/-- A checkpoint, while the power stays. -/
theorem JG.checkpoint {j : Jn} {i mark : Nat} {L : List (List Nat)} (h : JG j i L mark) (hm : mark ≤ sizesB L) (l : List (List Nat)) (hl : l.length ≤ 10000) (hb : ∀ b ∈ l, b.length ≤ 262144) :
  (j.checkpoint l).2 = (if j.s.room < sizesB L + sizesB l then 52 else 0) ∧ (sizesB L + sizesB l ≤ j.s.room → (∃ i', JG (j.checkpoint l).1 i' l (sizesB l)) ∧ (j.checkpoint l).1.kept = l.length ∧ (j.checkpoint l).1.s.room = j.s.room) ∧ (j.s.room < sizesB L + sizesB l → (j.checkpoint l).1 = j) := by
 have hr := h.disk.repl (by rw [listB_len]; exact hm) (listB 1 l)
 rw [listB_len, listB_len] at hr
 unfold Jn.checkpoint
 rw [h.br, listRes_ok hl hb]
 simp only [Bool.false_eq_true, if_false, if_true]
 have hf := h.fails
 rcases hr with ⟨hr, e⟩ | ⟨hr, e, hj, hroom, _, hf2⟩ | ⟨_, h0, _⟩
 ·rw [e, if_pos hr]
  refine ⟨rfl, fun h2 => by omega, fun _ => rfl⟩
 ·rw [if_neg (by omega)]
  unfold Jn.after
  rw [if_pos e]
  refine ⟨rfl, fun _ => ⟨⟨_, h.br, rfl, hj, ?_⟩, rfl, hroom⟩, fun h2 => by omega⟩
  show (replD j.s (listB 1 l)).1.fails = -1
  rw [hf2 (by omega), hf]
 ·omega
end Go.Proofs.YtmcmagplaflegaaGreatDoor
