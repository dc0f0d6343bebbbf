/-
 THE CHAPTER's NUMBERS AND EXAMPLES: the statement, walked. Conditions: those of each theorem.
-/
import Derived.Test.YtmcmagplaflegaaGreatDoorX25
import Derived.Test.YtmcmagplaflegaaGreatDoorX24
import Derived.Test.YtmcmagplaflegaaGreatDoorX17

namespace Go.Proofs.YtmcmagplaflegaaGreatDoor
open Go Go.RowKit Go.MapL Go.Poised

theorem zer_len' (k : Nat) : (zer k).length = k := by simp [zer]
theorem run_make_long (k : Nat) (hk : k ≤ 1000000) (w : World) : (Instr.makeSlice 32 (.int .i64 k) (.int .i64 k)).run Tryz.prog w = .ok (.slice (some ⟨w.heap.size, 0, none⟩) k k) (w.alloc (.cells (encB (zer k)).toArray 5)) := by
 obtain ⟨i, hi, hi2⟩ := Option.map_eq_some_iff.1 info5
 simp only [Prod.mk.injEq] at hi2
 obtain ⟨hz, hs, hb⟩ := hi2
 have := run_make (P := Tryz.prog) w 32 5 i (.int .u8 0) Tryz.underlying32 hi hz .i64 .i64 k k (by omega) (by omega) (by rw [hb]; omega) (by omega)
 rw [this, hs]
 have e : madeCells (Value.cells (.int .u8 0)) ((k : Int).toNat * 1) = (encB (zer k)).toArray := by
  simp only [Int.toNat_natCast, Nat.mul_one]
  unfold encB zer
  rw [List.map_replicate]
  apply Array.ext'
  simp [madeCells, Value.cells]
  have : (fun x : Nat => [Value.int .u8 0][x % 1]?.getD default) = fun _ => Value.int .u8 0 := by funext x; simp [Nat.mod_one]
  rw [this, List.map_const']; simp
 rw [e]
 simp
theorem run_make_rows (k : Nat) (hk : k ≤ 1000000) (w : World) : (Instr.makeSlice 22 (.int .i64 k) (.int .i64 k)).run Tryz.prog w = .ok (.slice (some ⟨w.heap.size, 0, none⟩) k k) (w.alloc (.cells (List.replicate k (Value.slice none 0 0)).toArray 32)) := by
 obtain ⟨i, hi, hi2⟩ := Option.map_eq_some_iff.1 info32
 simp only [Prod.mk.injEq] at hi2
 obtain ⟨hz, hs, hb⟩ := hi2
 have := run_make (P := Tryz.prog) w 22 32 i (.slice none 0 0) Tryz.underlying22 hi hz .i64 .i64 k k (by omega) (by omega) (by rw [hb]; omega) (by omega)
 rw [this, hs]
 have e : madeCells (Value.cells (.slice none 0 0)) ((k : Int).toNat * 1) = (List.replicate k (Value.slice none 0 0)).toArray := by
  simp only [Int.toNat_natCast, Nat.mul_one]
  apply Array.ext'
  simp [madeCells, Value.cells]
  have : (fun x : Nat => [Value.slice none 0 0][x % 1]?.getD default) = fun _ => Value.slice none 0 0 := by funext x; simp [Nat.mod_one]
  rw [this, List.map_const']; simp
 rw [e]
 simp
theorem many_in {w : World} {B N : Nat} (hN : N ≤ 1000000) (h : w.heap[B]? = some (.cells (List.replicate N (Value.slice none 0 0)).toArray 32)) (k : Nat) (hk : k ≤ N) : ListIn w (.slice (some ⟨B, 0, none⟩) k N) (List.replicate k (Value.slice none 0 0, [])) := by
 refine ⟨⟨some ⟨B, 0, none⟩, N, by simp, fun j hj => ⟨B, 0, rfl, ?_⟩⟩, fun q hq => ?_, by simp; omega⟩
 ·have hj' : j < k := by simpa using hj
  simp only [World.cell?, h, Option.isSome_none, Bool.false_eq_true, if_false]
  simp [show j < N by omega]
 ·rw [List.mem_replicate] at hq
  rw [hq.2]
  exact bytes_nilS w
theorem two_in {w : World} {B g : Nat} {l : List Nat} (h : w.heap[B]? = some (.cells #[.slice none 0 0, .slice (some ⟨g, 0, none⟩) 262145 262145] 32)) (hl : BytesIn w (.slice (some ⟨g, 0, none⟩) 262145 262145) l) : ListIn w (.slice (some ⟨B, 0, none⟩) 2 2) [(.slice none 0 0, []), (.slice (some ⟨g, 0, none⟩) 262145 262145, l)] := by
 refine ⟨⟨some ⟨B, 0, none⟩, 2, rfl, fun k hk => ⟨B, 0, rfl, ?_⟩⟩, fun q hq => ?_, by simp⟩
 ·have hk2 : k < 2 := hk
  simp only [World.cell?, h, Option.isSome_none, Bool.false_eq_true, if_false, Nat.zero_add]
  rcases k with _ | _ | k
  ·rfl
  ·rfl
  ·omega
 ·rcases List.mem_cons.1 hq with rfl | hq
  ·exact bytes_nilS w
  ·rcases List.mem_cons.1 hq with rfl | hq
   ·exact hl
   ·cases hq
theorem sizes_nil : ∀ n : Nat, sizesB (List.replicate n []) = 20 * n
 | 0 => rfl
 | n + 1 => by
  rw [List.replicate_succ]
  have : sizesB ([] :: List.replicate n []) = 20 + sizesB (List.replicate n []) := by simp [sizesB]
  rw [this, sizes_nil n]; omega
theorem jg_new (room : Nat) : JG (jnew room) 1 [] 0 := by
 obtain ⟨_, _, h3, _, h5, _⟩ := open_new room
 exact ⟨rfl, rfl, h3, h5⟩
theorem ck_many : (jnew 1048576).checkpoint (List.replicate 10001 []) = (jnew 1048576, 5) := by
 unfold Jn.checkpoint
 have e : listRes (List.replicate 10001 []) = ([], 5) := by unfold listRes; rw [if_pos (by rw [List.length_replicate]; omega)]
 rw [e]; rfl
theorem ap_long : (jnew 1048576).append (zer 262145) = (jnew 1048576, 5) := by
 unfold Jn.append
 have e : recRes (((jnew 1048576).many : Int) + 1) (zer 262145) = ([], 5) := by
  unfold recRes
  rw [show ((jnew 1048576).many : Int) + 1 = 1 from rfl, if_neg (by omega), if_pos (by rw [zer_len']; omega)]
 rw [e]; rfl
theorem ck_two : (jnew 1048576).checkpoint [[], zer 262145] = (jnew 1048576, 5) := by
 unfold Jn.checkpoint
 have e : listRes [[], zer 262145] = ([], 5) := by
  unfold listRes
  rw [if_neg (by simp), if_neg]
  intro h
  have := of_decide_eq_true (List.all_eq_true.1 h (zer 262145) (by simp))
  rw [zer_len'] at this
  omega
 rw [e]; rfl
theorem ck_mostN (N : Nat) (hN : N ≤ 10000) : ((jnew 1048576).checkpoint (List.replicate N [])).2 = 0 ∧ ((jnew 1048576).checkpoint (List.replicate N [])).1.many = N ∧ ((jnew 1048576).checkpoint (List.replicate N [])).1.br = false := by
 obtain ⟨h1, h2, _⟩ := (jg_new 1048576).checkpoint (Nat.zero_le _) (List.replicate N []) (by rw [List.length_replicate]; exact hN) (fun b hb => by rw [List.mem_replicate] at hb; rw [hb.2]; exact Nat.zero_le _)
 have hr : (jnew 1048576).s.room = 1048576 := (open_new 1048576).2.2.2.1
 have hs : sizesB [] + sizesB (List.replicate N []) = 20 * N := by rw [sizes_nil]; show 0 + _ = _; omega
 rw [hs, hr] at h1 h2
 obtain ⟨⟨i', h3⟩, _, _⟩ := h2 (by omega)
 exact ⟨by rw [h1, if_neg (by omega)], by rw [h3.many, List.length_replicate], h3.br⟩
/-- A beginning of the long noughts. -/
theorem long_in {w : World} {B N : Nat} (hN : N ≤ 1000000) (h : w.heap[B]? = some (.cells (encB (zer N)).toArray 5)) (k : Nat) (hk : k ≤ N) : BytesIn w (.slice (some ⟨B, 0, none⟩) k N) (zer k) := by
 refine ⟨fun x hx => by unfold zer at hx; rw [List.mem_replicate] at hx; omega, by simp [zer]; omega, .inr (.inr ⟨B, 0, N, by simp [zer], fun j hj => ?_⟩)⟩
 have hj' : j < k := by simpa [zer] using hj
 simp only [World.cell?, h, Option.isSome_none, Bool.false_eq_true, if_false]
 simp [encB, zer, hj', show j < N by omega]
theorem zero_disk (w : World) : NoD (.pointer (some ⟨w.heap.size, 0, none⟩)) (w.alloc (.cells #[.int .i64 0, .int .i64 0, .map none, .map none, .slice none 0 0, .bool false, .int .i64 0, .slice none 0 0] 67)) := by
 refine .inr ⟨_, rfl, by simp, ?_⟩
 simp only [World.cell?, heap_new]
 rfl
theorem zer_len (k : Nat) : (zer k).length = k := by simp [zer]
set_option maxRecDepth 100000 in
set_option maxHeartbeats 16000000 in
theorem names_walk (w : World) : Calls Tryz.prog 7 #[] w fun e w' => e = .returned (.bool true) ∧ Below w.heap.size w w' := by
 have hj1 := fun v W h => jappend_none v W h
 have hj2 := fun v W h => jsync_none v W h
 have hj3 := fun v W h => jcheckpoint_none v W h
 have hj4 := fun v W h => jlen_none v W h
 have hj5 := fun v W h => jkept_none v W h
 have hj6 := fun v W h => jbroken_none v W h
 replace hj1 : Hid _ := hj1
 replace hj2 : Hid _ := hj2
 replace hj3 : Hid _ := hj3
 replace hj4 : Hid _ := hj4
 replace hj5 : Hid _ := hj5
 replace hj6 : Hid _ := hj6
 go_enter Tryz.func7, Tryz.ntmps7
 go_wp2_with fail
 go_loopw [2, 1] (fun i v wr => ∃ k : Nat, k ≤ 2 ∧ i = .int .i64 k ∧ NoJ v wr ∧ Below w.heap.size w wr) (fun i _ _ => 2 - (intOf i).toNat)
 case atStart => exact ⟨0, by omega, rfl, .inl rfl, Below.refl _ _⟩
 case round =>
  obtain ⟨k, hk, rfl, hN, hB⟩ := hrel
  by_cases hlt : k < 2
  ·have hltI : (k : Int) < 2 := by omega
   replace hN : Hid (NoJ _ wr) := hN
   go_wp2_with (first
    |(go_at_call 11; refine (hj1.out _ _ hN.out).mono ?_; rintro e w1 ⟨rfl, hw1⟩; obtain rfl := hw1.symm)
    |(go_at_call 29; refine (hj2.out _ _ hN.out).mono ?_; rintro e w1 ⟨rfl, hw1⟩; obtain rfl := hw1.symm)
    |(go_at_call 12; refine (hj3.out _ _ hN.out).mono ?_; rintro e w1 ⟨rfl, hw1⟩; obtain rfl := hw1.symm)
    |(go_at_call 13; refine (hj4.out _ _ hN.out).mono ?_; rintro e w1 ⟨rfl, hw1⟩; obtain rfl := hw1.symm)
    |(go_at_call 14; refine (hj5.out _ _ hN.out).mono ?_; rintro e w1 ⟨rfl, hw1⟩; obtain rfl := hw1.symm)
    |(go_at_call 18; refine (hj6.out _ _ hN.out).mono ?_; rintro e w1 ⟨rfl, hw1⟩; obtain rfl := hw1.symm))
   go_roundw
   case rel => exact ⟨k + 1, by omega, by go_num, .inr ⟨_, rfl, heap_new _ _⟩, hB.trans ((Below.refl _ _).alloc (Nat.le_refl _) _ |>.mono hB.size)⟩
   case measure => simp [intOf]; omega
  ·have hltI : ¬ (k : Int) < 2 := by omega
   clear hN hj1 hj2 hj3 hj4 hj5 hj6
   rename World => w1
   have hnew := live_new 10 (by omega) w1
   have hon := fun v W h => open_none v W h
   obtain ⟨LO, hLO⟩ : ∃ o : Obj, .cells (encB (zer 262145)).toArray 5 = o := ⟨_, rfl⟩
   have hmk : ∀ W, (Instr.makeSlice 32 (.int .i64 262145) (.int .i64 262145)).run Tryz.prog W = .ok (.slice (some ⟨W.heap.size, 0, none⟩) 262145 262145) (W.alloc LO) := fun W => by rw [← hLO]; exact run_make_long 262145 (by omega) W
   replace hLO : Hid _ := hLO
   replace hon : Hid _ := hon
   unfold ofBlock at *
   have k1 : True := trivial
   go_wp2_with (first
    |(go_at_call 9; refine hnew.mono ?_; clear hnew; rintro e w2 ⟨rfl, hb2, hL2⟩
      have hcr := live_crash (.slice none 0 0) [] hL2 (by omega) (fun W _ => ⟨by simp, by simp, .inl ⟨rfl, rfl⟩⟩)
      unfold ofBlock at hcr)
    |(go_at_call 19; refine hcr.mono ?_; clear hcr; rintro e w3 ⟨rfl, hL3, hK3⟩)
    |(clear k1; go_at_call 10; refine (hon.out (.pointer none) _ (.inl rfl)).mono ?_; rintro e w4 ⟨rfl, hb4⟩; have k2 : True := trivial)
    |(clear k2; go_at_call 10; refine (hon.out _ _ (zero_disk w4)).mono ?_; rintro e w5 ⟨rfl, hb5⟩
      have hb45 := ((Below.refl w4.heap.size w4).alloc (Nat.le_refl _) (.cells #[.int .i64 0, .int .i64 0, .map none, .map none, .slice none 0 0, .bool false, .int .i64 0, .slice none 0 0] 67))
      have hk3 : True := trivial
      have hL5 := (hL3.below hb4).below (hb45.trans (hb5.mono (by simp)))
      have hop := open_any hL5 (by omega)
      unfold ofBlock at hop)
    |(clear hk3; go_at_call 10; refine hop.mono ?_; clear hop; rintro e w6 ⟨hK6, _, hbad⟩
      have hdead : (DS.crash (DS.new 10) []).dead = true := (by decide)
      have ho6 : openD (DS.crash (DS.new 10) []) = (DS.crash (DS.new 10) [], 51) := (by unfold openD; rw [if_pos hdead])
      rw [ho6] at hbad
      obtain ⟨rfl, _⟩ := hbad (by decide)
      clear ho6 hdead
      have hB6 : Below w.heap.size w w6 := ((hB.trans (hb2.mono hB.size)).trans ((hK3.below.mono hB.size).trans (hb4.mono (Nat.le_trans hB.size (Nat.le_trans hb2.size hK3.below.size))))).trans (((hb45.trans (hb5.mono (by simp))).mono (Nat.le_trans hB.size (Nat.le_trans hb2.size (Nat.le_trans hK3.below.size hb4.size)))).trans (hK6.below.mono hB.size))))
   have hhl : ((w6.alloc LO).alloc (.cells #[.int .i64 (-1), .int .i64 0, .int .i64 1, .int .i64 9007199254740991, .int .i64 9007199254740992] 3)).heap[w6.heap.size]? = some LO := (Below.heap_alloc _ _ _ (by simp)).trans (heap_new _ _)
   have hhn : ((w6.alloc LO).alloc (.cells #[.int .i64 (-1), .int .i64 0, .int .i64 1, .int .i64 9007199254740991, .int .i64 9007199254740992] 3)).heap[w6.heap.size + 1]? = some (.cells #[.int .i64 (-1), .int .i64 0, .int .i64 1, .int .i64 9007199254740991, .int .i64 9007199254740992] 3) := by
    have := heap_new (w6.alloc LO) (.cells #[.int .i64 (-1), .int .i64 0, .int .i64 1, .int .i64 9007199254740991, .int .i64 9007199254740992] 3)
    rw [World.size_alloc] at this
    exact this
   have hB8 : Below w.heap.size w ((w6.alloc LO).alloc (.cells #[.int .i64 (-1), .int .i64 0, .int .i64 1, .int .i64 9007199254740991, .int .i64 9007199254740992] 3)) := (hB6.alloc hB6.size _).alloc (by simp; have := hB6.size; omega) _
   have hrec : ∀ W n v1 v2, -9223372036854775808 ≤ n → n ≤ 9223372036854775807 → OkB W v1 → OkB W v2 → Calls Tryz.prog 30 #[.int .i64 n, v1, v2] W fun e w' => e = .returned (.bool true) ∧ Below W.heap.size W w' := fun W n v1 v2 h1 h2 ⟨b, hb, hbl⟩ ⟨c, hc, hcl⟩ => records_walk awake_any n v1 v2 b c W h1 h2 hb.1 hc.1 hc.2 hbl hcl
   replace hrec : Hid _ := hrec
   clear hb2 hL2 hL3 hK3 hb4 hb5 hb45 hL5 hK6 hbad hB hmk
   generalize ((w6.alloc LO).alloc (.cells #[.int .i64 (-1), .int .i64 0, .int .i64 1, .int .i64 9007199254740991, .int .i64 9007199254740992] 3)) = w8 at *
   replace hhl : Hid _ := hhl
   replace hhn : Hid _ := hhn
   go_loopw [16] (fun i wr => ∃ k : Nat, k ≤ 5 ∧ i = .int .i64 k ∧ Below w8.heap.size w8 wr) (fun i _ => 5 - (intOf i).toNat)
   case atStart => exact ⟨0, by omega, rfl, Below.refl _ _⟩
   case round =>
    obtain ⟨k, hk, rfl, hBr⟩ := hrel
    have hl8 : w6.heap.size < w8.heap.size := (Array.getElem?_eq_some_iff.1 hhl.out).1
    have hn8 : w6.heap.size + 1 < w8.heap.size := (Array.getElem?_eq_some_iff.1 hhn.out).1
    have hlo : ∀ W, Below wr.heap.size wr W → ∀ i, i ≤ 262145 → OkB W (.slice (some ⟨w6.heap.size, 0, none⟩) i 262145) := fun W hW i hi => by
     have h1 : W.heap[w6.heap.size]? = some LO := ((hW.block _ (Nat.lt_of_lt_of_le hl8 hBr.size)).trans (hBr.block _ hl8)).trans hhl.out
     rw [← hLO.out] at h1
     exact ⟨zer i, ⟨long_in (by omega) h1 i hi, _, _, by rw [zer_len], by rw [zer_len]; exact hi⟩, by rw [zer_len]; omega⟩
    replace hlo : Hid _ := hlo
    by_cases hlt : k < 5
    ·have hltI : (k : Int) < 5 := by omega
     have hk0 : (0 : Int) ≤ (k : Int) := by omega
     have hk1 : (k : Int) ≤ 262145 := by omega
     have hlt1 : w6.heap.size + 1 < wr.heap.size := Nat.lt_of_lt_of_le hn8 hBr.size
     obtain ⟨x, hxc, hx1, hx2⟩ : ∃ x : Int, wr.cell? ⟨w6.heap.size + 1, k, none⟩ = some (.int .i64 x) ∧ -9223372036854775808 ≤ x ∧ x ≤ 9223372036854775807 := by
      have h1 := (hBr.block _ hn8).trans hhn.out
      simp only [World.cell?, h1, Option.isSome_none, Bool.false_eq_true, if_false]
      rcases (show k = 0 ∨ k = 1 ∨ k = 2 ∨ k = 3 ∨ k = 4 by omega) with rfl | rfl | rfl | rfl | rfl
      ·exact ⟨-1, rfl, by omega, by omega⟩
      ·exact ⟨0, rfl, by omega, by omega⟩
      ·exact ⟨1, rfl, by omega, by omega⟩
      ·exact ⟨9007199254740991, rfl, by omega, by omega⟩
      ·exact ⟨9007199254740992, rfl, by omega, by omega⟩
     have hwr : IntKind.i64.wrap (16 + (k : Int)) = 16 + (k : Int) := IntWalk.i64_in _ (by omega)
     have hk2 : 16 + (k : Int) ≤ 262145 := by omega
     have hk3 : (0 : Int) ≤ 16 + (k : Int) := by omega
     have hk4 : (16 + (k : Int)).toNat = 16 + k := by omega
     go_wp2_with fail
     refine poised_whole (fun x => Below wr.heap.size wr x) (fun x y => Below x.heap.size x y) (by kernel_rfl) (by kernel_rfl) (by kernel_rfl) (fun _ _ h k => h.trans (k.mono h.size)) ((Below.refl _ _).drew) ?_
     apply Exists.intro
     iterate 2
      apply walk_det
      ·rfl
      ·intro w2 hC hF
       simp only [upon]
       go_simp
       exact ⟨Below.refl _ _, rfl⟩
      simp only [put_lit, List.set_cons_succ, List.set_cons_zero]
     iterate 2
      apply walk_det
      ·rfl
      ·intro w2 hC hF
       have hcx := (hC.cell (p := ⟨w6.heap.size + 1, k, none⟩) hlt1).trans hxc
       simp only [upon]
       go_simp
       exact ⟨Below.refl _ _, rfl⟩
      simp only [put_lit, List.set_cons_succ, List.set_cons_zero]
     iterate 3
      apply walk_det
      ·rfl
      ·intro w2 hC hF
       simp only [upon]
       go_simp
       exact ⟨Below.refl _ _, rfl⟩
      simp only [put_lit, List.set_cons_succ, List.set_cons_zero]
     apply walk_det
     ·rfl
     ·intro w2 hC hF
      simp only [upon]
      go_simp
      exact hrec.out w2 _ _ _ hx1 hx2 (hlo.out w2 hC k (by omega)) okB_nil
     simp only [put_lit, List.set_cons_succ, List.set_cons_zero]
     iterate 4
      apply walk_det
      ·rfl
      ·intro w2 hC hF
       simp only [upon]
       go_simp
       exact ⟨Below.refl _ _, rfl⟩
      simp only [put_lit, List.set_cons_succ, List.set_cons_zero]
     iterate 2
      apply walk_det
      ·rfl
      ·intro w2 hC hF
       have hcx := (hC.cell (p := ⟨w6.heap.size + 1, k, none⟩) hlt1).trans hxc
       simp only [upon]
       go_simp
       exact ⟨Below.refl _ _, rfl⟩
      simp only [put_lit, List.set_cons_succ, List.set_cons_zero]
     iterate 2
      apply walk_det
      ·rfl
      ·intro w2 hC hF
       simp only [upon]
       go_simp
       exact ⟨Below.refl _ _, rfl⟩
      simp only [put_lit, List.set_cons_succ, List.set_cons_zero]
     apply walk_det
     ·rfl
     ·intro w2 hC hF
      simp only [upon]
      go_simp
      exact hrec.out w2 _ _ _ hx1 hx2 (hlo.out w2 hC 262144 (by omega)) okB_nil
     simp only [put_lit, List.set_cons_succ, List.set_cons_zero]
     iterate 5
      apply walk_det
      ·rfl
      ·intro w2 hC hF
       simp only [upon]
       go_simp
       exact ⟨Below.refl _ _, rfl⟩
      simp only [put_lit, List.set_cons_succ, List.set_cons_zero]
     iterate 2
      apply walk_det
      ·rfl
      ·intro w2 hC hF
       have hcx := (hC.cell (p := ⟨w6.heap.size + 1, k, none⟩) hlt1).trans hxc
       simp only [upon]
       go_simp
       exact ⟨Below.refl _ _, rfl⟩
      simp only [put_lit, List.set_cons_succ, List.set_cons_zero]
     iterate 5
      apply walk_det
      ·rfl
      ·intro w2 hC hF
       simp only [upon]
       go_simp
       exact ⟨Below.refl _ _, rfl⟩
      simp only [put_lit, List.set_cons_succ, List.set_cons_zero]
     apply walk_det
     ·rfl
     ·intro w2 hC hF
      simp only [upon]
      go_simp
      exact hrec.out w2 _ _ _ hx1 hx2 (hlo.out w2 hC 262145 (by omega)) (hlo.out w2 hC (16 + k) (by omega))
     simp only [put_lit, List.set_cons_succ, List.set_cons_zero]
     iterate 2
      apply walk_det
      ·rfl
      ·intro w2 hC hF
       simp only [upon]
       go_simp
       exact ⟨Below.refl _ _, rfl⟩
      simp only [put_lit, List.set_cons_succ, List.set_cons_zero]
     apply walk_nil
     intro a1 ha1 _
     go_wp2_with fail
     go_roundw
     case rel => exact ⟨k + 1, by omega, by go_num, hBr.trans (ha1.mono hBr.size)⟩
     case measure => simp [intOf]; omega
    ·have hltI : ¬ (k : Int) < 5 := by omega
     have hcv := fun (W : World) C n c => Lib.run_convert_bytes_const (P := Tryz.prog) W 32 5 C n c Tryz.underlying32 Tryz.underlying5
     have hr1 := recordR_any 1 (.slice (some ⟨wr.heap.size, 0, none⟩) 2 2) [120, 121] (wr.alloc (.cells #[.int .u8 120, .int .u8 121] 5 (2, 3))) (by omega) (by omega) (bytes_at (fz := (2, 3)) [120, 121] (by decide) (by decide) (heap_new _ _)) (by decide)
     rw [show recRes 1 [120, 121] = (recB 1 [120, 121], 0) from rfl] at hr1
     have hr2 := fun W => recordR_any 2 (.slice none 0 0) [] W (by omega) (by omega) (bytes_nilS W) (by decide)
     rw [show recRes 2 [] = (recB 2 [], 0) from rfl] at hr2
     have hr3 := fun W => recordR_any 3 (.slice none 0 0) [] W (by omega) (by omega) (bytes_nilS W) (by decide)
     rw [show recRes 3 [] = (recB 3 [], 0) from rfl] at hr3
     have l1 : (recB 1 [120, 121]).length ≤ 100 := by rw [recB_len]; decide
     have l2 : (recB 2 []).length ≤ 100 := by rw [recB_len]; decide
     have l3 : (recB 3 []).length ≤ 100 := by rw [recB_len]; decide
     have l1p : 0 < (recB 1 [120, 121]).length := by rw [recB_len]; decide
     have c1 : ∀ x ∈ recB 1 [120, 121], x < 256 := recB_byte _ _ (by decide)
     have c2 : ∀ x ∈ recB 2 [], x < 256 := recB_byte _ _ (by decide)
     have c3 : ∀ x ∈ recB 3 [], x < 256 := recB_byte _ _ (by decide)
     generalize recB 1 [120, 121] = b1 at *
     generalize recB 2 [] = b2 at *
     generalize recB 3 [] = b3 at *
     replace c1 : Hid _ := c1
     replace c2 : Hid _ := c2
     replace c3 : Hid _ := c3
     replace hr2 : Hid _ := hr2
     replace hr3 : Hid _ := hr3
     have hB9 : Below w.heap.size w wr := hB8.trans (hBr.mono hB8.size)
     have hbx := (Below.refl wr.heap.size wr).alloc (Nat.le_refl _) (.cells #[.int .u8 120, .int .u8 121] 5 (2, 3))
     have k1 : True := trivial
     go_wp2_with (first
      |(clear k1; go_at_call 31; refine hr1.mono ?_; clear hr1; rintro e w10 ⟨v1, rfl, hv1, hb10⟩; obtain ⟨q1, p1, rfl⟩ := own_shape hv1; have k2 : True := trivial)
      |(clear k2; go_at_call 31; refine (hr2.out _).mono ?_; clear hr2; rintro e w11 ⟨v2, rfl, hv2, hb11⟩; obtain ⟨q2, p2, rfl⟩ := own_shape hv2; have k3 : True := trivial)
      |(clear k3; go_at_call 31; refine (hr3.out _).mono ?_; clear hr3; rintro e w12 ⟨v3, rfl, hv3, hb12⟩; obtain ⟨q3, p3, rfl⟩ := own_shape hv3
        have hv1c := own_kept (own_kept hv1 hb11) hb12
        have hv2c := own_kept hv2 hb12
        have hcp := copyBytes_any _ b1 w12 (row_bytes hv1c c1.out (by omega)) (by omega))
      |(go_at_call 32; refine hcp.mono ?_; clear hcp; rintro e w13 ⟨v4, rfl, hv4, hb13⟩; obtain ⟨q4, p4, rfl⟩ := own_shape hv4
        have hv1d := own_kept hv1c hb13
        have hv2d := own_kept hv2c hb13
        have hv3d := own_kept hv3 hb13)
      |(at_builtin; refine wpList_append_bytes _ rfl _ _ rfl w12.heap.size (.slice q4 b1.length p4) (.slice q2 b2.length p2) b1 b2 rfl rfl hv4 (row_bytes hv2d c2.out (by omega)) (by omega) hb13.size ?_; intro v5 w14 hv5 hg14 _; obtain ⟨q5, p5, rfl⟩ := own_shape hv5
        have hb14 := below_grown hv4 hb13.size hg14))
     obtain ⟨g5, p5', he5⟩ := own_pos hv5 (by rw [List.length_append]; omega)
     clear l1p
     simp only [Value.slice.injEq] at he5
     obtain ⟨rfl, _, e55⟩ := he5
     subst e55
     have hp5 : (b1 ++ b2).length ≤ p5 := by
      obtain ⟨q, cap, e, h⟩ := own_copy hv5
      cases e
      exact h
     have cT : Hid (∀ x ∈ b1 ++ b2, x < 256) := fun x hx => (List.mem_append.1 hx).elim (c1.out x) (c2.out x)
     have lT : (b1 ++ b2).length ≤ 200 := by rw [List.length_append]; omega
     have hB14 : Below w.heap.size w w14 := ((hB9.trans ((hbx.trans (hb10.mono (by simp))).mono hB9.size)).trans ((hb11.mono (by have := hB9.size; have := hb10.size; simp at this; omega)).trans (hb12.mono (by have := hB9.size; have := hb10.size; have := hb11.size; simp at *; omega)))).trans ((hb13.mono (by have := hB9.size; have := hb10.size; have := hb11.size; have := hb12.size; simp at *; omega)).trans (hb14.mono (by have := hB9.size; have := hb10.size; have := hb11.size; have := hb12.size; simp at *; omega)))
     have g1 : w14.ownsRow 0 5 1 (.slice q1 b1.length p1) b1.length (encB b1) := row_same (own_base' hv1d (Nat.zero_le _)) (fun g hg => hb14.block g (by
      have := (hv1c.lt g hg).2
      omega))
     have g3 : w14.ownsRow 0 5 1 (.slice q3 b3.length p3) b3.length (encB b3) := row_same (own_base' hv3d (Nat.zero_le _)) (fun g hg => hb14.block g (by
      have := (hv3.lt g hg).2
      omega))
     have gT := own_base' hv5 (Nat.zero_le _)
     have hlL : w14.heap[w6.heap.size]? = some LO := by
      have e1 := (hBr.block _ hl8).trans hhl.out
      have s1 : w6.heap.size < wr.heap.size := Nat.lt_of_lt_of_le hl8 hBr.size
      have e2 := (hbx.block _ s1).trans e1
      have s2 := Nat.lt_of_lt_of_le s1 hbx.size
      have e3 := (hb10.block _ s2).trans e2
      have s3 := Nat.lt_of_lt_of_le s2 hb10.size
      have e4 := (hb11.block _ s3).trans e3
      have s4 := Nat.lt_of_lt_of_le s3 hb11.size
      have e5 := (hb12.block _ s4).trans e4
      have s5 := Nat.lt_of_lt_of_le s4 hb12.size
      have e6 := (hb13.block _ s5).trans e5
      exact (hb14.block _ s5).trans e6
     clear hv1 hv2 hv3 hv4 hv5 hv1c hv2c hv1d hv2d hv3d hg14 hb10 hb11 hb12 hb13 hb14 hbx hBr hB8 hB9 hlo hl8 hn8 hhl hhn
     have eT : (b1 ++ b2).length = b1.length + b2.length := List.length_append
     rw [eT] at gT lT hp5
     generalize hT : b1 ++ b2 = T at *
     clear hT
     generalize b1.length + b2.length = TL at *
     replace eT : Hid _ := eT
     replace g1 : Hid _ := g1
     replace g3 : Hid _ := g3
     replace gT : Hid _ := gT
     replace hlL : Hid _ := hlL
     go_loopw [24] (fun i wr => ∃ k : Nat, k ≤ TL + 1 ∧ i = .int .i64 k ∧ Below w14.heap.size w14 wr) (fun i _ => TL + 1 - (intOf i).toNat)
     case atStart => exact ⟨0, by omega, rfl, Below.refl _ _⟩
     case round =>
      obtain ⟨k, hk, rfl, hBr⟩ := hrel
      by_cases hlt : k ≤ TL
      ·have hltI : (k : Int) ≤ (TL : Int) := by omega
       have hk0 : (0 : Int) ≤ (k : Int) := by omega
       have hk1 : (k : Int) ≤ (p5 : Int) := by omega
       have hl14 : ∀ W, Below wr.heap.size wr W → Below w14.heap.size w14 W := fun W hW => hBr.trans (hW.mono hBr.size)
       have hTi : ∀ W, Below wr.heap.size wr W → BytesIn W (.slice (some ⟨g5, 0, none⟩) TL p5) T := fun W hW => by
        have := own_kept gT.out (hl14 W hW)
        rw [← eT.out] at this ⊢
        exact row_bytes this cT.out (by rw [eT.out]; omega)
       have hTk : ∀ W, Below wr.heap.size wr W → BytesIn W (.slice (some ⟨g5, 0, none⟩) k p5) (T.take k) := fun W hW => by
        obtain ⟨p, len, cap, e, h1, _⟩ := (hTi W hW).take k (by rw [eT.out]; exact hlt)
        cases e
        exact h1
       have htl : (T.take k).length = k := by rw [List.length_take, eT.out]; omega
       have hTa : Hid (∀ W, Below wr.heap.size wr W → OkB W (.slice (some ⟨g5, 0, none⟩) k p5)) := fun W hW => ⟨T.take k, ⟨hTk W hW, _, _, by rw [htl], by rw [htl]; omega⟩, by rw [htl]; omega⟩
       have copyK : Hid (∀ W, Below wr.heap.size wr W → Calls Tryz.prog 32 #[.slice (some ⟨g5, 0, none⟩) k p5] W fun e w' => ∃ v', e = .returned v' ∧ RS wr.heap.size W w' ∧ Sb wr.heap.size v' k w') := fun W hW => by
        have := copy_sb hW.size (hTk W hW) (by rw [htl]; omega)
        rw [htl] at this
        exact this
       have copy1 : Hid (∀ W, Below wr.heap.size wr W → Calls Tryz.prog 32 #[.slice q1 b1.length p1] W fun e w' => ∃ v', e = .returned v' ∧ RS wr.heap.size W w' ∧ Sb wr.heap.size v' b1.length w') := fun W hW => copy_sb hW.size (row_bytes (own_kept g1.out (hl14 W hW)) c1.out (by omega)) (by omega)
       have g3b : Hid (∀ W, Below wr.heap.size wr W → BytesIn W (.slice q3 b3.length p3) b3) := fun W hW => row_bytes (own_kept g3.out (hl14 W hW)) c3.out (by omega)
       have htd : (T.drop k).length = TL - k := by rw [List.length_drop, eT.out]
       obtain ⟨qd, hqd⟩ : ∃ q : Option Addr, (if p5 = k then some ⟨g5, 0, none⟩ else some ⟨g5, k, none⟩) = q := ⟨_, rfl⟩
       have hTd : Hid (∀ W, Below wr.heap.size wr W → BytesIn W (.slice qd (TL - k) (p5 - k)) (T.drop k)) := fun W hW => by
        rw [← hqd]
        by_cases e : p5 = k
        ·rw [if_pos e]
         have e2 : TL - k = 0 := by omega
         rw [e2]
         exact ⟨fun x hx => cT.out x (List.mem_of_mem_drop hx), by omega, .inr (.inl ⟨_, _, rfl, List.eq_nil_of_length_eq_zero (by omega)⟩)⟩
        ·rw [if_neg e]
         have h1 := hTi W hW
         rw [← eT.out] at h1
         have := h1.mid k (TL - k) (p5 - k) (by rw [eT.out]; omega)
         rw [Nat.zero_add, List.take_of_length_le (by rw [htd]; omega)] at this
         exact this
       have htd2 : (T.drop k).length ≤ 200 := by omega
       clear htl htd hTi hTk hl14
       go_wp2_with fail
       refine poised_whole (fun x => Below wr.heap.size wr x) (fun x y => RS wr.heap.size x y) (by kernel_rfl) (by kernel_rfl) (by kernel_rfl) (fun _ _ h k => h.trans k.below) ((Below.refl _ _).drew) ?_
       apply Exists.intro
       iterate 3
        apply walk_det
        ·rfl
        ·intro w2 hC hF
         simp only [upon]
         go_simp
         exact ⟨RS.refl _ _, rfl⟩
        simp only [put_lit, List.set_cons_succ, List.set_cons_zero]
       apply walk_det
       ·rfl
       ·intro w2 hC hF
        simp only [upon]
        go_simp
        exact (hrec.out w2 1 (.slice none 0 0) _ (by omega) (by omega) okB_nil (hTa.out w2 hC)).mono (fun e w' h => ⟨h.1, RS.of h.2 hC.size⟩)
       simp only [put_lit, List.set_cons_succ, List.set_cons_zero]
       iterate 5
        apply walk_det
        ·rfl
        ·intro w2 hC hF
         simp only [upon]
         go_simp
         exact ⟨RS.refl _ _, rfl⟩
        simp only [put_lit, List.set_cons_succ, List.set_cons_zero]
       apply walk_free (fun v w' => Sb wr.heap.size v (k) w') (fun _ _ _ _ hR h => RS.sb hR _ _ h)
       ·rfl
       ·intro w2 hC hF
        simp only [upon]
        go_simp
        exact copyK.out w2 hC
       intro v9
       simp only [put_lit, List.set_cons_succ, List.set_cons_zero]
       apply walk_det
       ·rfl
       ·intro w2 hC hF
        simp only [upon]
        go_simp
        exact ⟨RS.refl _ _, rfl⟩
       simp only [put_lit, List.set_cons_succ, List.set_cons_zero]
       apply walk_free (fun v w' => Sb wr.heap.size v (k + b3.length) w') (fun _ _ _ _ hR h => RS.sb hR _ _ h)
       ·rfl
       ·intro w2 hC hF
        obtain ⟨v', w', hr, k1, k2, k3⟩ := append_sb hC.size (hF 9 (by kernel_rfl)) (g3b.out w2 hC) (by omega) (by omega)
        refine upon_append (.tmp 172) (.tmp 173) 32 rfl rfl rfl hr ⟨⟨k1, k3⟩, k2⟩
       intro v11
       simp only [put_lit, List.set_cons_succ, List.set_cons_zero]
       apply walk_det
       ·rfl
       ·intro w2 hC hF
        simp only [upon]
        go_simp
        exact (hrec.out w2 1 (.slice none 0 0) _ (by omega) (by omega) okB_nil ((hF 11 (by kernel_rfl)).ok (by omega))).mono (fun e w' h => ⟨h.1, RS.of h.2 hC.size⟩)
       simp only [put_lit, List.set_cons_succ, List.set_cons_zero]
       iterate 4
        apply walk_det
        ·rfl
        ·intro w2 hC hF
         simp only [upon]
         go_simp
         exact ⟨RS.refl _ _, rfl⟩
        simp only [put_lit, List.set_cons_succ, List.set_cons_zero]
       apply walk_free (fun v w' => Sb wr.heap.size v (b1.length) w') (fun _ _ _ _ hR h => RS.sb hR _ _ h)
       ·rfl
       ·intro w2 hC hF
        simp only [upon]
        go_simp
        exact copy1.out w2 hC
       intro v17
       simp only [put_lit, List.set_cons_succ, List.set_cons_zero]
       iterate 3
        apply walk_det
        ·rfl
        ·intro w2 hC hF
         simp only [upon]
         go_simp
         exact ⟨RS.refl _ _, rfl⟩
        simp only [put_lit, List.set_cons_succ, List.set_cons_zero]
       apply walk_free (fun v w' => Sb wr.heap.size v (b1.length + (T.drop k).length) w') (fun _ _ _ _ hR h => RS.sb hR _ _ h)
       ·rfl
       ·intro w2 hC hF
        obtain ⟨v', w', hr, k1, k2, k3⟩ := append_sb hC.size (hF 17 (by kernel_rfl)) (hTd.out w2 hC) (by omega) (by omega)
        refine upon_append (.tmp 180) (.tmp 183) 32 rfl rfl rfl hr ⟨⟨k1, k3⟩, k2⟩
       intro v21
       simp only [put_lit, List.set_cons_succ, List.set_cons_zero]
       apply walk_det
       ·rfl
       ·intro w2 hC hF
        simp only [upon]
        go_simp
        exact (hrec.out w2 1 (.slice none 0 0) _ (by omega) (by omega) okB_nil ((hF 21 (by kernel_rfl)).ok (by omega))).mono (fun e w' h => ⟨h.1, RS.of h.2 hC.size⟩)
       simp only [put_lit, List.set_cons_succ, List.set_cons_zero]
       iterate 2
        apply walk_det
        ·rfl
        ·intro w2 hC hF
         simp only [upon]
         go_simp
         exact ⟨RS.refl _ _, rfl⟩
        simp only [put_lit, List.set_cons_succ, List.set_cons_zero]
       apply walk_nil
       intro a1 ha1 _
       go_wp2_with fail
       go_roundw
       case rel => exact ⟨k + 1, by omega, by go_num, hBr.trans (ha1.mono hBr.size)⟩
       case measure => simp [intOf]; omega
      ·have hltI : ¬ (k : Int) ≤ (TL : Int) := by omega
       have hBw : Below w.heap.size w wr := hB14.trans (hBr.mono hB14.size)
       have hLw := (hBr.block _ (Array.getElem?_eq_some_iff.1 hlL.out).1).trans hlL.out
       obtain ⟨MO, hMO⟩ : ∃ o : Obj, .cells (List.replicate 10001 (Value.slice none 0 0)).toArray 32 = o := ⟨_, rfl⟩
       have hmk : ∀ W, (Instr.makeSlice 22 (.int .i64 10001) (.int .i64 10001)).run Tryz.prog W = .ok (.slice (some ⟨W.heap.size, 0, none⟩) 10001 10001) (W.alloc MO) := fun W => by rw [← hMO]; exact run_make_rows 10001 (by omega) W
       have hMw := heap_new wr MO
       have hLw2 : (wr.alloc MO).heap[w6.heap.size]? = some LO := (Below.heap_alloc _ _ _ (Array.getElem?_eq_some_iff.1 hLw).1).trans hLw
       have hl6 : w6.heap.size < (wr.alloc MO).heap.size := (Array.getElem?_eq_some_iff.1 hLw2).1
       have hm6 : wr.heap.size < (wr.alloc MO).heap.size := by simp
       have hBm : Below w.heap.size w (wr.alloc MO) := hBw.alloc hBw.size _
       have hnew := live_new 1048576 (by omega) (wr.alloc MO)
       obtain ⟨o1, o2, _⟩ := open_new 1048576
       replace o1 : Hid _ := o1
       replace o2 : Hid _ := o2
       replace hMO : Hid _ := hMO
       clear hBr hlL gT g1 g3 hLw
       generalize hW : wr.alloc MO = w15 at *
       have hW' : Hid (wr.alloc MO = w15) := hW
       have hX1 : Hid (∀ X, Below w15.heap.size w15 X → BytesIn X (.slice (some ⟨w6.heap.size, 0, none⟩) 262145 262145) (zer 262145)) := fun X hX => by
        have := (hX.block _ hl6).trans hLw2
        rw [← hLO.out] at this
        exact long_in (by omega) this 262145 (Nat.le_refl _)
       have hX2 : Hid (∀ X, Below w15.heap.size w15 X → ∀ i, i ≤ 10001 → ListIn X (.slice (some ⟨wr.heap.size, 0, none⟩) i 10001) (List.replicate i (Value.slice none 0 0, []))) := fun X hX i hi => by
        have := (hX.block _ hm6).trans hMw
        rw [← hMO.out] at this
        exact many_in (by omega) this i hi
       have hlen0 : ∀ q ∈ List.replicate 10001 (Value.slice none 0 0, ([] : List Nat)), q.2.length ≤ 140737488355328 := fun q hq => by rw [List.mem_replicate] at hq; rw [hq.2]; exact Nat.zero_le _
       have hlen1 : ∀ q ∈ List.replicate 10000 (Value.slice none 0 0, ([] : List Nat)), q.2.length ≤ 140737488355328 := fun q hq => by rw [List.mem_replicate] at hq; rw [hq.2]; exact Nat.zero_le _
       replace hlen0 : Hid _ := hlen0
       replace hlen1 : Hid _ := hlen1
       clear hLw2 hMw
       unfold ofBlock at *
       have k1 : True := trivial
       go_wp2_with (first
        |(clear k1; go_at_call 9; refine hnew.mono ?_; clear hnew; rintro e w16 ⟨rfl, hb16, hL16⟩; have k2 : True := trivial)
        |(clear k2; go_at_call 10; refine (open_any hL16 (by omega)).mono ?_; rintro e w17 ⟨hK17, hok, _⟩; obtain ⟨⟨J, u0, L0, rfl, hJ, hR, hT0, hJn, hL17⟩⟩ := hok o1.out
          rw [o2.out] at hT0
          obtain rfl : L0 = [] := (List.map_eq_nil_iff.1 hT0)
          obtain ⟨u0q, u0cap, rfl⟩ := own_shape hR.row
          have hj17 : JLive w17 J (w15.heap.size + 2) w15.heap.size 3 (jnew 1048576) (fun _ => False) := ⟨hL17.sub (fun g hg => by rcases hg with hg | hg; exact hg.elim; exact .inr (.inl hg)), hJ, Nat.le_trans hb16.size hJn, id⟩
          have hB17 := hb16.trans hK17.below
          clear hT0 hR hL17 hJ hok
          have hc1 := jcheckpoint_any _ _ hj17 (by omega) (hX2.out w17 hB17 10001 (by omega)) hlen0.out
          rw [List.map_replicate, ck_many] at hc1
          unfold ofBlock at hc1 ⊢
          have k3 : True := trivial)
        |(clear k3; go_at_call 12; refine hc1.mono ?_; clear hc1; rintro e w18 ⟨rfl, hj18, hK18⟩
          have hB18 := hB17.trans hK18.below
          have hc2 := jappend_any _ _ hj18 (by omega) (by show 0 ≤ _; omega) (hX1.out w18 hB18) (by rw [zer_len]; omega)
          rw [ap_long] at hc2
          unfold ofBlock at hc2
          have k4 : True := trivial)
        |(clear k4; go_at_call 11; refine hc2.mono ?_; clear hc2; rintro e w19 ⟨rfl, hj19, hK19⟩
          have hB19 := hB18.trans hK19.below
          have hab := (Below.refl w19.heap.size w19).alloc (Nat.le_refl _) (.cells #[.slice none 0 0, .slice (some ⟨w6.heap.size, 0, none⟩) 262145 262145] 32)
          have hB20 := hB19.alloc hB19.size (.cells #[.slice none 0 0, .slice (some ⟨w6.heap.size, 0, none⟩) 262145 262145] 32)
          have hj20 := hj19.below hab
          have hc3 := jcheckpoint_any _ _ hj20 (by omega) (two_in (heap_new w19 _) (hX1.out _ hB20)) (fun q hq => by
           rcases List.mem_cons.1 hq with rfl | hq
           ·exact Nat.zero_le _
           ·rcases List.mem_cons.1 hq with rfl | hq
            ·show (zer 262145).length ≤ _; rw [zer_len]; omega
            ·cases hq)
          rw [show List.map (fun x : Value × List Nat => x.2) [(Value.slice none 0 0, []), (Value.slice (some ⟨w6.heap.size, 0, none⟩) 262145 262145, zer 262145)] = [[], zer 262145] from rfl, ck_two] at hc3
          unfold ofBlock at hc3
          have k5 : True := trivial)
        |(clear k5; go_at_call 12; refine hc3.mono ?_; clear hc3; rintro e w21 ⟨rfl, hj21, hK21⟩
          have hB21 := hB20.trans hK21.below
          have hn1 := len_any w21 J _ 0 0 false hj21.jnl
          have hc4 := jcheckpoint_any _ _ hj21 (by omega) (hX2.out w21 hB21 10000 (by omega)) hlen1.out
          obtain ⟨m1, m2, m3⟩ := ck_mostN 10000 (Nat.le_refl _)
          rw [List.map_replicate, m1] at hc4
          simp only [Bool.false_eq_true, if_false] at hn1
          unfold ofBlock at hn1 hc4
          have k6 : True := trivial)
        |(clear k6; go_at_call 13; refine hn1.mono ?_; clear hn1; rintro e w22 ⟨rfl, hw22⟩; obtain rfl := hw22.symm; have k7 : True := trivial)
        |(clear k7; go_at_call 12; refine hc4.mono ?_; clear hc4; rintro e w23 ⟨rfl, hj23, hK23⟩
          have hB23 := hB21.trans hK23.below
          have hjj := hj23.jnl
          rw [m2, m3] at hjj
          have hn2 := len_any w23 J _ 10000 _ false hjj
          simp only [Bool.false_eq_true, if_false] at hn2
          unfold ofBlock at hn2
          have k8 : True := trivial)
        |(clear k8; go_at_call 13; refine hn2.mono ?_; clear hn2; rintro e w24 ⟨rfl, hw24⟩; obtain rfl := hw24.symm))
       have hBz : Below w.heap.size w w23 := hBm.trans (hB23.mono hBm.size)
       clear hj17 hj18 hj19 hj20 hj21 hj23 hjj hK17 hK18 hK19 hK21 hK23 hX1 hX2 hB17 hB18 hB19 hB20 hB21 hB23 hab
       have hdo := fun (r : Int) v D W h1 h2 hD => does_walk r v D W h1 h2 hD
       have hke := fun v D W hD => keeps_walk v D W hD
       have haw := fun W => awake_any W
       replace hdo : Hid _ := hdo
       replace hke : Hid _ := hke
       replace haw : Hid _ := haw
       go_loopw [32] (fun i wr => ∃ k : Nat, k ≤ 14 ∧ i = .int .i64 k ∧ Below w.heap.size w wr) (fun i _ => 14 - (intOf i).toNat)
       case atStart => exact ⟨0, by omega, rfl, hBz⟩
       case round =>
        clear hBz hBm hBw hB14
        obtain ⟨k, hk, rfl, hBr⟩ := hrel
        by_cases hlt : k < 14
        ·have hltI : (k : Int) < 14 := by omega
         have x1 : IntKind.i64.wrap (3 * (k : Int)) = 3 * (k : Int) := IntWalk.i64_in _ (by omega)
         have x2 : IntKind.i64.wrap (2 * (k : Int)) = 2 * (k : Int) := IntWalk.i64_in _ (by omega)
         have x3 : IntKind.i64.wrap (9 * (k : Int)) = 9 * (k : Int) := IntWalk.i64_in _ (by omega)
         have x4 : IntKind.i64.wrap (4 * (k : Int)) = 4 * (k : Int) := IntWalk.i64_in _ (by omega)
         have x5 : IntKind.i64.wrap (30 + 4 * (k : Int)) = 30 + 4 * (k : Int) := IntWalk.i64_in _ (by omega)
         have hcv2 : ∀ (W : World) C n c B, B = W.heap.size → (convert 32 32 (.slice (some ⟨B, 0, none⟩) n c)).run Tryz.prog (W.alloc (.cells C 5)) = .ok (.slice (some ⟨B, 0, none⟩) n c) (W.alloc (.cells C 5 (C.size, C.size + 1))) := by
          rintro W C n c B rfl
          exact hcv W C n c
         clear hcv
         obtain ⟨⟨D1, hD1⟩, _⟩ := names_deeds k hlt (Below.refl _ (namesW k wr))
         have hc1 := hdo.out 1000 _ D1 _ (by omega) (by omega) hD1
         have hnb := namesW_below k wr
         unfold namesW at hc1
         have k1 : True := trivial
         go_wp2_with (first
          |(clear k1; go_at_call 6; refine hc1.mono ?_; clear hc1; rintro e wA ⟨rfl, hbA⟩
            have hbA' : Below (namesW k wr).heap.size (namesW k wr) wA := hbA
            obtain ⟨⟨D2, hD2⟩, _⟩ := names_deeds k hlt hbA'
            have hc2 := hdo.out (30 + 4 * (k : Int)) _ D2 _ (by omega) (by omega) hD2
            have hBA := hBr.trans ((hnb.trans (hbA'.mono hnb.size)).mono hBr.size)
            have k2 : True := trivial)
          |(clear k2; go_at_call 6; refine hc2.mono ?_; clear hc2; rintro e wB ⟨rfl, hbB⟩
            have hbB' := hbA'.trans (hbB.mono hbA'.size)
            obtain ⟨_, D3, hD3⟩ := names_deeds k hlt hbB'
            have hc3 := hke.out _ D3 _ hD3
            have hBB := hBA.trans (hbB.mono hBA.size))
          |(go_at_call 5; refine hc3.mono ?_; clear hc3; rintro e wC ⟨rfl, hbC⟩
            have hBC := hBB.trans (hbC.mono hBB.size)))
         go_roundw
         case rel => exact ⟨k + 1, by omega, by go_num, hBC⟩
         case measure => simp [intOf]; omega
        ·have hltI : ¬ (k : Int) < 14 := by omega
         go_wp2_with (go_at_call 16; refine (haw.out _).mono ?_; rintro e w8 ⟨rfl, hb8⟩)
         go_returns
         exact ⟨rfl, hBr.trans (hb8.mono hBr.size)⟩
end Go.Proofs.YtmcmagplaflegaaGreatDoor
