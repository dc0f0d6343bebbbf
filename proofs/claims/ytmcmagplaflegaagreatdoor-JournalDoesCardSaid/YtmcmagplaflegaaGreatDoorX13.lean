/-
  A JOURNAL THAT IS OPENED TELLS ITS RECORDS: the statement, walked. Conditions: those of each theorem.
  What the cards of this seat share: a world in which the listed variable is laid.
-/
import Derived.Test.YtmcmagplaflegaaGreatDoorX12
import Derived.Test.YtmcmagplaflegaaGreatDoorCards
import Derived.Test.YtmcmagplaflegaaGreatDoorTie
import Derived.Test.YtmcmagplaflegaaGreatDoorX9
import Derived.Lay

namespace Go.Proofs.YtmcmagplaflegaaGreatDoor
open Go Go.RowKit Go.MapL Go.Poised

theorem ArgB.below {w w' : World} {v : Value} {l : List Nat} (h : ArgB w v l) (hb : Below w.heap.size w w') : ArgB w' v l := ⟨h.1.below hb, h.2⟩
theorem ArgR.below {w w' : World} {v : Value} {L : List (Value × List Nat)} (h : ArgR w v L) (hb : Below w.heap.size w w') : ArgR w' v L := by
  obtain ⟨h1, ⟨p, cap, e, hc, hcell⟩, h2⟩ := h
  refine ⟨h1, ⟨p, cap, e, hc, fun k hk => ?_⟩, fun q hq => (h2 q hq).below hb⟩
  obtain ⟨b, off, e2, hx⟩ := hcell k hk
  exact ⟨b, off, e2, (hb.cell (p := ⟨b, off + k, none⟩) (lt_of_cell hx)).trans hx⟩
theorem len_is {w : World} {J p n₀ m : Nat} {j : Jn} {K : Nat → Prop} (h : JLive w J p n₀ m j K) (hbr : j.br = false) (x : Int) (hx : (j.many : Int) = x) : Calls Tryz.prog 13 #[ofBlock J] w fun e w' => e = .returned (.int .i64 x) ∧ w' = w := by
  have := len_any w J p j.many j.kept j.br h.jnl
  rw [hbr] at this
  simpa [hx] using this
theorem kept_is {w : World} {J p n₀ m : Nat} {j : Jn} {K : Nat → Prop} (h : JLive w J p n₀ m j K) (hbr : j.br = false) (x : Int) (hx : (j.kept : Int) = x) : Calls Tryz.prog 14 #[ofBlock J] w fun e w' => e = .returned (.int .i64 x) ∧ w' = w := by
  have := kept_any w J p j.many j.kept j.br h.jnl
  rw [hbr] at this
  simpa [hx] using this
theorem JS.open_all {s : DS} {i mark : Nat} {L : List (List Nat)} (h : JS s i (listB 1 L) mark) (hf : s.fails = -1) (hl : L.length < 1000000000) (hb : ∀ b ∈ L, b.length ≤ 262144) :
    (openD s).2 = 0 ∧ openL s = L ∧ JS (openD s).1 i (listB 1 L) (sizesB L) ∧ (openD s).1.room = s.room ∧ (openD s).1.fails = -1 := by
  obtain ⟨h1, h2, h3, h4, h5, _⟩ := h.open hf (recs_all L hl hb)
  rw [List.take_of_length_le (by rw [listB_len]; exact Nat.le_refl _)] at h3
  exact ⟨h1, h2, h3, h4, h5⟩
theorem sizesB_app : ∀ (L R : List (List Nat)), sizesB (L ++ R) = sizesB L + sizesB R
  | [], R => by simp [sizesB]
  | b :: L, R => by show b.length + 20 + sizesB (L ++ R) = b.length + 20 + sizesB L + _; rw [sizesB_app L R]; omega

set_option maxRecDepth 100000 in
set_option maxHeartbeats 16000000 in
theorem again_walk (v v2 : Value) (A A2 : List (Value × List Nat)) (w : World) (hA : ArgR w v A) (hA2 : ArgR w v2 A2) :
    Calls Tryz.prog 3 #[v, v2] w fun e w' => e = .returned (.bool true) ∧ Below w.heap.size w w' := by
  have hso := some_first v A w hA
  have hso2 := fun W (hb : Below w.heap.size w W) => some_first v2 A2 W (hA2.below hb)
  obtain ⟨T, hT⟩ : ∃ T, firstOnes (A.map (·.2)) = T := ⟨_, rfl⟩
  obtain ⟨T2, hT2⟩ : ∃ T2, firstOnes (A2.map (·.2)) = T2 := ⟨_, rfl⟩
  rw [hT] at hso
  rw [hT2] at hso2
  have hv : ∃ q n c, v = .slice q n c := by
    obtain ⟨_, ⟨q, cap, e, _⟩, _⟩ := hA
    exact ⟨_, _, _, e⟩
  have hv2 : ∃ q n c, v2 = .slice q n c := by
    obtain ⟨_, ⟨q, cap, e, _⟩, _⟩ := hA2
    exact ⟨_, _, _, e⟩
  clear hT hT2 hA hA2
  obtain ⟨vq, vn, vc, rfl⟩ := hv
  obtain ⟨v2q, v2n, v2c, rfl⟩ := hv2
  obtain ⟨o1, o2, _⟩ := open_new 1048576
  obtain ⟨hg0, hroom0⟩ := jnew_good 1048576
  replace o1 : Hid _ := o1
  replace o2 : Hid _ := o2
  replace hso2 : Hid _ := hso2
  have hnew := fun W => live_new 1048576 (by omega) W
  unfold ofBlock at hnew
  replace hnew : Hid _ := hnew
  have k1 : True := trivial
  go_enter Tryz.func3, Tryz.ntmps3
  go_wp2_with (first
    | (clear k1; go_at_call 8; refine hso.mono ?_; clear hso; rintro e w1 ⟨u, M, rfl, hM, hb1⟩; obtain ⟨uq, ucap, rfl⟩ := own_shape hM.rows.row; have k2 : True := trivial)
    | (clear k2; go_at_call 8; refine (hso2.out w1 hb1).mono ?_; clear hso2; rintro e w2 ⟨u2, M2, rfl, hM2, hb2⟩; obtain ⟨u2q, u2cap, rfl⟩ := own_shape hM2.rows.row; have hM' := hM.same (Nat.le_refl _) hb2; have hB2 := hb1.trans (hb2.mono hb1.size); clear hM; have k3 : True := trivial)
    | (clear k3; go_at_call 9; refine (hnew.out w2).mono ?_; clear hnew; rintro e w3 ⟨rfl, hbw3, hL3⟩; have k4 : True := trivial)
    | (clear k4; go_at_call 10; refine (open_any hL3 (by omega)).mono ?_; rintro e w4 ⟨hK4, hok, _⟩; obtain ⟨⟨J, u0, L0, rfl, hJ, hR, hT0, hJn, hL4⟩⟩ := hok o1.out
       rw [o2.out] at hT0
       obtain rfl : L0 = [] := (List.map_eq_nil_iff.1 hT0)
       obtain ⟨u0q, u0cap, rfl⟩ := own_shape hR.row
       have hj4 : JLive w4 J (w2.heap.size + 2) w2.heap.size 3 (jnew 1048576) (fun _ => False) := ⟨hL4.sub (fun g hg => by rcases hg with hg | hg; exact hg.elim; exact .inr (.inl hg)), hJ, Nat.le_trans hbw3.size hJn, id⟩
       have hB4 := hbw3.trans hK4.below
       clear hT0 hR hL4 hJ hok hJn
       unfold ofBlock))
  have hM := hM'
  clear hM'
  have hMl := hM.len
  have hM2l := hM2.len
  have hsz := fun k => firstOnes_size (fun l hl => (hM.each l hl).2) hM.few k
  have hsz2 := fun k => firstOnes_size (fun l hl => (hM2.each l hl).2) hM2.few k
  replace hsz : Hid _ := hsz
  replace hsz2 : Hid _ := hsz2
  have hfew := hM.few
  have hfew2 := hM2.few
  have hM20 : M.length ≤ 20 := by omega
  have hM220 : M2.length ≤ 20 := by omega
  replace hMl : Hid (M.length = T.length) := hMl
  replace hM2l : Hid (M2.length = T2.length) := hM2l
  go_loopw [10] (fun i wr => ∃ (k : Nat) (j : Jn), k ≤ M2.length ∧ i = .int .i64 k ∧ JLive wr J (w2.heap.size + 2) w2.heap.size (3 + 2 * k) j (fun _ => False) ∧ JG j 1 (T2.take k) 0 ∧ j.s.room = 1048576 ∧ Below w2.heap.size w2 wr) (fun i _ => M2.length - (intOf i).toNat)
  case atStart => exact ⟨0, _, by omega, rfl, hj4, hg0, hroom0, hB4⟩
  case round =>
    obtain ⟨k, j, hk, rfl, hj, hg, hroom, hB⟩ := hrel
    clear hj4 hg0 hroom0 hB4
    have hMr := hM2.same (Nat.le_refl _) hB
    by_cases hlt : k < M2.length
    · have hlt' : (k : Int) < (M2.length : Int) := by omega
      obtain ⟨g, xv, xl, rfl, hcell, hxB, ⟨xq, xcap, rfl⟩, hTk, hxb, hxl⟩ := hMr.at k hlt
      have hTl : (T2.take k).length ≤ 20 := by rw [List.length_take]; omega
      obtain ⟨a1, a2, _⟩ := hg.append xl (by omega) (by omega)
      have hfit : sizesB (T2.take k) + (xl.length + 20) ≤ j.s.room := by rw [hroom]; have := hsz2.out k; omega
      rw [if_neg (by omega)] at a1
      obtain ⟨a3, _, a4, _⟩ := a2 hfit
      have hap := jappend_any _ xl hj (by omega) (by rw [hg.many]; omega) hxB (by omega)
      rw [a1] at hap
      rw [← hTk] at a3
      rw [hroom] at a4
      replace hfit : Hid _ := hfit
      replace a3 : Hid _ := a3
      replace a4 : Hid _ := a4
      unfold ofBlock at hap
      clear a1 a2 hg hTk
      go_wp2_with (go_at_call 11; refine hap.mono ?_; clear hap; rintro e w5 ⟨rfl, hj5, hK5⟩)
      go_roundw
      case rel => exact ⟨k + 1, _, by omega, by go_num, hj5, a3.out, a4.out, hB.trans hK5.below⟩
      case measure => simp [intOf]; omega
    · obtain rfl : k = M2.length := by omega
      have hTk : T2.take M2.length = T2 := by rw [hM2l.out, List.take_length]
      rw [hTk] at hg
      have hMc := hM.same (Nat.le_refl _) hB
      obtain ⟨b1, b2, _⟩ := hg.checkpoint (Nat.zero_le _) T (by omega) (fun l hl => by have := (hM.each l hl).2; omega)
      have hs1 := hsz.out T.length
      have hs2 := hsz2.out T2.length
      rw [List.take_length] at hs1 hs2
      rw [if_neg (by rw [hroom]; omega)] at b1
      obtain ⟨⟨i', b3⟩, b4, b5⟩ := b2 (by rw [hroom]; omega)
      have hcp := jcheckpoint_any _ M hj (by omega) hMc.list (fun q hq => by have := (hMc.each q.2 (by rw [← hMc.eq]; exact List.mem_map_of_mem hq)).2; omega)
      rw [hMc.eq, b1] at hcp
      obtain ⟨jc, hjc⟩ : ∃ jc, (j.checkpoint T).1 = jc := ⟨_, rfl⟩
      rw [hjc] at b3 b4 b5 hcp
      rw [hroom] at b5
      have hmany := b3.many
      have hbr := b3.br
      clear hjc hg b1 b2 hs1 hs2
      have e1 : (jc.many : Int) = (M.length : Int) := by rw [hmany]; have := hMl.out; omega
      have e2 : (jc.kept : Int) = (M.length : Int) := by rw [b4]; have := hMl.out; omega
      replace e1 : Hid _ := e1
      replace e2 : Hid _ := e2
      replace hmany : Hid _ := hmany
      replace hbr : Hid _ := hbr
      replace b4 : Hid _ := b4
      unfold ofBlock at hcp
      have k1 : True := trivial
      go_wp2_with (first
        | (clear k1; go_at_call 12; refine hcp.mono ?_; clear hcp; rintro e w5 ⟨rfl, hj5, hK5⟩; have hln := len_is hj5 hbr.out _ e1.out; have hkp := kept_is hj5 hbr.out _ e2.out; unfold ofBlock at hln hkp; have k2 : True := trivial)
        | (clear k2; go_at_call 13; refine hln.mono ?_; clear hln; rintro e w6 ⟨rfl, rfl⟩; have k3 : True := trivial)
        | (clear k3; go_at_call 14; refine hkp.mono ?_; clear hkp; rintro e w7 ⟨rfl, rfl⟩))
      have hB5 := hB.trans hK5.below
      go_loopw [12] (fun i wx => ∃ (k : Nat) (j : Jn), k ≤ M2.length ∧ i = .int .i64 k ∧ JLive wx J (w2.heap.size + 2) w2.heap.size (3 + 2 * M2.length + 3 + 2 * k) j (fun _ => False) ∧ JG j i' (T ++ T2.take k) (sizesB T) ∧ j.kept = T.length ∧ j.s.room = 1048576 ∧ Below w2.heap.size w2 wx) (fun i _ => M2.length - (intOf i).toNat)
      case atStart => exact ⟨0, _, by omega, rfl, hj5, by simpa using b3, b4.out, b5, hB5⟩
      case round =>
        obtain ⟨k, j6, hk, rfl, hj6, hg, hkept, hroom, hB6⟩ := hrel
        clear hj5 b3 b4 b5 hB5 hK5 e1 e2 hmany hbr hj hMr hMc
        have hMr := hM2.same (Nat.le_refl _) hB6
        by_cases hlt : k < M2.length
        · have hlt' : (k : Int) < (M2.length : Int) := by omega
          obtain ⟨g, xv, xl, rfl, hcell, hxB, ⟨xq, xcap, rfl⟩, hTk, hxb, hxl⟩ := hMr.at k hlt
          have hTl : (T ++ T2.take k).length ≤ 40 := by rw [List.length_append, List.length_take]; omega
          obtain ⟨a1, a2, _⟩ := hg.append xl (by omega) (by omega)
          have hfit : sizesB (T ++ T2.take k) + (xl.length + 20) ≤ j6.s.room := by
            rw [hroom, sizesB_app]
            have h1 := hsz2.out k
            have h2 := hsz.out T.length
            rw [List.take_length] at h2
            omega
          rw [if_neg (by omega)] at a1
          obtain ⟨a3, a5, a4, _⟩ := a2 hfit
          have hap := jappend_any _ xl hj6 (by omega) (by rw [hg.many]; omega) hxB (by omega)
          rw [a1] at hap
          obtain ⟨jc, hjc⟩ : ∃ jc, (j6.append xl).1 = jc := ⟨_, rfl⟩
          rw [hjc] at a3 a4 a5 hap
          rw [List.append_assoc, ← hTk] at a3
          rw [hroom] at a4
          rw [hkept] at a5
          have e1 : (jc.many : Int) = (M.length : Int) + (k : Int) + 1 := by
            rw [a3.many, List.length_append, List.length_take]
            have := hMl.out
            have := hM2l.out
            omega
          have e2 : (jc.kept : Int) = (M.length : Int) := by rw [a5]; have := hMl.out; omega
          have hbr := a3.br
          replace hbr : Hid _ := hbr
          replace e1 : Hid _ := e1
          replace e2 : Hid _ := e2
          replace hfit : Hid _ := hfit
          replace a3 : Hid _ := a3
          replace a4 : Hid _ := a4
          replace a5 : Hid _ := a5
          have gw1 : IntKind.i64.wrap ((M.length : Int) + (k : Int)) = (M.length : Int) + (k : Int) := IntWalk.i64_in _ (by omega)
          have gw2 : IntKind.i64.wrap ((M.length : Int) + (k : Int) + 1) = (M.length : Int) + (k : Int) + 1 := IntWalk.i64_in _ (by omega)
          unfold ofBlock at hap
          clear a1 a2 hg hTk hjc
          have k1 : True := trivial
          go_wp2_with (first
            | (clear k1; go_at_call 11; refine hap.mono ?_; clear hap; rintro e w7 ⟨rfl, hj7, hK7⟩; have hln := len_is hj7 hbr.out _ e1.out; have hkp := kept_is hj7 hbr.out _ e2.out; unfold ofBlock at hln hkp; have k2 : True := trivial)
            | (clear k2; go_at_call 13; refine hln.mono ?_; clear hln; rintro e w8 ⟨rfl, rfl⟩; have k3 : True := trivial)
            | (clear k3; go_at_call 14; refine hkp.mono ?_; clear hkp; rintro e w9 ⟨rfl, rfl⟩))
          go_roundw
          case rel => exact ⟨k + 1, jc, by omega, by go_num, hj7, a3.out, a5.out, a4.out, hB6.trans hK7.below⟩
          case measure => simp [intOf]; omega
        · obtain rfl : k = M2.length := by omega
          rw [hTk] at hg
          have hTT : (T ++ T2).length < 1000000000 := by rw [List.length_append]; omega
          have hTb : ∀ b ∈ T ++ T2, b.length ≤ 262144 := fun b hb => by
            rcases List.mem_append.1 hb with hb | hb
            · have := (hM.each b hb).2; omega
            · have := (hM2.each b hb).2; omega
          have hTy : ∀ b ∈ T ++ T2, ∀ x ∈ b, x < 256 := fun b hb => by
            rcases List.mem_append.1 hb with hb | hb
            · exact (hM.each b hb).1
            · exact (hM2.each b hb).1
          obtain ⟨c1, c2, c3, c4, c5⟩ := hg.disk.open_all hg.fails hTT hTb
          obtain ⟨d1, d2, _⟩ := c3.open_all c5 hTT hTb
          replace c1 : Hid _ := c1
          replace c2 : Hid _ := c2
          replace d1 : Hid _ := d1
          replace d2 : Hid _ := d2
          clear c3 c4 c5
          have hMc := hM.same (Nat.le_refl _) hB6
          have hL6 := hj6.live.sub (K' := fun _ => False) (fun g hg => hg.elim)
          have hML : Hid (M.length + M2.length = (T ++ T2).length) := by show _ = _; rw [List.length_append, hMl.out, hM2l.out]
          replace hTT : Hid _ := hTT
          clear hkept hroom hg hTk
          have hone := hMc.oneCell
          have hone2 := hMr.oneCell
          replace hone : Hid _ := hone
          replace hone2 : Hid _ := hone2
          have k1 : True := trivial
          go_wp2_with (first
            | (clear k1; at_builtin; refine wpList_append_rows _ rfl _ _ rfl wr.heap.size w.heap.size (.slice none 0 0) (.slice uq M.length ucap) 0 M.length [] (M.map (·.1)) rfl rfl (World.ownsRow_nil _ _ _ _) hMc.rows.row hone.out (by omega) (Nat.le_refl _) ?_; intro x1 W1 hx1 hg1 _
               simp only [Nat.zero_add, List.nil_append] at hx1
               have hBa := below_grown (World.ownsRow_nil wr wr.heap.size 32 1) (Nat.le_refl _) hg1
               obtain ⟨x1q, x1cap, rfl⟩ := own_shape hx1
               have hMr1 := hMr.same (Nat.le_refl _) hBa
               have k2 : True := trivial)
            | (clear k2; at_builtin; refine wpList_append_rows _ rfl _ _ rfl wr.heap.size w1.heap.size (.slice x1q M.length x1cap) (.slice u2q M2.length u2cap) M.length M2.length (M.map (·.1)) (M2.map (·.1)) rfl rfl hx1 hMr1.rows.row hone2.out (by omega) hBa.size ?_; intro x2 W2 hx2 hg2 _
               have hBb := hBa.trans (below_grown hx1 hBa.size hg2)
               obtain ⟨x2q, x2cap, rfl⟩ := own_shape hx2
               have hL7 : Live W2 (w2.heap.size + 2) w2.heap.size (3 + 2 * M2.length + 3 + 2 * M2.length) j6.s (rowK (.slice x2q (M.length + M2.length) x2cap)) := hL6.more hBb (fun g hg => .inr (by have := hx2.lt g hg; omega))
               clear hMr1 hg1 hg2 hx1
               have hop := open_any hL7 (by omega)
               unfold ofBlock at hop
               have k3 : True := trivial)
            | (clear k3; go_at_call 10; refine hop.mono ?_; clear hop; rintro e W3 ⟨hK3, hok, _⟩; obtain ⟨⟨J3, u3, L3, rfl, hJ3, hR3, hT3, hJn3, hL8⟩⟩ := hok c1.out
               rw [c2.out] at hT3
               obtain ⟨u3q, u3cap, rfl⟩ := own_shape hR3.row
               clear hok
               have hop := open_any hL8 (by omega)
               unfold ofBlock at hop ⊢
               have k4 : True := trivial)
            | (clear k4; go_at_call 10; refine hop.mono ?_; clear hop; rintro e W4 ⟨hK4', hok, _⟩; obtain ⟨⟨J4, u4, L4, rfl, hJ4, hR4, hT4, hJn4, hL9⟩⟩ := hok d1.out
               rw [d2.out] at hT4
               obtain ⟨u4q, u4cap, rfl⟩ := own_shape hR4.row
               clear hok hL9 hJ4 hJn4 hL8
               have hB7 := ((hB6.trans (hBb.mono hB6.size)).trans hK3.below).trans hK4'.below
               have hx4 := hK4'.row (hK3.row hx2 (fun g hg => hg)) (fun g hg => .inl hg)
               obtain ⟨hwl, hwT⟩ := want_list hx4 (hM.same (Nat.le_refl _) hB7) (hM2.same (Nat.le_refl _) hB7)
               have hl3 := (hR3.same (fun g hg => hK4'.same g (.inr (.inr hg)))).list (fun q hq => hTy q.2 (by rw [← hT3]; exact List.mem_map_of_mem hq)) (fun q hq => hTb q.2 (by rw [← hT3]; exact List.mem_map_of_mem hq))
               have hl4 := hR4.list (fun q hq => hTy q.2 (by rw [← hT4]; exact List.mem_map_of_mem hq)) (fun q hq => hTb q.2 (by rw [← hT4]; exact List.mem_map_of_mem hq))
               have hsm := same_any _ _ L3 (M ++ M2) W4 hl3 hwl
               rw [decide_eq_true (hT3.trans hwT.symm)] at hsm
               have hsm2 := fun W (hb : Below W4.heap.size W4 W) => same_any _ _ L4 (M ++ M2) W (hl4.below hb) (hwl.below hb)
               rw [hT4, hwT] at hsm2
               simp only [decide_true] at hsm2
               have hJ5 := (hK4'.same J3 (.inr (.inl rfl))).trans hJ3
               have hL3l : L3.length = M.length + M2.length := (by have := congrArg List.length hT3; rw [List.length_map] at this; rw [this]; exact hML.out.symm)
               replace hL3l : Hid (L3.length = M.length + M2.length) := hL3l
               clear hl3 hl4 hwl hwT hx4 hR3 hR4
               replace hT3 : Hid _ := hT3
               replace hT4 : Hid _ := hT4
               replace hsm2 : Hid _ := hsm2
               unfold ofBlock
               have k5 : True := trivial)
            | (clear k5; go_at_call 15; refine hsm.mono ?_; clear hsm; rintro e W5 ⟨rfl, hb5⟩; have k6 : True := trivial)
            | (clear k6; go_at_call 15; refine (hsm2.out _ hb5).mono ?_; clear hsm2; rintro e W6 ⟨rfl, hb6⟩
               have hJ6 : JnlAt W6 J3 (w2.heap.size + 2) L3.length L3.length false := ((hb5.trans (hb6.mono hb5.size)).block _ (Array.getElem?_eq_some_iff.1 hJ5).1).trans hJ5
               have hln := len_any W6 J3 _ _ _ _ hJ6
               have hkp := kept_any W6 J3 _ _ _ _ hJ6
               simp only [Bool.false_eq_true, if_false, hL3l.out] at hln hkp
               unfold ofBlock at hln hkp
               have k7 : True := trivial)
            | (clear k7; go_at_call 13; refine hln.mono ?_; clear hln; rintro e W7 ⟨rfl, rfl⟩; have k8 : True := trivial)
            | (clear k8; go_at_call 14; refine hkp.mono ?_; clear hkp; rintro e W8 ⟨rfl, rfl⟩; have k9 : True := trivial)
            | (clear k9; go_at_call 16; refine (awake_any _).mono ?_; rintro e W9 ⟨rfl, hb9⟩))
          go_returns
          have hB8 := hB7.trans (hb5.mono hB7.size)
          have hB9 := hB8.trans (hb6.mono hB8.size)
          exact ⟨rfl, hB2.trans ((hB9.trans (hb9.mono hB9.size)).mono hB2.size)⟩
end Go.Proofs.YtmcmagplaflegaaGreatDoor

namespace Go.Proofs.YtmcmagplaflegaaGreatDoor
open Go Go.ChangeShapes Go.WideShapes Go.ChangeAt Go.RowKit Go.WideMaps Go.LawKit

noncomputable def laidDoor (os : Os) : World := World.laidAll Tryz.prog os [("bytes.ErrTooLarge", Rows.laid_bytes_ErrTooLarge)]
theorem laidDoor_met (os : Os) (args : Array Value) : laidMet Tryz.prog [("bytes.ErrTooLarge", Rows.laid_bytes_ErrTooLarge)] ((laidDoor os).forCall (fun _ _ => 0) ⟨#[], args, []⟩).memory :=
  laidMet_laidAll args (by kernel_rfl) (by kernel_rfl)
end Go.Proofs.YtmcmagplaflegaaGreatDoor
