/-
  WHAT HAS NO ROOM IS REFUSED: the statement, walked. Conditions: those of each theorem.
-/
import Derived.Test.YtmcmagplaflegaaGreatDoorX13

namespace Go.Proofs.YtmcmagplaflegaaGreatDoor
open Go Go.RowKit Go.MapL Go.Poised

theorem broken_is {w : World} {J p n₀ m : Nat} {j : Jn} {K : Nat → Prop} (h : JLive w J p n₀ m j K) (hbr : j.br = false) : Calls Tryz.prog 18 #[ofBlock J] w fun e w' => e = .returned (.bool false) ∧ w' = w := by
  have := broken_any w J p j.many j.kept j.br h.jnl
  rw [hbr] at this
  exact this
/-- One of them, that is one of them. -/
theorem FirstAt.at' {w : World} {n : Nat} {q : Option Addr} {cap : Nat} {M : List (Value × List Nat)} {T : List (List Nat)} (h : FirstAt w n (.slice q M.length cap) M T) (k : Nat) (hk : k < M.length) :
    ∃ g xv xl, q = some ⟨g, 0, none⟩ ∧ w.cell? ⟨g, k, none⟩ = some xv ∧ BytesIn w xv xl ∧ (∃ xq xcap, xv = .slice xq xl.length xcap) ∧ (xv, xl) ∈ M ∧ (∀ x ∈ xl, x < 256) ∧ xl.length ≤ 200 := by
  obtain ⟨g, hg⟩ : ∃ g, q = some ⟨g, 0, none⟩ := by
    rcases h.rows.row.2 with ⟨_, h0⟩ | ⟨g, c, cu, e, _⟩
    · omega
    · cases e; exact ⟨g, rfl⟩
  subst hg
  have hx := h.rows.each M[k] (List.getElem_mem hk)
  have hxin := h.each M[k].2 (by rw [← h.eq]; exact List.mem_map_of_mem (List.getElem_mem hk))
  refine ⟨g, M[k].1, M[k].2, rfl, ?_, row_bytes hx hxin.1 (by omega), own_shape hx, List.getElem_mem hk, hxin.1, hxin.2⟩
  have := h.rows.row.cells (g := g) rfl k M[k].1 (by simp [hk])
  rw [Addr.add_lit, Nat.zero_add] at this
  exact this
/-- A row beside a journal has grown. -/
theorem JLive.grown {w w' : World} {J p n₀ m : Nat} {j : Jn} {v v' : Value} {e e' k k' : Nat} {xs ys : List Value} (h : JLive w J p n₀ m j (rowK v)) (_ : w.ownsRow n₀ e 1 v k xs) (hv' : w'.ownsRow n₀ e' 1 v' k' ys) (hg : w.grownBy w' v.ownBlock) (hn : ∀ k, v'.ownBlock = some k → v.ownBlock = some k ∨ w.heap.size ≤ k) : JLive w' J p n₀ m j (rowK v') := by
  have hJl := h.live.lt J (.inr rfl)
  refine ⟨⟨?_, h.live.sound, Nat.le_trans h.live.base hg.size⟩, (hg.block J hJl (fun e => h.out e.symm)).trans h.jnl, h.base, fun hJ => ?_⟩
  · obtain ⟨r, hL, h1⟩ := h.live.ex
    refine ⟨r, hL.same (fun g hg2 => hg.block g (hL.own_lt g hg2).1 (fun e => (h1 g (.inl e.symm)).2 hg2)), fun g hg2 => ?_⟩
    rcases hg2 with hg2 | rfl
    · refine ⟨(hv'.lt g hg2).2, fun ho => ?_⟩
      rcases hn g hg2 with h3 | h3
      · exact (h1 g (.inl h3)).2 ho
      · have := (hL.own_lt g ho).1; omega
    · exact ⟨Nat.lt_of_lt_of_le hJl hg.size, (h1 g (.inr rfl)).2⟩
  · rcases hn J hJ with h3 | h3
    · exact h.out h3
    · omega
theorem sizesB_zero' (Q : List (Value × List Nat)) (h : Q = []) : sizesB (Q.map (·.2)) = 0 := by subst h; rfl

set_option maxRecDepth 100000 in
set_option maxHeartbeats 16000000 in
theorem room_walk (room : Int) (v : Value) (A : List (Value × List Nat)) (w : World) (hr1 : -9223372036854775808 ≤ room) (hr2 : room ≤ 9223372036854775807) (hA : ArgR w v A) :
    Calls Tryz.prog 4 #[.int .i64 room, v] w fun e w' => e = .returned (.bool true) ∧ Below w.heap.size w w' := by
  have hso := some_first v A w hA
  obtain ⟨T, hT⟩ : ∃ T, firstOnes (A.map (·.2)) = T := ⟨_, rfl⟩
  rw [hT] at hso
  have hv : ∃ q n c, v = .slice q n c := by
    obtain ⟨_, ⟨q, cap, e, _⟩, _⟩ := hA
    exact ⟨_, _, _, e⟩
  clear hT hA
  obtain ⟨vq, vn, vc, rfl⟩ := hv
  obtain ⟨r, hr, hrl⟩ : ∃ r : Nat, room % 301 = r ∧ r ≤ 300 := by
    have h1 := Int.emod_nonneg room (b := 301) (by omega)
    have h2 := Int.emod_lt_of_pos room (b := 301) (by omega)
    exact ⟨(room % 301).toNat, by omega, by omega⟩
  have hbr := bring_any room 301 (by omega) (by omega) hr1 hr2 w
  rw [hr] at hbr
  clear hr
  obtain ⟨o1, o2, _⟩ := open_new r
  obtain ⟨hg0, hroom0⟩ := jnew_good r
  replace o1 : Hid _ := o1
  replace o2 : Hid _ := o2
  have hnew := fun W => live_new r (by omega) W
  unfold ofBlock at hnew
  replace hnew : Hid _ := hnew
  obtain ⟨i23, hi23, hz23, hs23, hb23⟩ := info_parts info32
  replace hz23 : Hid _ := hz23
  replace hs23 : Hid _ := hs23
  replace hb23 : Hid _ := hb23
  have k1 : True := trivial
  go_enter Tryz.func4, Tryz.ntmps4
  go_wp2_with (first
    | (clear k1; go_at_call 17; refine hbr.mono ?_; clear hbr; rintro e w0 ⟨rfl, rfl⟩; have k2 : True := trivial)
    | (clear k2; go_at_call 8; refine hso.mono ?_; clear hso; rintro e w1 ⟨u, M, rfl, hM, hb1⟩; obtain ⟨uq, ucap, rfl⟩ := own_shape hM.rows.row; have k3 : True := trivial)
    | (clear k3; go_at_call 9; refine (hnew.out w1).mono ?_; clear hnew; rintro e w3 ⟨rfl, hbw3, hL3⟩; have k4 : True := trivial)
    | (clear k4; go_at_call 10; refine (open_any hL3 (by omega)).mono ?_; rintro e w4 ⟨hK4, hok, _⟩; obtain ⟨⟨J, u0, L0, rfl, hJ, hR, hT0, hJn, hL4⟩⟩ := hok o1.out
       rw [o2.out] at hT0
       obtain rfl : L0 = [] := (List.map_eq_nil_iff.1 hT0)
       obtain ⟨u0q, u0cap, rfl⟩ := own_shape hR.row
       have hj4 : JLive w4 J (w1.heap.size + 2) w1.heap.size 3 (jnew r) (rowK (.slice none 0 0)) := ⟨hL4.sub (fun g hg => by rcases hg with hg | hg; cases hg; exact .inr (.inl hg)), hJ, Nat.le_trans hbw3.size hJn, fun h => by cases h⟩
       have hB4 := hbw3.trans hK4.below
       clear hT0 hR hL4 hJ hok hJn
       unfold ofBlock))
  have hMl := hM.len
  have hfew := hM.few
  have hM20 : M.length ≤ 20 := by omega
  clear hMl hfew
  go_loopw [13, 11, 12] (fun i us want wr => ∃ (k : Nat) (j : Jn) (Q : List (Value × List Nat)) (U : Nat), k ≤ M.length ∧ i = .int .i64 k ∧ us = .int .i64 U ∧ sizesB (Q.map (·.2)) = U ∧ U ≤ r ∧ wr.ownsRow w1.heap.size 32 1 want Q.length (Q.map (·.1)) ∧ (∀ q ∈ Q, q ∈ M) ∧ Q.length ≤ k ∧
      JLive wr J (w1.heap.size + 2) w1.heap.size (3 + 2 * k) j (rowK want) ∧ JG j 1 (Q.map (·.2)) 0 ∧ j.s.room = r ∧ Below w1.heap.size w1 wr) (fun i _ _ _ => M.length - (intOf i).toNat)
  case atStart => exact ⟨0, _, [], 0, by omega, rfl, rfl, rfl, by omega, World.ownsRow_nil _ _ _ _, fun q h => by simp at h, Nat.le_refl _, hj4, hg0, hroom0, hB4⟩
  case round =>
    obtain ⟨k, j, Q, U, hk, rfl, rfl, hU, hUr, hW, hQM, hQk, hj, hg, hroom, hB⟩ := hrel
    clear hj4 hg0 hroom0 hB4
    obtain ⟨wq, wcap, rfl⟩ := own_shape hW
    have hMr := hM.same (Nat.le_refl _) hB
    replace hU : Hid (sizesB (Q.map (·.2)) = U) := hU
    replace hQM : Hid _ := hQM
    by_cases hlt : k < M.length
    · have hlt' : (k : Int) < (M.length : Int) := by omega
      obtain ⟨g, xv, xl, rfl, hcell, hxB, ⟨xq, xcap, rfl⟩, hmem, hxb, hxl⟩ := hMr.at' k hlt
      obtain ⟨a1, a2, a3⟩ := hg.append xl (by omega) (by rw [List.length_map]; omega)
      rw [hU.out, hroom] at a1 a2 a3
      have hap := jappend_any _ xl hj (by omega) (by rw [hg.many, List.length_map]; omega) hxB (by omega)
      have gw1 : IntKind.i64.wrap ((U : Int) + (xl.length : Int)) = (U : Int) + (xl.length : Int) := IntWalk.i64_in _ (by omega)
      have gw2 : IntKind.i64.wrap ((U : Int) + (xl.length : Int) + 20) = (U : Int) + (xl.length : Int) + 20 := IntWalk.i64_in _ (by omega)
      have hgl := (hM.rows.row.lt g rfl).2
      obtain ⟨N, hN⟩ : ∃ N, xl.length = N := ⟨_, rfl⟩
      obtain ⟨jc, hjc⟩ : ∃ jc, (j.append xl).1 = jc := ⟨_, rfl⟩
      rw [hjc] at a2 a3 hap
      clear hjc
      by_cases hfit : U + (N + 20) ≤ r
      · have hfitI : (U : Int) + (N : Int) + 20 ≤ (r : Int) := by omega
        rw [if_neg (by omega)] at a1
        obtain ⟨b1, _, b3, _⟩ := a2 (by omega)
        rw [a1] at hap
        have hbk := b1.br
        have hQn : Hid (sizesB ((Q ++ [((.slice xq N xcap : Value), xl)]).map (·.2)) = U + N + 20) := by
          show _ = _
          rw [List.map_append, sizesB_app, hU.out]
          show U + (xl.length + 20 + 0) = _
          omega
        have hgn : Hid (JG jc 1 ((Q ++ [((.slice xq N xcap : Value), xl)]).map (·.2)) 0) := by
          show JG _ _ _ _
          rw [List.map_append]; exact b1
        rw [hN] at gw1 gw2 hap hxl hcell
        replace hN : Hid _ := hN
        replace hbk : Hid _ := hbk
        replace b3 : Hid _ := b3
        replace hg : Hid _ := hg
        unfold ofBlock at hap
        clear a1 a2 a3 b1 hfit
        have k1 : True := trivial
        go_wp2_with (first
          | (clear k1; go_at_call 11; refine hap.mono ?_; clear hap; rintro e w5 ⟨rfl, hj5, hK5⟩; have hbx := broken_is hj5 hbk.out; unfold ofBlock at hbx; have hcell5 := (hK5.below.cell (p := ⟨g, k, none⟩) hgl).trans hcell; have k2 : True := trivial)
          | (clear k2; go_at_call 18; refine hbx.mono ?_; clear hbx; rintro e w6 ⟨rfl, rfl⟩; have hW6 := hK5.row hW (fun g hg => hg); have hal := (Below.refl w6.heap.size w6).alloc (Nat.le_refl _) (.cells #[.slice xq N xcap] 32); have hW7 := own_kept hW6 hal; have hj7 := hj5.below hal; have hcn := cell_of (heap_new w6 (.cells #[.slice xq N xcap] 32)); have hB6 := hB.trans hK5.below; have hB7 := hB6.trans (hal.mono hB6.size); have k3 : True := trivial)
          | (clear k3; at_builtin; refine wpList_append_far _ rfl _ _ 22 32 i23 (.slice none 0 0) rfl Tryz.underlying22 hi23 hz23.out hs23.out hb23.out rfl w1.heap.size (.slice wq Q.length wcap) (.slice xq N xcap) Q.length (Q.map (·.1)) w6.heap.size rfl rfl hW7 hcn (by simp [Value.oneCell']) (by omega) hB7.size ?_; intro v' w8 hown8 hgrow8 hwhere8))
        go_roundw
        case rel =>
          have hU8 := hQn.out
          refine ⟨k + 1, jc, Q ++ [(.slice xq N xcap, xl)], U + N + 20, by omega, by go_num, by go_num, hQn.out, by omega, by simpa using hown8, fun q hq => ?_, by simp; omega, ?_, hgn.out, b3.out, hB7.trans (below_grown hW7 hB7.size hgrow8)⟩
          · rcases List.mem_append.1 hq with hq | hq
            · exact hQM.out q hq
            · rw [List.mem_singleton] at hq; subst hq
              rw [← hN.out]; exact hmem
          · exact JLive.grown hj7 hW7 (by simpa using hown8) hgrow8 hwhere8
        case measure => simp [intOf]; omega
      · have hfitI : ¬ (U : Int) + (N : Int) + 20 ≤ (r : Int) := by omega
        rw [if_pos (by omega)] at a1
        have b1 := a3 (by omega)
        rw [a1] at hap
        subst b1
        have hbk := hg.br
        rw [hN] at gw1 gw2 hap hxl hcell
        replace hN : Hid _ := hN
        replace hbk : Hid _ := hbk
        replace hg : Hid _ := hg
        unfold ofBlock at hap
        clear a1 a2 a3 hfit
        have k1 : True := trivial
        go_wp2_with (first
          | (clear k1; go_at_call 11; refine hap.mono ?_; clear hap; rintro e w5 ⟨rfl, hj5, hK5⟩; have hbx := broken_is hj5 hbk.out; unfold ofBlock at hbx; have hcell5 := (hK5.below.cell (p := ⟨g, k, none⟩) hgl).trans hcell; have k2 : True := trivial)
          | (clear k2; go_at_call 18; refine hbx.mono ?_; clear hbx; rintro e w6 ⟨rfl, rfl⟩; have k3 : True := trivial))
        go_roundw
        case rel => exact ⟨k + 1, jc, Q, U, by omega, by go_num, rfl, hU.out, hUr, hK5.row hW (fun g hg => hg), hQM.out, by omega, hj5, hg.out, hroom, hB.trans hK5.below⟩
        case measure => simp [intOf]; omega
    · obtain rfl : k = M.length := by omega
      have hQT : ∀ q ∈ Q, (∀ x ∈ q.2, x < 256) ∧ q.2.length ≤ 200 := fun q hq => hM.each q.2 (by rw [← hM.eq]; exact List.mem_map_of_mem (hQM.out q hq))
      have hQb : ∀ b ∈ Q.map (·.2), b.length ≤ 262144 := fun b hb => by
        obtain ⟨q, hq, rfl⟩ := List.mem_map.1 hb
        have := (hQT q hq).2; omega
      have hQy : ∀ b ∈ Q.map (·.2), ∀ x ∈ b, x < 256 := fun b hb => by
        obtain ⟨q, hq, rfl⟩ := List.mem_map.1 hb
        exact (hQT q hq).1
      have hQl : (Q.map (·.2)).length ≤ 20 := by rw [List.length_map]; omega
      have hwl : ∀ W n', Below w1.heap.size w1 W → W.ownsRow n' 32 1 (.slice wq Q.length wcap) Q.length (Q.map (·.1)) → ListIn W (.slice wq Q.length wcap) Q := fun W n' hb hw =>
        own_list hw (fun q hq => (hM.same (Nat.le_refl _) hb).list.each q (hQM.out q hq))
      obtain ⟨c1, c2, c3⟩ := hg.checkpoint (Nat.zero_le _) (Q.map (·.2)) (by omega) hQb
      rw [hU.out, hroom] at c1 c2 c3
      have hcp := jcheckpoint_any _ Q hj (by omega) (hwl wr _ hB hW) (fun q hq => by have := (hQT q hq).2; omega)
      obtain ⟨jc, hjc⟩ : ∃ jc, (j.checkpoint (Q.map (·.2))).1 = jc := ⟨_, rfl⟩
      rw [hjc] at c2 c3 hcp
      rw [c1] at hcp
      obtain ⟨i', mk, hgc⟩ : ∃ i' mk, JG jc i' (Q.map (·.2)) mk := by
        by_cases h2 : U + U ≤ r
        · obtain ⟨⟨i', h3⟩, _⟩ := c2 h2
          exact ⟨i', _, h3⟩
        · rw [c3 (by omega)]
          exact ⟨_, _, hg⟩
      obtain ⟨d1, d2, _⟩ := hgc.disk.open_all hgc.fails (by omega) hQb
      replace d1 : Hid _ := d1
      replace d2 : Hid _ := d2
      replace hQT : Hid _ := hQT
      replace hQb : Hid _ := hQb
      replace hQy : Hid _ := hQy
      replace hwl : Hid _ := hwl
      have g2 : IntKind.i64.wrap (2 * (U : Int)) = 2 * (U : Int) := IntWalk.i64_in _ (by omega)
      unfold ofBlock at hcp
      clear c1 c2 c3 hgc hjc hg
      by_cases h2 : U + U ≤ r
      · have h2I : 2 * (U : Int) ≤ (r : Int) := by omega
        rw [if_neg (by omega)] at hcp
        clear h2
        have k1 : True := trivial
        go_wp2_with (first
          | (clear k1; go_at_call 12; refine hcp.mono ?_; clear hcp; rintro e w5 ⟨rfl, hj5, hK5⟩; have hop := open_any (hj5.live.sub (K' := rowK (.slice wq Q.length wcap)) (fun g hg => .inl hg)) (by omega); have hW5 := hK5.row hW (fun g hg => hg); unfold ofBlock at hop; have k2 : True := trivial)
          | (clear k2; go_at_call 10; refine hop.mono ?_; clear hop; rintro e w6 ⟨hK6, hok, _⟩; obtain ⟨⟨J6, u6, L6, rfl, hJ6, hR6, hT6, hJn6, hL6⟩⟩ := hok d1.out
             rw [d2.out] at hT6
             obtain ⟨u6q, u6cap, rfl⟩ := own_shape hR6.row
             have hB6 := (hB.trans hK5.below).trans hK6.below
             have hl6 := hR6.list (fun q hq => hQy.out q.2 (by rw [← hT6]; exact List.mem_map_of_mem hq)) (fun q hq => hQb.out q.2 (by rw [← hT6]; exact List.mem_map_of_mem hq))
             have hsm := same_any _ _ L6 Q w6 hl6 (hwl.out w6 _ hB6 (hK6.row hW5 (fun g hg => hg)))
             rw [decide_eq_true hT6] at hsm
             clear hok hL6 hl6 hR6 hJ6
             replace hT6 : Hid _ := hT6
             unfold ofBlock
             have k3 : True := trivial)
          | (clear k3; go_at_call 15; refine hsm.mono ?_; clear hsm; rintro e w7 ⟨rfl, hb7⟩; have k4 : True := trivial)
          | (clear k4; go_at_call 16; refine (awake_any _).mono ?_; rintro e w8 ⟨rfl, hb8⟩))
        go_returns
        have hB7 := hB6.trans (hb7.mono hB6.size)
        exact ⟨rfl, hb1.trans ((hB7.trans (hb8.mono hB7.size)).mono hb1.size)⟩
      · have h2I : ¬ 2 * (U : Int) ≤ (r : Int) := by omega
        rw [if_pos (by omega)] at hcp
        clear h2
        have k1 : True := trivial
        go_wp2_with (first
          | (clear k1; go_at_call 12; refine hcp.mono ?_; clear hcp; rintro e w5 ⟨rfl, hj5, hK5⟩; have hop := open_any (hj5.live.sub (K' := rowK (.slice wq Q.length wcap)) (fun g hg => .inl hg)) (by omega); have hW5 := hK5.row hW (fun g hg => hg); unfold ofBlock at hop; have k2 : True := trivial)
          | (clear k2; go_at_call 10; refine hop.mono ?_; clear hop; rintro e w6 ⟨hK6, hok, _⟩; obtain ⟨⟨J6, u6, L6, rfl, hJ6, hR6, hT6, hJn6, hL6⟩⟩ := hok d1.out
             rw [d2.out] at hT6
             obtain ⟨u6q, u6cap, rfl⟩ := own_shape hR6.row
             have hB6 := (hB.trans hK5.below).trans hK6.below
             have hl6 := hR6.list (fun q hq => hQy.out q.2 (by rw [← hT6]; exact List.mem_map_of_mem hq)) (fun q hq => hQb.out q.2 (by rw [← hT6]; exact List.mem_map_of_mem hq))
             have hsm := same_any _ _ L6 Q w6 hl6 (hwl.out w6 _ hB6 (hK6.row hW5 (fun g hg => hg)))
             rw [decide_eq_true hT6] at hsm
             clear hok hL6 hl6 hR6 hJ6
             replace hT6 : Hid _ := hT6
             unfold ofBlock
             have k3 : True := trivial)
          | (clear k3; go_at_call 15; refine hsm.mono ?_; clear hsm; rintro e w7 ⟨rfl, hb7⟩; have k4 : True := trivial)
          | (clear k4; go_at_call 16; refine (awake_any _).mono ?_; rintro e w8 ⟨rfl, hb8⟩))
        go_returns
        have hB7 := hB6.trans (hb7.mono hB6.size)
        exact ⟨rfl, hb1.trans ((hB7.trans (hb8.mono hB7.size)).mono hb1.size)⟩
end Go.Proofs.YtmcmagplaflegaaGreatDoor
