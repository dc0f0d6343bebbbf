/-
 THE DOCUMENT'S JOURNAL: its small methods, walked. Conditions: those of each theorem.
 THE DOCUMENT'S JOURNAL, walked: what it reads, Open, Append, Sync, Checkpoint. Conditions: those of each theorem.
 THE DOCUMENT'S JOURNAL, walked: Append, Sync, Checkpoint. Conditions: those of each theorem.
 A REGION THAT DRAWS ITS ORDER, WITH CALLS THAT TURN MEMORY ONE BEHIND THE OTHER, WALKED ONCE IN THE ORDER OF THE TEXT: each world is at a stage; an operation that turns memory goes from one stage to the next, each other one goes through at every stage, and leaves the same. Conditions: those of each theorem.
-/
import Derived.Test.YtmcmagplaflegaaGreatDoorX20
import Derived.Test.YtmcmagplaflegaaGreatDoorX13
import Derived.Test.YtmcmagplaflegaaGreatDoorX0

namespace Go.Proofs.YtmcmagplaflegaaGreatDoor
open Go Go.RowKit Go.MapL Go.Poised

variable {p n₀ m : Nat} {d : RD} {w w' w'' : World} {K K' : Nat → Prop}
/-- The document's journal lies at M. -/
def RjAt (w : World) (M p many safe : Nat) (br : Bool) : Prop := w.heap[M]? = some (.cells #[ofBlock p, .int .i64 many, .int .i64 safe, .bool br] 116)
theorem RjAt.below {M many safe : Nat} {br : Bool} (h : RjAt w M p many safe br) (hb : Below w.heap.size w w') : RjAt w' M p many safe br :=
 (hb.block M (Array.getElem?_eq_some_iff.1 h).1).trans h
set_option maxRecDepth 100000 in
set_option maxHeartbeats 2000000 in
theorem hasR_any (x : ByteArray) (h : RLive w p n₀ m d K) (hm : m < 536870912) :
  Calls Tryz.prog 109 #[ofBlock p, .string x] w fun e w' => e = .returned (.bool (hasR d x)) ∧ Below w.heap.size w w' := by
 have hs := rlive_size x h hm
 unfold hasR
 generalize (readR d x).2 = c at *
 generalize (readR d x).1.length = N at *
 have hcb : decide (c = 0) = (c == 0) := rfl
 rw [hcb]
 clear h hcb
 unfold ofBlock at *
 go_enter Tryz.func109, Tryz.ntmps109
 go_wp2_with (go_at_call 69; refine hs.mono ?_; clear hs; rintro e w1 ⟨rfl, hb1⟩)
 go_returns
 exact ⟨rfl, hb1⟩
set_option maxRecDepth 100000 in
set_option maxHeartbeats 2000000 in
theorem rafter_fine (w : World) (J : Nat) (x : Int) (hx : x = 0 ∨ x = 52) :
  Calls Tryz.prog 121 #[ofBlock J, .int .i64 x] w fun e w' => e = .returned (.int .i64 x) ∧ w' = w := by
 unfold ofBlock
 rcases hx with rfl | rfl
 all_goals
  go_enter Tryz.func121, Tryz.ntmps121
  go_wp2_with fail
  go_returns
  exact ⟨rfl, rfl⟩
set_option maxRecDepth 100000 in
set_option maxHeartbeats 2000000 in
theorem rafter_broken (w : World) (J d many kept : Nat) (br : Bool) (x : Int) (h : RjAt w J d many kept br) (h0 : ¬ x = 0) (h1 : ¬ x = 52) :
  Calls Tryz.prog 121 #[ofBlock J, .int .i64 x] w fun e w' => e = .returned (.int .i64 51) ∧ RjAt w' J d many kept true ∧ Grown (fun k => k = J) w w' := by
 obtain ⟨x0, x1, x2, x3⟩ := cells4 h
 have hf := free_of h 3
 have hxb0 : (x != 0) = true := by simpa using h0
 have hxb1 : (x != 52) = true := by simpa using h1
 replace h : Hid (RjAt w J d many kept br) := h
 unfold ofBlock at *
 go_enter Tryz.func121, Tryz.ntmps121
 go_wp2_with fail
 go_returns
 exact ⟨rfl, (setCell_heap h.out).trans rfl, jset⟩
/-! ### a list's bytes -/
set_option maxRecDepth 100000 in
set_option maxHeartbeats 8000000 in
theorem listR_any (v : Value) (L : List (Value × List Nat)) (w : World) (hL : ListIn w v L) (hlen : ∀ q ∈ L, q.2.length ≤ 140737488355328) :
  Calls Tryz.prog 122 #[v] w fun e w' => ∃ u, e = .returned (.tuple #[u, .int .i64 (listRes (L.map (·.2))).2]) ∧ w'.ownsRow w.heap.size 5 1 u (listRes (L.map (·.2))).1.length (encB (listRes (L.map (·.2))).1) ∧ Below w.heap.size w w' := by
 obtain ⟨p, cap, rfl, hc⟩ := hL.shape
 have hLl := hL.len
 by_cases hbig : 10000 < L.length
 ·have hbI : (10000 : Int) < (L.length : Int) := by omega
  have e : listRes (L.map (·.2)) = ([], 5) := by unfold listRes; rw [if_pos (by simpa using hbig)]
  rw [e]
  clear hc e
  replace hL : Hid _ := hL
  go_enter Tryz.func122, Tryz.ntmps122
  go_wp2_with fail
  go_returns
  exact ⟨_, rfl, World.ownsRow_nil _ _ _ _, Below.refl _ _⟩
 ·have hbI : ¬ (10000 : Int) < (L.length : Int) := by omega
  obtain ⟨R, hR⟩ : ∃ R, listRes (L.map (·.2)) = R := ⟨_, rfl⟩
  have hbad : Hid (∀ k (hk : k < L.length), 262144 < L[k].2.length → R = ([], 5)) := fun k hk h => by
   rw [← hR]; unfold listRes
   rw [if_neg (by simp; omega), if_neg]
   intro h2
   have := of_decide_eq_true (List.all_eq_true.1 h2 L[k].2 (List.mem_map_of_mem (List.getElem_mem hk)))
   omega
  have hgood : Hid ((∀ k (hk : k < L.length), L[k].2.length ≤ 262144) → R = (listB 1 (L.map (·.2)), 0)) := fun h => by
   rw [← hR]
   refine listRes_ok (by simp; omega) (fun b hb => ?_)
   obtain ⟨q, hq, rfl⟩ := List.mem_map.1 hb
   obtain ⟨k, hk, rfl⟩ := List.mem_iff_getElem.1 hq
   exact h k hk
  rw [hR]
  clear hR
  replace hL : Hid _ := hL
  replace hc : Hid _ := hc
  replace hlen : Hid _ := hlen
  go_enter Tryz.func122, Tryz.ntmps122
  go_wp2_with fail
  go_loopw [5, 4] (fun i u wr => ∃ (k : Nat) (B : List Nat), k ≤ L.length ∧ i = .int .i64 k ∧ Hid (B = listB 1 ((L.take k).map (·.2))) ∧ wr.ownsRow w.heap.size 5 1 u B.length (encB B) ∧ (∀ i (hi : i < L.length), i < k → L[i].2.length ≤ 262144) ∧ Below w.heap.size w wr) (fun i _ _ => L.length - (intOf i).toNat)
  case atStart => exact ⟨0, [], by omega, rfl, rfl, World.ownsRow_nil _ _ _ _, fun _ _ h => by omega, Below.refl _ _⟩
  case round =>
   obtain ⟨k, Bk, hk, rfl, hBk, hI, hok, hB⟩ := hrel
   replace hok : Hid _ := hok
   obtain ⟨oq, ocap, rfl⟩ := own_shape hI
   by_cases hlt : k < L.length
   ·have hlt' : (k : Int) < (L.length : Int) := by omega
    obtain ⟨B, off, rfl, hcell0⟩ := hc.out k hlt
    have hcell := (hB.cell (p := ⟨B, off + k, none⟩) (lt_of_cell hcell0)).trans hcell0
    have hx := (hL.out.each L[k] (List.getElem_mem hlt)).below hB
    have hxl := hlen.out L[k] (List.getElem_mem hlt)
    obtain ⟨xq, xcap, hxe, _⟩ := bytes_parts hx
    have hrec := recordR_any ((k : Int) + 1) L[k].1 L[k].2 wr (by omega) (by omega) hx hxl
    have hgw : IntKind.i64.wrap ((k : Int) + 1) = (k : Int) + 1 := IntWalk.i64_in _ (by omega)
    have hbadk := hbad.out k hlt
    have hst : Hid (Bk ++ recB (k + 1) L[k].2 = listB 1 ((L.take (k + 1)).map (·.2))) := by
     show _ = _
     rw [List.take_succ_eq_append_getElem hlt, List.map_append, List.map_cons, List.map_nil, listB_snoc]
     have : ((L.take k).map (·.2)).length = k := by rw [List.length_map, List.length_take]; omega
     rw [this, Nat.add_comm 1, hBk.out]
    have hBl : Bk.length ≤ 10000 * 262164 := by
     rw [hBk.out, listB_len]
     refine Nat.le_trans (sizesB_most (c := 262144) _ (fun b hb => ?_)) (Nat.mul_le_mul_right _ ?_)
     ·obtain ⟨q, hq, rfl⟩ := List.mem_map.1 hb
      obtain ⟨i, hi, rfl⟩ := List.mem_iff_getElem.1 hq
      rw [List.getElem_take]
      exact hok.out i (by rw [List.length_take] at hi; omega) (by rw [List.length_take] at hi; omega)
     ·rw [List.length_map, List.length_take]; omega
    rw [hxe] at hcell hrec
    by_cases hl : L[k].2.length ≤ 262144
    ·rw [recRes_ok k _ (by omega) hl] at hrec
     have hRl := recB_len (k + 1) L[k].2
     have hokn : Hid (∀ i (hi : i < L.length), i < k + 1 → L[i].2.length ≤ 262144) := fun i hi h => by
      by_cases e : i = k
      ·subst e; exact hl
      ·exact hok.out i hi (by omega)
     have hRlen : (recB (k + 1) L[k].2).length ≤ 262164 := by omega
     have hRb : Hid (∀ x ∈ recB (k + 1) L[k].2, x < 256) := by
      have := (recRes_byte ((k : Int) + 1) L[k].2 hx.1 hxl).1
      rw [recRes_ok k _ (by omega) hl] at this
      exact this
     clear hbadk hRl
     generalize recB (k + 1) L[k].2 = RB at *
     generalize hqq : L[k] = q at *
     obtain ⟨qv, ql⟩ := q
     simp only at hrec hcell
     clear hqq hxe hx hl
     replace hBk : Hid _ := hBk
     go_wp2_with (first
      |(go_at_call 31; refine hrec.mono ?_; clear hrec; rintro e w2 ⟨r, rfl, hr, hb2⟩; obtain ⟨rq, rcap, rfl⟩ := own_shape hr; have hB2 := hB.trans (hb2.mono hB.size); have hI2 := own_kept hI hb2)
      |(at_builtin; refine wpList_append_bytes _ rfl _ _ rfl w.heap.size (.slice oq Bk.length ocap) (.slice rq RB.length rcap) Bk RB rfl rfl hI2 (row_bytes hr hRb.out (by omega)) (by omega) hB2.size ?_; intro v4 w4 hown hgrow hwhere; obtain ⟨q4, cap4, rfl⟩ := own_shape hown; have hB4 := hB2.trans (below_grown hI2 hB2.size hgrow)))
     go_roundw
     case rel => exact ⟨k + 1, _, by omega, by go_num, hst.out, by rw [List.length_append] at hown ⊢; exact hown, hokn.out, hB4⟩
     case measure => simp [intOf]; omega
    ·have hRe := hbadk (by omega)
     have hre : recRes ((k : Int) + 1) L[k].2 = ([], 5) := by
      unfold recRes; rw [if_neg (by omega), if_pos (by omega)]
     rw [hre] at hrec
     subst hRe
     clear hbadk hre hst hBl
     generalize hqq : L[k] = q at *
     obtain ⟨qv, ql⟩ := q
     simp only at hrec hcell
     go_wp2_with (go_at_call 31; refine hrec.mono ?_; clear hrec; rintro e w2 ⟨r, rfl, hr, hb2⟩; obtain ⟨rq, rcap, rfl⟩ := own_shape hr)
     go_returns
     exact ⟨_, rfl, World.ownsRow_nil _ _ _ _, hB.trans (hb2.mono hB.size)⟩
   ·obtain rfl : k = L.length := by omega
    have hRe := hgood.out (fun i hi => hok.out i hi hi)
    subst hRe
    have hBk2 : Hid (listB 1 (L.map (·.2)) = Bk) := by
     have := hBk.out
     rw [List.take_length] at this
     exact this.symm
    clear hBk
    go_wp2_with fail
    go_returns
    rw [hBk2.out]
    exact ⟨_, rfl, hI, hB⟩
end Go.Proofs.YtmcmagplaflegaaGreatDoor

namespace Go.Proofs.YtmcmagplaflegaaGreatDoor
open Go Go.RowKit Go.MapL Go.Poised

variable {p n₀ m : Nat} {d : RD} {w w' w'' : World} {K K' : Nat → Prop}
theorem PartsAt.same {w w' : World} {n : Nat} {u : Value} {L : List (Value × List Nat)} (h : PartsAt w n u L) (hs : ∀ g, n ≤ g → g < w.heap.size → w'.heap[g]? = w.heap[g]?) : PartsAt w' n u L :=
 ⟨row_same h.row (fun g hg => hs g (h.row.lt g hg).1 (h.row.lt g hg).2), fun q hq => by
  obtain ⟨z, ys, h1, h2⟩ := h.each q hq
  exact ⟨z, ys, row_same h1 (fun g hg => hs g (h1.lt g hg).1 (h1.lt g hg).2), h2⟩⟩
theorem PartsAt.lower {w : World} {n k : Nat} {u : Value} {L : List (Value × List Nat)} (h : PartsAt w n u L) (hk : k ≤ n) : PartsAt w k u L :=
 ⟨own_base' h.row hk, fun q hq => (h.each q hq).lower hk (fun _ _ _ h1 hW => own_up h1 hW)⟩
/-- The blocks between. -/
def Sp (a b g : Nat) : Prop := a ≤ g ∧ g < b
/-- What reading leaves. -/
structure ReadOk (w w' : World) (p n₀ m : Nat) (d' : RD) (T : List (List Nat)) (z : Bool) (K : Nat → Prop) (u : Value) (L : List (Value × List Nat)) (w1 : World) : Prop where
 parts : PartsAt w1 w.heap.size u L
 le : w.heap.size ≤ w1.heap.size
 told : z = true → L.map (·.2) = T
 live : RLive w' p n₀ m d' (fun g => K g ∨ Sp w.heap.size w1.heap.size g)
 same : ∀ g, w.heap.size ≤ g → g < w1.heap.size → w'.heap[g]? = w1.heap[g]?
theorem hasR_read {x : ByteArray} (h : hasR d x = true) : (readR d x).2 = 0 := of_decide_eq_true h
set_option maxRecDepth 100000 in
set_option maxHeartbeats 4000000 in
theorem readRJ_any (h : RLive w p n₀ m d K) (hm : m < 268435456) :
  Calls Tryz.prog 111 #[ofBlock p] w fun e w' => ∃ u L w1, e = .returned (.tuple #[u, .int .i64 (readRD d).2]) ∧ Kept K n₀ w w' ∧ ReadOk w w' p n₀ (m + 2) (readRD d).1 (readRL d) (decide ((readRD d).2 = 0)) K u L w1 := by
 have hha := hasR_any jN h (by omega)
 unfold readRD readRL
 have h0 : Hid (RLive w p n₀ m d K) := h
 cases hin : hasR d jN
 ·rw [hin] at hha
  simp only [Bool.false_eq_true, if_false]
  clear h hin
  unfold ofBlock at *
  go_enter Tryz.func111, Tryz.ntmps111
  go_wp2_with (first
   |(go_at_call 109; refine hha.mono ?_; clear hha; rintro e w1 ⟨rfl, hb1⟩; have hap := rlive_append jN (.slice none 0 0) [] (h0.out.more (K' := fun g => K g ∨ Sp w.heap.size w1.heap.size g) hb1 (fun g hg => hg)) (by omega) (by decide) (by simp) (by simp) (fun _ _ => ⟨by simp, by simp, .inl ⟨rfl, rfl⟩⟩))
   |(go_at_call 68; refine hap.mono ?_; clear hap; rintro e w3 ⟨rfl, hL3, hK3⟩))
  go_returns
  exact ⟨_, [], w1, rfl, (h0.out.kept hb1).trans (hK3.sub (fun g hg => .inl hg)), PartsAt.nil _ _, hb1.size, fun _ => rfl, hL3, fun g hg1 hg2 => hK3.same g (.inr ⟨hg1, hg2⟩)⟩
 ·rw [hin] at hha
  simp only [if_true]
  have hz := hasR_read hin
  have hre := fun W (hb : Below w.heap.size w W) => rlive_read jN (h0.out.below hb) (by omega)
  obtain ⟨hby, hbl⟩ := readR_bytes h0.out.sound jN
  rw [hz] at hre
  generalize (readR d jN).1 = b at *
  clear hz hin h
  replace hby : Hid _ := hby
  replace hre : Hid _ := hre
  rcases hrc : recs b with _ | ⟨L0, c⟩
  ·have hrs := fun W v (hv : BytesIn W v b) hc => recsR_any b v W hv hc (by omega)
   simp only [hrc] at hrs
   replace hrs : Hid _ := hrs
   replace hrc : Hid _ := hrc
   unfold ofBlock at *
   go_enter Tryz.func111, Tryz.ntmps111
   go_wp2_with (first
    |(go_at_call 109; refine hha.mono ?_; clear hha; rintro e w1 ⟨rfl, hb1⟩)
    |(go_at_call 77; refine (hre.out _ hb1).mono ?_; clear hre; rintro e w3 ⟨v3, rfl, hr3, hb3⟩; obtain ⟨q3, cap3, rfl, hc3⟩ := own_copy hr3; have hB3 := hb1.trans (hb3.mono hb1.size))
    |(go_at_call 80; refine (hrs.out _ _ (bytesIn_of_own hr3 hby.out (by omega)) ⟨_, _, rfl, hc3⟩).mono ?_; clear hrs; rintro e w4 ⟨hR, hb4⟩; unfold RecsR at hR; subst hR; have hB4 := hB3.trans (hb4.mono hB3.size)))
   go_returns
   exact ⟨_, [], w4, rfl, h0.out.kept hB4, PartsAt.nil _ _, hB4.size, fun h => (by simp at h), ((h0.out.more hB4 (fun g hg => hg)).mono (by omega)), fun _ _ _ => rfl⟩
  ·have hrs := fun W v (hv : BytesIn W v b) hc => recsR_any b v W hv hc (by omega)
   simp only [hrc] at hrs
   have hend : c ≤ b.length := recs_end hrc
   replace hrs : Hid _ := hrs
   replace hrc : Hid _ := hrc
   by_cases hcl : c < b.length
   ·have hclI : (c : Int) < (b.length : Int) := by omega
    simp only [hcl, if_true]
    unfold ofBlock at *
    go_enter Tryz.func111, Tryz.ntmps111
    go_wp2_with (first
     |(go_at_call 109; refine hha.mono ?_; clear hha; rintro e w1 ⟨rfl, hb1⟩)
     |(go_at_call 77; refine (hre.out _ hb1).mono ?_; clear hre; rintro e w3 ⟨v3, rfl, hr3, hb3⟩; obtain ⟨q3, cap3, rfl, hc3⟩ := own_copy hr3; have hB3 := hb1.trans (hb3.mono hb1.size))
     |(go_at_call 80; refine (hrs.out _ _ (bytesIn_of_own hr3 hby.out (by omega)) ⟨_, _, rfl, hc3⟩).mono ?_; clear hrs; rintro e w4 ⟨hR, hb4⟩; obtain ⟨u, L, rfl, hRL, hLm⟩ := hR; obtain ⟨uq, ucap, rfl⟩ := own_shape hRL.row; have hB4 := hB3.trans (hb4.mono hB3.size)
       have hcu := rlive_cut jN c (h0.out.more (K' := fun g => K g ∨ Sp w.heap.size w4.heap.size g) hB4 (fun g hg => hg)) (by omega) (by omega) (by omega); replace hLm : Hid _ := hLm)
     |(go_at_call 138; refine hcu.mono ?_; clear hcu; rintro e w5 ⟨rfl, hL5, hK5⟩))
    go_returns
    exact ⟨_, L, w4, rfl, (h0.out.kept hB4).trans (hK5.sub (fun g hg => .inl hg)), hRL.lower hB3.size, hB4.size, fun _ => by rw [hLm.out]; rfl, hL5.mono (by omega), fun g hg1 hg2 => hK5.same g (.inr ⟨hg1, hg2⟩)⟩
   ·have hclI : ¬ (c : Int) < (b.length : Int) := by omega
    simp only [hcl, if_false]
    unfold ofBlock at *
    go_enter Tryz.func111, Tryz.ntmps111
    go_wp2_with (first
     |(go_at_call 109; refine hha.mono ?_; clear hha; rintro e w1 ⟨rfl, hb1⟩)
     |(go_at_call 77; refine (hre.out _ hb1).mono ?_; clear hre; rintro e w3 ⟨v3, rfl, hr3, hb3⟩; obtain ⟨q3, cap3, rfl, hc3⟩ := own_copy hr3; have hB3 := hb1.trans (hb3.mono hb1.size))
     |(go_at_call 80; refine (hrs.out _ _ (bytesIn_of_own hr3 hby.out (by omega)) ⟨_, _, rfl, hc3⟩).mono ?_; clear hrs; rintro e w4 ⟨hR, hb4⟩; obtain ⟨u, L, rfl, hRL, hLm⟩ := hR; obtain ⟨uq, ucap, rfl⟩ := own_shape hRL.row; have hB4 := hB3.trans (hb4.mono hB3.size); replace hLm : Hid _ := hLm))
    go_returns
    exact ⟨_, L, w4, rfl, h0.out.kept hB4, hRL.lower hB3.size, hB4.size, fun _ => by rw [hLm.out]; rfl, (h0.out.more hB4 (fun g hg => hg)).mono (by omega), fun _ _ _ => rfl⟩
/-- What Open leaves, and tells. -/
structure ROpenOk (w w' : World) (p n₀ m : Nat) (d' : RD) (T : List (List Nat)) (K : Nat → Prop) (e : Ending) : Prop where
 ex : ∃ M u L, e = .returned (.tuple #[ofBlock M, u, .int .i64 0]) ∧ RjAt w' M p L.length L.length false ∧ ListIn w' u L ∧ L.map (·.2) = T ∧ w.heap.size ≤ M ∧ RLive w' p n₀ m d' (fun g => K g ∨ g = M)
structure ROpens (w w' : World) (p n₀ m : Nat) (q : RD × Int) (T : List (List Nat)) (K : Nat → Prop) (e : Ending) : Prop where
 kept : Kept K n₀ w w'
 ok : q.2 = 0 → ROpenOk w w' p n₀ m q.1 T K e
 bad : q.2 ≠ 0 → e = .returned (.tuple #[.pointer none, .slice none 0 0, .int .i64 q.2]) ∧ RLive w' p n₀ m q.1 K
theorem ROpens.fail {c : Int} {d' : RD} {T : List (List Nat)} (hc : c ≠ 0) (hk : Kept K n₀ w w') (hl : RLive w' p n₀ m d' K) : ROpens w w' p n₀ m (d', c) T K (.returned (.tuple #[.pointer none, .slice none 0 0, .int .i64 c])) :=
 ⟨hk, fun h => absurd h hc, fun _ => ⟨rfl, hl⟩⟩
theorem openR_1 {d1 : RD} {c1 : Int} (hd : d.dead = false) (h1 : dropNewR d = (d1, c1)) (hc : c1 ≠ 0) : openR d = (d1, c1) := by
 unfold openR
 rw [if_neg (by rw [hd]; simp), h1, thenR_no (q := (d1, c1)) hc, thenR_no (q := (d1, c1)) hc, thenR_no (q := (d1, c1)) hc]
theorem openR_2 {d1 d2 : RD} {c2 : Int} (hd : d.dead = false) (h1 : dropNewR d = (d1, 0)) (h2 : readRD d1 = (d2, c2)) (hc : c2 ≠ 0) : openR d = (d2, c2) := by
 unfold openR
 rw [if_neg (by rw [hd]; simp), h1, thenR_yes (q := (d1, 0)) rfl, h2, thenR_no (q := (d2, c2)) hc, thenR_no (q := (d2, c2)) hc]
theorem openR_3 {d1 d2 d3 : RD} {c3 : Int} (hd : d.dead = false) (h1 : dropNewR d = (d1, 0)) (h2 : readRD d1 = (d2, 0)) (h3 : d2.sync jN = (d3, c3)) (hc : c3 ≠ 0) : openR d = (d3, c3) := by
 unfold openR
 rw [if_neg (by rw [hd]; simp), h1, thenR_yes (q := (d1, 0)) rfl, h2, thenR_yes (q := (d2, 0)) rfl, h3, thenR_no (q := (d3, c3)) hc]
theorem openR_4 {d1 d2 d3 d4 : RD} {c4 : Int} (hd : d.dead = false) (h1 : dropNewR d = (d1, 0)) (h2 : readRD d1 = (d2, 0)) (h3 : d2.sync jN = (d3, 0)) (h4 : d3.syncNames = (d4, c4)) : openR d = (d4, c4) := by
 unfold openR
 rw [if_neg (by rw [hd]; simp), h1, thenR_yes (q := (d1, 0)) rfl, h2, thenR_yes (q := (d2, 0)) rfl, h3, thenR_yes (q := (d3, 0)) rfl, h4]
set_option maxRecDepth 100000 in
set_option maxHeartbeats 8000000 in
theorem openR_any (h : RLive w p n₀ m d K) (hm : m < 134217728) :
  Calls Tryz.prog 64 #[ofBlock p] w fun e w' => ROpens w w' p n₀ (m + 3) (openR d) (openRL d) K e := by
 obtain ⟨_, _, _, ht⟩ := h.top
 by_cases hd : d.dead = true
 ·have e2 : openR d = (d, 51) := by unfold openR; rw [if_pos hd]
  rw [e2]
  rw [hd] at ht
  replace h : Hid (RLive w p n₀ m d K) := h
  clear e2 hd
  unfold ofBlock at *
  go_enter Tryz.func64, Tryz.ntmps64
  go_wp2_with fail
  go_returns
  exact ROpens.fail (by decide) (Kept.refl _ _ _) (h.out.mono (by omega))
 ·have hd : d.dead = false := by simpa using hd
  rw [hd] at ht
  have hha := hasR_any jM h (by omega)
  have h0 : Hid (RLive w p n₀ m d K) := h
  clear h
  obtain ⟨⟨d1, c1⟩, hq1⟩ : ∃ q1, dropNewR d = q1 := ⟨_, rfl⟩
  have hol : openRL d = readRL d1 := by unfold openRL; rw [hq1]
  obtain ⟨⟨d2, c2⟩, hq2⟩ : ∃ q2, readRD d1 = q2 := ⟨_, rfl⟩
  obtain ⟨⟨d3, c3⟩, hq3⟩ : ∃ q3, d2.sync jN = q3 := ⟨_, rfl⟩
  obtain ⟨⟨d4, c4⟩, hq4⟩ : ∃ q4, d3.syncNames = q4 := ⟨_, rfl⟩
  have hrd : Hid (∀ W k (hl : RLive W p n₀ k d1 K), k < 268435456 → Calls Tryz.prog 111 #[ofBlock p] W fun e w' => ∃ u L w1, e = .returned (.tuple #[u, .int .i64 c2]) ∧ Kept K n₀ W w' ∧ ReadOk W w' p n₀ (k + 2) d2 (readRL d1) (decide (c2 = 0)) K u L w1) := fun W k hl hk => by
   have := readRJ_any hl hk
   rw [hq2] at this
   exact this
  have hsy : Hid (∀ W k (K : Nat → Prop) (hl : RLive W p n₀ k d2 K), k < 536870912 → Calls Tryz.prog 112 #[ofBlock p, .string jN] W fun e w' => e = .returned (.int .i64 c3) ∧ RLive w' p n₀ k d3 K ∧ Kept K n₀ W w') := fun W k K hl hk => by
   have := rlive_sync jN hl hk
   rw [hq3] at this
   exact this
  have hsn : Hid (∀ W k (K : Nat → Prop) (hl : RLive W p n₀ k d3 K), k < 536870912 → Calls Tryz.prog 113 #[ofBlock p] W fun e w' => e = .returned (.int .i64 c4) ∧ RLive w' p n₀ k d4 K ∧ Kept K n₀ W w') := fun W k K hl hk => by
   have := rlive_syncNames hl hk
   rw [hq4] at this
   exact this
  generalize openRL d = T at *
  subst hol
  replace hq2 : Hid _ := hq2
  replace hq3 : Hid _ := hq3
  replace hq4 : Hid _ := hq4
  replace hd : Hid _ := hd
  cases hin : hasR d jM
  ·rw [hin] at hha
   have e1 : dropNewR d = (d, 0) := by unfold dropNewR; rw [if_neg (by rw [hin]; simp)]
   rw [hq1] at e1
   obtain ⟨rfl, rfl⟩ : d1 = d ∧ c1 = 0 := ⟨congrArg Prod.fst e1, congrArg Prod.snd e1⟩
   replace hq1 : Hid _ := hq1
   clear hin e1
   by_cases hc2 : c2 = 0
   ·subst hc2
    by_cases hc3 : c3 = 0
    ·subst hc3
     by_cases hc4 : c4 = 0
     ·subst hc4
      unfold ofBlock at *
      go_enter Tryz.func64, Tryz.ntmps64
      go_wp2_with (first
       |(go_at_call 109; refine hha.mono ?_; clear hha; rintro e w1 ⟨rfl, hb1⟩)
       |(go_at_call 111; refine (hrd.out _ _ (h0.out.below hb1) (by omega)).mono ?_; rintro e w5 ⟨u, L, wx, rfl, hK5, hR5⟩; obtain ⟨uq, ucap, rfl⟩ := own_shape hR5.parts.row; have hL5 := hR5.live; have hxs := hR5.le)
       |(go_at_call 112; refine (hsy.out _ _ _ hL5 (by omega)).mono ?_; rintro e w6 ⟨rfl, hL6, hK6⟩)
       |(go_at_call 113; refine (hsn.out _ _ _ hL6 (by omega)).mono ?_; rintro e w7 ⟨rfl, hL7, hK7⟩))
      go_returns
      rw [openR_4 hd.out hq1.out hq2.out hq3.out hq4.out]
      have hKA := (((h0.out.kept hb1).trans hK5).trans (hK6.sub (fun g hg => .inl hg))).trans (hK7.sub (fun g hg => .inl hg))
      have hC9 := (Below.refl w7.heap.size w7).alloc (Nat.le_refl _) (.cells #[ofBlock p, .int .i64 L.length, .int .i64 L.length, .bool false] 116)
      unfold ofBlock at hC9
      have hsm : ∀ g, w1.heap.size ≤ g → g < wx.heap.size → (w7.alloc (.cells #[.pointer (some ⟨p, 0, none⟩), .int .i64 L.length, .int .i64 L.length, .bool false] 116)).heap[g]? = wx.heap[g]? := fun g h1 h2 => (hC9.block g (hL7.lt g (.inr ⟨h1, h2⟩))).trans ((hK7.same g (.inr ⟨h1, h2⟩)).trans ((hK6.same g (.inr ⟨h1, h2⟩)).trans (hR5.same g h1 h2)))
      refine ⟨hKA.trans (.of_below hC9 hL7.base (fun g hg => hL7.lt g (.inl hg))), fun _ => ⟨⟨w7.heap.size, _, L, rfl, heap_new _ _, (hR5.parts.same hsm).list, hR5.told rfl, hKA.below.size, ((hL7.sub (K' := K) (fun g hg => .inl hg)).more hC9 (fun g hg => ?_)).mono (by omega)⟩⟩, fun h => absurd rfl h⟩
      exact hg.imp id (fun e => ⟨by omega, by rw [e]; simp⟩)
     ·have hcb : (c4 == 0) = false := by simpa using hc4
      have hcn : (c4 != 0) = true := by simpa using hc4
      replace hc4 : Hid _ := hc4
      unfold ofBlock at *
      go_enter Tryz.func64, Tryz.ntmps64
      go_wp2_with (first
       |(go_at_call 109; refine hha.mono ?_; clear hha; rintro e w1 ⟨rfl, hb1⟩)
       |(go_at_call 111; refine (hrd.out _ _ (h0.out.below hb1) (by omega)).mono ?_; rintro e w5 ⟨u, L, wx, rfl, hK5, hR5⟩; obtain ⟨uq, ucap, rfl⟩ := own_shape hR5.parts.row; have hL5 := hR5.live; have hxs := hR5.le)
       |(go_at_call 112; refine (hsy.out _ _ _ hL5 (by omega)).mono ?_; rintro e w6 ⟨rfl, hL6, hK6⟩)
       |(go_at_call 113; refine (hsn.out _ _ _ hL6 (by omega)).mono ?_; rintro e w7 ⟨rfl, hL7, hK7⟩))
      go_returns
      rw [openR_4 hd.out hq1.out hq2.out hq3.out hq4.out]
      exact ROpens.fail hc4.out ((((h0.out.kept hb1).trans hK5).trans (hK6.sub (fun g hg => .inl hg))).trans (hK7.sub (fun g hg => .inl hg))) ((hL7.sub (fun g hg => .inl hg)).mono (by omega))
    ·have hcb : (c3 == 0) = false := by simpa using hc3
     have hcn : (c3 != 0) = true := by simpa using hc3
     replace hc3 : Hid _ := hc3
     unfold ofBlock at *
     go_enter Tryz.func64, Tryz.ntmps64
     go_wp2_with (first
      |(go_at_call 109; refine hha.mono ?_; clear hha; rintro e w1 ⟨rfl, hb1⟩)
      |(go_at_call 111; refine (hrd.out _ _ (h0.out.below hb1) (by omega)).mono ?_; rintro e w5 ⟨u, L, wx, rfl, hK5, hR5⟩; obtain ⟨uq, ucap, rfl⟩ := own_shape hR5.parts.row; have hL5 := hR5.live; have hxs := hR5.le)
      |(go_at_call 112; refine (hsy.out _ _ _ hL5 (by omega)).mono ?_; rintro e w6 ⟨rfl, hL6, hK6⟩))
     go_returns
     rw [openR_3 hd.out hq1.out hq2.out hq3.out hc3.out]
     exact ROpens.fail hc3.out (((h0.out.kept hb1).trans hK5).trans (hK6.sub (fun g hg => .inl hg))) ((hL6.sub (fun g hg => .inl hg)).mono (by omega))
   ·have hcb : (c2 == 0) = false := by simpa using hc2
    have hcn : (c2 != 0) = true := by simpa using hc2
    replace hc2 : Hid _ := hc2
    unfold ofBlock at *
    go_enter Tryz.func64, Tryz.ntmps64
    go_wp2_with (first
     |(go_at_call 109; refine hha.mono ?_; clear hha; rintro e w1 ⟨rfl, hb1⟩)
     |(go_at_call 111; refine (hrd.out _ _ (h0.out.below hb1) (by omega)).mono ?_; rintro e w5 ⟨u, L, wx, rfl, hK5, hR5⟩; obtain ⟨uq, ucap, rfl⟩ := own_shape hR5.parts.row; have hL5 := hR5.live; have hxs := hR5.le))
    go_returns
    rw [openR_2 hd.out hq1.out hq2.out hc2.out]
    exact ROpens.fail hc2.out ((h0.out.kept hb1).trans hK5) ((hL5.sub (fun g hg => .inl hg)).mono (by omega))
  ·rw [hin] at hha
   have e1 : dropNewR d = d.remove jM := by unfold dropNewR; rw [if_pos hin]
   have hrm : Hid (∀ W (hb : Below w.heap.size w W), Calls Tryz.prog 110 #[ofBlock p, .string jM] W fun e w' => e = .returned (.int .i64 c1) ∧ RLive w' p n₀ (m + 1) d1 K ∧ Kept K n₀ W w') := fun W hb => by
    have := rlive_remove jM (h0.out.below hb) (by omega)
    rw [← e1, hq1] at this
    exact this
   clear hin e1
   replace hq1 : Hid _ := hq1
   by_cases hc1 : c1 = 0
   ·subst hc1
    by_cases hc2 : c2 = 0
    ·subst hc2
     by_cases hc3 : c3 = 0
     ·subst hc3
      by_cases hc4 : c4 = 0
      ·subst hc4
       unfold ofBlock at *
       go_enter Tryz.func64, Tryz.ntmps64
       go_wp2_with (first
        |(go_at_call 109; refine hha.mono ?_; clear hha; rintro e w1 ⟨rfl, hb1⟩)
        |(go_at_call 110; refine (hrm.out _ hb1).mono ?_; rintro e w2 ⟨rfl, hL2, hK2⟩)
        |(go_at_call 111; refine (hrd.out _ _ hL2 (by omega)).mono ?_; rintro e w5 ⟨u, L, wx, rfl, hK5, hR5⟩; obtain ⟨uq, ucap, rfl⟩ := own_shape hR5.parts.row; have hL5 := hR5.live; have hxs := hR5.le)
        |(go_at_call 112; refine (hsy.out _ _ _ hL5 (by omega)).mono ?_; rintro e w6 ⟨rfl, hL6, hK6⟩)
        |(go_at_call 113; refine (hsn.out _ _ _ hL6 (by omega)).mono ?_; rintro e w7 ⟨rfl, hL7, hK7⟩))
       go_returns
       rw [openR_4 hd.out hq1.out hq2.out hq3.out hq4.out]
       have hKA := ((((h0.out.kept hb1).trans hK2).trans hK5).trans (hK6.sub (fun g hg => .inl hg))).trans (hK7.sub (fun g hg => .inl hg))
       have hC9 := (Below.refl w7.heap.size w7).alloc (Nat.le_refl _) (.cells #[ofBlock p, .int .i64 L.length, .int .i64 L.length, .bool false] 116)
       unfold ofBlock at hC9
       have hsm : ∀ g, w2.heap.size ≤ g → g < wx.heap.size → (w7.alloc (.cells #[.pointer (some ⟨p, 0, none⟩), .int .i64 L.length, .int .i64 L.length, .bool false] 116)).heap[g]? = wx.heap[g]? := fun g h1 h2 => (hC9.block g (hL7.lt g (.inr ⟨h1, h2⟩))).trans ((hK7.same g (.inr ⟨h1, h2⟩)).trans ((hK6.same g (.inr ⟨h1, h2⟩)).trans (hR5.same g h1 h2)))
       refine ⟨hKA.trans (.of_below hC9 hL7.base (fun g hg => hL7.lt g (.inl hg))), fun _ => ⟨⟨w7.heap.size, _, L, rfl, heap_new _ _, (hR5.parts.same hsm).list, hR5.told rfl, hKA.below.size, ((hL7.sub (K' := K) (fun g hg => .inl hg)).more hC9 (fun g hg => ?_)).mono (by omega)⟩⟩, fun h => absurd rfl h⟩
       exact hg.imp id (fun e => ⟨by omega, by rw [e]; simp⟩)
      ·have hcb : (c4 == 0) = false := by simpa using hc4
       have hcn : (c4 != 0) = true := by simpa using hc4
       replace hc4 : Hid _ := hc4
       unfold ofBlock at *
       go_enter Tryz.func64, Tryz.ntmps64
       go_wp2_with (first
        |(go_at_call 109; refine hha.mono ?_; clear hha; rintro e w1 ⟨rfl, hb1⟩)
        |(go_at_call 110; refine (hrm.out _ hb1).mono ?_; rintro e w2 ⟨rfl, hL2, hK2⟩)
        |(go_at_call 111; refine (hrd.out _ _ hL2 (by omega)).mono ?_; rintro e w5 ⟨u, L, wx, rfl, hK5, hR5⟩; obtain ⟨uq, ucap, rfl⟩ := own_shape hR5.parts.row; have hL5 := hR5.live; have hxs := hR5.le)
        |(go_at_call 112; refine (hsy.out _ _ _ hL5 (by omega)).mono ?_; rintro e w6 ⟨rfl, hL6, hK6⟩)
        |(go_at_call 113; refine (hsn.out _ _ _ hL6 (by omega)).mono ?_; rintro e w7 ⟨rfl, hL7, hK7⟩))
       go_returns
       rw [openR_4 hd.out hq1.out hq2.out hq3.out hq4.out]
       exact ROpens.fail hc4.out (((((h0.out.kept hb1).trans hK2).trans hK5).trans (hK6.sub (fun g hg => .inl hg))).trans (hK7.sub (fun g hg => .inl hg))) ((hL7.sub (fun g hg => .inl hg)).mono (by omega))
     ·have hcb : (c3 == 0) = false := by simpa using hc3
      have hcn : (c3 != 0) = true := by simpa using hc3
      replace hc3 : Hid _ := hc3
      unfold ofBlock at *
      go_enter Tryz.func64, Tryz.ntmps64
      go_wp2_with (first
       |(go_at_call 109; refine hha.mono ?_; clear hha; rintro e w1 ⟨rfl, hb1⟩)
       |(go_at_call 110; refine (hrm.out _ hb1).mono ?_; rintro e w2 ⟨rfl, hL2, hK2⟩)
       |(go_at_call 111; refine (hrd.out _ _ hL2 (by omega)).mono ?_; rintro e w5 ⟨u, L, wx, rfl, hK5, hR5⟩; obtain ⟨uq, ucap, rfl⟩ := own_shape hR5.parts.row; have hL5 := hR5.live; have hxs := hR5.le)
       |(go_at_call 112; refine (hsy.out _ _ _ hL5 (by omega)).mono ?_; rintro e w6 ⟨rfl, hL6, hK6⟩))
      go_returns
      rw [openR_3 hd.out hq1.out hq2.out hq3.out hc3.out]
      exact ROpens.fail hc3.out ((((h0.out.kept hb1).trans hK2).trans hK5).trans (hK6.sub (fun g hg => .inl hg))) ((hL6.sub (fun g hg => .inl hg)).mono (by omega))
    ·have hcb : (c2 == 0) = false := by simpa using hc2
     have hcn : (c2 != 0) = true := by simpa using hc2
     replace hc2 : Hid _ := hc2
     unfold ofBlock at *
     go_enter Tryz.func64, Tryz.ntmps64
     go_wp2_with (first
      |(go_at_call 109; refine hha.mono ?_; clear hha; rintro e w1 ⟨rfl, hb1⟩)
      |(go_at_call 110; refine (hrm.out _ hb1).mono ?_; rintro e w2 ⟨rfl, hL2, hK2⟩)
      |(go_at_call 111; refine (hrd.out _ _ hL2 (by omega)).mono ?_; rintro e w5 ⟨u, L, wx, rfl, hK5, hR5⟩; obtain ⟨uq, ucap, rfl⟩ := own_shape hR5.parts.row; have hL5 := hR5.live; have hxs := hR5.le))
     go_returns
     rw [openR_2 hd.out hq1.out hq2.out hc2.out]
     exact ROpens.fail hc2.out (((h0.out.kept hb1).trans hK2).trans hK5) ((hL5.sub (fun g hg => .inl hg)).mono (by omega))
   ·have hcn : (c1 != 0) = true := by simpa using hc1
    replace hc1 : Hid _ := hc1
    unfold ofBlock at *
    go_enter Tryz.func64, Tryz.ntmps64
    go_wp2_with (first
     |(go_at_call 109; refine hha.mono ?_; clear hha; rintro e w1 ⟨rfl, hb1⟩)
     |(go_at_call 110; refine (hrm.out _ hb1).mono ?_; rintro e w2 ⟨rfl, hL2, hK2⟩))
    go_returns
    rw [openR_1 hd.out hq1.out hc1.out]
    exact ROpens.fail hc1.out ((h0.out.kept hb1).trans hK2) (hL2.mono (by omega))
end Go.Proofs.YtmcmagplaflegaaGreatDoor

namespace Go.Proofs.YtmcmagplaflegaaGreatDoor
open Go Go.RowKit Go.MapL Go.Poised

variable {p n₀ m M : Nat} {d : RD} {w w' w'' : World} {K K' : Nat → Prop} {j : Jr}
theorem replR_1 {d1 : RD} {c1 : Int} {l : List Nat} (h1 : d.append jM l = (d1, c1)) (hc : c1 ≠ 0) : replR d l = (d1, c1) := by
 unfold replR
 rw [h1, thenR_no (q := (d1, c1)) hc, thenR_no (q := (d1, c1)) hc, thenR_no (q := (d1, c1)) hc]
theorem replR_2 {d1 d2 : RD} {c2 : Int} {l : List Nat} (h1 : d.append jM l = (d1, 0)) (h2 : d1.sync jM = (d2, c2)) (hc : c2 ≠ 0) : replR d l = (d2, c2) := by
 unfold replR
 rw [h1, thenR_yes (q := (d1, 0)) rfl, h2, thenR_no (q := (d2, c2)) hc, thenR_no (q := (d2, c2)) hc]
theorem replR_3 {d1 d2 d3 : RD} {c3 : Int} {l : List Nat} (h1 : d.append jM l = (d1, 0)) (h2 : d1.sync jM = (d2, 0)) (h3 : d2.rename jM jN = (d3, c3)) (hc : c3 ≠ 0) : replR d l = (d3, c3) := by
 unfold replR
 rw [h1, thenR_yes (q := (d1, 0)) rfl, h2, thenR_yes (q := (d2, 0)) rfl, h3, thenR_no (q := (d3, c3)) hc]
theorem replR_4 {d1 d2 d3 d4 : RD} {c4 : Int} {l : List Nat} (h1 : d.append jM l = (d1, 0)) (h2 : d1.sync jM = (d2, 0)) (h3 : d2.rename jM jN = (d3, 0)) (h4 : d3.syncNames = (d4, c4)) : replR d l = (d4, c4) := by
 unfold replR
 rw [h1, thenR_yes (q := (d1, 0)) rfl, h2, thenR_yes (q := (d2, 0)) rfl, h3, thenR_yes (q := (d3, 0)) rfl, h4]
set_option maxRecDepth 100000 in
set_option maxHeartbeats 8000000 in
theorem replaceR_any (v : Value) (L : List (Value × List Nat)) (h : RLive w p n₀ m d K) (hm : m < 134217728) (hL : ListIn w v L) (hlen : ∀ q ∈ L, q.2.length ≤ 140737488355328) (hz : (listRes (L.map (·.2))).2 = 0) :
  Calls Tryz.prog 123 #[ofBlock p, v] w fun e w' => e = .returned (.int .i64 (replR d (listRes (L.map (·.2))).1).2) ∧ RLive w' p n₀ (m + 3) (replR d (listRes (L.map (·.2))).1).1 K ∧ Kept K n₀ w w' := by
 have hr := listR_any v L w hL hlen
 obtain ⟨hrb, hrl⟩ := listRes_byte (L := L.map (·.2)) (fun l hl => by
  obtain ⟨q, hq, rfl⟩ := List.mem_map.1 hl
  exact (hL.each q hq).1)
 obtain ⟨vp, vcap, rfl, _⟩ := hL.shape
 rw [hz] at hr
 generalize (listRes (L.map (·.2))).1 = l at *
 have h0 : Hid (RLive w p n₀ m d K) := h
 obtain ⟨⟨d1, c1⟩, hq1⟩ : ∃ q1, d.append jM l = q1 := ⟨_, rfl⟩
 obtain ⟨⟨d2, c2⟩, hq2⟩ : ∃ q2, d1.sync jM = q2 := ⟨_, rfl⟩
 obtain ⟨⟨d3, c3⟩, hq3⟩ : ∃ q3, d2.rename jM jN = q3 := ⟨_, rfl⟩
 obtain ⟨⟨d4, c4⟩, hq4⟩ : ∃ q4, d3.syncNames = q4 := ⟨_, rfl⟩
 have hap : Hid (∀ W (u : Value) (hb : Below w.heap.size w W) (hrow : W.ownsRow w.heap.size 5 1 u l.length (encB l)), Calls Tryz.prog 68 #[ofBlock p, .string jM, u] W fun e w' => e = .returned (.int .i64 c1) ∧ RLive w' p n₀ (m + 2) d1 (fun g => K g ∨ rowK u g) ∧ Kept (fun g => K g ∨ rowK u g) n₀ W w') := fun W u hb hrow => by
  have := rlive_append (w := W) (K := fun g => K g ∨ rowK u g) jM u l (h0.out.more hb (fun g hg => hg.imp id (fun hg => hrow.lt g hg))) (by omega) (by decide) hrb (by omega) (fun w2 hk => row_bytes (hk.row hrow (fun g hg => .inr hg)) hrb (by omega))
  rw [hq1] at this
  exact this
 have hsy : Hid (∀ W k (K : Nat → Prop) (hl : RLive W p n₀ k d1 K), k < 536870912 → Calls Tryz.prog 112 #[ofBlock p, .string jM] W fun e w' => e = .returned (.int .i64 c2) ∧ RLive w' p n₀ k d2 K ∧ Kept K n₀ W w') := fun W k K hl hk => by
  have := rlive_sync jM hl hk
  rw [hq2] at this
  exact this
 have hre : Hid (∀ W k (K : Nat → Prop) (hl : RLive W p n₀ k d2 K), k < 536870912 → Calls Tryz.prog 140 #[ofBlock p, .string jM, .string jN] W fun e w' => e = .returned (.int .i64 c3) ∧ RLive w' p n₀ (k + 1) d3 K ∧ Kept K n₀ W w') := fun W k K hl hk => by
  have := rlive_rename jM jN hl hk (by decide)
  rw [hq3] at this
  exact this
 have hsn : Hid (∀ W k (K : Nat → Prop) (hl : RLive W p n₀ k d3 K), k < 536870912 → Calls Tryz.prog 113 #[ofBlock p] W fun e w' => e = .returned (.int .i64 c4) ∧ RLive w' p n₀ k d4 K ∧ Kept K n₀ W w') := fun W k K hl hk => by
  have := rlive_syncNames hl hk
  rw [hq4] at this
  exact this
 replace hq1 : Hid _ := hq1
 replace hq2 : Hid _ := hq2
 replace hq3 : Hid _ := hq3
 replace hq4 : Hid _ := hq4
 clear h hL hlen hrb hz
 by_cases hc1 : c1 = 0
 ·subst hc1
  by_cases hc2 : c2 = 0
  ·subst hc2
   by_cases hc3 : c3 = 0
   ·subst hc3
    unfold ofBlock at *
    go_enter Tryz.func123, Tryz.ntmps123
    go_wp2_with (first
     |(go_at_call 122; refine hr.mono ?_; clear hr; rintro e w2 ⟨u, rfl, hu, hb2⟩; obtain ⟨uq, ucap, rfl⟩ := own_shape hu)
     |(go_at_call 68; refine (hap.out _ _ hb2 hu).mono ?_; rintro e w3 ⟨rfl, hL3, hK3⟩)
     |(go_at_call 112; refine (hsy.out _ _ _ hL3 (by omega)).mono ?_; rintro e w4 ⟨rfl, hL4, hK4⟩)
     |(go_at_call 140; refine (hre.out _ _ _ hL4 (by omega)).mono ?_; rintro e w5 ⟨rfl, hL5, hK5⟩)
     |(go_at_call 113; refine (hsn.out _ _ _ hL5 (by omega)).mono ?_; rintro e w6 ⟨rfl, hL6, hK6⟩))
    go_returns
    rw [replR_4 hq1.out hq2.out hq3.out hq4.out]
    exact ⟨rfl, (hL6.sub (fun g hg => .inl hg)).mono (by omega), (h0.out.kept hb2).trans ((((hK3.trans hK4).trans hK5).trans hK6).sub (fun g hg => .inl hg))⟩
   ·have hcb : (c3 == 0) = false := by simpa using hc3
    have hcn : (c3 != 0) = true := by simpa using hc3
    replace hc3 : Hid _ := hc3
    unfold ofBlock at *
    go_enter Tryz.func123, Tryz.ntmps123
    go_wp2_with (first
     |(go_at_call 122; refine hr.mono ?_; clear hr; rintro e w2 ⟨u, rfl, hu, hb2⟩; obtain ⟨uq, ucap, rfl⟩ := own_shape hu)
     |(go_at_call 68; refine (hap.out _ _ hb2 hu).mono ?_; rintro e w3 ⟨rfl, hL3, hK3⟩)
     |(go_at_call 112; refine (hsy.out _ _ _ hL3 (by omega)).mono ?_; rintro e w4 ⟨rfl, hL4, hK4⟩)
     |(go_at_call 140; refine (hre.out _ _ _ hL4 (by omega)).mono ?_; rintro e w5 ⟨rfl, hL5, hK5⟩))
    go_returns
    rw [replR_3 hq1.out hq2.out hq3.out hc3.out]
    exact ⟨rfl, (hL5.sub (fun g hg => .inl hg)).mono (by omega), (h0.out.kept hb2).trans (((hK3.trans hK4).trans hK5).sub (fun g hg => .inl hg))⟩
  ·have hcb : (c2 == 0) = false := by simpa using hc2
   have hcn : (c2 != 0) = true := by simpa using hc2
   replace hc2 : Hid _ := hc2
   unfold ofBlock at *
   go_enter Tryz.func123, Tryz.ntmps123
   go_wp2_with (first
    |(go_at_call 122; refine hr.mono ?_; clear hr; rintro e w2 ⟨u, rfl, hu, hb2⟩; obtain ⟨uq, ucap, rfl⟩ := own_shape hu)
    |(go_at_call 68; refine (hap.out _ _ hb2 hu).mono ?_; rintro e w3 ⟨rfl, hL3, hK3⟩)
    |(go_at_call 112; refine (hsy.out _ _ _ hL3 (by omega)).mono ?_; rintro e w4 ⟨rfl, hL4, hK4⟩))
   go_returns
   rw [replR_2 hq1.out hq2.out hc2.out]
   exact ⟨rfl, (hL4.sub (fun g hg => .inl hg)).mono (by omega), (h0.out.kept hb2).trans ((hK3.trans hK4).sub (fun g hg => .inl hg))⟩
 ·have hcb : (c1 == 0) = false := by simpa using hc1
  have hcn : (c1 != 0) = true := by simpa using hc1
  replace hc1 : Hid _ := hc1
  unfold ofBlock at *
  go_enter Tryz.func123, Tryz.ntmps123
  go_wp2_with (first
   |(go_at_call 122; refine hr.mono ?_; clear hr; rintro e w2 ⟨u, rfl, hu, hb2⟩; obtain ⟨uq, ucap, rfl⟩ := own_shape hu)
   |(go_at_call 68; refine (hap.out _ _ hb2 hu).mono ?_; rintro e w3 ⟨rfl, hL3, hK3⟩))
  go_returns
  rw [replR_1 hq1.out hc1.out]
  exact ⟨rfl, (hL3.sub (fun g hg => .inl hg)).mono (by omega), (h0.out.kept hb2).trans (hK3.sub (fun g hg => .inl hg))⟩
/-! ### the journal -/
/-- The document's journal lies at M, its disk at p. -/
structure RJLive (w : World) (M p n₀ m : Nat) (j : Jr) (K : Nat → Prop) : Prop where
 live : RLive w p n₀ m j.d (fun g => K g ∨ g = M)
 jnl : RjAt w M p j.many j.safe j.br
 base : n₀ ≤ M
 out : ¬ K M
theorem RJLive.mono {k : Nat} (h : RJLive w M p n₀ m j K) (hm : m ≤ k) : RJLive w M p n₀ k j K := ⟨h.live.mono hm, h.jnl, h.base, h.out⟩
theorem RJLive.below (h : RJLive w M p n₀ m j K) (hb : Below w.heap.size w w') : RJLive w' M p n₀ m j K := ⟨h.live.below hb, h.jnl.below hb, h.base, h.out⟩
theorem RJLive.lt (h : RJLive w M p n₀ m j K) : ∀ g, K g → g < w.heap.size := fun g hg => h.live.lt g (.inl hg)
theorem RJLive.kept (h : RJLive w M p n₀ m j K) (hb : Below w.heap.size w w') : Kept K n₀ w w' := .of_below hb h.live.base h.lt
/-- The journal's own block is written. -/
theorem RJLive.write {j' : Jr} (hs : j'.d = j.d) (h : RJLive w M p n₀ m j K) (hj : RjAt w' M p j'.many j'.safe j'.br) (hG : Grown (fun k => k = M) w w') : RJLive w' M p n₀ m j' K ∧ Kept K n₀ w w' := by
 refine ⟨⟨by rw [hs]; exact h.live.set (fun g hl hg => hG.block g hl (fun e => hg (.inr e))) hG.size, hj, h.base, h.out⟩, hG.below h.live.base (fun k e => by rw [e]; exact h.base), fun g hg => hG.block g (h.lt g hg) (fun e => h.out (by rw [← e]; exact hg))⟩
set_option maxRecDepth 100000 in
set_option maxHeartbeats 8000000 in
theorem rjappend_any (v : Value) (b : List Nat) (h : RJLive w M p n₀ m j K) (hm : m < 134217728) (hmany : j.many ≤ 1000000000000) (hv : BytesIn w v b) (hbl : b.length ≤ 140737488355328) :
  Calls Tryz.prog 72 #[ofBlock M, v] w fun e w' => e = .returned (.int .i64 (j.append b).2) ∧ RJLive w' M p n₀ (m + 2) (j.append b).1 K ∧ Kept K n₀ w w' := by
 obtain ⟨vp, vcap, rfl, _⟩ := bytes_parts hv
 have hJ := h.jnl
 obtain ⟨x0, x1, x2, x3⟩ := cells4 hJ
 have hJl := (Array.getElem?_eq_some_iff.1 hJ).1
 unfold Jr.append
 cases hbr : j.br
 ·rw [hbr] at hJ x3
  have hr := recordR_any ((j.many : Int) + 1) _ b w (by omega) (by omega) hv hbl
  obtain ⟨hrb, hrl⟩ := recRes_byte ((j.many : Int) + 1) b hv.1 hbl
  have gw : IntKind.i64.wrap ((j.many : Int) + 1) = (j.many : Int) + 1 := IntWalk.i64_in _ (by omega)
  obtain ⟨q, hq⟩ : ∃ q, recRes ((j.many : Int) + 1) b = q := ⟨_, rfl⟩
  obtain ⟨rb, rc⟩ := q
  rw [hq] at hr hrb hrl ⊢
  simp only [Bool.false_eq_true, if_false] at hr hrb hrl ⊢
  clear hq
  have h' : Hid (RJLive w M p n₀ m j K) := h
  have hrb' : Hid _ := hrb
  clear h hv hrb
  by_cases hz : rc = 0
  ·subst hz
   simp only [if_true]
   obtain ⟨⟨d2, c⟩, hQ⟩ : ∃ Q, j.d.append jN rb = Q := ⟨_, rfl⟩
   have hap : Hid (∀ W (u : Value) (hb : Below w.heap.size w W) (hrow : W.ownsRow w.heap.size 5 1 u rb.length (encB rb)), Calls Tryz.prog 68 #[ofBlock p, .string jN, u] W fun e w' => e = .returned (.int .i64 c) ∧ RLive w' p n₀ (m + 2) d2 (fun g => (K g ∨ g = M) ∨ rowK u g) ∧ Kept (fun g => (K g ∨ g = M) ∨ rowK u g) n₀ W w') := fun W u hb hrow => by
    have := rlive_append (w := W) (K := fun g => (K g ∨ g = M) ∨ rowK u g) jN u rb (h'.out.live.more hb (fun g hg => hg.imp id (fun hg => hrow.lt g hg))) (by omega) (by decide) hrb'.out (by omega) (fun w2 hk => row_bytes (hk.row hrow (fun g hg => .inr hg)) hrb'.out (by omega))
    rw [hQ] at this
    exact this
   rw [hQ]
   clear hQ
   unfold Jr.after
   simp only
   by_cases hc0 : c = 0
   ·subst hc0
    simp only [if_true]
    unfold ofBlock at *
    go_enter Tryz.func72, Tryz.ntmps72
    go_wp2_with (first
     |(go_at_call 31; refine hr.mono ?_; clear hr; rintro e w2 ⟨u, rfl, hu, hb2⟩; obtain ⟨uq, ucap, rfl⟩ := own_shape hu; have hJ2 := (hb2.block _ hJl).trans hJ; obtain ⟨y0, y1, y2, y3⟩ := cells4 hJ2)
     |(go_at_call 68; refine (hap.out _ _ hb2 hu).mono ?_; rintro e w3 ⟨rfl, hL3, hK3⟩; have hJ3 := (hK3.same M (.inl (.inr rfl))).trans hJ2; obtain ⟨z0, z1, z2, z3⟩ := cells4 hJ3; have hzf1 := free_of hJ3 1; have hzf2 := free_of hJ3 2; have haf := rafter_fine w3 M 0 (.inl rfl))
     |(go_at_call 121; refine haf.mono ?_; rintro e w4 ⟨rfl, rfl⟩))
    go_returns
    have hjl : RJLive _ M p n₀ (m + 2) { j with d := d2 } K := ⟨hL3.sub (fun g hg => .inl hg), by rw [hbr]; exact hJ3, h'.out.base, h'.out.out⟩
    obtain ⟨k1, k2⟩ := RJLive.write (j := { j with d := d2 }) (j' := { j with d := d2, many := j.many + 1 }) rfl hjl (by rw [hbr]; exact (setCell_heap hJ3).trans rfl) (jset (B := M) (i := 1) (v := .int .i64 ((j.many : Int) + 1)))
    exact ⟨rfl, k1, ((h'.out.kept hb2).trans (hK3.sub (fun g hg => .inl (.inl hg)))).trans k2⟩
   ·by_cases hc1 : c = 52
    ·subst hc1
     simp only [if_true, show ((52 : Int) = 0) = False from by simp, if_false]
     unfold ofBlock at *
     go_enter Tryz.func72, Tryz.ntmps72
     go_wp2_with (first
      |(go_at_call 31; refine hr.mono ?_; clear hr; rintro e w2 ⟨u, rfl, hu, hb2⟩; obtain ⟨uq, ucap, rfl⟩ := own_shape hu; have hJ2 := (hb2.block _ hJl).trans hJ; obtain ⟨y0, y1, y2, y3⟩ := cells4 hJ2)
      |(go_at_call 68; refine (hap.out _ _ hb2 hu).mono ?_; rintro e w3 ⟨rfl, hL3, hK3⟩; have hJ3 := (hK3.same M (.inl (.inr rfl))).trans hJ2; have haf := rafter_fine w3 M 52 (.inr rfl))
      |(go_at_call 121; refine haf.mono ?_; rintro e w4 ⟨rfl, rfl⟩))
     go_returns
     exact ⟨rfl, ⟨hL3.sub (fun g hg => .inl hg), by rw [hbr]; exact hJ3, h'.out.base, h'.out.out⟩, (h'.out.kept hb2).trans (hK3.sub (fun g hg => .inl (.inl hg)))⟩
    ·simp only [hc0, hc1, if_false]
     have hcb0 : (c == 0) = false := by simpa using hc0
     have hcb1 : (c != 0) = true := by simpa using hc0
     unfold ofBlock at *
     go_enter Tryz.func72, Tryz.ntmps72
     go_wp2_with (first
      |(go_at_call 31; refine hr.mono ?_; clear hr; rintro e w2 ⟨u, rfl, hu, hb2⟩; obtain ⟨uq, ucap, rfl⟩ := own_shape hu; have hJ2 := (hb2.block _ hJl).trans hJ; obtain ⟨y0, y1, y2, y3⟩ := cells4 hJ2)
      |(go_at_call 68; refine (hap.out _ _ hb2 hu).mono ?_; rintro e w3 ⟨rfl, hL3, hK3⟩; have hJ3 := (hK3.same M (.inl (.inr rfl))).trans hJ2; have haf := rafter_broken w3 M p j.many j.safe false c hJ3 hc0 hc1)
      |(go_at_call 121; refine haf.mono ?_; clear haf; rintro e w4 ⟨rfl, hJ4, hG4⟩))
     go_returns
     have hjl : RJLive _ M p n₀ (m + 2) { j with d := d2 } K := ⟨hL3.sub (fun g hg => .inl hg), by rw [hbr]; exact hJ3, h'.out.base, h'.out.out⟩
     obtain ⟨k1, k2⟩ := RJLive.write (j := { j with d := d2 }) (j' := { j with d := d2, br := true }) rfl hjl hJ4 hG4
     exact ⟨rfl, k1, ((h'.out.kept hb2).trans (hK3.sub (fun g hg => .inl (.inl hg)))).trans k2⟩
  ·simp only [hz, if_false]
   have hzb : (rc != 0) = true := by simpa using hz
   unfold ofBlock at *
   go_enter Tryz.func72, Tryz.ntmps72
   go_wp2_with ((go_at_call 31; refine hr.mono ?_; clear hr; rintro e w2 ⟨u, rfl, hu, hb2⟩; obtain ⟨uq, ucap, rfl⟩ := own_shape hu))
   go_returns
   exact ⟨rfl, (h'.out.below hb2).mono (by omega), h'.out.kept hb2⟩
 ·rw [hbr] at hJ x3
  simp only [if_true]
  replace h : Hid (RJLive w M p n₀ m j K) := h
  unfold ofBlock at *
  go_enter Tryz.func72, Tryz.ntmps72
  go_wp2_with fail
  go_returns
  exact ⟨rfl, h.out.mono (by omega), Kept.refl _ _ _⟩
set_option maxRecDepth 100000 in
set_option maxHeartbeats 8000000 in
theorem rjsync_any (h : RJLive w M p n₀ m j K) (hm : m < 134217728) :
  Calls Tryz.prog 73 #[ofBlock M] w fun e w' => e = .returned (.int .i64 j.sync.2) ∧ RJLive w' M p n₀ m j.sync.1 K ∧ Kept K n₀ w w' := by
 have hJ := h.jnl
 obtain ⟨x0, x1, x2, x3⟩ := cells4 hJ
 have hJl := (Array.getElem?_eq_some_iff.1 hJ).1
 unfold Jr.sync
 cases hbr : j.br
 ·rw [hbr] at hJ x3
  simp only [Bool.false_eq_true, if_false]
  obtain ⟨⟨d2, c⟩, hQ⟩ : ∃ Q, j.d.sync jN = Q := ⟨_, rfl⟩
  have hap := rlive_sync jN h.live (by omega)
  rw [hQ] at hap ⊢
  have h' : Hid (RJLive w M p n₀ m j K) := h
  clear h hQ
  unfold Jr.after
  simp only at hap ⊢
  by_cases hc0 : c = 0
  ·subst hc0
   simp only [if_true]
   unfold ofBlock at *
   go_enter Tryz.func73, Tryz.ntmps73
   go_wp2_with (first
    |(go_at_call 112; refine hap.mono ?_; clear hap; rintro e w3 ⟨rfl, hL3, hK3⟩; have hJ3 := (hK3.same M (.inr rfl)).trans hJ; obtain ⟨z0, z1, z2, z3⟩ := cells4 hJ3; have hzf1 := free_of hJ3 1; have hzf2 := free_of hJ3 2; have haf := rafter_fine w3 M 0 (.inl rfl))
    |(go_at_call 121; refine haf.mono ?_; rintro e w4 ⟨rfl, rfl⟩))
   go_returns
   have hjl : RJLive _ M p n₀ m { j with d := d2 } K := ⟨hL3.sub (fun g hg => hg), by rw [hbr]; exact hJ3, h'.out.base, h'.out.out⟩
   obtain ⟨k1, k2⟩ := RJLive.write (j := { j with d := d2 }) (j' := { j with d := d2, safe := j.many }) rfl hjl (by rw [hbr]; exact (setCell_heap hJ3).trans rfl) (jset (B := M) (i := 2) (v := .int .i64 (j.many : Int)))
   exact ⟨rfl, k1, (hK3.sub (fun g hg => .inl hg)).trans k2⟩
  ·by_cases hc1 : c = 52
   ·subst hc1
    simp only [if_true, show ((52 : Int) = 0) = False from by simp, if_false]
    unfold ofBlock at *
    go_enter Tryz.func73, Tryz.ntmps73
    go_wp2_with (first
     |(go_at_call 112; refine hap.mono ?_; clear hap; rintro e w3 ⟨rfl, hL3, hK3⟩; have hJ3 := (hK3.same M (.inr rfl)).trans hJ; have haf := rafter_fine w3 M 52 (.inr rfl))
     |(go_at_call 121; refine haf.mono ?_; rintro e w4 ⟨rfl, rfl⟩))
    go_returns
    exact ⟨rfl, ⟨hL3.sub (fun g hg => hg), by rw [hbr]; exact hJ3, h'.out.base, h'.out.out⟩, hK3.sub (fun g hg => .inl hg)⟩
   ·simp only [hc0, hc1, if_false]
    have hcb0 : (c == 0) = false := by simpa using hc0
    have hcb1 : (c != 0) = true := by simpa using hc0
    unfold ofBlock at *
    go_enter Tryz.func73, Tryz.ntmps73
    go_wp2_with (first
     |(go_at_call 112; refine hap.mono ?_; clear hap; rintro e w3 ⟨rfl, hL3, hK3⟩; have hJ3 := (hK3.same M (.inr rfl)).trans hJ; have haf := rafter_broken w3 M p j.many j.safe false c hJ3 hc0 hc1)
     |(go_at_call 121; refine haf.mono ?_; clear haf; rintro e w4 ⟨rfl, hJ4, hG4⟩))
    go_returns
    have hjl : RJLive _ M p n₀ m { j with d := d2 } K := ⟨hL3.sub (fun g hg => hg), by rw [hbr]; exact hJ3, h'.out.base, h'.out.out⟩
    obtain ⟨k1, k2⟩ := RJLive.write (j := { j with d := d2 }) (j' := { j with d := d2, br := true }) rfl hjl hJ4 hG4
    exact ⟨rfl, k1, (hK3.sub (fun g hg => .inl hg)).trans k2⟩
 ·rw [hbr] at hJ x3
  simp only [if_true]
  replace h : Hid (RJLive w M p n₀ m j K) := h
  unfold ofBlock at *
  go_enter Tryz.func73, Tryz.ntmps73
  go_wp2_with fail
  go_returns
  exact ⟨rfl, h.out.mono (by omega), Kept.refl _ _ _⟩
set_option maxRecDepth 100000 in
set_option maxHeartbeats 8000000 in
theorem rjcheckpoint_any (v : Value) (L : List (Value × List Nat)) (h : RJLive w M p n₀ m j K) (hm : m < 134217728) (hL : ListIn w v L) (hlen : ∀ q ∈ L, q.2.length ≤ 140737488355328) :
  Calls Tryz.prog 74 #[ofBlock M, v] w fun e w' => e = .returned (.int .i64 (j.checkpoint (L.map (·.2))).2) ∧ RJLive w' M p n₀ (m + 3) (j.checkpoint (L.map (·.2))).1 K ∧ Kept K n₀ w w' := by
 obtain ⟨vp, vcap, rfl, _⟩ := hL.shape
 have hLl := hL.len
 have hJ := h.jnl
 obtain ⟨x0, x1, x2, x3⟩ := cells4 hJ
 have hJl := (Array.getElem?_eq_some_iff.1 hJ).1
 unfold Jr.checkpoint
 cases hbr : j.br
 ·rw [hbr] at hJ x3
  have hr := listR_any _ L w hL hlen
  have h' : Hid (RJLive w M p n₀ m j K) := h
  have hrep : Hid (∀ W (hb : Below w.heap.size w W) (hz : (listRes (L.map (·.2))).2 = 0), Calls Tryz.prog 123 #[ofBlock p, .slice vp L.length vcap] W fun e w' => e = .returned (.int .i64 (replR j.d (listRes (L.map (·.2))).1).2) ∧ RLive w' p n₀ (m + 3) (replR j.d (listRes (L.map (·.2))).1).1 (fun g => K g ∨ g = M) ∧ Kept (fun g => K g ∨ g = M) n₀ W w') := fun W hb hz => replaceR_any _ L (h'.out.live.below hb) hm (hL.below hb) hlen hz
  obtain ⟨N, hN⟩ : ∃ N, L.length = N := ⟨_, rfl⟩
  have hN2 : (L.map (·.2)).length = N := by rw [List.length_map, hN]
  rw [hN2]
  rw [hN] at hr hLl hrep ⊢
  obtain ⟨q, hq⟩ : ∃ q, listRes (L.map (·.2)) = q := ⟨_, rfl⟩
  obtain ⟨rb, rc⟩ := q
  rw [hq] at hr hrep ⊢
  simp only [Bool.false_eq_true, if_false] at hr hrep ⊢
  clear hq hN hN2 hlen h hL
  by_cases hz : rc = 0
  ·subst hz
   simp only [if_true]
   obtain ⟨⟨d2, c⟩, hQ⟩ : ∃ Q, replR j.d rb = Q := ⟨_, rfl⟩
   have hap : Hid (∀ W (hb : Below w.heap.size w W), Calls Tryz.prog 123 #[ofBlock p, .slice vp N vcap] W fun e w' => e = .returned (.int .i64 c) ∧ RLive w' p n₀ (m + 3) d2 (fun g => K g ∨ g = M) ∧ Kept (fun g => K g ∨ g = M) n₀ W w') := fun W hb => by
    have := hrep.out W hb rfl
    rw [hQ] at this
    exact this
   rw [hQ]
   clear hQ hrep
   unfold Jr.after
   simp only
   by_cases hc0 : c = 0
   ·subst hc0
    simp only [if_true]
    unfold ofBlock at *
    go_enter Tryz.func74, Tryz.ntmps74
    go_wp2_with (first
     |(go_at_call 122; refine hr.mono ?_; clear hr; rintro e w2 ⟨u, rfl, hu, hb2⟩; obtain ⟨uq, ucap, rfl⟩ := own_shape hu; have hJ2 := (hb2.block _ hJl).trans hJ; obtain ⟨y0, y1, y2, y3⟩ := cells4 hJ2)
     |(go_at_call 123; refine (hap.out _ hb2).mono ?_; rintro e w3 ⟨rfl, hL3, hK3⟩; have hJ3 := (hK3.same M (.inr rfl)).trans hJ2; obtain ⟨z0, z1, z2, z3⟩ := cells4 hJ3; have hzf1 := free_of hJ3 1; have hzf2 := free_of hJ3 2; have haf := rafter_fine w3 M 0 (.inl rfl))
     |(go_at_call 121; refine haf.mono ?_; rintro e w4 ⟨rfl, rfl⟩))
    go_returns
    have hjl : RJLive _ M p n₀ (m + 3) { j with d := d2 } K := ⟨hL3.sub (fun g hg => hg), by rw [hbr]; exact hJ3, h'.out.base, h'.out.out⟩
    obtain ⟨k1, k2⟩ := RJLive.write (j := { j with d := d2 }) (j' := { j with d := d2, many := N, safe := N }) rfl hjl (by rw [hbr]; exact (setCell_heap (setCell_heap hJ3)).trans rfl) ((jset (B := M) (i := 1) (v := .int .i64 (N : Int))).trans (jset (B := M) (i := 2) (v := .int .i64 (N : Int))) (fun x hx => .inl hx))
    exact ⟨rfl, k1, ((h'.out.kept hb2).trans (hK3.sub (fun g hg => .inl hg))).trans k2⟩
   ·by_cases hc1 : c = 52
    ·subst hc1
     simp only [if_true, show ((52 : Int) = 0) = False from by simp, if_false]
     unfold ofBlock at *
     go_enter Tryz.func74, Tryz.ntmps74
     go_wp2_with (first
      |(go_at_call 122; refine hr.mono ?_; clear hr; rintro e w2 ⟨u, rfl, hu, hb2⟩; obtain ⟨uq, ucap, rfl⟩ := own_shape hu; have hJ2 := (hb2.block _ hJl).trans hJ; obtain ⟨y0, y1, y2, y3⟩ := cells4 hJ2)
      |(go_at_call 123; refine (hap.out _ hb2).mono ?_; rintro e w3 ⟨rfl, hL3, hK3⟩; have hJ3 := (hK3.same M (.inr rfl)).trans hJ2; have haf := rafter_fine w3 M 52 (.inr rfl))
      |(go_at_call 121; refine haf.mono ?_; rintro e w4 ⟨rfl, rfl⟩))
     go_returns
     exact ⟨rfl, ⟨hL3.sub (fun g hg => hg), by rw [hbr]; exact hJ3, h'.out.base, h'.out.out⟩, (h'.out.kept hb2).trans (hK3.sub (fun g hg => .inl hg))⟩
    ·simp only [hc0, hc1, if_false]
     have hcb0 : (c == 0) = false := by simpa using hc0
     have hcb1 : (c != 0) = true := by simpa using hc0
     unfold ofBlock at *
     go_enter Tryz.func74, Tryz.ntmps74
     go_wp2_with (first
      |(go_at_call 122; refine hr.mono ?_; clear hr; rintro e w2 ⟨u, rfl, hu, hb2⟩; obtain ⟨uq, ucap, rfl⟩ := own_shape hu; have hJ2 := (hb2.block _ hJl).trans hJ; obtain ⟨y0, y1, y2, y3⟩ := cells4 hJ2)
      |(go_at_call 123; refine (hap.out _ hb2).mono ?_; rintro e w3 ⟨rfl, hL3, hK3⟩; have hJ3 := (hK3.same M (.inr rfl)).trans hJ2; have haf := rafter_broken w3 M p j.many j.safe false c hJ3 hc0 hc1)
      |(go_at_call 121; refine haf.mono ?_; clear haf; rintro e w4 ⟨rfl, hJ4, hG4⟩))
     go_returns
     have hjl : RJLive _ M p n₀ (m + 3) { j with d := d2 } K := ⟨hL3.sub (fun g hg => hg), by rw [hbr]; exact hJ3, h'.out.base, h'.out.out⟩
     obtain ⟨k1, k2⟩ := RJLive.write (j := { j with d := d2 }) (j' := { j with d := d2, br := true }) rfl hjl hJ4 hG4
     exact ⟨rfl, k1, ((h'.out.kept hb2).trans (hK3.sub (fun g hg => .inl hg))).trans k2⟩
  ·simp only [hz, if_false]
   have hzb : (rc != 0) = true := by simpa using hz
   clear hrep
   unfold ofBlock at *
   go_enter Tryz.func74, Tryz.ntmps74
   go_wp2_with ((go_at_call 122; refine hr.mono ?_; clear hr; rintro e w2 ⟨u, rfl, hu, hb2⟩; obtain ⟨uq, ucap, rfl⟩ := own_shape hu))
   go_returns
   exact ⟨rfl, (h'.out.below hb2).mono (by omega), h'.out.kept hb2⟩
 ·rw [hbr] at hJ x3
  simp only [if_true]
  replace h : Hid (RJLive w M p n₀ m j K) := h
  unfold ofBlock at *
  go_enter Tryz.func74, Tryz.ntmps74
  go_wp2_with fail
  go_returns
  exact ⟨rfl, h.out.mono (by omega), Kept.refl _ _ _⟩
end Go.Proofs.YtmcmagplaflegaaGreatDoor

namespace Go.Staged
open Go Go.Poised Go.RowKit

/-- What an operation leaves: a value that meets 'dom', and of it, in the world, 'V', which lasts. -/
structure Leaves (R : World → World → Prop) where
 dom : Value → Prop
 V : Value → World → Prop
 one : Value
 ok : dom one
 lasts : ∀ v w w', R w w' → V v w → V v w'

def Leaves.det {R : World → World → Prop} (u : Value) : Leaves R := ⟨fun v => v = u, fun _ _ => True, u, rfl, fun _ _ _ _ _ => trivial⟩
section
variable {P : Program} {ops : Array Oper} {md : Region.Mode} {C : Nat → World → Prop} {R : World → World → Prop} {eff : Nat → Bool}

/-- The stage behind an operation. -/
def nx (b : Bool) (σ : Nat) : Nat := if b then σ + 1 else σ
/-- In state a: the operation goes through, at this stage if it turns memory, at every stage else. -/
def goes (P : Program) (C : Nat → World → Prop) (R : World → World → Prop) (b : Bool) (σ : Nat) (o : Oper) (a : Act) (S : World → Prop) (D : Value → World → Prop) : Prop :=
 if b then poised P (fun w w' => R w w' ∧ C (σ + 1) w') o a (fun w => C σ w ∧ S w) D else ∀ τ, poised P (fun w w' => R w w' ∧ C τ w') o a (fun w => C τ w ∧ S w) D
theorem goes_now {b : Bool} {σ : Nat} {o : Oper} {a : Act} {S : World → Prop} {D : Value → World → Prop} (h : goes P C R b σ o a S D) : poised P (fun w w' => R w w' ∧ C (nx b σ) w') o a (fun w => C σ w ∧ S w) D := by
 unfold goes at h
 unfold nx
 cases b
 ·exact h σ
 ·exact h
theorem goes_at {b c : Bool} {σ : Nat} {o : Oper} {a : Act} {S : World → Prop} {D : Value → World → Prop} (hbc : ¬ (b = true ∧ c = true)) : goes P C R b (nx c σ) o a S D ↔ goes P C R b σ o a S D := by
 unfold goes nx
 cases b <;> cases c <;> simp at hbc ⊢
theorem nx_comm {b c : Bool} {σ : Nat} : nx b (nx c σ) = nx c (nx b σ) := by
 unfold nx
 cases b <;> cases c <;> simp
def pOp (P : Program) (md : Region.Mode) (ops : Array Oper) (C : Nat → World → Prop) (R : World → World → Prop) (b : Bool) (o : Oper) (i : Nat) (s : Leaves R) (σ : Nat) (fs : Facts) (K : Nat → Facts → Act → Prop) (a : Act) : Prop :=
 if Region.wanted o (yielded ops a.tmps) then
  goes P C R b σ o a (Poised.seen md fs o) (fun v w' => s.dom v ∧ s.V v w') ∧ ∀ v, s.dom v → K (nx b σ) (Facts.put i (s.V v) fs) (a.put o.dst v)
 else K σ fs (a.put o.dst undef)

theorem pOp_mono {b : Bool} {o : Oper} {i σ : Nat} {s : Leaves R} {fs : Facts} {K K' : Nat → Facts → Act → Prop} {a : Act} (h : ∀ σ fs a, K σ fs a → K' σ fs a) (hh : pOp P md ops C R b o i s σ fs K a) : pOp P md ops C R b o i s σ fs K' a := by
 unfold pOp at *
 split
 ·rename_i hw; simp only [hw, if_true] at hh; exact ⟨hh.1, fun v hv => h _ _ _ (hh.2 v hv)⟩
 ·rename_i hw; simp only [hw] at hh; exact h _ _ _ hh

/-- Whatever order is picked among the first m. -/
def wpAnyP (P : Program) (md : Region.Mode) (ops : Array Oper) (C : Nat → World → Prop) (R : World → World → Prop) (eff : Nat → Bool) (m : Nat) (S : Nat → Leaves R) (Q : Nat → Array Bool → Facts → Act → Prop) : Nat → Array Bool → Nat → Facts → Act → Prop
 | 0, listed, σ, fs, a => (∀ j ∈ Region.ready md ops listed, m ≤ j) ∧ Q σ listed fs a
 | fuel + 1, listed, σ, fs, a => Region.ready md ops listed ≠ [] ∧
  ∀ i ∈ Region.ready md ops listed, ∃ o, ops[i]? = some o ∧ pOp P md ops C R (eff i) o i (S i) σ fs (fun σ fs a => wpAnyP P md ops C R eff m S Q fuel (listed.setIfInBounds i true) σ fs a) a

theorem wpAny_of_P {m r : Nat} {S : Nat → Leaves R} {Q : Nat → Array Bool → Facts → Act → Prop} {Q' : Exit → Act → World → Prop}
  (hQ : ∀ σ listed fs a w, C σ w → (∀ k, fs k w) → Q σ listed fs a → wpAny P md ops Q' r listed a w) :
  ∀ (fuel : Nat) (listed : Array Bool) (σ : Nat) (fs : Facts) (a : Act) (w : World), C σ w → (∀ k, fs k w) → (∀ k w w', R w w' → fs k w → fs k w') →
   wpAnyP P md ops C R eff m S Q fuel listed σ fs a → wpAny P md ops Q' (fuel + r) listed a w
 | 0, listed, σ, fs, a, w, hw, hf, _, h => by rw [Nat.zero_add]; exact hQ _ _ _ _ _ hw hf h.2
 | fuel + 1, listed, σ, fs, a, w, hw, hf, hl, h => by
  rw [Nat.succ_add]
  refine ⟨fun h0 => absurd h0 h.1, fun i hi => ?_⟩
  obtain ⟨o, ho, hp⟩ := h.2 i hi
  unfold wpOp
  simp only [ho]
  unfold pOp at hp
  split
  ·rename_i hwant
   simp only [hwant, if_true] at hp
   refine .inl (wp_of_poised (C := fun w => C σ w ∧ Poised.seen md fs o w) ⟨hw, fun k _ => hf k⟩ (goes_now hp.1) fun v w' hr hd => ?_)
   refine wpAny_of_P hQ fuel _ _ _ _ w' hr.2 (fun k => ?_) (fun k w1 w2 h2 => ?_) (hp.2 v hd.1)
   ·simp only [Facts.put]; split
    ·exact hd.2
    ·exact hl k _ _ hr.1 (hf k)
   ·simp only [Facts.put]; split
    ·exact (S i).lasts v w1 w2 h2
    ·exact hl k w1 w2 h2
  ·rename_i hwant
   simp only [hwant] at hp
   exact wpAny_of_P hQ fuel _ _ _ _ w hw hf hl hp

theorem goes_congr {b : Bool} {σ : Nat} {o : Oper} {a a' : Act} {S : World → Prop} {D : Value → World → Prop} (he : execOp a'.eval o = execOp a.eval o) (h : goes P C R b σ o a S D) : goes P C R b σ o a' S D := by
 unfold goes at *
 cases b
 ·exact fun τ => poised_congr he (fun _ h => h) (h τ)
 ·exact poised_congr he (fun _ h => h) h

/-- 'oj', apart from 'oi', neither waiting for the other: oi may come up first. -/
theorem pOp_swap {i j : Nat} {bi bj : Bool} {oi oj : Oper} {si sj : Leaves R} (hij : i ≠ j) (hb : ¬ (bi = true ∧ bj = true)) (hap : oi.apart ops oj = true) (hsi : ∀ cs b, oi.op ≠ .select cs b) (hsj : ∀ cs b, oj.op ≠ .select cs b)
  (hwi : waits md oi j = false) (hwj : waits md oj i = false) {σ : Nat} {fs : Facts} {a : Act} {K : Nat → Facts → Act → Prop}
  (h : pOp P md ops C R bi oi i si σ fs (fun σ fs a => pOp P md ops C R bj oj j sj σ fs K a) a) : pOp P md ops C R bj oj j sj σ fs (fun σ fs a => pOp P md ops C R bi oi i si σ fs K a) a := by
 have hb' : ¬ (bj = true ∧ bi = true) := fun h => hb ⟨h.2, h.1⟩
 obtain ⟨h1, h2, h3⟩ := Oper.apart_spec hap
 have ej : ∀ (a : Act) u, execOp (a.put oi.dst u).eval oj = execOp a.eval oj := fun a u => execOp_put oj hsj a oi.dst u h1
 have wj : ∀ (a : Act) u, Region.wanted oj (yielded ops (Act.put a oi.dst u).tmps) = Region.wanted oj (yielded ops a.tmps) := fun a u => wanted_put oj a oi.dst u h1
 have ei : ∀ (a : Act) u, execOp (a.put oj.dst u).eval oi = execOp a.eval oi := fun a u => execOp_put oi hsi a oj.dst u h3
 have wi : ∀ (a : Act) u, Region.wanted oi (yielded ops (Act.put a oj.dst u).tmps) = Region.wanted oi (yielded ops a.tmps) := fun a u => wanted_put oi a oj.dst u h3
 have cm : ∀ (a : Act) u v, (a.put oi.dst u).put oj.dst v = (a.put oj.dst v).put oi.dst u := fun a u v => (Act.put_comm a u v h2)
 unfold pOp at *
 by_cases hi : Region.wanted oi (yielded ops a.tmps) = true
 ·simp only [hi, if_true] at h
  obtain ⟨hpi, hk⟩ := h
  have key : ∀ v, si.dom v → (if Region.wanted oj (yielded ops a.tmps) = true then
    goes P C R bj σ oj a (Poised.seen md fs oj) (fun v w' => sj.dom v ∧ sj.V v w') ∧ ∀ u, sj.dom u → K (nx bj (nx bi σ)) (Facts.put j (sj.V u) (Facts.put i (si.V v) fs)) ((a.put oi.dst v).put oj.dst u)
    else K (nx bi σ) (Facts.put i (si.V v) fs) ((a.put oi.dst v).put oj.dst undef)) := fun v hv => by
   have := hk v hv
   simp only [wj, Poised.seen_put hwj] at this
   split
   ·rename_i hw; simp only [hw, if_true] at this
    exact ⟨(goes_at hb').1 (goes_congr (ej a v).symm this.1), this.2⟩
   ·rename_i hw; simp only [hw] at this; exact this
  by_cases hj : Region.wanted oj (yielded ops a.tmps) = true
  ·simp only [hj, if_true] at key ⊢
   refine ⟨(key si.one si.ok).1, fun u hu => ?_⟩
   simp only [wi, hi, if_true, Poised.seen_put hwi]
   refine ⟨(goes_at hb).2 (goes_congr (ei a u) hpi), fun v hv => ?_⟩
   rw [Facts.put_comm hij, ← cm, nx_comm]
   exact (key v hv).2 u hu
  ·simp only [hj] at key ⊢
   simp only [Bool.false_eq_true, if_false] at key ⊢
   simp only [wi, hi, if_true]
   refine ⟨goes_congr (ei a undef) hpi, fun v hv => ?_⟩
   rw [← cm]
   exact key v hv
 ·simp only [hi] at h
  simp only [Bool.false_eq_true, if_false, wj] at h
  by_cases hj : Region.wanted oj (yielded ops a.tmps) = true
  ·simp only [hj, if_true] at h ⊢
   refine ⟨goes_congr (ej a undef).symm h.1, fun u hu => ?_⟩
   simp only [wi, hi, Bool.false_eq_true, if_false]
   rw [← cm]
   exact h.2 u hu
  ·simp only [hj] at h ⊢
   simp only [Bool.false_eq_true, if_false, wi, hi] at h ⊢
   rw [← cm]
   exact h

theorem getD_setT {l : Array Bool} {j k : Nat} (h : l.getD k true = true) : (l.setIfInBounds j true).getD k true = true := by
 by_cases hk : k < l.size
 ·by_cases e : j = k
  ·subst e; simp [Array.getD_eq_getD_getElem?, hk]
  ·rw [getD_set_ne true e]; exact h
 ·simp [Array.getD_eq_getD_getElem?, Array.getElem?_eq_none (show (l.setIfInBounds j true).size ≤ k by simpa using hk)]
/-- Of two that turn memory the later one waits for the earlier one. -/
def effWaits (md : Region.Mode) (ops : Array Oper) (eff : Nat → Bool) : Prop := ∀ i j oj, i < j → eff i = true → eff j = true → ops[j]? = some oj → reaches md ops ops.size oj i = true

/-- An operation that may come up may come up first. -/
theorem wpAnyP_first {m : Nat} {S : Nat → Leaves R} {Q : Nat → Array Bool → Facts → Act → Prop} {i : Nat} {oi : Oper} (hi : ops[i]? = some oi) (hsel : ∀ (j : Nat) (o : Oper) cs b, ops[j]? = some o → o.op ≠ .select cs b)
  (htail : ∀ j oj, ops[j]? = some oj → m ≤ j → reaches md ops ops.size oj i = true) (heff : effWaits md ops eff) :
  ∀ (fuel : Nat) (listed : Array Bool) (σ : Nat) (fs : Facts) (a : Act), Closed md ops listed → (∀ j, j < i → listed.getD j true = true) →
   (∀ j oj, ops[j]? = some oj → j ≠ i → listed.getD j true = false → (∀ e ∈ oj.after, Region.binds md e = true → e.on ≠ i) → oi.apart ops oj = true) →
   i ∈ Region.ready md ops listed → pOp P md ops C R (eff i) oi i (S i) σ fs (fun σ fs a => wpAnyP P md ops C R eff m S Q fuel (listed.setIfInBounds i true) σ fs a) a → wpAnyP P md ops C R eff m S Q (fuel + 1) listed σ fs a := by
 have notOn : ∀ {j : Nat} {oj : Oper} {listed : Array Bool}, i ∈ Region.ready md ops listed → (∀ e ∈ oj.after, Region.binds md e = true → listed.getD e.on false = true) → ∀ e ∈ oj.after, Region.binds md e = true → e.on ≠ i := by
  intro j oj listed hr hall e he hb heq
  have h1 := hall e he hb
  have h0 := (mem_ready.1 hr).1
  rw [heq] at h1
  rcases Nat.lt_or_ge i listed.size with h' | h'
  ·simp [h'] at h0 h1; rw [h0] at h1; cases h1
  ·simp [Array.getElem?_eq_none h'] at h1
 have lateOf : ∀ {j : Nat} {oj : Oper} {listed : Array Bool}, Closed md ops listed → i ∈ Region.ready md ops listed → (∀ e ∈ oj.after, Region.binds md e = true → listed.getD e.on false = true) → reaches md ops ops.size oj i = true → False := by
  intro j oj listed hcl hr hall hre
  have h1 := hcl.reaches _ oj hre hall
  have h0 := (mem_ready.1 hr).1
  rcases Nat.lt_or_ge i listed.size with h' | h'
  ·simp [h'] at h0 h1; rw [h0] at h1; cases h1
  ·simp [Array.getElem?_eq_none h'] at h1
 intro fuel
 induction fuel with
 | zero =>
  intro listed σ fs a hcl _ _ hr H
  refine ⟨fun h => (by rw [h] at hr; cases hr), fun j hj => ?_⟩
  by_cases hji : j = i
  ·subst hji; exact ⟨oi, hi, H⟩
  ·exfalso
   obtain ⟨_, oj, hoj, hall⟩ := mem_ready.1 hj
   have hlt : ¬ m ≤ j := fun hm => lateOf (j := j) hcl hr hall (htail j oj hoj hm)
   have hj' := ready_mono hj hji
   have : ∃ σ fs a, wpAnyP P md ops C R eff m S Q 0 (listed.setIfInBounds i true) σ fs a := by
    unfold pOp at H
    split at H
    ·exact ⟨_, _, _, H.2 _ (S i).ok⟩
    ·exact ⟨_, _, _, H⟩
   obtain ⟨_, _, _, h0⟩ := this
   exact hlt (h0.1 j hj')
 | succ fuel ih =>
  intro listed σ fs a hcl hlow hfree hr H
  refine ⟨fun h => (by rw [h] at hr; cases hr), fun j hj => ?_⟩
  by_cases hji : j = i
  ·subst hji; exact ⟨oi, hi, H⟩
  ·obtain ⟨hjun, oj, hoj, hall⟩ := mem_ready.1 hj
   have hnot := notOn (j := j) hr hall
   obtain ⟨hiun, oi', hoi', halli⟩ := mem_ready.1 hr
   obtain rfl : oi' = oi := by rw [hi] at hoi'; exact (Option.some.inj hoi').symm
   have hnoti : ∀ e ∈ oi'.after, Region.binds md e = true → e.on ≠ j := fun e he hb heq => by
    have h1 := halli e he hb
    rw [heq] at h1
    rcases Nat.lt_or_ge j listed.size with h' | h'
    ·simp [h'] at hjun h1; rw [hjun] at h1; cases h1
    ·simp [Array.getElem?_eq_none h'] at h1
   have hgt : i < j := by
    rcases Nat.lt_trichotomy i j with h | h | h
    ·exact h
    ·exact absurd h.symm hji
    ·have h1 := hlow j h
     rw [h1] at hjun
     cases hjun
   have hbb : ¬ (eff i = true ∧ eff j = true) := fun h => lateOf (j := j) hcl hr hall (heff i j oj hgt h.1 h.2 hoj)
   refine ⟨oj, hoj, ?_⟩
   have h1 : pOp P md ops C R (eff i) oi' i (S i) σ fs (fun σ fs a => pOp P md ops C R (eff j) oj j (S j) σ fs (fun σ fs a => wpAnyP P md ops C R eff m S Q fuel ((listed.setIfInBounds i true).setIfInBounds j true) σ fs a) a) a := by
    refine pOp_mono (fun σ' fs' a' h => ?_) H
    obtain ⟨o', ho', h2⟩ := h.2 j (ready_mono hj hji)
    obtain rfl : o' = oj := by rw [hoj] at ho'; exact (Option.some.inj ho').symm
    exact h2
   have h2 := pOp_swap (Ne.symm hji) hbb (hfree j oj hoj hji hjun hnot) (fun cs b => hsel i oi' cs b hi) (fun cs b => hsel j oj cs b hoj) (waits_false hnoti) (waits_false hnot) h1
   have hfree' : ∀ k ok, ops[k]? = some ok → k ≠ i → (listed.setIfInBounds j true).getD k true = false →
     (∀ e ∈ ok.after, Region.binds md e = true → e.on ≠ i) → oi'.apart ops ok = true := fun k ok hk hki hun hno => by
    refine hfree k ok hk hki ?_ hno
    by_cases hjk : j = k
    ·subst hjk; exact hjun
    ·rw [getD_set_ne true hjk] at hun; exact hun
   have hlow' : ∀ k, k < i → (listed.setIfInBounds j true).getD k true = true := fun k hk => getD_setT (hlow k hk)
   refine pOp_mono (fun σ' fs' a' h3 => ih (listed.setIfInBounds j true) σ' fs' a' (hcl.set hj) hlow' hfree' (ready_mono hr (Ne.symm hji)) ?_) h2
   rw [Array.setIfInBounds_comm _ _ hji]
   exact h3

/-- THE WALK OF THE TEXT'S ORDER: the operations, what each leaves, the number of the next, the stage. -/
def walk (P : Program) (md : Region.Mode) (ops : Array Oper) (C : Nat → World → Prop) (R : World → World → Prop) (eff : Nat → Bool) (Q : Nat → Facts → Act → Prop) : List Oper → List (Leaves R) → Nat → Nat → Facts → Act → Prop
 | o :: l, s :: L, k, σ, fs, a => pOp P md ops C R (eff k) o k s σ fs (fun σ' fs' a' => walk P md ops C R eff Q l L (k + 1) σ' fs' a') a
 | [], _, _, σ, fs, a => Q σ fs a
 | _ :: _, [], _, _, _, _ => False

/-- Of those that turn memory each waits for all ahead of it. -/
def effLex (md : Region.Mode) (ops : Array Oper) (es : List Nat) : Bool := es.all fun j => es.all fun i => !decide (i < j) || (match ops[j]? with | some oj => reaches md ops ops.size oj i | none => true)
theorem effLex_spec {es : List Nat} (h : effLex md ops es = true) : effWaits md ops (fun i => es.contains i) := by
 intro i j oj hij hi hj ho
 have hi' : i ∈ es := by simpa using hi
 have hj' : j ∈ es := by simpa using hj
 have := List.all_eq_true.1 (List.all_eq_true.1 h j hj') i hi'
 rw [ho] at this
 simpa [hij] using this

theorem wpAnyP_lex {m : Nat} {Q : Nat → Facts → Act → Prop} {L0 : List (Leaves R)} {dflt : Leaves R} {listed0 : Array Bool} (hs : Region.noSelect ops = true) (ht : tailWaits md ops m = true) (heff : effWaits md ops eff) :
  ∀ (n : Nat) (l : List Oper) (L : List (Leaves R)) (k : Nat) (listed : Array Bool) (σ : Nat) (fs : Facts) (a : Act), l.length = n → k + n = m → (∀ j, j < n → l[j]? = ops[k + j]?) → (∀ j, L[j]? = L0[k + j]?) →
   Closed md ops listed → (∀ j, j < k → listed.getD j true = true) → lexTo md ops m n k listed = true → listedTo n k listed = listed0 → walk P md ops C R eff Q l L k σ fs a → wpAnyP P md ops C R eff m (fun k => L0[k]?.getD dflt) (fun σ ls fs a => ls = listed0 ∧ Q σ fs a) n listed σ fs a := by
 intro n
 induction n with
 | zero =>
  intro l L k listed σ fs a hn _ _ _ _ _ hB hl h
  obtain rfl : l = [] := List.length_eq_zero_iff.1 hn
  refine ⟨fun j hj => ?_, hl, ?_⟩
  ·simp only [lexTo, List.all_eq_true, decide_eq_true_eq] at hB
   exact hB j hj
  ·cases L <;> exact h
 | succ n ih =>
  intro l L k listed σ fs a hn hk hl hL hcl hlow hB hd h
  obtain ⟨o, l, rfl⟩ : ∃ o l', l = o :: l' := by
   cases l with
   | nil => cases hn
   | cons o l => exact ⟨o, l, rfl⟩
  obtain ⟨s, L, rfl⟩ : ∃ s L', L = s :: L' := by
   cases L with
   | nil => exact h.elim
   | cons s L => exact ⟨s, L, rfl⟩
  have h0 : ops[k]? = some o := by simpa using (hl 0 (by omega)).symm
  have hs0 : L0[k]? = some s := by simpa using (hL 0).symm
  simp only [lexTo, Bool.and_eq_true] at hB
  obtain ⟨⟨hr, hf⟩, hB'⟩ := hB
  refine wpAnyP_first h0 (Region.noSelect_spec hs) (fun j oj hj hm => tailWaits_spec ht j oj hj hm k (by omega)) heff n listed σ fs a hcl hlow (Region.free_spec h0 hf) (by simpa using hr) ?_
  simp only [hs0, Option.getD_some]
  refine pOp_mono (fun σ' fs' a' h' => ?_) h
  refine ih l L (k + 1) _ σ' fs' a' (by simpa using hn) (by omega) (fun j hj => by have := hl (j + 1) (by omega); simpa [Nat.add_assoc, Nat.add_comm 1 j] using this)
   (fun j => by have := hL (j + 1); simpa [Nat.add_assoc, Nat.add_comm 1 j] using this) (hcl.set (by simpa using hr)) (fun j hj => ?_) hB' hd h'
  by_cases e : j = k
  ·subst e
   by_cases hz : j < listed.size
   ·simp [Array.getD_eq_getD_getElem?, hz]
   ·simp [Array.getD_eq_getD_getElem?, Array.getElem?_eq_none (show (listed.setIfInBounds j true).size ≤ j by simpa using hz)]
  ·exact getD_setT (hlow j (by omega))

/-- **THE RULE, WITH A TAIL.** -/
theorem staged_tail {id : Nat} {l : List Oper} {Q : Exit → Act → World → Prop} {a : Act} {w : World} (m : Nat) (es : List Nat) (C : Nat → World → Prop) (R : World → World → Prop) (L : List (Leaves R)) (hm : P.follows .mixedOrders = true) (hB : lexOk .any l.toArray m = true) (hE : effLex .any l.toArray es = true)
  (hC : C 0 w.drew)
  (h : walk P .any l.toArray C R (fun i => es.contains i) (fun σ fs a' => ∀ w', C σ w' → (∀ k, fs k w') → wpAny P .any l.toArray Q (l.length - m) (listedTo m 0 (Array.replicate l.length false)) a' w') (l.take m) L 0 0 Facts.none a) : (Code.region id l.toArray true).wp P Q a w := by
 simp only [lexOk, Bool.and_eq_true, decide_eq_true_eq] at hB
 obtain ⟨⟨⟨hs, ht⟩, hle⟩, hx⟩ := hB
 have hle' : m ≤ l.length := by simpa using hle
 refine wp_region_any hm ?_
 have key := wpAnyP_lex (P := P) (md := .any) (ops := l.toArray) (m := m) (L0 := L) (dflt := Leaves.det undef) (listed0 := listedTo m 0 (Array.replicate l.length false)) hs ht (effLex_spec hE) m (l.take m) L 0 (Array.replicate l.length false) 0 Facts.none a
  (by simp [hle']) (by omega) (fun j hj => by simp [hj]) (fun j => by simp) (closed_none _ _ _) (fun j hj => by omega) (by simpa using hx) rfl h
 have := wpAny_of_P (m := m) (r := l.length - m) (Q' := Q) (fun σ listed fs a w hw hf hq => by rw [hq.1]; exact hq.2 w hw hf) m (Array.replicate l.length false) 0 Facts.none a w.drew hC (fun _ => trivial) (fun _ _ _ _ _ => trivial) key
 have hsz : l.toArray.size = m + (l.length - m) := by simp; omega
 rw [hsz]
 have hrep : Array.replicate (m + (l.length - m)) false = Array.replicate l.length false := by rw [Nat.add_sub_cancel' hle']
 rw [hrep]
 exact this
/-- **The first m operations by one walk, what is left one after the other.** -/
theorem staged_then {id : Nat} {l : List Oper} {Q : Exit → Act → World → Prop} {a : Act} {w : World} (m : Nat) (es : List Nat) (C : Nat → World → Prop) (R : World → World → Prop) (hm : P.follows .mixedOrders = true) (hB : lexOk .any l.toArray m = true) (hE : effLex .any l.toArray es = true)
  (hT : seqTail .any l.toArray (l.length - m) m (listedTo m 0 (Array.replicate l.length false)) = true) (hC : C 0 w.drew)
  (h : ∃ L, walk P .any l.toArray C R (fun i => es.contains i) (fun σ fs a' => ∀ w', C σ w' → (∀ k, fs k w') → wpList P l.toArray Q (l.drop m) a' w') (l.take m) L 0 0 Facts.none a) : (Code.region id l.toArray true).wp P Q a w := by
 obtain ⟨L, h⟩ := h
 refine staged_tail m es C R L hm hB hE hC ?_
 have mono : ∀ (l' : List Oper) (L' : List (Leaves R)) (k σ : Nat) (fs : Facts) (a : Act), walk P .any l.toArray C R (fun i => es.contains i) (fun σ fs a' => ∀ w', C σ w' → (∀ k, fs k w') → wpList P l.toArray Q (l.drop m) a' w') l' L' k σ fs a →
   walk P .any l.toArray C R (fun i => es.contains i) (fun σ fs a' => ∀ w', C σ w' → (∀ k, fs k w') → wpAny P .any l.toArray Q (l.length - m) (listedTo m 0 (Array.replicate l.length false)) a' w') l' L' k σ fs a := by
  intro l'
  induction l' with
  | nil => intro L' k σ fs a hh w' hw hf; exact wpAny_seq _ (l.drop m) m _ a w' (by simp) (fun j _ => by simp) hT (hh w' hw hf)
  | cons o l' ih =>
   intro L' k σ fs a hh
   cases L' with
   | nil => exact hh
   | cons s L' => exact pOp_mono (fun σ fs a h => ih L' _ σ fs a h) hh
 exact mono _ L 0 0 Facts.none a h

/-! ### The steps -/
variable {Q : Nat → Facts → Act → Prop} {o : Oper} {rest : List Oper} {L : List (Leaves R)} {k σ : Nat} {fs : Facts} {a : Act}
theorem walk_nil (h : Q σ fs a) : walk P md ops C R eff Q [] [] k σ fs a := h
theorem det_eq (u : Value) : (fun (v : Value) (w' : World) => (Leaves.det (R := R) u).dom v ∧ (Leaves.det (R := R) u).V v w') = fun v _ => v = u := by
 funext v w'; simp [Leaves.det]
/-- An operation that turns nothing that was there. -/
theorem walk_det (u : Value) (hCB : ∀ τ w w', C τ w → Below w.heap.size w w' → R w w' ∧ C τ w') (he : eff k = false) (hw : Region.wanted o (yielded ops a.tmps) = true) (hp : ∀ τ w, C τ w → Poised.seen md fs o w → upon P (fun w w' => Below w.heap.size w w') w (fun v _ => v = u) ((execOp a.eval o).run P w)) (h : walk P md ops C R eff Q rest L (k + 1) σ (Facts.put k (fun _ => True) fs) (a.put o.dst u)) :
  walk P md ops C R eff Q (o :: rest) (Leaves.det u :: L) k σ fs a := by
 unfold walk pOp; simp only [hw, if_true, he]
 refine ⟨fun τ w hh => ?_, fun v hv => ?_⟩
 ·have := hp τ w hh.1 hh.2
  rw [det_eq]
  generalize (execOp a.eval o).run P w = r at *
  cases r with
  | ok n w' =>
   cases n <;> simp only [upon] at this ⊢
   case value u' => exact ⟨hCB τ w w' hh.1 this.1, this.2⟩
   case skip => exact ⟨hCB τ w w' hh.1 this.1, this.2⟩
   case enter f args => exact this.mono fun e w'' ⟨v, h1, h2, h3⟩ => ⟨v, h1, hCB τ w w'' hh.1 h2, h3⟩
  | halt x w' => simp only [upon] at this
 ·obtain rfl : v = u := hv
  exact h
/-- One that turns memory: the next stage. -/
theorem walk_turn (u : Value) (he : eff k = true) (hw : Region.wanted o (yielded ops a.tmps) = true) (hp : ∀ w, C σ w → Poised.seen md fs o w → upon P (fun w w' => R w w' ∧ C (σ + 1) w') w (fun v _ => v = u) ((execOp a.eval o).run P w)) (h : walk P md ops C R eff Q rest L (k + 1) (σ + 1) (Facts.put k (fun _ => True) fs) (a.put o.dst u)) :
  walk P md ops C R eff Q (o :: rest) (Leaves.det u :: L) k σ fs a := by
 unfold walk pOp; simp only [hw, if_true, he]
 refine ⟨fun w hh => ?_, fun v hv => ?_⟩
 ·have := hp w hh.1 hh.2
  rw [det_eq]
  exact this
 ·obtain rfl : v = u := hv
  exact h
end
end Go.Staged
