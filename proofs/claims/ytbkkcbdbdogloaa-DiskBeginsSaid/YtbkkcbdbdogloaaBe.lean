/-
  DiskBegins. Conditions: those of each theorem.
-/
import Derived.Test.YtbkkcbdbdogloaaBp
import Derived.Test.YtbkkcbdbdogloaaSt
namespace Go.Proofs.Ytbkkcbdbdogloaa
open Go Go.RowKit Go.MapL Go.Poised
variable {p n₀ : Nat} {r : Rep} {s : DS}

/-- Each file's bytes are among those that were told. -/
def Covers (L : Nat → List (Value × List Nat)) (s : DS) : Prop := ∀ i, 1 ≤ i → i ≤ s.births → ∃ c, c < 3 ∧ (s.file i).b ∈ (L c).map (·.2)
def Fine (L : Nat → List (Value × List Nat)) : Prop := ∀ c, c < 3 → ∀ q ∈ L c, (∀ x ∈ q.2, x < 256) ∧ q.2.length ≤ 16777216
/-- What was told by the reads of the first c names. -/
structure Told (s : DS) (k c : Nat) (L L' : Nat → List (Value × List Nat)) : Prop where
  old : ∀ x, ∀ b ∈ (L x).map (·.2), b ∈ (L' x).map (·.2)
  new : ∀ x, x < c → (readRes s (nm x)).2 = 0 → (readRes s (nm x)).1 ∈ (L' x).map (·.2)
  len : ∀ x, (L' x).length ≤ k + if x < c then 1 else 0
  fine : Fine L'
theorem told_start {k : Nat} {L : Nat → List (Value × List Nat)} (hl : ∀ x, (L x).length ≤ k) (hf : Fine L) : Told s k 0 L L := ⟨fun _ _ h => h, fun x h => absurd h (by omega), fun x => by have := hl x; simp; omega, hf⟩
theorem told_skip {k c : Nat} {L L' : Nat → List (Value × List Nat)} (h : Told s k c L L') (hc : (readRes s (nm c)).2 ≠ 0) : Told s k (c + 1) L L' :=
  ⟨h.old, fun x hx h0 => by
    by_cases e : x = c
    · subst e; exact absurd h0 hc
    · exact h.new x (by omega) h0, fun x => by have := h.len x; split at this <;> split <;> omega, h.fine⟩
theorem told_push {k c : Nat} {L L' : Nat → List (Value × List Nat)} (h : Told s k c L L') (v : Value) (hb : (∀ x ∈ (readRes s (nm c)).1, x < 256) ∧ (readRes s (nm c)).1.length ≤ 16777216) : Told s k (c + 1) L (upd L' c (L' c ++ [(v, (readRes s (nm c)).1)])) := {
  old := fun x b hx => by
    by_cases e : x = c
    · subst e; rw [upd_same, List.map_append]; exact List.mem_append_left _ (h.old x b hx)
    · rw [upd_other _ _ e]; exact h.old x b hx
  new := fun x hx h0 => by
    by_cases e : x = c
    · subst e; rw [upd_same, List.map_append]; exact List.mem_append_right _ (by simp)
    · rw [upd_other _ _ e]; exact h.new x (by omega) h0
  len := fun x => by
    by_cases e : x = c
    · subst e; rw [upd_same, List.length_append]; have := h.len x; simp at this ⊢; omega
    · rw [upd_other _ _ e]; have := h.len x; split at this <;> split <;> omega
  fine := fun x hx q hq => by
    by_cases e : x = c
    · subst e; rw [upd_same] at hq
      rcases List.mem_append.1 hq with hq | hq
      · exact h.fine x hx q hq
      · rw [List.mem_singleton] at hq; subst hq; exact hb
    · rw [upd_other _ _ e] at hq; exact h.fine x hx q hq }
theorem told_end {m k : Nat} {L L' : Nat → List (Value × List Nat)} (hs : Sound m s) (hd : s.dead = false) (d : Dd) (h : Told (actN s d).1 k 3 L L') (hc : Covers L s) : Covers L' (actN s d).1 := by
  intro i h1 h2
  rcases act_files hs _ _ _ _ i h2 with ⟨h3, h4⟩ | h3
  · obtain ⟨c, hc3, hm⟩ := hc i h1 h3
    exact ⟨c, hc3, h.old c _ (by show ((act s _ _ _ _).1.file i).b ∈ _; rw [h4]; exact hm)⟩
  · have hl : (actN s d).1.dead = false := act_live _ _ _ _ hd
    have hr : readRes (actN s d).1 d.near.name = (((actN s d).1.file i).b, 0) := by
      unfold readRes fileOf
      rw [hl]
      show (if false = true then _ else match MapL.look d.near.name (act s _ _ _ _).1.names with | none => _ | some i => _) = _
      rw [h3]; rfl
    rw [(near_name d).1] at hr
    refine ⟨d.name.size % 3, Nat.mod_lt _ (by omega), ?_⟩
    have := h.new (d.name.size % 3) (Nat.mod_lt _ (by omega)) (by rw [hr])
    rw [hr] at this
    exact this

def foundTo (L : Nat → List (Value × List Nat)) (b : List Nat) (c : Nat) : Bool := (List.range c).any fun x => (L x).any fun q => pre b q.2
theorem found_succ (L : Nat → List (Value × List Nat)) (b : List Nat) (c : Nat) : foundTo L b (c + 1) = (foundTo L b c || (L c).any fun q => pre b q.2) := by
  unfold foundTo; rw [List.range_succ, List.any_append]; simp
theorem any_succ {β : Type} (l : List β) (f : β → Bool) (j : Nat) (x : β) (h : l[j]? = some x) : (l.take (j + 1)).any f = ((l.take j).any f || f x) := by
  have hj := (List.getElem?_eq_some_iff.1 h).1
  rw [List.take_succ_eq_append_getElem hj, List.any_append]
  obtain ⟨_, h2⟩ := List.getElem?_eq_some_iff.1 h
  simp [h2]
theorem found_all {L : Nat → List (Value × List Nat)} {b : List Nat} (h : ∃ c, c < 3 ∧ ∃ n q, q ∈ (L c).map (·.2) ∧ b = q.take n) : foundTo L b 3 = true := by
  obtain ⟨c, hc, n, q, hq, rfl⟩ := h
  obtain ⟨y, hy, rfl⟩ := List.mem_map.1 hq
  unfold foundTo
  rw [List.any_eq_true]
  refine ⟨c, List.mem_range.2 hc, ?_⟩
  rw [List.any_eq_true]
  exact ⟨y, hy, pre_take _ _⟩

set_option maxRecDepth 100000 in
set_option maxHeartbeats 16000000 in
theorem begins_law (v0 v1 : Value) (l : List Dd) (keep : List Int) (w : World) (h0 : DdsIn w v0 l) (h1 : IntsIn w v1 keep) :
    Calls Try.prog 4 #[v0, v1] w fun e w' => e = .returned (.bool true) ∧ Below w.heap.size w w' := by
  have hll := h0.1
  have hby := dds_bytes h0
  obtain ⟨q, cap, rfl, hc⟩ := dds_parts h0
  obtain ⟨kq, kl, kcap, rfl⟩ := ints_slice h1
  have hnew := new_at 1048576 (by omega) w
  have hN : ∀ k, k ≤ 40 → k ≤ l.length → Near k (actsN (DS.new 1048576) (l.take k)) := fun k hk hkl => by
    have := nearsN (l.take k) (DS.new 1048576) 0 near_new (fun d hd => hby d (List.mem_of_mem_take hd)) (by have := List.length_take_le' k l; simp; omega)
    rw [List.length_take, Nat.min_eq_left hkl, Nat.zero_add] at this
    exact this
  obtain ⟨i28, hi28, hz28, hs28, hb28⟩ := info_parts info28
  unfold ofBlock at *
  go_enter Try.func4, Try.ntmps4
  go_wp2_with (go_at_call 8; refine hnew.mono ?_; rintro e w1 ⟨rfl, hb1, hs1, r1, hL1⟩)
  clear hnew h0
  replace hs1 : Hid _ := hs1
  replace hby : Hid _ := hby
  replace hN : Hid _ := hN
  replace hc : Hid _ := hc
  replace h1 : Hid _ := h1
  replace hz28 : Hid _ := hz28
  replace hs28 : Hid _ := hs28
  replace hb28 : Hid _ := hb28
  go_loopw [8] (fun i wr => ∃ (k : Nat) (rk : Rep) (L : Nat → List (Value × List Nat)) (U : Nat → Value), k ≤ l.length ∧ k ≤ 40 ∧ i = .int .i64 k ∧ Lies wr (w.heap.size + 2) w.heap.size rk (actsN (DS.new 1048576) (l.take k)) ∧ Below w.heap.size w wr ∧ Covers L (actsN (DS.new 1048576) (l.take k)) ∧ (∀ x, (L x).length ≤ k) ∧ Fine L ∧ Had wr (w.heap.size + 2) w.heap.size rk (actsN (DS.new 1048576) (l.take k)) (w.heap.size + 3) L U) (fun i _ => l.length - (intOf i).toNat)
  case atStart => exact ⟨0, r1, fun _ => [], fun _ => .slice none 0 0, by omega, by omega, rfl, hL1.alloc _, hb1.alloc hb1.size _, fun i e1 e2 => absurd (show i ≤ 0 from e2) (by omega), fun _ => by simp, fun _ _ _ hq => (by cases hq), by have := Had.new hL1 hb1.size; rw [hs1.out] at this; exact this⟩
  case round =>
    obtain ⟨k, rk, L, U, hkl, hk60, rfl, hLk, hBk, hCk, hlk, hfk, hHk⟩ := hrel
    have hNk := hN.out k hk60 hkl
    by_cases hgo : k < l.length ∧ k < 40
    · obtain ⟨hlt, hlt6⟩ := hgo
      obtain ⟨d, hde⟩ : ∃ d, l[k] = d := ⟨_, rfl⟩
      obtain ⟨b, off, bq, bcap, kq2, kl2, kc2', rfl, hbd, hcap, hd1, hd2, c0, c1, c2, c3, c4, c5, c6⟩ := dds_at hBk k hlt d hde hc.out
      have hst : actsN (DS.new 1048576) (l.take (k + 1)) = (actN (actsN (DS.new 1048576) (l.take k)) d).1 := by
        rw [List.take_succ_eq_append_getElem hlt, actsN_snoc, hde]
      have hnr := near_any d bq bcap kq2 kl2 kc2' hd1 hd2 wr (hbd.below hBk) hcap
      have hlt' : (k : Int) < l.length := by omega
      have hlt6' : (k : Int) < 40 := by omega
      replace hde : Hid _ := hde
      generalize hSd : actsN (DS.new 1048576) (l.take k) = S at hLk hNk hCk hHk hst
      replace hSd : Hid _ := hSd
      have hdeed := fun W (hW : Below wr.heap.size wr W) => deedN (n₀ := w.heap.size) (p := w.heap.size + 2) d bq bcap (.slice kq2 kl2 kc2') hbd (hBk.trans (hW.mono hBk.size)) rfl (hLk.below hW) hNk (by omega)
      have hN7 := nearN hNk (by omega) d (hby.out d (by rw [← hde.out]; exact List.getElem_mem hlt))
      have hend2 := fun L' (h : Told (actN S d).1 k 3 L L') => told_end hNk.sound hNk.live d h hCk
      replace hst : Hid _ := hst
      replace hNk : Hid _ := hNk
      replace hCk : Hid _ := hCk
      replace hlk : Hid _ := hlk
      replace hfk : Hid _ := hfk
      replace hN7 : Hid _ := hN7
      replace hend2 : Hid _ := hend2
      clear hbd
      unfold ofBlock at hdeed
      unfold ddV at hnr
      have hHk0 := hHk
      have hLk0 := hLk
      clear hHk hLk
      go_wp2_with (first | (go_at_call 9; refine hnr.mono ?_; clear hnr; rintro e w4 ⟨rfl, hb4, _⟩) | (go_at_call 10; refine (hdeed _ hb4).mono ?_; rintro e w5 ⟨rfl, ht⟩))
      have hB4 := hBk.trans (hb4.mono hBk.size)
      obtain ⟨r7, hL7, hH7, hb7⟩ := Had.turn (hLk0.below hb4) hB4.size (hHk0.below hb4) ht
      have hB7 := hB4.trans hb7
      clear c0 c1 c2 c3 c4 c5 c6 hB4 hHk0 hLk0 ht hdeed hBk hb4 hb7
      go_loopw [9] (fun i wr => ∃ (c : Nat) (L' : Nat → List (Value × List Nat)) (U' : Nat → Value), c ≤ 3 ∧ i = .int .i64 c ∧ Lies wr (w.heap.size + 2) w.heap.size r7 (actN S d).1 ∧ Below w.heap.size w wr ∧ Told (actN S d).1 k c L L' ∧ Had wr (w.heap.size + 2) w.heap.size r7 (actN S d).1 (w.heap.size + 3) L' U') (fun i _ => 3 - (intOf i).toNat)
      case atStart => exact ⟨0, L, U, by omega, rfl, hL7, hB7, told_start hlk.out hfk.out, hH7⟩
      case round =>
        clear hL7 hB7 hH7
        obtain ⟨c, L', U', hc3, rfl, hLc, hBc, hTc, hHc⟩ := hrel
        by_cases hlc : c < 3
        · have hlc' : (c : Int) < 3 := by omega
          obtain ⟨j0, j1⟩ := hHc.cell hlc
          have hru := hHc.rows c hlc
          obtain ⟨uq, ucap, hUc⟩ := own_shape hru.row
          have hlen := hTc.len c
          rw [if_neg (Nat.lt_irrefl c)] at hlen
          rw [hUc] at j0 hru
          have hre := fun W (hW : Below wr.heap.size wr W) => read_at (nm c) W (hLc.below hW) hN7.out.sound.wf
          have hbytes := readRes_bytes hN7.out.sound.wf (nm c)
          have u1 : IntKind.i64.wrap (97 + (c : Int)) = 97 + (c : Int) := IntWalk.i64_in _ (by omega)
          have u2 : IntKind.u8.wrap (97 + (c : Int)) = 97 + (c : Int) := by have : IntKind.u8.wrap (97 + (c : Int)) = (97 + (c : Int)) % 256 := rfl; rw [this]; omega
          have hcv := run_name hlc
          have hcode : (readRes (actN S d).1 (nm c)).2 = 0 ∨ (readRes (actN S d).1 (nm c)).2 = 50 := by
            unfold readRes; rw [hN7.out.live]; simp only [Bool.false_eq_true, if_false]; split <;> simp
          have hLc0 := hLc
          have hHc0 := hHc
          replace hbytes : Hid _ := hbytes
          replace hUc : Hid _ := hUc
          replace hTc : Hid _ := hTc
          unfold ofBlock at hre
          clear hLc hHc
          rcases hcode with hcode | hcode
          · rw [hcode] at hre
            replace hcode : Hid _ := hcode
            go_wp2_with (first
              | (go_at_call 14; refine (hre _ ((Below.refl _ _).alloc (Nat.le_refl _) _)).mono ?_; clear hre; rintro e w9 ⟨v, rfl, hrow9, hb9⟩; obtain ⟨vq, vcap, rfl⟩ := own_shape hrow9; have hb9' := ((Below.refl wr.heap.size wr).alloc (Nat.le_refl _) (.cells #[.int .u8 (97 + (c : Int))] 5)).trans (hb9.mono (by simp)); have hal := (Below.refl w9.heap.size w9).alloc (Nat.le_refl _) (.cells #[.slice vq (readRes (actN S d).1 (nm c)).1.length vcap] 28); have j4 := (hb9'.cell (p := ⟨_, c, none⟩) (lt_of_cell j0)).trans j0; have j5 := (hal.cell (p := ⟨_, c, none⟩) (lt_of_cell j4)).trans j4; have hH9 := hHc0.below (hb9'.trans (hal.mono hb9'.size)); have hru9 := hH9.rows c hlc; rw [hUc.out] at hru9; have hbase9 : w.heap.size ≤ (w9.alloc (.cells #[.slice vq (readRes (actN S d).1 (nm c)).1.length vcap] 28)).heap.size := (Nat.le_trans hBc.size (Nat.le_trans hb9'.size hal.size)); have j6 := (hH9.cell hlc).2; have hneU : some (w.heap.size + 3) ≠ (Value.slice uq (L' c).length ucap).ownBlock := (fun e => hH9.ne hlc (g := w.heap.size + 3) (.inl (by show (U' c).ownBlock = _; rw [hUc.out]; exact e.symm)) rfl); have hltU : w.heap.size + 3 < (w9.alloc (.cells #[.slice vq (readRes (actN S d).1 (nm c)).1.length vcap] 28)).heap.size := (hH9.side _ (.inl rfl)).1)
              | (at_builtin; refine wpList_append_one _ rfl _ _ 42 28 i28 (.slice none 0 0) 24 rfl Try.underlying42 hi28 hz28.out hs28.out hb28.out rfl (by decide) w.heap.size (.slice uq (L' c).length ucap) (.slice vq (readRes (actN S d).1 (nm c)).1.length vcap) (L' c).length ((L' c).map (·.1)) w9.heap.size rfl rfl hru9.row (cell_new1 _ _ _) (by simp [Value.oneCell']) (by omega) hbase9 ?_; intro u' w10 hown' hgrow hwhere; obtain ⟨uq', ucap', rfl⟩ := own_shape hown'; have k0 := hgrow.cell j5 hneU; have k1 := (World.frozen?_of_block (a := ⟨w.heap.size + 3, c, none⟩) (hgrow.block _ hltU hneU)).trans j6))
            go_roundw
            case rel =>
              have hb10 := hb9'.trans (hal.mono hb9'.size)
              obtain ⟨hL11, hH11⟩ := hH9.push (hLc0.below hb10) hlc (own_base' (own_kept hrow9 hal) (Nat.le_trans hBc.size (by simp))) (((((hLc0.below ((Below.refl wr.heap.size wr).alloc (Nat.le_refl _) (.cells #[.int .u8 (97 + (c : Int))] 5)))).beside (w' := w9) (fun g hg => hrow9.lt g hg))).below hal) hown' (by rw [hUc.out]; exact hgrow) (by rw [hUc.out]; exact hwhere)
              exact ⟨c + 1, _, _, by omega, by go_num, hL11, ((hBc.trans (hb10.mono hBc.size)).trans (below_grown hru9.row hbase9 hgrow)).setCell (p := ⟨w.heap.size + 3, c, none⟩) (by show _ ≤ w.heap.size + 3; omega) _, told_push hTc.out _ hbytes.out, hH11⟩
            case measure => simp [intOf]; omega
          · rw [hcode] at hre
            replace hcode : Hid _ := hcode
            go_wp2_with (first
              | (go_at_call 14; refine (hre _ ((Below.refl _ _).alloc (Nat.le_refl _) _)).mono ?_; clear hre; rintro e w9 ⟨v, rfl, hrow9, hb9⟩; obtain ⟨vq, vcap, rfl⟩ := own_shape hrow9; have hb9' := ((Below.refl wr.heap.size wr).alloc (Nat.le_refl _) (.cells #[.int .u8 (97 + (c : Int))] 5)).trans (hb9.mono (by simp))))
            go_roundw
            case rel => exact ⟨c + 1, L', U', by omega, by go_num, hLc0.below hb9', hBc.trans (hb9'.mono hBc.size), told_skip hTc.out (by rw [hcode.out]; simp), hHc0.below hb9'⟩
            case measure => simp [intOf]; omega
        · obtain rfl : c = 3 := by omega
          go_wp2_with fail
          go_roundw
          case rel => exact ⟨k + 1, r7, L', U', by omega, by omega, by go_num, by rw [hst.out]; exact hLc, hBc, by rw [hst.out]; exact hend2.out L' hTc, fun x => by have := hTc.len x; split at this <;> omega, hTc.fine, by rw [hst.out]; exact hHc⟩
          case measure => simp [intOf]; omega
    · have hend : (k = l.length) ∨ (k < l.length ∧ k = 40) := by omega
      have hS := hNk.sound
      have hcr := crash_at (.slice kq kl kcap) keep wr hLk hS.wf (by have := hS.nk; omega) hBk.size (fun w' hw' => IntsIn.below h1.out (hBk.trans (hw'.below hBk.size (fun k hk => (hLk.foot_lt k hk).2))))
      have hSc := sound_boot (sound_crash hS (by omega) keep)
      have hbeg : ∀ x ∈ namesOf ((actsN (DS.new 1048576) (l.take k)).crash keep).boot, ∃ c, c < 3 ∧ ∃ n q, q ∈ (L c).map (·.2) ∧ (readRes ((actsN (DS.new 1048576) (l.take k)).crash keep).boot x).1 = q.take n := fun x hx => by
        obtain ⟨i, n, e1, e2, e3⟩ := crash_begins hS.wf hNk.live keep hx
        obtain ⟨c, hc3, hm⟩ := hCk i e1 e2
        exact ⟨c, hc3, n, _, hm, e3⟩
      generalize hs1e : ((actsN (DS.new 1048576) (l.take k)).crash keep).boot = s1 at hSc hbeg
      have hlive : s1.dead = false := by rw [← hs1e]; rfl
      replace hs1e : Hid _ := hs1e
      replace hSc : Hid _ := hSc
      replace hlive : Hid _ := hlive
      obtain ⟨N, hLn⟩ : ∃ N, namesOf s1 = N := ⟨_, rfl⟩
      rw [hLn] at hbeg
      have hLL : N.length ≤ 240 := by have := names_len hSc.out; rw [hLn] at this; omega
      have hcode : ∀ x ∈ N, (readRes s1 x).2 = 0 := fun x hx => names_read hlive.out (by rw [hLn]; exact hx)
      have hLk0 := hLk
      have hHk0 := hHk
      clear hS hNk hN hLk hHk hc hCk
      replace hcode : Hid _ := hcode
      replace hLn : Hid _ := hLn
      replace hbeg : Hid _ := hbeg
      replace hfk : Hid _ := hfk
      replace hlk : Hid _ := hlk
      unfold ofBlock at hcr
      rcases hend with hend | hend
      all_goals
        first | (subst hend) | (obtain ⟨hlt6, rfl⟩ := hend)
        go_wp2_with (first
          | (go_at_call 15; refine hcr.mono ?_; clear hcr; rintro e w6 ⟨rfl, ht⟩; obtain ⟨r6, hL6, hH6, hb6⟩ := Had.turn hLk0 hBk.size hHk0 ht; have hB6 := hBk.trans hb6; have hbo := boot_at w6 hL6; unfold ofBlock at hbo)
          | (go_at_call 16; refine hbo.mono ?_; clear hbo; rintro e w7 ⟨rfl, hL7', hg7⟩; have hB7 := hB6.trans (hg7.below hB6.size (fun k hk => by omega)); have hL7 : Lies w7 (w.heap.size + 2) w.heap.size r6 s1 := (by rw [← hs1e.out]; exact hL7'); have hH7 : Had w7 (w.heap.size + 2) w.heap.size r6 s1 (w.heap.size + 3) L U := hH6.same (fun g hg => hg7.block g (hH6.side g hg).1 (fun e => (hH6.side g hg).2 (.inl e))) (fun g hg => ⟨Nat.lt_of_lt_of_le (hH6.side g hg).1 hg7.size, (by rw [← hs1e.out]; exact (hH6.side g hg).2)⟩); have hna := names_at w7 hL7 hSc.out.tn (by have := hSc.out.nn; omega); rw [hLn.out] at hna; unfold ofBlock at hna)
          | (go_at_call 19; refine hna.mono ?_; clear hna; rintro e w8 ⟨vn, rfl, hrn, hb8⟩; obtain ⟨sq, scap, rfl⟩ := own_shape hrn))
        have hL8 := hL7.below hb8
        have hH8 := hH7.below hb8
        replace hrn := own_base' hrn hB7.size
        have hB8 := hB7.trans (hb8.mono hB7.size)
        clear hL1 hb1 hL6 hH6 hb6 hB6 hg7 hL7' hL7 hH7 hB7 hb8 hLk0 hHk0 hBk ht
        go_loopw [13] (fun i wr => ∃ (j : Nat), j ≤ N.length ∧ i = .int .i64 j ∧ Lies wr (w.heap.size + 2) w.heap.size r6 s1 ∧ Below w.heap.size w wr ∧ wr.ownsRow w.heap.size 9 1 (.slice sq N.length scap) N.length (N.map Value.string) ∧ Had wr (w.heap.size + 2) w.heap.size r6 s1 (w.heap.size + 3) L U) (fun i _ => N.length - (intOf i).toNat)
        case atStart => exact ⟨0, by omega, rfl, hL8, hB8, hrn, hH8⟩
        case round =>
          clear hL8 hB8 hrn hH8
          obtain ⟨j, hjl, rfl, hLj, hBj, hrn, hHj⟩ := hrel
          by_cases hlt : j < N.length
          · obtain ⟨g, ncap', e1, hcell1⟩ := texts_cell hrn j hlt
            injection e1 with e1a _ e1b
            subst e1a e1b
            obtain ⟨x, hx⟩ : ∃ x, N[j] = x := ⟨_, rfl⟩
            rw [hx] at hcell1
            have hxN : x ∈ N := by rw [← hx]; exact List.getElem_mem hlt
            have hbytes := readRes_bytes hSc.out.wf x
            have hbg := hbeg.out x hxN
            have hre := read_at x wr hLj hSc.out.wf
            rw [hcode.out x hxN] at hre
            generalize (readRes s1 x).1 = b at hre hbytes hbg
            have hlt' : (j : Int) < N.length := by omega
            have hall := found_all hbg
            replace hx : Hid _ := hx
            replace hall : Hid _ := hall
            replace hbg : Hid _ := hbg
            replace hbytes : Hid _ := hbytes
            have hLj0 := hLj
            have hHj0 := hHj
            unfold ofBlock at hre
            clear hLj hHj
            go_wp2_with (first | (go_at_call 14; refine hre.mono ?_; clear hre; rintro e w5 ⟨v, rfl, hrow, hb5⟩; obtain ⟨vq, vcap, rfl⟩ := own_shape hrow))
            have hB5 := hBj.trans (hb5.mono hBj.size)
            have hL5 := hLj0.below hb5
            have hH5 := hHj0.below hb5
            have hrn5 := own_kept hrn hb5
            replace hrow := own_base' hrow hBj.size
            clear hBj hb5 hLj0 hHj0 hrn hcell1
            go_loopw [17, 16] (fun i f wr => ∃ (c : Nat), c ≤ 3 ∧ i = .int .i64 c ∧ f = .bool (foundTo L b c) ∧ Lies wr (w.heap.size + 2) w.heap.size r6 s1 ∧ Below w.heap.size w wr ∧ wr.ownsRow w.heap.size 9 1 (.slice (some ⟨g, 0, none⟩) N.length scap) N.length (N.map Value.string) ∧ wr.ownsRow w.heap.size 5 1 (.slice vq b.length vcap) b.length (encB b) ∧ Had wr (w.heap.size + 2) w.heap.size r6 s1 (w.heap.size + 3) L U) (fun i _ _ => 3 - (intOf i).toNat)
            case atStart => exact ⟨0, by omega, rfl, rfl, hL5, hB5, hrn5, hrow, hH5⟩
            case round =>
              clear hL5 hB5 hrn5 hrow hH5
              obtain ⟨c, hc3, rfl, rfl, hLc, hBc, hrn, hrow, hHc⟩ := hrel
              by_cases hlc : c < 3
              · have hlc' : (c : Int) < 3 := by omega
                go_wp2_with fail
                go_loopw [18, 16] (fun i f wr => ∃ (t : Nat), t ≤ (L c).length ∧ i = .int .i64 t ∧ f = .bool (foundTo L b c || ((L c).take t).any fun q => pre b q.2) ∧ Lies wr (w.heap.size + 2) w.heap.size r6 s1 ∧ Below w.heap.size w wr ∧ wr.ownsRow w.heap.size 9 1 (.slice (some ⟨g, 0, none⟩) N.length scap) N.length (N.map Value.string) ∧ wr.ownsRow w.heap.size 5 1 (.slice vq b.length vcap) b.length (encB b) ∧ Had wr (w.heap.size + 2) w.heap.size r6 s1 (w.heap.size + 3) L U) (fun i _ _ => (L c).length - (intOf i).toNat)
                case atStart => exact ⟨0, by omega, rfl, by simp, hLc, hBc, hrn, hrow, hHc⟩
                case round =>
                  clear hLc hBc hrn hrow hHc
                  obtain ⟨t, htl, rfl, rfl, hLt, hBt, hrn, hrow, hHt⟩ := hrel
                  obtain ⟨j0, j1⟩ := hHt.cell hlc
                  have hru := hHt.rows c hlc
                  obtain ⟨uq, ucap, hUc⟩ := own_shape hru.row
                  have hlkc := hlk.out c
                  rw [hUc] at j0 hru
                  by_cases hlt2 : t < (L c).length
                  · obtain ⟨⟨qv, qb⟩, hq⟩ : ∃ q, (L c)[t]? = some q := ⟨_, List.getElem?_eq_getElem hlt2⟩
                    have hqm := List.mem_of_getElem? hq
                    have hrq := hru.each _ hqm
                    have hfq := hfk.out c hlc _ hqm
                    simp only at hrq hfq
                    have hrl := hru.row
                    obtain ⟨gu, ucap', e2, hcell2⟩ := own_cell (xs := (L c).map (·.1)) (by rw [List.length_map]; exact hrl) t qv (by rw [List.getElem?_map, hq]; rfl)
                    rw [List.length_map] at e2
                    cases e2
                    obtain ⟨qq, qcap, rfl, hqc⟩ := own_cap hrq
                    have hsucc := any_succ (L c) (fun q => pre b q.2) t _ hq
                    simp only at hsucc
                    have hrel2 : (foundTo L b c || ((L c).take (t + 1)).any (fun q => pre b q.2)) = ((foundTo L b c || ((L c).take t).any (fun q => pre b q.2)) || pre b qb) := by rw [hsucc, Bool.or_assoc]
                    have hlt2' : (t : Int) < (L c).length := by omega
                    generalize hfc : (foundTo L b c || ((L c).take t).any (fun q => pre b q.2)) = fc at hrel2 ⊢
                    replace hrel2 : Hid _ := hrel2
                    replace hfc : Hid _ := hfc
                    replace hfq : Hid _ := hfq
                    replace hUc : Hid _ := hUc
                    clear hsucc hqm hq hru hrl
                    cases fc
                    · by_cases hle : b.length ≤ qb.length
                      · have hp : pre b qb = decide (b = qb.take b.length) := by unfold pre; rw [decide_eq_true hle, Bool.true_and]
                        have hle' : (b.length : Int) ≤ qcap := by omega
                        have hle2 : b.length ≤ qcap := by omega
                        have hbq : BytesIn wr (.slice qq b.length qcap) (qb.take b.length) := by
                          obtain ⟨_, _, _, e, h5, _⟩ := (row_bytes hrq hfq.out.1 hfq.out.2).take b.length hle
                          cases e; exact h5
                        have heq := fun W (hW : Below wr.heap.size wr W) => eqBytes_any _ _ b (qb.take b.length) W (row_bytes (own_kept hrow hW) hbytes.out.1 hbytes.out.2) (hbq.below hW)
                        rw [← hp] at heq
                        replace hp : Hid _ := hp
                        go_wp2_with (first | (go_at_call 17; refine (heq _ (Below.refl _ _)).mono ?_; clear heq; rintro e w10 ⟨rfl, hb10⟩))
                        go_roundw
                        case rel => exact ⟨t + 1, by omega, by go_num, by rw [hrel2.out]; simp, hLt.below hb10, hBt.trans (hb10.mono hBt.size), own_kept hrn hb10, own_kept hrow hb10, hHt.below hb10⟩
                        case measure => simp [intOf]; omega
                      · have hp : pre b qb = false := by unfold pre; rw [decide_eq_false hle, Bool.false_and]
                        replace hp : Hid _ := hp
                        go_wp2_with fail
                        go_roundw
                        case rel => exact ⟨t + 1, by omega, by go_num, by rw [hrel2.out, hp.out]; rfl, hLt, hBt, hrn, hrow, hHt⟩
                        case measure => simp [intOf]; omega
                    · go_wp2_with fail
                      go_roundw
                      case rel => exact ⟨t + 1, by omega, by go_num, by rw [hrel2.out]; rfl, hLt, hBt, hrn, hrow, hHt⟩
                      case measure => simp [intOf]; omega
                  · obtain rfl : t = (L c).length := by omega
                    rw [List.take_length, ← found_succ]
                    generalize hfc : foundTo L b (c + 1) = fc
                    replace hfc : Hid _ := hfc
                    replace hUc : Hid _ := hUc
                    go_wp2_with fail
                    go_roundw
                    case rel => exact ⟨c + 1, by omega, by go_num, by rw [hfc.out], hLt, hBt, hrn, hrow, hHt⟩
                    case measure => simp [intOf]; omega
              · obtain rfl : c = 3 := by omega
                rw [hall.out]
                go_wp2_with fail
                go_roundw
                case rel => exact ⟨j + 1, by omega, by go_num, hLc, hBc, hrn, hHc⟩
                case measure => simp [intOf]; omega
          · obtain rfl : j = N.length := by omega
            go_wp2_with (first | (go_at_call 18; refine (awake_any _).mono ?_; rintro e w10 ⟨rfl, hb10⟩))
            go_returns
            exact ⟨rfl, hBj.trans (hb10.mono hBj.size)⟩
end Go.Proofs.Ytbkkcbdbdogloaa
