/-
  DiskKeeps. Conditions: those of each theorem.
-/
import Derived.Test.YtbkkcbdbdogloaaRw
namespace Go.Proofs.Ytbkkcbdbdogloaa
open Go Go.RowKit Go.MapL Go.Poised
variable {p n₀ : Nat} {r : Rep} {s : DS}

def tk : List Nat := [107, 101, 112, 116]
theorem tk_enc : encB tk = [.int .u8 107, .int .u8 101, .int .u8 112, .int .u8 116] := rfl
/-- Of the deeds that do not speak of a. -/
def far (l : List Dd) : List Dd := l.filter fun d => decide (d.near.name ≠ ta) && decide (d.near.to ≠ ta)
theorem kept_far {a : ByteArray} {i : Nat} {b : List Nat} (he : (⟨#[]⟩ : ByteArray) ≠ a) (d : Dd) {m : Nat} (h : KeptAt a i b s) (hs : Sound m s) (hx : d.near.name ≠ a) (hy : d.near.to ≠ a) : KeptAt a i b (actN s d).1 :=
  kept_act h hs _ _ _ _ hx hy he
theorem sound_actN {m : Nat} (h : Sound m s) (hm : m < 536870912) (d : Dd) (hb : ∀ x ∈ d.b, x < 256) : Sound (m + 2) (actN s d).1 :=
  sound_act h hm _ _ _ _ (fun z hz => hb z (List.mem_of_mem_take hz))
/-- 'does' of a deed made near, of a disk that is only sound. -/
theorem deedS {w0 w : World} (d : Dd) (q : Option Addr) (cap : Nat) (kv : Value) (hb : BytesIn w0 (.slice q d.b.length cap) d.b) (hw : Below w0.heap.size w0 w) (hn : n₀ = w0.heap.size) (h : Lies w p n₀ r s) {m : Nat} (hsn : Sound m s) (hn2 : m < 536870912) :
    Calls Try.prog 10 #[ddV d.near (.slice q (min d.b.length 30) cap) kv, ofBlock p] w fun e w' => e = .returned (.int .i64 (actN s d).2) ∧ Turns w w' p n₀ r s (actN s d).1 := by
  have hk := near_kind d
  have hbl := near_len d
  refine deed_at d.near _ kv _ hk.1 hk.2.1 hk.2.2.1 hk.2.2.2 w h hsn.wf (by have := hsn.nb; omega) (by have := hsn.nw; omega) (by omega) (by rw [hn]; exact hw.size) ?_
  intro w' hg
  have hb2 : Below w0.heap.size w0 w' := hw.trans (by rw [← hn]; exact hg.below (by rw [hn]; exact hw.size) (fun k hk => (h.foot_lt k hk).2))
  obtain ⟨_, _, _, e, h5, _⟩ := (hb.below hb2).take (min d.b.length 30) (by omega)
  cases e
  have : d.near.b = d.b.take (min d.b.length 30) := by
    show d.b.take 30 = _
    rw [List.take_eq_take_iff]; omega
  rw [this]; exact h5
theorem ta_bytes (x : ByteArray) : (x.toList == [97]) = decide (x = ta) := by
  rw [show [97] = ta.toList by simp [ta], ← beq_toListBytes]
  by_cases h : x = ta
  · rw [decide_eq_true h]; exact (MapKept.bytes_beq _ _).2 h
  · rw [decide_eq_false h]
    cases hb : (x == ta)
    · rfl
    · exact absurd ((MapKept.bytes_beq _ _).1 hb) h

theorem append_tk {w : World} {m : Nat} (hL : Lies w p n₀ r s) (hs : Sound m s) (hm : m < 536870912) (hn : n₀ ≤ w.heap.size) :
    Calls Try.prog 11 #[ofBlock p, .string ta, .slice (some ⟨w.heap.size, 0, none⟩) 4 4] (w.alloc (.cells #[.int .u8 107, .int .u8 101, .int .u8 112, .int .u8 116] 5 (4, 5))) fun e w' => e = .returned (.int .i64 (s.append ta tk).2) ∧ (∃ r', Lies w' p n₀ r' (s.append ta tk).1) ∧ Below n₀ w w' :=
  append_made ta tk (4, 5) (by decide) (by decide) hL hs hm hn
theorem row_bytes {w : World} {n : Nat} {v : Value} {b : List Nat} (h : w.ownsRow n 5 1 v b.length (encB b)) (hb : ∀ x ∈ b, x < 256) (hl : b.length ≤ 16777216) : BytesIn w v b := bytesIn_of_own h hb (by omega)

set_option maxRecDepth 100000 in
set_option maxHeartbeats 16000000 in
theorem keeps_law (v0 v1 v2 : Value) (l m : List Dd) (keep : List Int) (w : World) (h0 : DdsIn w v0 l) (h1 : DdsIn w v1 m) (h2 : IntsIn w v2 keep) :
    Calls Try.prog 3 #[v0, v1, v2] w fun e w' => e = .returned (.bool true) ∧ Below w.heap.size w w' := by
  have hll := h0.1
  have hml := h1.1
  have hby := dds_bytes h0
  have hby1 := dds_bytes h1
  obtain ⟨q, cap, rfl, hc⟩ := dds_parts h0
  obtain ⟨q1, cap1, rfl, hc1⟩ := dds_parts h1
  obtain ⟨kq, kl, kcap, rfl⟩ := ints_slice h2
  have hnew := new_at 1048576 (by omega) w
  have hN : ∀ k, k ≤ 60 → k ≤ l.length → Near k (actsN (DS.new 1048576) (l.take k)) := fun k hk hkl => by
    have := nearsN (l.take k) (DS.new 1048576) 0 near_new (fun d hd => hby d (List.mem_of_mem_take hd)) (by have := List.length_take_le' k l; simp; omega)
    rw [List.length_take, Nat.min_eq_left hkl, Nat.zero_add] at this
    exact this
  have kc := fun (w : World) (C : Array Value) (n c : Nat) => Lib.run_convert_bytes_const (P := Try.prog) w 28 5 C n c Try.underlying28 Try.underlying5
  have kc2 : ∀ (W : World) (C : Array Value) (n c g : Nat), W.heap.size = g → (convert 28 28 (.slice (some ⟨g, 0, none⟩) n c)).run Try.prog (W.alloc (.cells C 5)) = .ok (.slice (some ⟨g, 0, none⟩) n c) (W.alloc (.cells C 5 (C.size, C.size + 1))) := fun W C n c g e => by subst e; exact kc W C n c
  unfold ofBlock at *
  go_enter Try.func3, Try.ntmps3
  go_wp2_with (go_at_call 8; refine hnew.mono ?_; rintro e w1 ⟨rfl, hb1, hs1, r1, hL1⟩)
  clear hnew h0 h1
  replace hs1 : Hid _ := hs1
  replace hby : Hid _ := hby
  replace hby1 : Hid _ := hby1
  replace hN : Hid _ := hN
  replace hc : Hid _ := hc
  replace hc1 : Hid _ := hc1
  replace hml : Hid _ := hml
  go_loopw [9] (fun i wr => ∃ (k : Nat) (rk : Rep), k ≤ l.length ∧ k ≤ 60 ∧ i = .int .i64 k ∧ Lies wr (w.heap.size + 2) w.heap.size rk (actsN (DS.new 1048576) (l.take k)) ∧ Below w.heap.size w wr) (fun i _ => l.length - (intOf i).toNat)
  case atStart => exact ⟨0, r1, by omega, by omega, rfl, hL1, hb1⟩
  case round =>
    obtain ⟨k, rk, hkl, hk60, rfl, hLk, hBk⟩ := hrel
    have hNk := hN.out k hk60 hkl
    by_cases hgo : k < l.length ∧ k < 60
    · obtain ⟨hlt, hlt6⟩ := hgo
      obtain ⟨d, hde⟩ : ∃ d, l[k] = d := ⟨_, rfl⟩
      obtain ⟨b, off, bq, bcap, kq2, kl2, kc2', rfl, hbd, hcap, hd1, hd2, c0, c1, c2, c3, c4, c5, c6⟩ := dds_at hBk k hlt d hde hc.out
      have hst : actsN (DS.new 1048576) (l.take (k + 1)) = (actN (actsN (DS.new 1048576) (l.take k)) d).1 := by
        rw [List.take_succ_eq_append_getElem hlt, actsN_snoc, hde]
      have hnr := near_any d bq bcap kq2 kl2 kc2' hd1 hd2 wr (hbd.below hBk) hcap
      have hdeed := fun W (hW : Below wr.heap.size wr W) => deedN (n₀ := w.heap.size) (p := w.heap.size + 2) d bq bcap (.slice kq2 kl2 kc2') hbd (hBk.trans (hW.mono hBk.size)) rfl (hLk.below hW) hNk (by omega)
      have hLk0 := hLk
      have hlt' : (k : Int) < l.length := by omega
      have hlt6' : (k : Int) < 60 := by omega
      replace hst : Hid _ := hst
      replace hde : Hid _ := hde
      replace hNk : Hid _ := hNk
      clear hbd
      unfold ofBlock at hdeed
      unfold ddV at hnr
      go_wp2_with (first | (go_at_call 9; refine hnr.mono ?_; clear hnr; rintro e w4 ⟨rfl, hb4, _⟩) | (go_at_call 10; refine (hdeed _ hb4).mono ?_; rintro e w5 ⟨rfl, ht⟩))
      go_roundw
      case rel =>
        have hB4 := hBk.trans (hb4.mono hBk.size)
        have hbt := ht.below (hLk0.below hb4) hB4.size
        obtain ⟨r5, hL5, _⟩ := ht
        exact ⟨k + 1, r5, by omega, by omega, by go_num, by rw [hst.out]; exact hL5, hB4.trans hbt⟩
      case measure => simp [intOf]; omega
    · have hend : (k = l.length) ∨ (k < l.length ∧ k = 60) := by omega
      have hs := hNk.sound
      obtain ⟨ks1, ks2, ks3, i0, b, hKA, hrd, hsK⟩ := kept_start hNk (by omega) ta (by decide) tk (by decide) (by decide)
      have hsA : Sound (2 * k + 2) ((actsN (DS.new 1048576) (l.take k)).append ta tk).1 := sound_append hs (by omega) ta tk (by decide)
      have hap := append_tk hLk hs (by omega) hBk.size
      rw [ks1] at hap
      unfold ofBlock at hap
      clear hN hNk kc
      rcases hend with hend | hend
      all_goals
        first | (subst hend) | (obtain ⟨hlt6, rfl⟩ := hend)
        go_wp2_with (first
          | (go_at_call 11; refine hap.mono ?_; clear hap; rintro e w2 ⟨rfl, ⟨r2, hL2⟩, hb2⟩; have hB2 := hBk.trans hb2; have hsy := sync_at ta w2 hL2 hsA.wf; rw [ks2] at hsy; unfold ofBlock at hsy)
          | (go_at_call 12; refine hsy.mono ?_; clear hsy; rintro e w3 ⟨rfl, ht⟩; obtain ⟨⟨r3, hL3⟩, hb3⟩ := ht.here hL2 hB2.size; have hB3 := hB2.trans hb3; have hsn := syncNames_at w3 hL3; rw [ks3] at hsn; unfold ofBlock at hsn)
          | (go_at_call 13; refine hsn.mono ?_; clear hsn; rintro e w4 ⟨rfl, ht⟩; obtain ⟨⟨r4, hL4⟩, hb4⟩ := ht.here hL3 hB3.size; have hB4 := hB3.trans hb4; replace hL4 : Lies w4 _ _ r4 (keptS (actsN (DS.new 1048576) (l.take _)) ta tk) := hL4; have hre := read_at ta w4 hL4 hsK.wf; rw [hrd] at hre; unfold ofBlock at hre)
          | (go_at_call 14; refine hre.mono ?_; clear hre; rintro e w5 ⟨v, rfl, hrow, hb5⟩))
        obtain ⟨vq, vcap, rfl⟩ := own_shape hrow
        have hL5 := hL4.below hb5
        have hB5 := hB4.trans (hb5.mono hB4.size)
        have hK5 := own_beside hL4 hrow (Nat.le_refl _)
        replace hrow := own_base' hrow hB4.size
        have hbb : ∀ x ∈ b, x < 256 := fun x hx => hsK.wf.bytes i0 x (by rw [hKA.bytes]; exact hx)
        have hbl : b.length ≤ 16777216 := by rw [← hKA.bytes]; exact hsK.wf.len i0
        clear hL1 hb1 r1 hLk rk hBk hL2 hL3 hb2 hb3 hb4 hB2 hB3 hB4 hrd hsA hL4 hb5 ks1 ks2 ks3 hs
        go_loopw [15] (fun i wr => ∃ (j : Nat) (r' : Rep) (s' : DS), j ≤ m.length ∧ j ≤ 40 ∧ i = .int .i64 j ∧ Lies wr (w.heap.size + 2) w.heap.size r' s' ∧ Sound (200 + 2 * j) s' ∧ KeptAt ta i0 b s' ∧ Below w.heap.size w wr ∧ wr.ownsRow w.heap.size 5 1 (.slice vq b.length vcap) b.length (encB b) ∧ Beside wr (w.heap.size + 2) r' s' (rowK (.slice vq b.length vcap))) (fun i _ => m.length - (intOf i).toNat)
        case atStart => exact ⟨0, _, _, by omega, by omega, rfl, hL5, hsK.mono (by omega), hKA, hB5, hrow, hK5⟩
        case round =>
          clear hL5 hB5 hrow hK5 hKA hsK
          obtain ⟨j, r', s', hjm, hj40, rfl, hLj, hSj, hKj, hBj, hrow, hside⟩ := hrel
          by_cases hgo : j < m.length ∧ j < 40
          · obtain ⟨hlt, hlt4⟩ := hgo
            obtain ⟨d, hde⟩ : ∃ d, m[j] = d := ⟨_, rfl⟩
            obtain ⟨b', off, bq, bcap, kq2, kl2, kc2', rfl, hbd, hcap, hd1, hd2, c0, c1, c2, c3, c4, c5, c6⟩ := dds_at hBj j hlt d hde hc1.out
            have hdb : ∀ x ∈ d.b, x < 256 := hbd.1
            have hnr := near_any d bq bcap kq2 kl2 kc2' hd1 hd2 wr (hbd.below hBj) hcap
            have hdeed := fun W (hW : Below wr.heap.size wr W) => deedS (n₀ := w.heap.size) (p := w.heap.size + 2) d bq bcap (.slice kq2 kl2 kc2') hbd (hBj.trans (hW.mono hBj.size)) rfl (hLj.below hW) hSj (by omega)
            have hlt' : (j : Int) < m.length := by omega
            have hlt4' : (j : Int) < 40 := by omega
            have hx1 : (d.near.name.toList == [97]) = decide (d.near.name = ta) := ta_bytes d.near.name
            have hx2 : (d.near.to.toList == [97]) = decide (d.near.to = ta) := ta_bytes d.near.to
            have hLj0 := hLj
            have hKj0 := hKj
            replace hde : Hid _ := hde
            clear hbd hcap hc hc1
            unfold ofBlock at hdeed
            unfold ddV at hnr hdeed
            by_cases hn1 : d.near.name = ta
            · rw [decide_eq_true hn1] at hx1
              have hn1' : Hid _ := hn1
              have hz1 : d.near.name.toList = [97] := by simpa using hx1
              clear hn1 hx2
              go_wp2_with (first | (go_at_call 9; refine hnr.mono ?_; clear hnr; rintro e w4 ⟨rfl, hb4, _⟩))
              go_roundw
              case rel =>
                have hb4' := hb4.alloc hb4.size (.cells #[.int .i64 d.near.kind, .string d.near.name, .string d.near.to, .slice bq (min d.b.length 30) bcap, .int .i64 d.near.n, .int .i64 d.near.bit, .slice kq2 kl2 kc2'] 30)
                exact ⟨j + 1, r', s', by omega, by omega, by go_num, hLj0.below hb4', hSj.mono (by omega), hKj0, hBj.trans (hb4'.mono hBj.size), own_kept hrow hb4', hside.below hb4'⟩
              case measure => simp [intOf]; omega
            · rw [decide_eq_false hn1] at hx1
              by_cases hn2 : d.near.to = ta
              · rw [decide_eq_true hn2] at hx2
                have hn1' : Hid _ := hn1
                have hn2' : Hid _ := hn2
                have hz1 : ¬ d.near.name.toList = [97] := by simpa using hx1
                have hz2 : d.near.to.toList = [97] := by simpa using hx2
                clear hn1 hn2
                go_wp2_with (first | (go_at_call 9; refine hnr.mono ?_; clear hnr; rintro e w4 ⟨rfl, hb4, _⟩))
                go_roundw
                case rel =>
                  have hb4' := hb4.alloc hb4.size (.cells #[.int .i64 d.near.kind, .string d.near.name, .string d.near.to, .slice bq (min d.b.length 30) bcap, .int .i64 d.near.n, .int .i64 d.near.bit, .slice kq2 kl2 kc2'] 30)
                  exact ⟨j + 1, r', s', by omega, by omega, by go_num, hLj0.below hb4', hSj.mono (by omega), hKj0, hBj.trans (hb4'.mono hBj.size), own_kept hrow hb4', hside.below hb4'⟩
                case measure => simp [intOf]; omega
              · rw [decide_eq_false hn2] at hx2
                have hn1' : Hid _ := hn1
                have hn2' : Hid _ := hn2
                have hz1 : ¬ d.near.name.toList = [97] := by simpa using hx1
                have hz2 : ¬ d.near.to.toList = [97] := by simpa using hx2
                clear hn1 hn2
                go_wp2_with (first | (go_at_call 9; refine hnr.mono ?_; clear hnr; rintro e w4 ⟨rfl, hb4, _⟩) | (go_at_call 10; refine (hdeed _ (hb4.alloc hb4.size _)).mono ?_; rintro e w5 ⟨rfl, ht⟩))
                go_roundw
                case rel =>
                  have hb4' := hb4.alloc hb4.size (.cells #[.int .i64 d.near.kind, .string d.near.name, .string d.near.to, .slice bq (min d.b.length 30) bcap, .int .i64 d.near.n, .int .i64 d.near.bit, .slice kq2 kl2 kc2'] 30)
                  have hB4 := hBj.trans (hb4'.mono hBj.size)
                  obtain ⟨r5, hL5, hs5, hsame, hb5⟩ := turn_live (hLj0.below hb4') hB4.size (hside.below hb4') ht
                  exact ⟨j + 1, r5, (actN s' d).1, by omega, by omega, by go_num, hL5, (sound_actN hSj (by omega) d hdb).mono (by omega), kept_far e_ne_ta d hKj0 hSj hn1'.out hn2'.out, hB4.trans hb5, row_same (own_kept hrow hb4') (fun g hg => hsame g hg), hs5⟩
                case measure => simp [intOf]; omega
          · have hend2 : (j = m.length) ∨ (j < m.length ∧ j = 40) := by omega
            have hcr := crash_at (.slice kq kl kcap) keep wr hLj hSj.wf (by have := hSj.nk; omega) hBj.size (fun w' hw' => h2.below (hBj.trans (hw'.below hBj.size (fun k hk => (hLj.foot_lt k hk).2))))
            have hSc := sound_boot (sound_crash hSj (by omega) keep)
            have hkc := kept_crash hKj hSj keep
            have hLj0 := hLj
            unfold ofBlock at hcr
            clear hc hc1 hKj hLj
            rcases hend2 with hend2 | hend2
            all_goals
              first | (subst hend2) | (obtain ⟨hlt4, rfl⟩ := hend2)
              go_wp2_with (first
                | (go_at_call 15; refine hcr.mono ?_; clear hcr; rintro e w6 ⟨rfl, ht⟩; obtain ⟨r6, hL6, hs6, hsame, hb6⟩ := turn_live hLj0 hBj.size hside ht; have hrow6 := row_same hrow (fun g hg => hsame g hg); have hB6 := hBj.trans hb6; have hbo := boot_at w6 hL6; unfold ofBlock at hbo)
                | (go_at_call 16; refine hbo.mono ?_; clear hbo; rintro e w7 ⟨rfl, hL7, hg7⟩; have hrow7 := row_same hrow6 (fun g hg => hg7.block g (hs6 g hg).1 (fun e => (hs6 g hg).2 (.inl e))); have hB7 := hB6.trans (hg7.below hB6.size (fun k hk => by omega)); replace hL7 : Lies w7 _ _ r6 (s'.crash keep).boot := hL7; have hre := read_at ta w7 hL7 hSc.wf; rw [hkc] at hre; unfold ofBlock at hre)
                | (go_at_call 14; refine hre.mono ?_; clear hre; rintro e w8 ⟨v8, rfl, hrow8, hb8⟩; have heq := eqBytes_any _ _ b b w8 (row_bytes (own_kept hrow7 hb8) hbb hbl) (row_bytes hrow8 hbb hbl); rw [decide_eq_true rfl] at heq; have hB8 := hB7.trans (hb8.mono hB7.size))
                | (go_at_call 17; refine heq.mono ?_; clear heq; rintro e w9 ⟨rfl, hb9⟩; have hB9 := hB8.trans (hb9.mono hB8.size))
                | (go_at_call 18; refine (awake_any _).mono ?_; rintro e w10 ⟨rfl, hb10⟩; have hB10 := hB9.trans (hb10.mono hB9.size)))
              go_returns
              exact ⟨rfl, hB10⟩
end Go.Proofs.Ytbkkcbdbdogloaa
