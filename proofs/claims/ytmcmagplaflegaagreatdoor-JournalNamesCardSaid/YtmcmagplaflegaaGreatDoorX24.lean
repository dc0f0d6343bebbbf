/-
  WHAT THE PAIR TELLS. Conditions: those of each theorem.
  WHAT A JOURNAL ANSWERS, CALL BY CALL: the statement, walked. Conditions: those of each theorem.
-/
import Derived.Test.YtmcmagplaflegaaGreatDoorX22
import Derived.Test.YtmcmagplaflegaaGreatDoorX23

namespace Go.Proofs.YtmcmagplaflegaaGreatDoor
open Go Go.RowKit Go.MapL Go.Poised

variable {P pd pu J M n₀ m m' : Nat} {s s' : DS} {d d' : RD} {j j' : Jn} {r r' : Jr} {jv mv : Value} {w w' w'' W : World} {K K' : Nat → Prop}
theorem texts_cell {w : World} {n : Nat} {v : Value} {l : List ByteArray} (h : w.ownsRow n 9 1 v l.length (l.map Value.string)) (k : Nat) (hk : k < l.length) : ∃ g cap, v = .slice (some ⟨g, 0, none⟩) l.length cap ∧ w.cell? ⟨g, k, none⟩ = some (.string l[k]) := by
  have h' : w.ownsRow n 9 1 v (l.map Value.string).length (l.map Value.string) := by rw [List.length_map]; exact h
  obtain ⟨g, cap, h1, h2⟩ := own_cell h' k (.string l[k]) (by simp [hk])
  rw [List.length_map] at h1
  exact ⟨g, cap, h1, h2⟩
set_option maxHeartbeats 2000000 in
theorem sameNames_any (v u : Value) (l : List ByteArray) (w : World) (n n' : Nat) (hl : l.length ≤ 1000000000) (hv : w.ownsRow n 9 1 v l.length (l.map Value.string)) (hu : w.ownsRow n' 9 1 u l.length (l.map Value.string)) :
    Calls Tryz.prog 76 #[v, u] w fun e w' => e = .returned (.bool true) ∧ Below w.heap.size w w' := by
  have hc := texts_cell hv
  have hd := texts_cell hu
  obtain ⟨vq, vcap, rfl⟩ := own_shape hv
  obtain ⟨uq, ucap, rfl⟩ := own_shape hu
  have hne : ((l.length : Int) != (l.length : Int)) = false := by simp
  clear hv hu
  go_enter Tryz.func76, Tryz.ntmps76
  go_wp2
  go_loopw [5] (fun i wr => ∃ k : Nat, k ≤ l.length ∧ i = .int .i64 k ∧ Below w.heap.size w wr) (fun i _ => l.length - (intOf i).toNat)
  case atStart => exact ⟨0, by omega, rfl, Below.refl _ _⟩
  case round =>
    obtain ⟨k, hk, rfl, hB⟩ := hrel
    by_cases hlt : k < l.length
    · obtain ⟨g, cap, e1, hcb⟩ := hc k hlt
      obtain ⟨g', cap', e2, hdb⟩ := hd k hlt
      cases e1
      cases e2
      have hcell : wr.cell? ⟨g, k, none⟩ = some (.string l[k]) := (hB.cell (p := ⟨g, k, none⟩) (lt_of_cell hcb)).trans hcb
      have hdell : wr.cell? ⟨g', k, none⟩ = some (.string l[k]) := (hB.cell (p := ⟨g', k, none⟩) (lt_of_cell hdb)).trans hdb
      clear hc hd hcb hdb
      generalize l[k] = x at *
      have hxx : (x.toList != x.toList) = false := by simp
      have hxy : (x.toList == x.toList) = true := by simp
      have k1 : (0 : Int) ≤ (k : Int) := by omega
      have k2 : (k : Int) < (l.length : Int) := by omega
      go_wp2
      go_quiet (fail)
      go_wp2
      go_roundw
      case rel => exact ⟨k + 1, by omega, by go_num, ⟨hB.1, hB.2, hB.3, hB.4, hB.5⟩⟩
      case measure => simp [intOf]; omega
    · go_wp2
      go_returns
      exact ⟨rfl, hB⟩
theorem PV.readL (h : PV w P pd pu n₀ m s d jv mv K) (x : ByteArray) : Calls Tryz.prog 33 #[ofBlock pd, .string x] w fun e w' => ∃ v, e = .returned (.tuple #[v, .int .i64 (readRes s x).2]) ∧ w'.ownsRow w.heap.size 5 1 v (readRes s x).1.length (encB (readRes s x).1) ∧ Below w.heap.size w w' := by
  obtain ⟨F, hL, _⟩ := h.both.left
  exact live_read x hL
theorem PV.readR (h : PV w P pd pu n₀ m s d jv mv K) (hm : m < 536870912) (x : ByteArray) : Calls Tryz.prog 77 #[ofBlock pu, .string x] w fun e w' => ∃ v, e = .returned (.tuple #[v, .int .i64 (readR d x).2]) ∧ w'.ownsRow w.heap.size 5 1 v (readR d x).1.length (encB (readR d x).1) ∧ Below w.heap.size w w' := by
  obtain ⟨F, hL, _⟩ := h.both.right
  exact rlive_read x hL hm
theorem PV.namesL (h : PV w P pd pu n₀ m s d jv mv K) (hm : m < 536870912) : Calls Tryz.prog 37 #[ofBlock pd] w fun e w' => ∃ v, e = .returned v ∧ w'.ownsRow w.heap.size 9 1 v (namesOf s).length ((namesOf s).map Value.string) ∧ Below w.heap.size w w' := by
  obtain ⟨F, hL, _⟩ := h.both.left
  exact live_names hL hm
theorem PV.namesR (h : PV w P pd pu n₀ m s d jv mv K) (hm : m < 536870912) : Calls Tryz.prog 75 #[ofBlock pu] w fun e w' => ∃ v, e = .returned v ∧ w'.ownsRow w.heap.size 9 1 v (namesR d).length ((namesR d).map Value.string) ∧ Below w.heap.size w w' := by
  obtain ⟨F, hL, _⟩ := h.both.right
  exact rlive_names hL hm
/-- What was read lies there. -/
def ReadV (n : Nat) (b : List Nat) (c : Int) (v : Value) (w : World) : Prop := ∃ q cap, v = .tuple #[.slice q b.length cap, .int .i64 c] ∧ w.ownsRow n 5 1 (.slice q b.length cap) b.length (encB b)
def RowV (n : Nat) (b : List Nat) (v : Value) (w : World) : Prop := ∃ q cap, v = .slice q b.length cap ∧ w.ownsRow n 5 1 (.slice q b.length cap) b.length (encB b)
theorem ReadV.last {n : Nat} {b : List Nat} {c : Int} {v : Value} (hb : Below w.heap.size w w') (h : ReadV n b c v w) : ReadV n b c v w' := by
  obtain ⟨q, cap, h1, h2⟩ := h
  exact ⟨q, cap, h1, own_kept h2 hb⟩
theorem RowV.last {n : Nat} {b : List Nat} {v : Value} (hb : Below w.heap.size w w') (h : RowV n b v w) : RowV n b v w' := by
  obtain ⟨q, cap, h1, h2⟩ := h
  exact ⟨q, cap, h1, own_kept h2 hb⟩
theorem readV_of {f : FuncId} {args : Array Value} {n : Nat} {b : List Nat} {c : Int} (hn : n ≤ w.heap.size) (h : Calls Tryz.prog f args w fun e w' => ∃ v, e = .returned (.tuple #[v, .int .i64 c]) ∧ w'.ownsRow w.heap.size 5 1 v b.length (encB b) ∧ Below w.heap.size w w') :
    Calls Tryz.prog f args w fun e w' => ∃ v, e = .returned v ∧ Below w.heap.size w w' ∧ ReadV n b c v w' := h.mono fun e w' ⟨v, h1, h2, h3⟩ => by
  obtain ⟨q, cap, rfl⟩ := own_shape h2
  exact ⟨_, h1, h3, q, cap, rfl, own_base' h2 hn⟩
set_option maxRecDepth 100000 in
set_option maxHeartbeats 16000000 in
theorem tells_closed (h : PClosed w P pd pu n₀ m s d) (hm : m < 50000000) : Calls Tryz.prog 28 #[ofBlock P] w fun e w' => e = .returned (.tuple #[]) ∧ PairIn w' P pd pu n₀ m ∧ Below n₀ w w' := by
  have hp0 : PV w P pd pu n₀ m s d (.pointer none) (.pointer none) (fun g => g = P) := h.pv
  have hal := h.al
  have hnm := hal.names
  have hrd := fun x => hal.read x
  have hby := fun x => readR_bytes hp0.both.sr x
  have hnl := names_len hal.sound
  have hSu := hp0.namesR (by omega)
  rw [← hnm] at hSu
  obtain ⟨S, hS⟩ : ∃ S, namesOf s = S := ⟨_, rfl⟩
  rw [hS] at hSu hnl
  have hSl : Hid (∀ w1 (K1 : Nat → Prop), PV w1 P pd pu n₀ m s d (.pointer none) (.pointer none) K1 → Calls Tryz.prog 37 #[ofBlock pd] w1 fun e w' => ∃ v, e = .returned v ∧ w'.ownsRow w1.heap.size 9 1 v S.length (S.map Value.string) ∧ Below w1.heap.size w1 w') := fun w1 K1 hp => by
    have := hp.namesL (by omega)
    rw [hS] at this
    exact this
  have hrL : Hid (∀ w1 (K1 : Nat → Prop), PV w1 P pd pu n₀ m s d (.pointer none) (.pointer none) K1 → ∀ x, Calls Tryz.prog 33 #[ofBlock pd, .string x] w1 fun e w' => ∃ v, e = .returned (.tuple #[v, .int .i64 (readR d x).2]) ∧ w'.ownsRow w1.heap.size 5 1 v (readR d x).1.length (encB (readR d x).1) ∧ Below w1.heap.size w1 w') := fun w1 K1 hp x => by
    have := hp.readL x
    rw [hrd x] at this
    exact this
  have hrR : Hid (∀ w1 (K1 : Nat → Prop), PV w1 P pd pu n₀ m s d (.pointer none) (.pointer none) K1 → ∀ x, Calls Tryz.prog 77 #[ofBlock pu, .string x] w1 fun e w' => ∃ v, e = .returned (.tuple #[v, .int .i64 (readR d x).2]) ∧ w'.ownsRow w1.heap.size 5 1 v (readR d x).1.length (encB (readR d x).1) ∧ Below w1.heap.size w1 w') := fun w1 K1 hp x => hp.readR (by omega) x
  obtain ⟨y0, y1, y2, y3, y4⟩ := cells5p hp0.cell
  have hPl := hp0.both.lt P hp0.kp
  clear hnm hrd hS hal
  replace h : Hid _ := h
  replace hp0 : Hid (PV w P pd pu n₀ m s d (.pointer none) (.pointer none) (fun g => g = P)) := hp0
  replace hby : Hid _ := hby
  unfold ofBlock at *
  go_enter Tryz.func28, Tryz.ntmps28
  go_wp2_with (first
    | (go_at_call 75; refine hSu.mono ?_; clear hSu; rintro e w1 ⟨lv, rfl, hrow1, hb1⟩; obtain ⟨lq, lcap, rfl⟩ := own_shape hrow1
       have hp1 : PV w1 P pd pu n₀ m s d (.pointer none) (.pointer none) (fun g => g = P ∨ rowK (.slice lq S.length lcap) g) := hp0.out.more hb1 (.inl rfl) (fun g hg => hg.imp id (fun hg => hrow1.lt g hg))
       obtain ⟨z0, z1, z2, z3, z4⟩ := cells5p hp1.cell
       have hk1 : Kept (fun g => g = P) n₀ w w1 := hp0.out.both.kept hb1
       unfold ofBlock at z0 z2)
    | (go_at_call 37; refine (hSl.out _ _ hp1).mono ?_; rintro e w2 ⟨v2, rfl, hrow2, hb2⟩
       have hrow1' := own_kept hrow1 hb2
       have hsn := sameNames_any _ _ S w2 _ _ (by omega) hrow2 hrow1'
       obtain ⟨q2, cap2, rfl⟩ := own_shape hrow2
       have hp2 := hp1.below hb2)
    | (go_at_call 76; refine hsn.mono ?_; clear hsn; rintro e w3 ⟨rfl, hb3⟩
       have hp3 := hp2.below hb3
       obtain ⟨u0, u1, u2, u3, u4⟩ := cells5p hp3.cell
       have uf := free_of hp3.cell 4
       have hrow3 := own_kept hrow1' hb3
       unfold ofBlock at u0 u2))
  have hps := hp3.stored
  obtain ⟨hp4, hk4⟩ := hps
  have hrow4 : (w3.setCell ⟨P, 4, none⟩ (.bool true)).ownsRow w.heap.size 9 1 (.slice lq S.length lcap) S.length (S.map Value.string) := hk4.row hrow3 (fun g hg => .inr hg)
  have hkA : Kept (fun g => g = P ∨ rowK (.slice lq S.length lcap) g) n₀ w1 (w3.setCell ⟨P, 4, none⟩ (.bool true)) := ((hp1.both.kept hb2).trans (hp2.both.kept hb3)).trans hk4
  clear u0 u1 u2 u3 u4 uf z0 z1 z2 z3 z4 hrow2 hrow3 hk4 hp3 hp2
  replace hp1 : Hid (PV w1 P pd pu n₀ m s d (.pointer none) (.pointer none) (fun g => g = P ∨ rowK (.slice lq S.length lcap) g)) := hp1
  generalize hw4 : w3.setCell ⟨P, 4, none⟩ (.bool true) = w4 at *
  clear hw4 hrow1 hrow1' hb2 hb3
  go_wp2_with fail
  go_loopw [3] (fun i wr => ∃ k : Nat, k ≤ S.length ∧ i = .int .i64 k ∧ PV wr P pd pu n₀ m s d (.pointer none) (.pointer none) (fun g => g = P ∨ rowK (.slice lq S.length lcap) g) ∧ Kept (fun g => g = P ∨ rowK (.slice lq S.length lcap) g) n₀ w1 wr ∧ wr.ownsRow w.heap.size 9 1 (.slice lq S.length lcap) S.length (S.map Value.string)) (fun i _ => S.length - (intOf i).toNat)
  case atStart => exact ⟨0, Nat.zero_le _, rfl, hp4, hkA, hrow4⟩
  case round =>
    clear hp4 hkA hrow4 y0 y1 y2 y3 y4
    obtain ⟨k, hk, rfl, hpr, hkr, hrowr⟩ := hrel
    obtain ⟨y0, y1, y2, y3, y4⟩ := cells5p hpr.cell
    have hPr := hpr.both.lt P hpr.kp
    unfold ofBlock at y0 y2
    by_cases hlt : k < S.length
    · have hltI : (k : Int) < (S.length : Int) := by omega
      have hltJ : (0 : Int) ≤ (k : Int) := by omega
      obtain ⟨lg, lc, le, hcell⟩ := texts_cell hrowr k hlt
      cases le
      have hgl := lt_of_cell hcell
      have hbyx := hby.out S[k]
      have hr1 := fun w1 K1 hp => hrL.out w1 K1 hp S[k]
      have hr2 := fun w1 K1 hp => hrR.out w1 K1 hp S[k]
      generalize S[k] = x at *
      generalize (readR d x).1 = b at *
      generalize (readR d x).2 = c at *
      obtain ⟨hbx, hbl⟩ := hbyx
      have hcs : (c == c) = true := by simp
      replace hr1 : Hid _ := hr1
      replace hr2 : Hid _ := hr2
      replace hbx : Hid _ := hbx
      replace hpr : Hid (PV wr P pd pu n₀ m s d (.pointer none) (.pointer none) (fun g => g = P ∨ rowK (.slice (some ⟨lg, 0, none⟩) S.length lcap) g)) := hpr
      unfold ofBlock at hr1 hr2
      go_wp2_with fail
      refine poised_whole (fun x => Below wr.heap.size wr x) (fun x y => Below x.heap.size x y) (by kernel_rfl) (by kernel_rfl) (by kernel_rfl) (fun _ _ h k => h.trans (k.mono h.size)) ((Below.refl _ _).drew) ?_
      apply Exists.intro
      iterate 3
        apply walk_det
        · rfl
        · intro w2 hC hF
          simp only [upon]
          go_simp
          exact ⟨Below.refl _ _, rfl⟩
        simp only [put_lit, List.set_cons_succ, List.set_cons_zero]
      apply walk_det
      · rfl
      · intro w2 hC hF
        have q0 := (hC.cell (p := ⟨P, 0, none⟩) hPr).trans y0
        have q5 := (hC.cell (p := ⟨lg, k, none⟩) hgl).trans hcell
        simp only [upon]
        go_simp
        exact ⟨Below.refl _ _, rfl⟩
      simp only [put_lit, List.set_cons_succ, List.set_cons_zero]
      iterate 2
        apply walk_det
        · rfl
        · intro w2 hC hF
          simp only [upon]
          go_simp
          exact ⟨Below.refl _ _, rfl⟩
        simp only [put_lit, List.set_cons_succ, List.set_cons_zero]
      iterate 2
        apply walk_det
        · rfl
        · intro w2 hC hF
          have q0 := (hC.cell (p := ⟨P, 0, none⟩) hPr).trans y0
          have q5 := (hC.cell (p := ⟨lg, k, none⟩) hgl).trans hcell
          simp only [upon]
          go_simp
          exact ⟨Below.refl _ _, rfl⟩
        simp only [put_lit, List.set_cons_succ, List.set_cons_zero]
      apply walk_free (fun v w' => ReadV wr.heap.size b c v w') (fun _ _ _ _ hR h => ReadV.last hR h)
      · rfl
      · intro w2 hC hF
        simp only [upon]
        go_simp
        exact readV_of hC.size (hr1.out w2 _ (hpr.out.below hC))
      intro v8
      simp only [put_lit, List.set_cons_succ, List.set_cons_zero]
      apply walk_free (fun v w' => ReadV wr.heap.size b c v w') (fun _ _ _ _ hR h => ReadV.last hR h)
      · rfl
      · intro w2 hC hF
        simp only [upon]
        go_simp
        exact ⟨Below.refl _ _, hF 8 (by kernel_rfl)⟩
      intro v9
      simp only [put_lit, List.set_cons_succ, List.set_cons_zero]
      apply walk_free (fun v w' => RowV wr.heap.size b v w') (fun _ _ _ _ hR h => RowV.last hR h)
      · rfl
      · intro w2 hC hF
        obtain ⟨q, cap, he, hrow⟩ := hF 9 (by kernel_rfl)
        subst he
        simp only [upon]
        go_simp
        exact ⟨Below.refl _ _, q, cap, rfl, hrow⟩
      intro v10
      simp only [put_lit, List.set_cons_succ, List.set_cons_zero]
      apply walk_det
      · rfl
      · intro w2 hC hF
        obtain ⟨q, cap, he, hrow⟩ := hF 9 (by kernel_rfl)
        subst he
        simp only [upon]
        go_simp
        exact ⟨Below.refl _ _, rfl⟩
      simp only [put_lit, List.set_cons_succ, List.set_cons_zero]
      apply walk_free (fun v w' => RowV wr.heap.size b v w') (fun _ _ _ _ hR h => RowV.last hR h)
      · rfl
      · intro w2 hC hF
        simp only [upon]
        go_simp
        exact ⟨Below.refl _ _, hF 10 (by kernel_rfl)⟩
      intro v12
      simp only [put_lit, List.set_cons_succ, List.set_cons_zero]
      apply walk_det
      · rfl
      · intro w2 hC hF
        simp only [upon]
        go_simp
        exact ⟨Below.refl _ _, rfl⟩
      simp only [put_lit, List.set_cons_succ, List.set_cons_zero]
      apply walk_nil
      intro a1 ha1 hFa1
      obtain ⟨vq, vcap, ve, vrow⟩ : RowV wr.heap.size b v12 a1 := hFa1 12
      subst ve
      clear hFa1
      have hpa := hpr.out.below ha1
      obtain ⟨z0, z1, z2, z3, z4⟩ := cells5p hpa.cell
      have hPa := hpa.both.lt P hpa.kp
      have hcell1 := (ha1.cell (p := ⟨lg, k, none⟩) hgl).trans hcell
      have hgl1 := lt_of_cell hcell1
      unfold ofBlock at z0 z2
      go_wp2_with fail
      refine poised_whole (fun x => Below a1.heap.size a1 x) (fun x y => Below x.heap.size x y) (by kernel_rfl) (by kernel_rfl) (by kernel_rfl) (fun _ _ h k => h.trans (k.mono h.size)) ((Below.refl _ _).drew) ?_
      apply Exists.intro
      iterate 3
        apply walk_det
        · rfl
        · intro w2 hC hF
          simp only [upon]
          go_simp
          exact ⟨Below.refl _ _, rfl⟩
        simp only [put_lit, List.set_cons_succ, List.set_cons_zero]
      apply walk_det
      · rfl
      · intro w2 hC hF
        have q2 := (hC.cell (p := ⟨P, 2, none⟩) hPa).trans z2
        have q5 := (hC.cell (p := ⟨lg, k, none⟩) hgl1).trans hcell1
        simp only [upon]
        go_simp
        exact ⟨Below.refl _ _, rfl⟩
      simp only [put_lit, List.set_cons_succ, List.set_cons_zero]
      iterate 2
        apply walk_det
        · rfl
        · intro w2 hC hF
          simp only [upon]
          go_simp
          exact ⟨Below.refl _ _, rfl⟩
        simp only [put_lit, List.set_cons_succ, List.set_cons_zero]
      iterate 2
        apply walk_det
        · rfl
        · intro w2 hC hF
          have q2 := (hC.cell (p := ⟨P, 2, none⟩) hPa).trans z2
          have q5 := (hC.cell (p := ⟨lg, k, none⟩) hgl1).trans hcell1
          simp only [upon]
          go_simp
          exact ⟨Below.refl _ _, rfl⟩
        simp only [put_lit, List.set_cons_succ, List.set_cons_zero]
      apply walk_free (fun v w' => ReadV a1.heap.size b c v w') (fun _ _ _ _ hR h => ReadV.last hR h)
      · rfl
      · intro w2 hC hF
        simp only [upon]
        go_simp
        exact readV_of hC.size (hr2.out w2 _ (hpa.below hC))
      intro u8
      simp only [put_lit, List.set_cons_succ, List.set_cons_zero]
      apply walk_free (fun v w' => ReadV a1.heap.size b c v w') (fun _ _ _ _ hR h => ReadV.last hR h)
      · rfl
      · intro w2 hC hF
        simp only [upon]
        go_simp
        exact ⟨Below.refl _ _, hF 8 (by kernel_rfl)⟩
      intro u9
      simp only [put_lit, List.set_cons_succ, List.set_cons_zero]
      apply walk_free (fun v w' => RowV a1.heap.size b v w') (fun _ _ _ _ hR h => RowV.last hR h)
      · rfl
      · intro w2 hC hF
        obtain ⟨q, cap, he, hrow⟩ := hF 9 (by kernel_rfl)
        subst he
        simp only [upon]
        go_simp
        exact ⟨Below.refl _ _, q, cap, rfl, hrow⟩
      intro u10
      simp only [put_lit, List.set_cons_succ, List.set_cons_zero]
      apply walk_det
      · rfl
      · intro w2 hC hF
        obtain ⟨q, cap, he, hrow⟩ := hF 9 (by kernel_rfl)
        subst he
        simp only [upon]
        go_simp
        exact ⟨Below.refl _ _, rfl⟩
      simp only [put_lit, List.set_cons_succ, List.set_cons_zero]
      apply walk_free (fun v w' => RowV a1.heap.size b v w') (fun _ _ _ _ hR h => RowV.last hR h)
      · rfl
      · intro w2 hC hF
        simp only [upon]
        go_simp
        exact ⟨Below.refl _ _, hF 10 (by kernel_rfl)⟩
      intro u12
      simp only [put_lit, List.set_cons_succ, List.set_cons_zero]
      apply walk_det
      · rfl
      · intro w2 hC hF
        simp only [upon]
        go_simp
        exact ⟨Below.refl _ _, rfl⟩
      simp only [put_lit, List.set_cons_succ, List.set_cons_zero]
      apply walk_nil
      intro a2 ha2 hFa2
      obtain ⟨uq, ucap, ue, urow⟩ : RowV a1.heap.size b u12 a2 := hFa2 12
      subst ue
      clear hFa2
      have vrow2 := own_kept vrow ha2
      have hpb := hpa.below ha2
      have heq := eqBytes_any (.slice vq b.length vcap) (.slice uq b.length ucap) b b a2 (row_bytes vrow2 hbx.out (by omega)) (row_bytes urow hbx.out (by omega))
      rw [decide_eq_true rfl] at heq
      have hrow2 := own_kept (own_kept hrowr ha1) ha2
      go_wp2_with (go_at_call 78; refine heq.mono ?_; clear heq; rintro e a3 ⟨rfl, hb3⟩
                   have hpc := hpb.below hb3
                   obtain ⟨s0, s1, s2, s3, s4⟩ := cells5p hpc.cell
                   have sf := free_of hpc.cell 4
                   have hrow3 := own_kept hrow2 hb3
                   unfold ofBlock at s0 s2)
      go_roundw
      case rel =>
        obtain ⟨hpd, hkd⟩ := hpc.stored
        exact ⟨k + 1, by omega, by go_num, hpd, hkr.trans ((((hpr.out.both.kept ha1).trans (hpa.both.kept ha2)).trans (hpb.both.kept hb3)).trans hkd), hkd.row hrow3 (fun g hg => .inr hg)⟩
      case measure => simp [intOf]; omega
    · obtain rfl : k = S.length := by omega
      have hkw : Kept (fun g => g = P) n₀ w wr := hk1.trans (hkr.sub (fun g hg => .inl hg))
      clear hrL hrR hSl hby
      replace hpr : Hid (PV wr P pd pu n₀ m s d (.pointer none) (.pointer none) (fun g => g = P ∨ rowK (.slice lq S.length lcap) g)) := hpr
      go_wp2_with fail
      go_returns
      exact ⟨rfl, .inl ⟨s, d, hpr.out.sub rfl (fun g hg => .inl hg), h.out.al⟩, hkw.below⟩
set_option maxRecDepth 100000 in
set_option maxHeartbeats 16000000 in
theorem tells_open (h : POpen w P pd pu J M n₀ m j r) (hm : m < 50000000) : Calls Tryz.prog 28 #[ofBlock P] w fun e w' => e = .returned (.tuple #[]) ∧ PairIn w' P pd pu n₀ m ∧ Below n₀ w w' := by
  have hp0 : PV w P pd pu n₀ m j.s r.d (ofBlock J) (ofBlock M) (fun g => g = P ∨ g = J ∨ g = M) := h.pj.pv
  have hal := h.al.al
  have hnm := hal.names
  have hrd := fun x => hal.read x
  have hby := fun x => readR_bytes hp0.both.sr x
  have hnl := names_len hal.sound
  have hSu := hp0.namesR (by omega)
  rw [← hnm] at hSu
  obtain ⟨S, hS⟩ : ∃ S, namesOf j.s = S := ⟨_, rfl⟩
  rw [hS] at hSu hnl
  have hSl : Hid (∀ w1 (K1 : Nat → Prop), PV w1 P pd pu n₀ m j.s r.d (ofBlock J) (ofBlock M) K1 → Calls Tryz.prog 37 #[ofBlock pd] w1 fun e w' => ∃ v, e = .returned v ∧ w'.ownsRow w1.heap.size 9 1 v S.length (S.map Value.string) ∧ Below w1.heap.size w1 w') := fun w1 K1 hp => by
    have := hp.namesL (by omega)
    rw [hS] at this
    exact this
  have hrL : Hid (∀ w1 (K1 : Nat → Prop), PV w1 P pd pu n₀ m j.s r.d (ofBlock J) (ofBlock M) K1 → ∀ x, Calls Tryz.prog 33 #[ofBlock pd, .string x] w1 fun e w' => ∃ v, e = .returned (.tuple #[v, .int .i64 (readR r.d x).2]) ∧ w'.ownsRow w1.heap.size 5 1 v (readR r.d x).1.length (encB (readR r.d x).1) ∧ Below w1.heap.size w1 w') := fun w1 K1 hp x => by
    have := hp.readL x
    rw [hrd x] at this
    exact this
  have hrR : Hid (∀ w1 (K1 : Nat → Prop), PV w1 P pd pu n₀ m j.s r.d (ofBlock J) (ofBlock M) K1 → ∀ x, Calls Tryz.prog 77 #[ofBlock pu, .string x] w1 fun e w' => ∃ v, e = .returned (.tuple #[v, .int .i64 (readR r.d x).2]) ∧ w'.ownsRow w1.heap.size 5 1 v (readR r.d x).1.length (encB (readR r.d x).1) ∧ Below w1.heap.size w1 w') := fun w1 K1 hp x => hp.readR (by omega) x
  obtain ⟨y0, y1, y2, y3, y4⟩ := cells5p hp0.cell
  have hPl := hp0.both.lt P hp0.kp
  clear hnm hrd hS hal
  replace h : Hid _ := h
  replace hp0 : Hid (PV w P pd pu n₀ m j.s r.d (ofBlock J) (ofBlock M) (fun g => g = P ∨ g = J ∨ g = M)) := hp0
  replace hby : Hid _ := hby
  unfold ofBlock at *
  go_enter Tryz.func28, Tryz.ntmps28
  go_wp2_with (first
    | (go_at_call 75; refine hSu.mono ?_; clear hSu; rintro e w1 ⟨lv, rfl, hrow1, hb1⟩; obtain ⟨lq, lcap, rfl⟩ := own_shape hrow1
       have hp1 : PV w1 P pd pu n₀ m j.s r.d (ofBlock J) (ofBlock M) (fun g => (g = P ∨ g = J ∨ g = M) ∨ rowK (.slice lq S.length lcap) g) := hp0.out.more hb1 (.inl (.inl rfl)) (fun g hg => hg.imp id (fun hg => hrow1.lt g hg))
       obtain ⟨z0, z1, z2, z3, z4⟩ := cells5p hp1.cell
       have hk1 : Kept (fun g => g = P ∨ g = J ∨ g = M) n₀ w w1 := hp0.out.both.kept hb1
       unfold ofBlock at z0 z1 z2 z3)
    | (go_at_call 37; refine (hSl.out _ _ hp1).mono ?_; rintro e w2 ⟨v2, rfl, hrow2, hb2⟩
       have hrow1' := own_kept hrow1 hb2
       have hsn := sameNames_any _ _ S w2 _ _ (by omega) hrow2 hrow1'
       obtain ⟨q2, cap2, rfl⟩ := own_shape hrow2
       have hp2 := hp1.below hb2)
    | (go_at_call 76; refine hsn.mono ?_; clear hsn; rintro e w3 ⟨rfl, hb3⟩
       have hp3 := hp2.below hb3
       obtain ⟨u0, u1, u2, u3, u4⟩ := cells5p hp3.cell
       have uf := free_of hp3.cell 4
       have hrow3 := own_kept hrow1' hb3
       unfold ofBlock at u0 u1 u2 u3))
  have hps := hp3.stored
  obtain ⟨hp4, hk4⟩ := hps
  have hrow4 : (w3.setCell ⟨P, 4, none⟩ (.bool true)).ownsRow w.heap.size 9 1 (.slice lq S.length lcap) S.length (S.map Value.string) := hk4.row hrow3 (fun g hg => .inr hg)
  have hkA : Kept (fun g => (g = P ∨ g = J ∨ g = M) ∨ rowK (.slice lq S.length lcap) g) n₀ w1 (w3.setCell ⟨P, 4, none⟩ (.bool true)) := ((hp1.both.kept hb2).trans (hp2.both.kept hb3)).trans hk4
  clear u0 u1 u2 u3 u4 uf z0 z1 z2 z3 z4 hrow2 hrow3 hk4 hp3 hp2
  replace hp1 : Hid (PV w1 P pd pu n₀ m j.s r.d (ofBlock J) (ofBlock M) (fun g => (g = P ∨ g = J ∨ g = M) ∨ rowK (.slice lq S.length lcap) g)) := hp1
  generalize hw4 : w3.setCell ⟨P, 4, none⟩ (.bool true) = w4 at *
  clear hw4 hrow1 hrow1' hb2 hb3
  go_wp2_with fail
  go_loopw [3] (fun i wr => ∃ k : Nat, k ≤ S.length ∧ i = .int .i64 k ∧ PV wr P pd pu n₀ m j.s r.d (ofBlock J) (ofBlock M) (fun g => (g = P ∨ g = J ∨ g = M) ∨ rowK (.slice lq S.length lcap) g) ∧ Kept (fun g => (g = P ∨ g = J ∨ g = M) ∨ rowK (.slice lq S.length lcap) g) n₀ w1 wr ∧ wr.ownsRow w.heap.size 9 1 (.slice lq S.length lcap) S.length (S.map Value.string)) (fun i _ => S.length - (intOf i).toNat)
  case atStart => exact ⟨0, Nat.zero_le _, rfl, hp4, hkA, hrow4⟩
  case round =>
    clear hp4 hkA hrow4 y0 y1 y2 y3 y4
    obtain ⟨k, hk, rfl, hpr, hkr, hrowr⟩ := hrel
    obtain ⟨y0, y1, y2, y3, y4⟩ := cells5p hpr.cell
    have hPr := hpr.both.lt P hpr.kp
    unfold ofBlock at y0 y1 y2 y3
    by_cases hlt : k < S.length
    · have hltI : (k : Int) < (S.length : Int) := by omega
      have hltJ : (0 : Int) ≤ (k : Int) := by omega
      obtain ⟨lg, lc, le, hcell⟩ := texts_cell hrowr k hlt
      cases le
      have hgl := lt_of_cell hcell
      have hbyx := hby.out S[k]
      have hr1 := fun w1 K1 hp => hrL.out w1 K1 hp S[k]
      have hr2 := fun w1 K1 hp => hrR.out w1 K1 hp S[k]
      generalize S[k] = x at *
      generalize (readR r.d x).1 = b at *
      generalize (readR r.d x).2 = c at *
      obtain ⟨hbx, hbl⟩ := hbyx
      have hcs : (c == c) = true := by simp
      replace hr1 : Hid _ := hr1
      replace hr2 : Hid _ := hr2
      replace hbx : Hid _ := hbx
      replace hpr : Hid (PV wr P pd pu n₀ m j.s r.d (ofBlock J) (ofBlock M) (fun g => (g = P ∨ g = J ∨ g = M) ∨ rowK (.slice (some ⟨lg, 0, none⟩) S.length lcap) g)) := hpr
      unfold ofBlock at hr1 hr2
      go_wp2_with fail
      refine poised_whole (fun x => Below wr.heap.size wr x) (fun x y => Below x.heap.size x y) (by kernel_rfl) (by kernel_rfl) (by kernel_rfl) (fun _ _ h k => h.trans (k.mono h.size)) ((Below.refl _ _).drew) ?_
      apply Exists.intro
      iterate 3
        apply walk_det
        · rfl
        · intro w2 hC hF
          simp only [upon]
          go_simp
          exact ⟨Below.refl _ _, rfl⟩
        simp only [put_lit, List.set_cons_succ, List.set_cons_zero]
      apply walk_det
      · rfl
      · intro w2 hC hF
        have q0 := (hC.cell (p := ⟨P, 0, none⟩) hPr).trans y0
        have q5 := (hC.cell (p := ⟨lg, k, none⟩) hgl).trans hcell
        simp only [upon]
        go_simp
        exact ⟨Below.refl _ _, rfl⟩
      simp only [put_lit, List.set_cons_succ, List.set_cons_zero]
      iterate 2
        apply walk_det
        · rfl
        · intro w2 hC hF
          simp only [upon]
          go_simp
          exact ⟨Below.refl _ _, rfl⟩
        simp only [put_lit, List.set_cons_succ, List.set_cons_zero]
      iterate 2
        apply walk_det
        · rfl
        · intro w2 hC hF
          have q0 := (hC.cell (p := ⟨P, 0, none⟩) hPr).trans y0
          have q5 := (hC.cell (p := ⟨lg, k, none⟩) hgl).trans hcell
          simp only [upon]
          go_simp
          exact ⟨Below.refl _ _, rfl⟩
        simp only [put_lit, List.set_cons_succ, List.set_cons_zero]
      apply walk_free (fun v w' => ReadV wr.heap.size b c v w') (fun _ _ _ _ hR h => ReadV.last hR h)
      · rfl
      · intro w2 hC hF
        simp only [upon]
        go_simp
        exact readV_of hC.size (hr1.out w2 _ (hpr.out.below hC))
      intro v8
      simp only [put_lit, List.set_cons_succ, List.set_cons_zero]
      apply walk_free (fun v w' => ReadV wr.heap.size b c v w') (fun _ _ _ _ hR h => ReadV.last hR h)
      · rfl
      · intro w2 hC hF
        simp only [upon]
        go_simp
        exact ⟨Below.refl _ _, hF 8 (by kernel_rfl)⟩
      intro v9
      simp only [put_lit, List.set_cons_succ, List.set_cons_zero]
      apply walk_free (fun v w' => RowV wr.heap.size b v w') (fun _ _ _ _ hR h => RowV.last hR h)
      · rfl
      · intro w2 hC hF
        obtain ⟨q, cap, he, hrow⟩ := hF 9 (by kernel_rfl)
        subst he
        simp only [upon]
        go_simp
        exact ⟨Below.refl _ _, q, cap, rfl, hrow⟩
      intro v10
      simp only [put_lit, List.set_cons_succ, List.set_cons_zero]
      apply walk_det
      · rfl
      · intro w2 hC hF
        obtain ⟨q, cap, he, hrow⟩ := hF 9 (by kernel_rfl)
        subst he
        simp only [upon]
        go_simp
        exact ⟨Below.refl _ _, rfl⟩
      simp only [put_lit, List.set_cons_succ, List.set_cons_zero]
      apply walk_free (fun v w' => RowV wr.heap.size b v w') (fun _ _ _ _ hR h => RowV.last hR h)
      · rfl
      · intro w2 hC hF
        simp only [upon]
        go_simp
        exact ⟨Below.refl _ _, hF 10 (by kernel_rfl)⟩
      intro v12
      simp only [put_lit, List.set_cons_succ, List.set_cons_zero]
      apply walk_det
      · rfl
      · intro w2 hC hF
        simp only [upon]
        go_simp
        exact ⟨Below.refl _ _, rfl⟩
      simp only [put_lit, List.set_cons_succ, List.set_cons_zero]
      apply walk_nil
      intro a1 ha1 hFa1
      obtain ⟨vq, vcap, ve, vrow⟩ : RowV wr.heap.size b v12 a1 := hFa1 12
      subst ve
      clear hFa1
      have hpa := hpr.out.below ha1
      obtain ⟨z0, z1, z2, z3, z4⟩ := cells5p hpa.cell
      have hPa := hpa.both.lt P hpa.kp
      have hcell1 := (ha1.cell (p := ⟨lg, k, none⟩) hgl).trans hcell
      have hgl1 := lt_of_cell hcell1
      unfold ofBlock at z0 z1 z2 z3
      go_wp2_with fail
      refine poised_whole (fun x => Below a1.heap.size a1 x) (fun x y => Below x.heap.size x y) (by kernel_rfl) (by kernel_rfl) (by kernel_rfl) (fun _ _ h k => h.trans (k.mono h.size)) ((Below.refl _ _).drew) ?_
      apply Exists.intro
      iterate 3
        apply walk_det
        · rfl
        · intro w2 hC hF
          simp only [upon]
          go_simp
          exact ⟨Below.refl _ _, rfl⟩
        simp only [put_lit, List.set_cons_succ, List.set_cons_zero]
      apply walk_det
      · rfl
      · intro w2 hC hF
        have q2 := (hC.cell (p := ⟨P, 2, none⟩) hPa).trans z2
        have q5 := (hC.cell (p := ⟨lg, k, none⟩) hgl1).trans hcell1
        simp only [upon]
        go_simp
        exact ⟨Below.refl _ _, rfl⟩
      simp only [put_lit, List.set_cons_succ, List.set_cons_zero]
      iterate 2
        apply walk_det
        · rfl
        · intro w2 hC hF
          simp only [upon]
          go_simp
          exact ⟨Below.refl _ _, rfl⟩
        simp only [put_lit, List.set_cons_succ, List.set_cons_zero]
      iterate 2
        apply walk_det
        · rfl
        · intro w2 hC hF
          have q2 := (hC.cell (p := ⟨P, 2, none⟩) hPa).trans z2
          have q5 := (hC.cell (p := ⟨lg, k, none⟩) hgl1).trans hcell1
          simp only [upon]
          go_simp
          exact ⟨Below.refl _ _, rfl⟩
        simp only [put_lit, List.set_cons_succ, List.set_cons_zero]
      apply walk_free (fun v w' => ReadV a1.heap.size b c v w') (fun _ _ _ _ hR h => ReadV.last hR h)
      · rfl
      · intro w2 hC hF
        simp only [upon]
        go_simp
        exact readV_of hC.size (hr2.out w2 _ (hpa.below hC))
      intro u8
      simp only [put_lit, List.set_cons_succ, List.set_cons_zero]
      apply walk_free (fun v w' => ReadV a1.heap.size b c v w') (fun _ _ _ _ hR h => ReadV.last hR h)
      · rfl
      · intro w2 hC hF
        simp only [upon]
        go_simp
        exact ⟨Below.refl _ _, hF 8 (by kernel_rfl)⟩
      intro u9
      simp only [put_lit, List.set_cons_succ, List.set_cons_zero]
      apply walk_free (fun v w' => RowV a1.heap.size b v w') (fun _ _ _ _ hR h => RowV.last hR h)
      · rfl
      · intro w2 hC hF
        obtain ⟨q, cap, he, hrow⟩ := hF 9 (by kernel_rfl)
        subst he
        simp only [upon]
        go_simp
        exact ⟨Below.refl _ _, q, cap, rfl, hrow⟩
      intro u10
      simp only [put_lit, List.set_cons_succ, List.set_cons_zero]
      apply walk_det
      · rfl
      · intro w2 hC hF
        obtain ⟨q, cap, he, hrow⟩ := hF 9 (by kernel_rfl)
        subst he
        simp only [upon]
        go_simp
        exact ⟨Below.refl _ _, rfl⟩
      simp only [put_lit, List.set_cons_succ, List.set_cons_zero]
      apply walk_free (fun v w' => RowV a1.heap.size b v w') (fun _ _ _ _ hR h => RowV.last hR h)
      · rfl
      · intro w2 hC hF
        simp only [upon]
        go_simp
        exact ⟨Below.refl _ _, hF 10 (by kernel_rfl)⟩
      intro u12
      simp only [put_lit, List.set_cons_succ, List.set_cons_zero]
      apply walk_det
      · rfl
      · intro w2 hC hF
        simp only [upon]
        go_simp
        exact ⟨Below.refl _ _, rfl⟩
      simp only [put_lit, List.set_cons_succ, List.set_cons_zero]
      apply walk_nil
      intro a2 ha2 hFa2
      obtain ⟨uq, ucap, ue, urow⟩ : RowV a1.heap.size b u12 a2 := hFa2 12
      subst ue
      clear hFa2
      have vrow2 := own_kept vrow ha2
      have hpb := hpa.below ha2
      have heq := eqBytes_any (.slice vq b.length vcap) (.slice uq b.length ucap) b b a2 (row_bytes vrow2 hbx.out (by omega)) (row_bytes urow hbx.out (by omega))
      rw [decide_eq_true rfl] at heq
      have hrow2 := own_kept (own_kept hrowr ha1) ha2
      go_wp2_with (go_at_call 78; refine heq.mono ?_; clear heq; rintro e a3 ⟨rfl, hb3⟩
                   have hpc := hpb.below hb3
                   obtain ⟨s0, s1, s2, s3, s4⟩ := cells5p hpc.cell
                   have sf := free_of hpc.cell 4
                   have hrow3 := own_kept hrow2 hb3
                   unfold ofBlock at s0 s1 s2 s3)
      go_roundw
      case rel =>
        obtain ⟨hpd, hkd⟩ := hpc.stored
        exact ⟨k + 1, by omega, by go_num, hpd, hkr.trans ((((hpr.out.both.kept ha1).trans (hpa.both.kept ha2)).trans (hpb.both.kept hb3)).trans hkd), hkd.row hrow3 (fun g hg => .inr hg)⟩
      case measure => simp [intOf]; omega
    · obtain rfl : k = S.length := by omega
      have hkw : Kept (fun g => g = P ∨ g = J ∨ g = M) n₀ w wr := hk1.trans (hkr.sub (fun g hg => .inl hg))
      clear hrL hrR hSl hby
      have hj := h.out.pj
      have hjr : JnlAt wr J pd j.many j.kept j.br := (hkw.same J (.inr (.inl rfl))).trans hj.jnl
      have hmr : RjAt wr M pu r.many r.safe r.br := (hkw.same M (.inr (.inr rfl))).trans hj.rj
      obtain ⟨c0, c1, c2, c3⟩ := cells4 hmr
      have hMr := hpr.both.lt M (.inl (.inr (.inr rfl)))
      have e1 := h.out.al.many
      have e2 := h.out.al.safe
      have e3 := h.out.al.br
      have hle := fun W h => len_any W J pd j.many j.kept j.br h
      have hke := fun W h => kept_any W J pd j.many j.kept j.br h
      have hbe := fun W h => broken_any W J pd j.many j.kept j.br h
      have fin : ∀ w' : World, PV w' P pd pu n₀ m j.s r.d (ofBlock J) (ofBlock M) (fun g => (g = P ∨ g = J ∨ g = M) ∨ rowK (.slice lq S.length lcap) g) → Kept (fun g => (g = P ∨ g = J ∨ g = M) ∨ rowK (.slice lq S.length lcap) g) n₀ wr w' → PairIn w' P pd pu n₀ m ∧ Below n₀ w w' := fun w' hp hk => by
        have hk2 := hk.sub (K' := (fun g => g = P ∨ g = J ∨ g = M)) (fun g hg => .inl hg)
        refine ⟨.inr ⟨J, M, j, r, { hj with both := ?_, cell := hp.cell, jnl := (hk2.same J (.inr (.inl rfl))).trans hjr, rj := (hk2.same M (.inr (.inr rfl))).trans hmr }, h.out.al, h.out.many⟩, (hkw.trans hk2).below⟩
        exact hp.both.sub (fun g hg => .inl hg)
      clear hj
      replace fin : Hid _ := fin
      replace hjr : Hid (JnlAt wr J pd j.many j.kept j.br) := hjr
      replace hmr : Hid (RjAt wr M pu r.many r.safe r.br) := hmr
      replace hpr : Hid (PV wr P pd pu n₀ m j.s r.d (ofBlock J) (ofBlock M) (fun g => (g = P ∨ g = J ∨ g = M) ∨ rowK (.slice lq S.length lcap) g)) := hpr
      rw [← e1] at c1
      rw [← e2] at c2
      rw [← e3] at c3
      clear e1 e2 e3
      cases hbr : j.br
      all_goals
        rw [hbr] at c3 hle hke hbe
        simp only [Bool.false_eq_true, if_false, if_true] at hle hke hbe
        unfold ofBlock at hle hke hbe
        replace hle : Hid _ := hle
        replace hke : Hid _ := hke
        replace hbe : Hid _ := hbe
        go_wp2_with fail
        go_quiet (fail)
        go_wp2_with fail
        refine poised_then 40 (fun x => Below wr.heap.size wr x) (fun x y => Below wr.heap.size x y) (by kernel_rfl) (by kernel_rfl) (by kernel_rfl) (fun _ _ h k => h.trans k) ((below_drewN (Below.refl _ _) _).drew) ?_
        apply Exists.intro
        simp only [List.take_succ_cons, List.take_zero]
        iterate 4
          apply walk_det
          · rfl
          · intro w2 hC hF
            simp only [upon]
            go_simp
            exact ⟨Below.refl _ _, rfl⟩
          simp only [put_lit, List.set_cons_succ, List.set_cons_zero]
        apply walk_det
        · rfl
        · intro w2 hC hF
          have q1 := (hC.cell (p := ⟨P, 1, none⟩) hPr).trans y1
          have q3 := (hC.cell (p := ⟨P, 3, none⟩) hPr).trans y3
          have q4 := (hC.cell (p := ⟨P, 4, none⟩) hPr).trans y4
          have c3 := (hC.cell (p := ⟨M, 3, none⟩) hMr).trans c3
          have hjc := hjr.out.below hC
          rw [hbr] at hjc
          simp only [upon]
          go_simp
          exact ⟨Below.refl _ _, rfl⟩
        simp only [put_lit, List.set_cons_succ, List.set_cons_zero]
        iterate 4
          apply walk_det
          · rfl
          · intro w2 hC hF
            simp only [upon]
            go_simp
            exact ⟨Below.refl _ _, rfl⟩
          simp only [put_lit, List.set_cons_succ, List.set_cons_zero]
        apply walk_det
        · rfl
        · intro w2 hC hF
          have q1 := (hC.cell (p := ⟨P, 1, none⟩) hPr).trans y1
          have q3 := (hC.cell (p := ⟨P, 3, none⟩) hPr).trans y3
          have q4 := (hC.cell (p := ⟨P, 4, none⟩) hPr).trans y4
          have c3 := (hC.cell (p := ⟨M, 3, none⟩) hMr).trans c3
          have hjc := hjr.out.below hC
          rw [hbr] at hjc
          simp only [upon]
          go_simp
          exact ⟨Below.refl _ _, rfl⟩
        simp only [put_lit, List.set_cons_succ, List.set_cons_zero]
        apply walk_det
        · rfl
        · intro w2 hC hF
          have q1 := (hC.cell (p := ⟨P, 1, none⟩) hPr).trans y1
          have q3 := (hC.cell (p := ⟨P, 3, none⟩) hPr).trans y3
          have q4 := (hC.cell (p := ⟨P, 4, none⟩) hPr).trans y4
          have c3 := (hC.cell (p := ⟨M, 3, none⟩) hMr).trans c3
          have hjc := hjr.out.below hC
          rw [hbr] at hjc
          simp only [upon]
          go_simp
          exact still_call (hle.out w2 hjc)
        simp only [put_lit, List.set_cons_succ, List.set_cons_zero]
        iterate 7
          apply walk_det
          · rfl
          · intro w2 hC hF
            simp only [upon]
            go_simp
            exact ⟨Below.refl _ _, rfl⟩
          simp only [put_lit, List.set_cons_succ, List.set_cons_zero]
        apply walk_det
        · rfl
        · intro w2 hC hF
          have q1 := (hC.cell (p := ⟨P, 1, none⟩) hPr).trans y1
          have q3 := (hC.cell (p := ⟨P, 3, none⟩) hPr).trans y3
          have q4 := (hC.cell (p := ⟨P, 4, none⟩) hPr).trans y4
          have c3 := (hC.cell (p := ⟨M, 3, none⟩) hMr).trans c3
          have hjc := hjr.out.below hC
          rw [hbr] at hjc
          simp only [upon]
          go_simp
          exact ⟨Below.refl _ _, rfl⟩
        simp only [put_lit, List.set_cons_succ, List.set_cons_zero]
        apply walk_det
        · rfl
        · intro w2 hC hF
          have q1 := (hC.cell (p := ⟨P, 1, none⟩) hPr).trans y1
          have q3 := (hC.cell (p := ⟨P, 3, none⟩) hPr).trans y3
          have q4 := (hC.cell (p := ⟨P, 4, none⟩) hPr).trans y4
          have c3 := (hC.cell (p := ⟨M, 3, none⟩) hMr).trans c3
          have hjc := hjr.out.below hC
          rw [hbr] at hjc
          simp only [upon]
          go_simp
          exact still_call (hke.out w2 hjc)
        simp only [put_lit, List.set_cons_succ, List.set_cons_zero]
        iterate 7
          apply walk_det
          · rfl
          · intro w2 hC hF
            simp only [upon]
            go_simp
            exact ⟨Below.refl _ _, rfl⟩
          simp only [put_lit, List.set_cons_succ, List.set_cons_zero]
        apply walk_det
        · rfl
        · intro w2 hC hF
          have q1 := (hC.cell (p := ⟨P, 1, none⟩) hPr).trans y1
          have q3 := (hC.cell (p := ⟨P, 3, none⟩) hPr).trans y3
          have q4 := (hC.cell (p := ⟨P, 4, none⟩) hPr).trans y4
          have c3 := (hC.cell (p := ⟨M, 3, none⟩) hMr).trans c3
          have hjc := hjr.out.below hC
          rw [hbr] at hjc
          simp only [upon]
          go_simp
          exact ⟨Below.refl _ _, rfl⟩
        simp only [put_lit, List.set_cons_succ, List.set_cons_zero]
        apply walk_det
        · rfl
        · intro w2 hC hF
          have q1 := (hC.cell (p := ⟨P, 1, none⟩) hPr).trans y1
          have q3 := (hC.cell (p := ⟨P, 3, none⟩) hPr).trans y3
          have q4 := (hC.cell (p := ⟨P, 4, none⟩) hPr).trans y4
          have c3 := (hC.cell (p := ⟨M, 3, none⟩) hMr).trans c3
          have hjc := hjr.out.below hC
          rw [hbr] at hjc
          simp only [upon]
          go_simp
          exact still_call (hbe.out w2 hjc)
        simp only [put_lit, List.set_cons_succ, List.set_cons_zero]
        iterate 3
          apply walk_det
          · rfl
          · intro w2 hC hF
            simp only [upon]
            go_simp
            exact ⟨Below.refl _ _, rfl⟩
          simp only [put_lit, List.set_cons_succ, List.set_cons_zero]
        apply walk_det
        · rfl
        · intro w2 hC hF
          have q1 := (hC.cell (p := ⟨P, 1, none⟩) hPr).trans y1
          have q3 := (hC.cell (p := ⟨P, 3, none⟩) hPr).trans y3
          have q4 := (hC.cell (p := ⟨P, 4, none⟩) hPr).trans y4
          have c3 := (hC.cell (p := ⟨M, 3, none⟩) hMr).trans c3
          have hjc := hjr.out.below hC
          rw [hbr] at hjc
          simp only [upon]
          go_simp
          exact ⟨Below.refl _ _, rfl⟩
        simp only [put_lit, List.set_cons_succ, List.set_cons_zero]
        iterate 2
          apply walk_det
          · rfl
          · intro w2 hC hF
            simp only [upon]
            go_simp
            exact ⟨Below.refl _ _, rfl⟩
          simp only [put_lit, List.set_cons_succ, List.set_cons_zero]
        apply walk_det
        · rfl
        · intro w2 hC hF
          have q1 := (hC.cell (p := ⟨P, 1, none⟩) hPr).trans y1
          have q3 := (hC.cell (p := ⟨P, 3, none⟩) hPr).trans y3
          have q4 := (hC.cell (p := ⟨P, 4, none⟩) hPr).trans y4
          have c3 := (hC.cell (p := ⟨M, 3, none⟩) hMr).trans c3
          have hjc := hjr.out.below hC
          rw [hbr] at hjc
          simp only [upon]
          go_simp
          exact ⟨Below.refl _ _, rfl⟩
        simp only [put_lit, List.set_cons_succ, List.set_cons_zero]
        iterate 4
          apply walk_det
          · rfl
          · intro w2 hC hF
            simp only [upon]
            go_simp
            exact ⟨Below.refl _ _, rfl⟩
          simp only [put_lit, List.set_cons_succ, List.set_cons_zero]
        apply walk_nil
        intro a1 ha1 _
        simp only [List.drop_succ_cons, List.drop_zero]
        obtain ⟨s0, s1, s2, s3, s4⟩ := cells5p (hpr.out.below ha1).cell
        have sf := free_of (hpr.out.below ha1).cell 4
        have hpz := hpr.out.below ha1
        have hkz := hpr.out.both.kept ha1
        replace hpz : Hid (PV a1 P pd pu n₀ m j.s r.d (ofBlock J) (ofBlock M) (fun g => (g = P ∨ g = J ∨ g = M) ∨ rowK (.slice lq S.length lcap) g)) := hpz
        go_wp2_with fail
        go_returns
        obtain ⟨hpd, hkd⟩ := hpz.out.stored
        exact ⟨rfl, fin.out _ hpd (hkz.trans hkd)⟩
end Go.Proofs.YtmcmagplaflegaaGreatDoor

namespace Go.Proofs.YtmcmagplaflegaaGreatDoor
open Go Go.RowKit Go.MapL Go.Poised

variable {P pd pu J M n₀ m m' : Nat} {s s' : DS} {d d' : RD} {j j' : Jn} {r r' : Jr} {jv mv : Value} {w w' w'' W : World} {K K' : Nat → Prop}
theorem step_any (w0 : World) (x : De) (bv lv kv : Value) (hd : DeIn w0 x bv lv kv) (h : PairIn w P pd pu w0.heap.size m) (hB : Below w0.heap.size w0 w) (hm : m < 50000000) :
    Calls Tryz.prog 27 #[ofBlock P, .agg #[.int .i64 x.kind, .int .i64 x.n, bv, lv, kv]] w fun e w' => StepOk w0 w' P pd pu m e := by
  have h1 := Int.emod_nonneg x.kind (b := 8) (by omega)
  have h2 := Int.emod_lt_of_pos x.kind (b := 8) (by omega)
  obtain ⟨s, d, jv, mv, K, hp, ha, hback⟩ := h.view
  rcases (show x.kind % 8 = 3 ∨ x.kind % 8 = 4 ∨ x.kind % 8 = 5 ∨ x.kind % 8 = 6 ∨ x.kind % 8 = 7 ∨ x.kind % 8 = 0 ∨ x.kind % 8 = 1 ∨ x.kind % 8 = 2 by omega) with hk | hk | hk | hk | hk | hk
  · exact step3_any w0 x bv lv kv hd hk hp ha hB hm
  · exact step4_any w0 x bv lv kv hd hk hp ha hB hm hback
  · exact step5_any w0 x bv lv kv hd hk hp ha hB hm
  · exact step6_any w0 x bv lv kv hd hk hp ha hB hm hback
  · exact step7_any w0 x bv lv kv hd hk hp ha hB hm hback
  · rcases h with ⟨s, d, h⟩ | ⟨J, M, j, r, h⟩
    · rcases hk with hk | hk | hk
      · exact stepn0_any w0 x bv lv kv hd hk h hB
      · exact stepn1_any w0 x bv lv kv hd hk h hB
      · exact stepn2_any w0 x bv lv kv hd hk h hB
    · rcases hk with hk | hk | hk
      · exact step0_any w0 x bv lv kv hd hk h hB hm
      · exact step1_any w0 x bv lv kv hd hk h hB hm
      · exact step2_any w0 x bv lv kv hd hk h hB hm
theorem tells_any (h : PairIn w P pd pu n₀ m) (hm : m < 50000000) : Calls Tryz.prog 28 #[ofBlock P] w fun e w' => e = .returned (.tuple #[]) ∧ PairIn w' P pd pu n₀ m ∧ Below n₀ w w' := by
  rcases h with ⟨s, d, h⟩ | ⟨J, M, j, r, h⟩
  · exact tells_closed h hm
  · exact tells_open h hm
set_option maxRecDepth 100000 in
set_option maxHeartbeats 8000000 in
theorem does_walk (room : Int) (v : Value) (D : List De) (w : World) (hr1 : -9223372036854775808 ≤ room) (hr2 : room ≤ 9223372036854775807) (hD : DesIn w v D) :
    Calls Tryz.prog 6 #[.int .i64 room, v] w fun e w' => e = .returned (.bool true) ∧ Below w.heap.size w w' := by
  obtain ⟨hDl, q, cap, rfl, hDc⟩ := hD
  have hbr := fun W => bringB_any room 1048577 (by omega) (by omega) hr1 hr2 W
  have g1 := Int.emod_nonneg room (b := 1048577) (by omega)
  have g2 := Int.emod_lt_of_pos room (b := 1048577) (by omega)
  obtain ⟨N, hN⟩ : ∃ N : Nat, room % 1048577 = N := ⟨(room % 1048577).toNat, by omega⟩
  rw [hN] at hbr
  have hN1 : N ≤ 16777216 := by omega
  clear g1 g2 hN
  have hnew := live_new N hN1 w
  have hnewR := fun W => rlive_new N hN1 W
  have haw := fun W => awake_any W
  replace hDc : Hid _ := hDc
  replace hbr : Hid _ := hbr
  replace hnewR : Hid _ := hnewR
  replace haw : Hid _ := haw
  unfold ofBlock at *
  go_enter Tryz.func6, Tryz.ntmps6
  go_wp2_with (first
    | (go_at_call 17; refine (hbr.out _).mono ?_; rintro e w1 ⟨rfl, hw1⟩; obtain rfl := hw1.symm)
    | (go_at_call 9; refine hnew.mono ?_; clear hnew; rintro e w2 ⟨rfl, hb2, hL2⟩)
    | (go_at_call 25; refine (hnewR.out _).mono ?_; rintro e w3 ⟨rfl, hb3, hR3⟩
       have hB3 : Both w3 (w.heap.size + 2) w2.heap.size w.heap.size 0 (DS.new N) (RD.new N) (fun _ => False) := Both.make hL2 hb3 hR3 (fun g hg => hg.elim) hb2.size (fun g hg => hg.elim)
       have hba := (Below.refl w3.heap.size w3).alloc (Nat.le_refl _) (pairO (w.heap.size + 2) w2.heap.size (.pointer none) (.pointer none) true)
       have hp4 : PV (w3.alloc (pairO (w.heap.size + 2) w2.heap.size (.pointer none) (.pointer none) true)) w3.heap.size (w.heap.size + 2) w2.heap.size w.heap.size 0 (DS.new N) (RD.new N) (.pointer none) (.pointer none) (fun g => g = w3.heap.size) := ⟨hB3.more hba (fun g hg => .inr ⟨by omega, by rw [hg]; simp⟩), heap_new _ _, rfl, hB3.base⟩
       have hop := opens_any hp4 (alike_new hN1) (by omega)
       have hB4 := (hb2.trans (hb3.mono hb2.size)).trans (hba.mono (Nat.le_trans hb2.size hb3.size))
       unfold pairO ofBlock at hop hB4)
    | (go_at_call 26; refine hop.mono ?_; clear hop; rintro e w5 ⟨rfl, hpi, hb5⟩
       have hB5 := hB4.trans hb5))
  clear hp4 hba hB4 hB3 hR3 hL2
  go_loopw [11] (fun i wr => ∃ k : Nat, k ≤ D.length ∧ k ≤ 60 ∧ i = .int .i64 k ∧ PairIn wr w3.heap.size (w.heap.size + 2) w2.heap.size w.heap.size (6 + 8 * k) ∧ Below w.heap.size w wr) (fun i _ => D.length - (intOf i).toNat)
  case atStart => exact ⟨0, Nat.zero_le _, by omega, rfl, hpi, hB5⟩
  case round =>
    clear hpi hB5 hb5
    obtain ⟨k, hk, hk60, rfl, hpi, hB⟩ := hrel
    have hfi := hpi.fine
    have three : ∀ P : Prop, ((k : Int) < (D.length : Int) → (k : Int) < 60 → k < D.length → P) → (¬ (k : Int) < (D.length : Int) → P) → ((k : Int) < (D.length : Int) → ¬ (k : Int) < 60 → P) → P := by
      intro P a1 a2 a3
      by_cases b1 : (k : Int) < (D.length : Int)
      · by_cases b2 : (k : Int) < 60
        · exact a1 b1 b2 (by omega)
        · exact a3 b1 b2
      · exact a2 b1
    apply three
    · intro hlt hlt60 hltN
      clear three
      obtain ⟨b, off, bv, lv, kv, rfl, hd, x0, x1, x2, x3, x4⟩ := hDc.out k hltN
      have c0 := (hB.cell (p := ⟨b, off + k * 5, none⟩) (lt_of_cell x0)).trans x0
      have c1 := (hB.cell (p := ⟨b, off + k * 5 + 1, none⟩) (lt_of_cell x1)).trans x1
      have c2 := (hB.cell (p := ⟨b, off + k * 5 + 2, none⟩) (lt_of_cell x2)).trans x2
      have c3 := (hB.cell (p := ⟨b, off + k * 5 + 3, none⟩) (lt_of_cell x3)).trans x3
      have c4 := (hB.cell (p := ⟨b, off + k * 5 + 4, none⟩) (lt_of_cell x4)).trans x4
      clear x0 x1 x2 x3 x4
      have hst := step_any w D[k] bv lv kv hd hpi hB (by omega)
      generalize D[k] = x at *
      obtain ⟨kind, n, db, dl, dk⟩ := x
      simp only at c0 c1 hst
      replace hpi : Hid (PairIn wr w3.heap.size (w.heap.size + 2) w2.heap.size w.heap.size (6 + 8 * k)) := hpi
      replace hd : Hid (DeIn w _ bv lv kv) := hd
      unfold ofBlock at hst
      go_wp2_with (first
        | (go_at_call 27; refine hst.mono ?_; clear hst; rintro e w6 hso; obtain ⟨rfl, hpj, hB6⟩ := hso
           have hte := tells_any hpj (by omega)
           unfold ofBlock at hte
           replace hpj : Hid (PairIn w6 w3.heap.size (w.heap.size + 2) w2.heap.size w.heap.size (6 + 8 * k + 8)) := hpj)
        | (go_at_call 28; refine hte.mono ?_; clear hte; rintro e w7 ⟨rfl, hpk, hb7⟩))
      go_roundw
      case rel => exact ⟨k + 1, by omega, by omega, by go_num, hpk, hB6.trans hb7⟩
      case measure => simp [intOf]; omega
    · intro hlt
      clear three
      replace hpi : Hid (PairIn wr w3.heap.size (w.heap.size + 2) w2.heap.size w.heap.size (6 + 8 * k)) := hpi
      go_wp2_with (go_at_call 16; refine (haw.out _).mono ?_; rintro e w8 ⟨rfl, hb8⟩)
      go_returns
      exact ⟨rfl, hB.trans (hb8.mono hB.size)⟩
    · intro hlt hlt60
      clear three
      replace hpi : Hid (PairIn wr w3.heap.size (w.heap.size + 2) w2.heap.size w.heap.size (6 + 8 * k)) := hpi
      go_wp2_with (go_at_call 16; refine (haw.out _).mono ?_; rintro e w8 ⟨rfl, hb8⟩)
      go_returns
      exact ⟨rfl, hB.trans (hb8.mono hB.size)⟩
end Go.Proofs.YtmcmagplaflegaaGreatDoor
