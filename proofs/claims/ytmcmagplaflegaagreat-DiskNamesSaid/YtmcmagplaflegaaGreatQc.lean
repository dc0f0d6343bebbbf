/-
  INTS COPIED, INTS AND NAMES ALIKE, WHAT ROOM IS LEFT. Conditions: those of each theorem.
-/
import Derived.Test.YtmcmagplaflegaaGreatQa
namespace Go.Proofs.YtmcmagplaflegaaGreat
open Go Go.RowKit Go.MapL Go.Poised

theorem texts_cell {w : World} {n : Nat} {v : Value} {l : List ByteArray} (h : w.ownsRow n 9 1 v l.length (l.map Value.string)) (k : Nat) (hk : k < l.length) : ∃ g cap, v = .slice (some ⟨g, 0, none⟩) l.length cap ∧ w.cell? ⟨g, k, none⟩ = some (.string l[k]) := by
  have h' : w.ownsRow n 9 1 v (l.map Value.string).length (l.map Value.string) := by rw [List.length_map]; exact h
  obtain ⟨g, cap, h1, h2⟩ := own_cell h' k (.string l[k]) (by simp [hk])
  rw [List.length_map] at h1
  exact ⟨g, cap, h1, h2⟩
set_option maxHeartbeats 2000000 in
theorem sameNames_any (v u : Value) (l : List ByteArray) (w : World) (n n' : Nat) (hl : l.length ≤ 1000000000) (hv : w.ownsRow n 9 1 v l.length (l.map Value.string)) (hu : w.ownsRow n' 9 1 u l.length (l.map Value.string)) :
    Calls Tryz.prog 115 #[v, u] w fun e w' => e = .returned (.bool true) ∧ Below w.heap.size w w' := by
  have hc := texts_cell hv
  have hd := texts_cell hu
  obtain ⟨vq, vcap, rfl⟩ := own_shape hv
  obtain ⟨uq, ucap, rfl⟩ := own_shape hu
  have hne : ((l.length : Int) != (l.length : Int)) = false := by simp
  clear hv hu
  go_enter Tryz.func115, Tryz.ntmps115
  go_wp2
  go_loopw [5] (fun i wr => ∃ k : Nat, k ≤ l.length ∧ i = .int .i64 k ∧ Below w.heap.size w wr) (fun i _ => l.length - (intOf i).toNat)
  case atStart => exact ⟨0, by omega, rfl, Below.refl _ _⟩
  case round =>
    obtain ⟨k, hk, rfl, hB⟩ := hrel
    by_cases hlt : k < l.length
    · obtain ⟨g, cap, e1, hcb⟩ := hc k hlt
      obtain ⟨g', cap', e2, hdb⟩ := hd k hlt
      cases e1
      cases e2
      have hcell : wr.cell? ⟨g, k, none⟩ = some (.string l[k]) := (hB.cell (p := ⟨g, k, none⟩) (lt_of_cell hcb)).trans hcb
      have hdell : wr.cell? ⟨g', k, none⟩ = some (.string l[k]) := (hB.cell (p := ⟨g', k, none⟩) (lt_of_cell hdb)).trans hdb
      clear hc hd hcb hdb
      generalize l[k] = x at *
      have hxx : (x.toList != x.toList) = false := by simp
      have hxy : (x.toList == x.toList) = true := by simp
      have k1 : (0 : Int) ≤ (k : Int) := by omega
      have k2 : (k : Int) < (l.length : Int) := by omega
      go_wp2
      go_quiet (fail)
      go_wp2
      go_roundw
      case rel => exact ⟨k + 1, by omega, by go_num, ⟨hB.1, hB.2, hB.3, hB.4, hB.5⟩⟩
      case measure => simp [intOf]; omega
    · go_wp2
      go_returns
      exact ⟨rfl, hB⟩

theorem ints_parts {w : World} {v : Value} {l : List Int} (h : IntsIn w v l) : ∃ p cap, v = .slice p l.length cap ∧ ∀ k, k < l.length → ∃ b off, p = some ⟨b, off, none⟩ ∧ w.cell? ⟨b, off + k, none⟩ = some (.int .i64 (l.getD k 0)) := by
  obtain ⟨_, _, ⟨rfl, rfl⟩ | ⟨a, cap, rfl, rfl⟩ | ⟨b, off, cap, rfl, hc⟩⟩ := h
  · exact ⟨none, 0, rfl, fun k hk => by simp at hk⟩
  · exact ⟨some a, cap, rfl, fun k hk => by simp at hk⟩
  · exact ⟨some ⟨b, off, none⟩, cap, rfl, fun k hk => ⟨b, off, rfl, hc k hk⟩⟩
set_option maxRecDepth 100000 in
set_option maxHeartbeats 2000000 in
theorem copyInts_any (v : Value) (l : List Int) (w : World) (hv : IntsIn w v l) (hl : l.length ≤ 17592186044416) :
    Calls Tryz.prog 64 #[v] w fun e w' => ∃ v', e = .returned v' ∧ w'.ownsRow w.heap.size 3 1 v' l.length (encI l) ∧ Below w.heap.size w w' := by
  have hv0 := hv
  obtain ⟨p, cap, rfl, _⟩ := ints_parts hv
  go_enter Tryz.func64, Tryz.ntmps64
  go_wp2_with (at_builtin; refine wpList_append_ints _ rfl _ _ rfl w.heap.size (.slice none 0 0) (.slice p l.length cap) [] l rfl rfl (World.ownsRow_nil _ _ _ _) hv0 (by simp; omega) (Nat.le_refl _) ?_; intro v' w' hr hg _; rw [List.nil_append] at hr; have hB : Below w.heap.size w w' := below_grown (World.ownsRow_nil w w.heap.size 3 1) (Nat.le_refl _) hg; obtain ⟨q, cap', rfl⟩ := own_shape hr)
  go_returns
  exact ⟨_, rfl, hr, hB⟩
set_option maxHeartbeats 2000000 in
theorem eqInts_same (v u : Value) (l : List Int) (w : World) (hv : IntsIn w v l) (hu : IntsIn w u l) :
    Calls Tryz.prog 67 #[v, u] w fun e w' => e = .returned (.bool true) ∧ Below w.heap.size w w' := by
  have hll := hv.2.1
  obtain ⟨p, cap, rfl, hc⟩ := ints_parts hv
  obtain ⟨q, cap', rfl, hd⟩ := ints_parts hu
  have hne : ((l.length : Int) != (l.length : Int)) = false := by simp
  clear hv hu
  go_enter Tryz.func67, Tryz.ntmps67
  go_wp2
  go_loopw [5] (fun i wr => ∃ k : Nat, k ≤ l.length ∧ i = .int .i64 k ∧ Below w.heap.size w wr) (fun i _ => l.length - (intOf i).toNat)
  case atStart => exact ⟨0, by omega, rfl, Below.refl _ _⟩
  case round =>
    obtain ⟨k, hk, rfl, hB⟩ := hrel
    by_cases hlt : k < l.length
    · obtain ⟨b, off, rfl, hcb⟩ := hc k hlt
      obtain ⟨b', off', rfl, hdb⟩ := hd k hlt
      have hcell : wr.cell? ⟨b, off + k, none⟩ = some (.int .i64 (l.getD k 0)) := (hB.cell (p := ⟨b, off + k, none⟩) (lt_of_cell hcb)).trans hcb
      have hdell : wr.cell? ⟨b', off' + k, none⟩ = some (.int .i64 (l.getD k 0)) := (hB.cell (p := ⟨b', off' + k, none⟩) (lt_of_cell hdb)).trans hdb
      clear hc hd hcb hdb
      generalize l.getD k 0 = x at *
      have hxx : (x != x) = false := by simp
      have k1 : (0 : Int) ≤ (k : Int) := by omega
      have k2 : (k : Int) < (l.length : Int) := by omega
      go_wp2
      go_quiet (fail)
      go_wp2
      go_roundw
      case rel => exact ⟨k + 1, by omega, by go_num, ⟨hB.1, hB.2, hB.3, hB.4, hB.5⟩⟩
      case measure => simp [intOf]; omega
    · go_wp2
      go_returns
      exact ⟨rfl, hB⟩

variable {p n₀ : Nat} {r : RRep} {d : RD}
theorem RD.used_le (hw : RWF d) : d.used ≤ d.files.length * 16777216 := usedTo_le hw _ (Nat.le_refl _)
set_option maxRecDepth 100000 in
set_option maxHeartbeats 2000000 in
theorem leftR_any (w : World) (h : RLies w p n₀ r d) (hw : RWF d) :
    Calls Tryz.prog 116 #[ofBlock p] w fun e w' => e = .returned (.int .i64 (if d.dead then 0 else (d.room : Int) - d.used)) ∧ Below w.heap.size w w' := by
  have hu := RD.used_le hw
  have hroom := hw.room
  have hfl := hw.files
  have hused := fun W (hL : RLies W p n₀ r d) => usedR_any W hL hw
  obtain ⟨u, hue⟩ : ∃ u, d.used = u := ⟨_, rfl⟩
  simp only [hue] at hu hused ⊢
  have g1 : IntKind.i64.wrap ((d.room : Int) - u) = (d.room : Int) - u := IntWalk.i64_in _ (by omega)
  obtain ⟨c0, c1, c2, c3, c4, c5, c6, c7⟩ := h.cells
  have hp := lt_of_cell c0
  clear c1 c2 c3 c4 c6 c7 hue
  replace hused : Hid _ := hused
  unfold ofBlock at *
  cases hdd : d.dead
  · rw [hdd] at c5
    go_enter Tryz.func116, Tryz.ntmps116
    go_wp2_with fail
    refine poised_whole (fun w2 => Below w.heap.size w w2) (fun w1 w2 => Below w.heap.size w1 w2) (by kernel_rfl) (by kernel_rfl) (by kernel_rfl) (fun _ _ h k => h.trans k) ((Below.refl _ _).drew) ?_
    apply Exists.intro
    iterate 3
      apply walk_det
      · rfl
      · intro w2 hC hF
        simp only [upon]
        go_simp
        exact ⟨Below.refl _ _, rfl⟩
      simp only [put_lit, List.set_cons_succ, List.set_cons_zero]
    apply walk_det
    · rfl
    · intro w2 hC hF
      have e0 := (hC.cell (p := ⟨p, 0, none⟩) hp).trans c0
      simp only [upon]
      go_simp
      exact ⟨Below.refl _ _, rfl⟩
    simp only [put_lit, List.set_cons_succ, List.set_cons_zero]
    apply walk_det
    · rfl
    · intro w2 hC hF
      simp only [upon]
      go_simp
      exact ⟨Below.refl _ _, rfl⟩
    simp only [put_lit, List.set_cons_succ, List.set_cons_zero]
    apply walk_det
    · rfl
    · intro w2 hC hF
      simp only [upon]
      go_simp
      exact still_call (hused.out w2 (h.below hC))
    simp only [put_lit, List.set_cons_succ, List.set_cons_zero]
    iterate 2
      apply walk_det
      · rfl
      · intro w2 hC hF
        simp only [upon]
        go_simp
        exact ⟨Below.refl _ _, rfl⟩
      simp only [put_lit, List.set_cons_succ, List.set_cons_zero]
    apply walk_nil
    intro a1 ha1 hFa1
    clear hFa1
    go_wp2_with fail
    go_returns
    exact ⟨rfl, ha1⟩
  · rw [hdd] at c5
    go_enter Tryz.func116, Tryz.ntmps116
    go_wp2_with fail
    go_returns
    exact ⟨rfl, Below.refl _ _⟩
end Go.Proofs.YtmcmagplaflegaaGreat
