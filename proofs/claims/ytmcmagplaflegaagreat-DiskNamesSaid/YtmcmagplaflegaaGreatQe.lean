/-
  DiskDoes, OF ANY DEEDS. Conditions: those of each theorem.
-/
import Derived.Test.YtmcmagplaflegaaGreatQd
import Derived.Test.YtmcmagplaflegaaGreatQb
import Derived.Test.YtmcmagplaflegaaGreatSg
namespace Go.Proofs.YtmcmagplaflegaaGreat
open Go Go.RowKit Go.MapL Go.Poised

variable {pd pu n₀ m : Nat} {s : DS} {d : RD} {w w' W : World} {K : Nat → Prop}
/-- A deed as an argument. -/
structure DdIn (W : World) (x : Dd) (bv kv : Value) : Prop where
  b : BytesIn W bv x.b
  k : IntsIn W kv x.keep
  ok : DdOk x
theorem ints_below {v : Value} {l : List Int} (h : IntsIn w v l) (hb : Below w.heap.size w w') : IntsIn w' v l := by
  obtain ⟨h1, h2, h3⟩ := h
  refine ⟨h1, h2, ?_⟩
  rcases h3 with h3 | h3 | ⟨b, off, cap, rfl, hc⟩
  · exact .inl h3
  · exact .inr (.inl h3)
  · exact .inr (.inr ⟨b, off, cap, rfl, fun k hk => (hb.cell (p := ⟨b, off + k, none⟩) (lt_of_cell (hc k hk))).trans (hc k hk)⟩)
theorem DdIn.below {x : Dd} {bv kv : Value} (h : DdIn w x bv kv) (hb : Below w.heap.size w w') : DdIn w' x bv kv := ⟨BytesIn.below h.b hb, ints_below h.k hb, h.ok⟩
/-- Its seven cells. -/
structure DdAt (W : World) (B at' : Nat) (x : Dd) (bv kv : Value) : Prop where
  c0 : W.cell? ⟨B, at', none⟩ = some (.int .i64 x.kind)
  c1 : W.cell? ⟨B, at' + 1, none⟩ = some (.string x.name)
  c2 : W.cell? ⟨B, at' + 2, none⟩ = some (.string x.to)
  c3 : W.cell? ⟨B, at' + 3, none⟩ = some bv
  c4 : W.cell? ⟨B, at' + 4, none⟩ = some (.int .i64 x.n)
  c5 : W.cell? ⟨B, at' + 5, none⟩ = some (.int .i64 x.bit)
  c6 : W.cell? ⟨B, at' + 6, none⟩ = some kv
theorem DdAt.below {B at' : Nat} {x : Dd} {bv kv : Value} (h : DdAt w B at' x bv kv) (hb : Below w.heap.size w w') : DdAt w' B at' x bv kv :=
  have hB : B < w.heap.size := lt_of_cell h.c0
  ⟨(hb.cell (p := ⟨B, at', none⟩) hB).trans h.c0, (hb.cell (p := ⟨B, at' + 1, none⟩) hB).trans h.c1, (hb.cell (p := ⟨B, at' + 2, none⟩) hB).trans h.c2, (hb.cell (p := ⟨B, at' + 3, none⟩) hB).trans h.c3, (hb.cell (p := ⟨B, at' + 4, none⟩) hB).trans h.c4, (hb.cell (p := ⟨B, at' + 5, none⟩) hB).trans h.c5, (hb.cell (p := ⟨B, at' + 6, none⟩) hB).trans h.c6⟩
/-- Deeds as an argument. -/
def DdsIn (W : World) (v : Value) (D : List Dd) : Prop := D.length ≤ 1000 ∧ ∃ B cap, v = .slice (some ⟨B, 0, none⟩) D.length cap ∧ ∀ k (hk : k < D.length), ∃ bv kv, DdIn W D[k] bv kv ∧ DdAt W B (k * 7) D[k] bv kv
theorem DdsIn.below {v : Value} {D : List Dd} (h : DdsIn w v D) (hb : Below w.heap.size w w') : DdsIn w' v D := by
  obtain ⟨h1, B, cap, h2, h3⟩ := h
  refine ⟨h1, B, cap, h2, fun k hk => ?_⟩
  obtain ⟨bv, kv, h4, h5⟩ := h3 k hk
  exact ⟨bv, kv, h4.below hb, h5.below hb⟩
/-- The stages of a region in which first the one disk is called, then the other. -/
structure StD (pd pu n₀ m : Nat) (ss : Nat → DS) (dd : Nat → RD) (K : Nat → Prop) (W : World) (σ : Nat) (w' : World) : Prop where
  both : Both w' pd pu n₀ (m + 2 * σ) (ss σ) (dd σ) K
  kept : Kept K n₀ W w'
theorem StD.below {ss : Nat → DS} {dd : Nat → RD} {σ : Nat} (h : StD pd pu n₀ m ss dd K W σ w) (hb : Below w.heap.size w w') : Kept K n₀ w w' ∧ StD pd pu n₀ m ss dd K W σ w' :=
  ⟨h.both.kept hb, h.both.below hb, h.kept.trans (h.both.kept hb)⟩
def two {α : Type} (a b : α) (k : Nat) (σ : Nat) : α := if σ ≤ k then a else b
theorem cells7 {w : World} {B : Nat} {c0 c1 c2 c3 c4 c5 c6 : Value} {t : TypeId} (h : w.heap[B]? = some (.cells #[c0, c1, c2, c3, c4, c5, c6] t)) : w.cell? ⟨B, 0, none⟩ = some c0 ∧ w.cell? ⟨B, 1, none⟩ = some c1 ∧ w.cell? ⟨B, 2, none⟩ = some c2 ∧ w.cell? ⟨B, 3, none⟩ = some c3 ∧ w.cell? ⟨B, 4, none⟩ = some c4 ∧ w.cell? ⟨B, 5, none⟩ = some c5 ∧ w.cell? ⟨B, 6, none⟩ = some c6 := by
  simp [World.cell?, h]
set_option maxRecDepth 100000 in
theorem new_no (room : Int) (hroom : room < 0 ∨ 16777216 < room) (w : World) : Calls Tryz.prog 35 #[.int .i64 room] w fun e w' => e = .returned (.tuple #[.pointer none, .int .i64 9]) ∧ Below w.heap.size w w' := by
  rcases hroom with h | h
  · go_enter Tryz.func35, Tryz.ntmps35
    go_wp2
    go_returns
    exact ⟨rfl, Below.refl _ _⟩
  · have h' : ¬ room < 0 := by omega
    go_enter Tryz.func35, Tryz.ntmps35
    go_wp2
    go_returns
    exact ⟨rfl, Below.refl _ _⟩
set_option maxRecDepth 100000 in
theorem newR_no (room : Int) (hroom : room < 0 ∨ 16777216 < room) (w : World) : Calls Tryz.prog 63 #[.int .i64 room] w fun e w' => e = .returned (.tuple #[.pointer none, .int .i64 9]) ∧ Below w.heap.size w w' := by
  rcases hroom with h | h
  · go_enter Tryz.func63, Tryz.ntmps63
    go_wp2
    go_returns
    exact ⟨rfl, Below.refl _ _⟩
  · have h' : ¬ room < 0 := by omega
    go_enter Tryz.func63, Tryz.ntmps63
    go_wp2
    go_returns
    exact ⟨rfl, Below.refl _ _⟩
theorem store_rowI {w : World} {v : Value} {ys : List Int} {g k n₀ : Nat} {x : Int} (h : w.ownsRow n₀ 3 1 v ys.length (encI ys)) :
    ∃ zs : List Int, zs.length = ys.length ∧ (w.setCell ⟨g, k, none⟩ (.int .i64 x)).ownsRow n₀ 3 1 v zs.length (encI zs) := by
  rcases h.2 with h2 | ⟨g2, c, cu, rfl, h3, h4, h5, h6, h7, h8⟩
  · exact ⟨ys, rfl, h.1, .inl h2⟩
  · by_cases e : g2 = g
    · subst e
      refine ⟨ys.set k x, by simp, ?_⟩
      refine ⟨by simp [encI], .inr ⟨g2, c, cu.setIfInBounds k (.int .i64 x), by simp, h3, setCell_heap h4, by simpa using h5, h6, by simpa using h7, ?_⟩⟩
      simp only [Array.toList_setIfInBounds, List.length_set]
      rw [List.take_set, h8]
      unfold encI
      rw [List.map_set]
    · refine ⟨ys, rfl, row_same h (fun k2 hk2 => ?_)⟩
      have hG : Grown (fun k => k = g) w (w.setCell ⟨g, k, none⟩ (.int .i64 x)) := (Grown.refl (fun k => k = g) w).setCell (p := ⟨g, k, none⟩) (.inl rfl) _
      exact hG.block k2 (h.lt k2 hk2).2 (fun e2 => e (by cases hk2; exact e2))
theorem and_xor8 (y : Nat) (hy : y < 256) : bits .xor .u8 (y : Int) 1 = ((y ^^^ 1 : Nat) : Int) := xor8 y 1 hy (by omega)
theorem own_setCell {w : World} {n e size k X i : Nat} {v u : Value} {xs : List Value} (h : w.ownsRow n e size v k xs) (hX : X < n) : (w.setCell ⟨X, i, none⟩ u).ownsRow n e size v k xs := row_same h (fun g hg => Below.heap_setCell _ _ _ _ (show g ≠ X by have := (h.lt g hg).1; omega))
theorem ints_of_own {W : World} {n : Nat} {v : Value} {l : List Int} (h : W.ownsRow n 3 1 v l.length (encI l)) (hb : ∀ x ∈ l, -9223372036854775808 ≤ x ∧ x ≤ 9223372036854775807) (hl : l.length ≤ 1000000) : IntsIn W v l := intsIn_of_own h hb (by omega)
set_option maxRecDepth 100000 in
set_option maxHeartbeats 16000000 in
theorem diskDoes_any (room : Int) (v : Value) (D : List Dd) (w : World) (hr1 : -9223372036854775808 ≤ room) (hr2 : room ≤ 9223372036854775807) (hD : DdsIn w v D) (haw : Hid (∀ W, Calls Tryz.prog 24 #[] W fun e w' => e = .returned (.bool true) ∧ Below W.heap.size W w')) :
    Calls Tryz.prog 23 #[.int .i64 room, v] w fun e w' => e = .returned (.bool true) ∧ Below w.heap.size w w' := by
  obtain ⟨hDl, B0, cap0, rfl, hDk⟩ := hD
  replace hDk : Hid _ := hDk
  by_cases hroom : 0 ≤ room ∧ room ≤ 16777216
  · obtain ⟨N, rfl⟩ : ∃ N : Nat, room = N := ⟨room.toNat, by omega⟩
    have hn := live_new N (by omega) w
    have al0 : Alike 0 (DS.new N) (RD.new N) := alike_new (by omega)
    unfold ofBlock at hn
    go_enter Tryz.func23, Tryz.ntmps23
    go_wp2_with (first
      | (go_at_call 35; refine hn.mono ?_; clear hn; rintro e w1 ⟨rfl, hb1, hL1⟩; have hnr := rlive_new N (by omega) w1; unfold ofBlock at hnr)
      | (go_at_call 63; refine hnr.mono ?_; clear hnr; rintro e w2 ⟨rfl, hb2, hR2⟩))
    have hbo : Both w2 (w.heap.size + 2) w1.heap.size w.heap.size 0 (DS.new N) (RD.new N) (fun _ => False) := Both.make hL1 hb2 hR2 (fun g hg => hg.elim) hb1.size (fun g hg => hg.elim)
    have hB2 : Below w.heap.size w w2 := hb1.trans (hb2.mono hb1.size)
    clear hL1 hR2 hb1 hb2
    generalize w1.heap.size = pu at *
    generalize w.heap.size + 2 = pd at *
    go_loopw [9] (fun i wr => ∃ (k : Nat) (s : DS) (d : RD), k ≤ D.length ∧ k ≤ 100 ∧ i = .int .i64 k ∧ Both wr pd pu w.heap.size (4 * k) s d (fun _ => False) ∧ Alike (4 * k) s d ∧ Below w.heap.size w wr) (fun i _ => 100 - (intOf i).toNat)
    case atStart => exact ⟨0, _, _, by omega, by omega, rfl, hbo, al0, hB2⟩
    case round =>
      clear hbo al0 hB2
      obtain ⟨k, s, d, hk, hk1, rfl, hbo, al, hBw⟩ := hrel
      by_cases hlt : k < D.length ∧ k < 100
      · obtain ⟨hlt, hlt2⟩ := hlt
        have hltI : (k : Int) < (D.length : Int) := by omega
        have hltJ : (k : Int) < 100 := by omega
        obtain ⟨bv, kv, hdi0, hda0⟩ := hDk.out k hlt
        have hdi := hdi0.below hBw
        obtain ⟨c0, c1, c2, c3, c4, c5, c6⟩ := hda0.below hBw
        have hB0 : B0 < wr.heap.size := lt_of_cell c0
        obtain ⟨x, hx⟩ : ∃ x, D[k] = x := ⟨_, rfl⟩
        rw [hx] at hdi hdi0 hda0 c0 c1 c2 c4 c5
        replace hx : Hid _ := hx
        replace hda0 : Hid _ := hda0
        replace hdi0 : Hid _ := hdi0
        obtain ⟨q3, cap3, rfl, _⟩ := bytes_parts hdi.b
        obtain ⟨q6, cap6, rfl, _⟩ := ints_parts hdi.k
        have hdk := hdi.ok
        obtain ⟨kind, nm, to, b, nn, bit, keep⟩ := x
        simp only at c0 c1 c2 c3 c4 c5 c6
        have hcb : Hid (∀ W, Below wr.heap.size wr W → Calls Tryz.prog 25 #[.slice q3 b.length cap3] W fun e w' => ∃ v', e = .returned v' ∧ w'.ownsRow W.heap.size 5 1 v' b.length (encB b) ∧ Below W.heap.size W w') := fun W hW => copyBytes_any _ b W (hdi.below hW).b (by have := hdk.b.2; simp only at this; omega)
        have hci : Hid (∀ W, Below wr.heap.size wr W → Calls Tryz.prog 64 #[.slice q6 keep.length cap6] W fun e w' => ∃ v', e = .returned v' ∧ w'.ownsRow W.heap.size 3 1 v' keep.length (encI keep) ∧ Below W.heap.size W w') := fun W hW => copyInts_any _ keep W (hdi.below hW).k (by have := hdk.keep.2; simp only at this; omega)
        replace hdi : Hid _ := hdi
        replace hdk : Hid _ := hdk
        go_wp2_with (first
          | (go_at_call 25; go_must (refine (hcb.out _ ((Below.refl _ _).alloc (Nat.le_refl _) _)).mono ?_; rintro e w3 ⟨bu, rfl, hbu, hb3⟩; obtain ⟨bq, bcap, rfl⟩ := own_shape hbu; have hx3 := (hb3.block wr.heap.size (by simp)).trans (heap_new wr _); have hz3 := free_of hx3 3; obtain ⟨y0, y1, y2, y3, y4, y5, y6⟩ := cells7 hx3; have hbr3 := ((Below.refl wr.heap.size wr).alloc (Nat.le_refl _) _).trans (hb3.mono (by simp)); have e6 := (hbr3.cell (p := ⟨B0, k * 7 + 6, none⟩) hB0).trans c6; have hne : ¬ wr.heap.size = B0 := (by omega); have hne' : ¬ B0 = wr.heap.size := (by omega)))
          | (go_at_call 64; go_must (refine (hci.out _ (hbr3.setCell (p := ⟨wr.heap.size, 3, none⟩) (Nat.le_refl _) _)).mono ?_; rintro e w4 ⟨ku, rfl, hku, hb4⟩; obtain ⟨kq, kcap, rfl⟩ := own_shape hku; have hx4 : w4.heap[wr.heap.size]? = some (.cells #[.int .i64 kind, .string nm, .string to, .slice bq b.length bcap, .int .i64 nn, .int .i64 bit, .slice q6 keep.length cap6] 48) := (hb4.block wr.heap.size (by have := hb3.size; simp at this; simp; omega)).trans ((setCell_heap hx3).trans rfl); have hz4 := free_of hx4 6; obtain ⟨z0, z1, z2, z3, z4, z5, z6⟩ := cells7 hx4)))
        have hs3 : wr.heap.size + 1 ≤ w3.heap.size := by have := hb3.size; simp at this; omega
        have hs4 : w3.heap.size ≤ w4.heap.size := by have := hb4.size; simp at this; omega
        obtain ⟨W, hW⟩ : ∃ W, w4.setCell ⟨wr.heap.size, 6, none⟩ (.slice kq keep.length kcap) = W := ⟨_, rfl⟩
        have hxW : W.heap[wr.heap.size]? = some (.cells #[.int .i64 kind, .string nm, .string to, .slice bq b.length bcap, .int .i64 nn, .int .i64 bit, .slice kq keep.length kcap] 48) := by rw [← hW]; exact (setCell_heap hx4).trans rfl
        have hb34 := hbr3.setCell (p := ⟨wr.heap.size, 3, none⟩) (Nat.le_refl _) (.slice bq b.length bcap)
        have hb4r := hb34.trans (hb4.mono (by simp; omega))
        have hbW : Below wr.heap.size wr W := by rw [← hW]; exact hb4r.setCell (p := ⟨wr.heap.size, 6, none⟩) (Nat.le_refl _) _
        have hsW : w4.heap.size ≤ W.heap.size := by rw [← hW]; simp
        have hbuW : W.ownsRow (wr.heap.size + 1) 5 1 (.slice bq b.length bcap) b.length (encB b) := by
          have h1 := own_base' hbu (show wr.heap.size + 1 ≤ (wr.alloc _).heap.size by simp)
          have h2 := own_setCell (i := 3) (u := .slice bq b.length bcap) h1 (show wr.heap.size < wr.heap.size + 1 by omega)
          have h3 := own_kept h2 hb4
          rw [← hW]; exact own_setCell h3 (by omega)
        have hkuW : W.ownsRow (wr.heap.size + 1) 3 1 (.slice kq keep.length kcap) keep.length (encI keep) := by
          have h1 := own_base' hku (show wr.heap.size + 1 ≤ (w3.setCell ⟨wr.heap.size, 3, none⟩ (.slice bq b.length bcap)).heap.size by simp; omega)
          rw [← hW]; exact own_setCell h1 (by omega)
        have hbk : Hid (∀ g, (Value.slice bq b.length bcap).ownBlock = some g → (Value.slice kq keep.length kcap).ownBlock ≠ some g) := fun g h1 h2 => by
          have a1 := (hbu.lt g h1).2
          have a2 := (hku.lt g h2).1
          simp at a2; omega
        rw [hW]
        replace hW : Hid _ := hW
        clear hx3 hz3 y0 y1 y2 y3 y4 y5 y6 hbr3 e6 hx4 hz4 z0 z1 z2 z3 z4 z5 z6 hbu hku hb3 hb4 hb34 hb4r hs3 hs4 hcb hci hne hne'
        have hKlt : ∀ g, (g = wr.heap.size ∨ (Value.slice bq b.length bcap).ownBlock = some g ∨ (Value.slice kq keep.length kcap).ownBlock = some g) → wr.heap.size ≤ g ∧ g < W.heap.size := fun g hg => by
          rcases hg with rfl | hg | hg
          · exact ⟨Nat.le_refl _, (Array.getElem?_eq_some_iff.1 hxW).1⟩
          · have := hbuW.lt g hg; omega
          · have := hkuW.lt g hg; omega
        obtain ⟨K, hK⟩ : ∃ K : Nat → Prop, (fun g => g = wr.heap.size ∨ (Value.slice bq b.length bcap).ownBlock = some g ∨ (Value.slice kq keep.length kcap).ownBlock = some g) = K := ⟨_, rfl⟩
        have hKx : K wr.heap.size := by rw [← hK]; exact .inl rfl
        have hKb : ∀ g, (Value.slice bq b.length bcap).ownBlock = some g → K g := fun g hg => by rw [← hK]; exact .inr (.inl hg)
        have hKk : ∀ g, (Value.slice kq keep.length kcap).ownBlock = some g → K g := fun g hg => by rw [← hK]; exact .inr (.inr hg)
        have hKlt' : ∀ g, K g → wr.heap.size ≤ g ∧ g < W.heap.size := fun g hg => hKlt g (by rw [← hK] at hg; exact hg)
        have hboW : Both W pd pu w.heap.size (4 * k) s d K := hbo.more hbW (fun g hg => .inr (hKlt' g hg))
        clear hK hKlt
        have hdk' := hdk.out
        have hbl1 : b.length ≤ 1000000 := hdk'.b.2
        have hkl1 : keep.length ≤ 1000000 := hdk'.keep.2
        have hact := al.act (by omega) ⟨kind, nm, to, b, nn, bit, keep⟩ hdk' (kind % 10).toNat
        have hdoL : Hid (∀ w1, Both w1 pd pu w.heap.size (4 * k) s d K → Kept K w.heap.size W w1 → Calls Tryz.prog 65 #[ddV ⟨kind, nm, to, b, nn, bit, keep⟩ (.slice bq b.length bcap) (.slice kq keep.length kcap), ofBlock pd] w1 fun e w' => e = .returned (.int .i64 (actS s (kind % 10).toNat ⟨kind, nm, to, b, nn, bit, keep⟩).2) ∧ Both w' pd pu w.heap.size (4 * k + 2) (actS s (kind % 10).toNat ⟨kind, nm, to, b, nn, bit, keep⟩).1 d K ∧ Kept K w.heap.size w1 w') :=
          fun w1 hp hk => hp.callL (by omega) (fun F hl => deed_any _ _ _ hdk' hl (by omega) (fun w2 hk2 => ⟨bytesIn_of_own ((hk.trans (hk2.sub (fun g hg => .inl hg))).row hbuW hKb) hdk'.b.1 (by have := hdk'.b.2; simp only at this ⊢; omega), ints_of_own ((hk.trans (hk2.sub (fun g hg => .inl hg))).row hkuW hKk) hdk'.keep.1 hdk'.keep.2⟩))
        have hdoR : Hid (∀ w1 s1, Both w1 pd pu w.heap.size (4 * k + 2) s1 d K → Kept K w.heap.size W w1 → Calls Tryz.prog 66 #[ddV ⟨kind, nm, to, b, nn, bit, keep⟩ (.slice q3 b.length cap3) (.slice q6 keep.length cap6), ofBlock pu] w1 fun e w' => e = .returned (.int .i64 (actR d (kind % 10).toNat ⟨kind, nm, to, b, nn, bit, keep⟩).2) ∧ Both w' pd pu w.heap.size (4 * k + 4) s1 (actR d (kind % 10).toNat ⟨kind, nm, to, b, nn, bit, keep⟩).1 K ∧ Kept K w.heap.size w1 w') :=
          fun w1 s1 hp hk => hp.callR (by omega) (fun F hl => should_any _ _ _ hdk' hl (by omega) (fun w2 hk2 => by
            have hb : Below w.heap.size w w2 := (hBw.trans (hbW.mono hBw.size)).trans (hk.below.trans hk2.below)
            have := hdi0.out.below hb
            exact ⟨this.b, this.k⟩))
        have heqB : Hid (∀ w1, Kept K w.heap.size W w1 → Calls Tryz.prog 30 #[.slice bq b.length bcap, .slice q3 b.length cap3] w1 fun e w' => e = .returned (.bool true) ∧ Below w1.heap.size w1 w') := fun w1 hk => by
          have hb : Below w.heap.size w w1 := (hBw.trans (hbW.mono hBw.size)).trans hk.below
          have := eqBytes_any (.slice bq b.length bcap) (.slice q3 b.length cap3) b b w1 (bytesIn_of_own (hk.row hbuW hKb) hdk'.b.1 (by have := hdk'.b.2; simp only at this ⊢; omega)) (hdi0.out.below hb).b
          rw [decide_eq_true rfl] at this
          exact this
        have heqI : Hid (∀ w1, Kept K w.heap.size W w1 → Calls Tryz.prog 67 #[.slice kq keep.length kcap, .slice q6 keep.length cap6] w1 fun e w' => e = .returned (.bool true) ∧ Below w1.heap.size w1 w') := fun w1 hk => by
          have hb : Below w.heap.size w w1 := (hBw.trans (hbW.mono hBw.size)).trans hk.below
          exact eqInts_same _ _ keep w1 (ints_of_own (hk.row hkuW hKk) hdk'.keep.1 hdk'.keep.2) (hdi0.out.below hb).k
        have hda1 := fun w1 (hk : Kept K w.heap.size W w1) => hda0.out.below ((hBw.trans (hbW.mono hBw.size)).trans hk.below)
        simp only [ddV] at hdoL hdoR
        obtain ⟨qs, hqs⟩ : ∃ q, actS s (kind % 10).toNat ⟨kind, nm, to, b, nn, bit, keep⟩ = q := ⟨_, rfl⟩
        obtain ⟨qr, hqr⟩ : ∃ q, actR d (kind % 10).toNat ⟨kind, nm, to, b, nn, bit, keep⟩ = q := ⟨_, rfl⟩
        rw [hqs, hqr] at hact
        rw [hqs] at hdoL
        rw [hqr] at hdoR
        obtain ⟨s1, c1'⟩ := qs
        obtain ⟨d1, c2'⟩ := qr
        obtain ⟨hcode, hal1⟩ := hact
        simp only at hcode hal1 hdoL hdoR
        subst hcode
        clear hqs hqr al hdi hdk hdk' c0 c1 c2 c3 c4 c5 c6
        have hcc : (c1' != c1') = false := by simp
        have hst0 : StD pd pu w.heap.size (4 * k) (two s s1 0) (two d d1 1) K W 0 W := ⟨hboW, Kept.refl _ _ _⟩
        have e0 : Hid (∀ w1, StD pd pu w.heap.size (4 * k) (two s s1 0) (two d d1 1) K W 0 w1 → Calls Tryz.prog 65 #[.agg #[.int .i64 kind, .string nm, .string to, .slice bq b.length bcap, .int .i64 nn, .int .i64 bit, .slice kq keep.length kcap], ofBlock pd] w1 fun e w' => e = .returned (.int .i64 c1') ∧ Kept K w.heap.size w1 w' ∧ StD pd pu w.heap.size (4 * k) (two s s1 0) (two d d1 1) K W 1 w') :=
          fun w1 h1 => (hdoL.out w1 h1.both h1.kept).mono (fun e w' h => ⟨h.1, h.2.2, ⟨h.2.1, h1.kept.trans h.2.2⟩⟩)
        have e1 : Hid (∀ w1, StD pd pu w.heap.size (4 * k) (two s s1 0) (two d d1 1) K W 1 w1 → Calls Tryz.prog 66 #[.agg #[.int .i64 kind, .string nm, .string to, .slice q3 b.length cap3, .int .i64 nn, .int .i64 bit, .slice q6 keep.length cap6], ofBlock pu] w1 fun e w' => e = .returned (.int .i64 c1') ∧ Kept K w.heap.size w1 w' ∧ StD pd pu w.heap.size (4 * k) (two s s1 0) (two d d1 1) K W 2 w') :=
          fun w1 h1 => (hdoR.out w1 s1 h1.both h1.kept).mono (fun e w' h => ⟨h.1, h.2.2, ⟨h.2.1, h1.kept.trans h.2.2⟩⟩)
        unfold ofBlock at e0 e1
        clear hdoL hdoR
        replace hxW : Hid _ := hxW
        replace hda1 : Hid _ := hda1
        replace hal1 : Hid _ := hal1
        replace hbo : Hid _ := hbo
        replace hboW : Hid _ := hboW
        replace hKb : Hid _ := hKb
        replace hKk : Hid _ := hKk
        replace hKlt' : Hid _ := hKlt'
        refine Staged.staged_then 32 [2, 8] (fun σ x => StD pd pu w.heap.size (4 * k) (two s s1 0) (two d d1 1) K W σ x) (fun z1 z2 => Kept K w.heap.size z1 z2) (by kernel_rfl) (by kernel_rfl) (by kernel_rfl) (by kernel_rfl) (hst0.below (Below.refl _ _).drew).2 ?_
        apply Exists.intro
        simp only [List.take_succ_cons, List.take_zero]
        apply Staged.walk_det
        · exact fun τ z1 z2 h hb => StD.below h hb
        · rfl
        · rfl
        · intro τ w2 hC hF
          obtain ⟨x0, x1, x2, x3, x4, x5, x6⟩ := cells7 ((hC.kept.same wr.heap.size hKx).trans hxW.out)
          obtain ⟨a0, a1, a2, a3, a4, a5, a6⟩ := hda1.out w2 hC.kept
          simp only [upon]
          go_simp
          exact ⟨Below.refl _ _, rfl⟩
        simp only [put_lit, List.set_cons_succ, List.set_cons_zero]
        apply Staged.walk_det
        · exact fun τ z1 z2 h hb => StD.below h hb
        · rfl
        · rfl
        · intro τ w2 hC hF
          simp only [upon]
          go_simp
          exact ⟨Below.refl _ _, rfl⟩
        simp only [put_lit, List.set_cons_succ, List.set_cons_zero]
        apply Staged.walk_turn
        · rfl
        · rfl
        · intro w2 hC hF
          simp only [upon]
          go_simp
          exact (e0.out w2 hC).mono (fun e w3 h => ⟨h.1, ⟨h.2.1, h.2.2⟩⟩)
        simp only [put_lit, List.set_cons_succ, List.set_cons_zero]
        apply Staged.walk_det
        · exact fun τ z1 z2 h hb => StD.below h hb
        · rfl
        · rfl
        · intro τ w2 hC hF
          simp only [upon]
          go_simp
          exact ⟨Below.refl _ _, rfl⟩
        simp only [put_lit, List.set_cons_succ, List.set_cons_zero]
        apply Staged.walk_det
        · exact fun τ z1 z2 h hb => StD.below h hb
        · rfl
        · rfl
        · intro τ w2 hC hF
          simp only [upon]
          go_simp
          exact ⟨Below.refl _ _, rfl⟩
        simp only [put_lit, List.set_cons_succ, List.set_cons_zero]
        apply Staged.walk_det
        · exact fun τ z1 z2 h hb => StD.below h hb
        · rfl
        · rfl
        · intro τ w2 hC hF
          simp only [upon]
          go_simp
          exact ⟨Below.refl _ _, rfl⟩
        simp only [put_lit, List.set_cons_succ, List.set_cons_zero]
        apply Staged.walk_det
        · exact fun τ z1 z2 h hb => StD.below h hb
        · rfl
        · rfl
        · intro τ w2 hC hF
          obtain ⟨x0, x1, x2, x3, x4, x5, x6⟩ := cells7 ((hC.kept.same wr.heap.size hKx).trans hxW.out)
          obtain ⟨a0, a1, a2, a3, a4, a5, a6⟩ := hda1.out w2 hC.kept
          simp only [upon]
          go_simp
          exact ⟨Below.refl _ _, rfl⟩
        simp only [put_lit, List.set_cons_succ, List.set_cons_zero]
        apply Staged.walk_det
        · exact fun τ z1 z2 h hb => StD.below h hb
        · rfl
        · rfl
        · intro τ w2 hC hF
          simp only [upon]
          go_simp
          exact ⟨Below.refl _ _, rfl⟩
        simp only [put_lit, List.set_cons_succ, List.set_cons_zero]
        apply Staged.walk_turn
        · rfl
        · rfl
        · intro w2 hC hF
          simp only [upon]
          go_simp
          exact (e1.out w2 hC).mono (fun e w3 h => ⟨h.1, ⟨h.2.1, h.2.2⟩⟩)
        simp only [put_lit, List.set_cons_succ, List.set_cons_zero]
        apply Staged.walk_det
        · exact fun τ z1 z2 h hb => StD.below h hb
        · rfl
        · rfl
        · intro τ w2 hC hF
          simp only [upon]
          go_simp
          exact ⟨Below.refl _ _, rfl⟩
        simp only [put_lit, List.set_cons_succ, List.set_cons_zero]
        apply Staged.walk_det
        · exact fun τ z1 z2 h hb => StD.below h hb
        · rfl
        · rfl
        · intro τ w2 hC hF
          simp only [upon]
          go_simp
          exact ⟨Below.refl _ _, rfl⟩
        simp only [put_lit, List.set_cons_succ, List.set_cons_zero]
        apply Staged.walk_det
        · exact fun τ z1 z2 h hb => StD.below h hb
        · rfl
        · rfl
        · intro τ w2 hC hF
          simp only [upon]
          go_simp
          exact ⟨Below.refl _ _, rfl⟩
        simp only [put_lit, List.set_cons_succ, List.set_cons_zero]
        apply Staged.walk_det
        · exact fun τ z1 z2 h hb => StD.below h hb
        · rfl
        · rfl
        · intro τ w2 hC hF
          obtain ⟨x0, x1, x2, x3, x4, x5, x6⟩ := cells7 ((hC.kept.same wr.heap.size hKx).trans hxW.out)
          obtain ⟨a0, a1, a2, a3, a4, a5, a6⟩ := hda1.out w2 hC.kept
          simp only [upon]
          go_simp
          exact ⟨Below.refl _ _, rfl⟩
        simp only [put_lit, List.set_cons_succ, List.set_cons_zero]
        apply Staged.walk_det
        · exact fun τ z1 z2 h hb => StD.below h hb
        · rfl
        · rfl
        · intro τ w2 hC hF
          simp only [upon]
          go_simp
          exact ⟨Below.refl _ _, rfl⟩
        simp only [put_lit, List.set_cons_succ, List.set_cons_zero]
        apply Staged.walk_det
        · exact fun τ z1 z2 h hb => StD.below h hb
        · rfl
        · rfl
        · intro τ w2 hC hF
          simp only [upon]
          go_simp
          exact ⟨Below.refl _ _, rfl⟩
        simp only [put_lit, List.set_cons_succ, List.set_cons_zero]
        apply Staged.walk_det
        · exact fun τ z1 z2 h hb => StD.below h hb
        · rfl
        · rfl
        · intro τ w2 hC hF
          simp only [upon]
          go_simp
          exact ⟨Below.refl _ _, rfl⟩
        simp only [put_lit, List.set_cons_succ, List.set_cons_zero]
        apply Staged.walk_det
        · exact fun τ z1 z2 h hb => StD.below h hb
        · rfl
        · rfl
        · intro τ w2 hC hF
          simp only [upon]
          go_simp
          exact ⟨Below.refl _ _, rfl⟩
        simp only [put_lit, List.set_cons_succ, List.set_cons_zero]
        apply Staged.walk_det
        · exact fun τ z1 z2 h hb => StD.below h hb
        · rfl
        · rfl
        · intro τ w2 hC hF
          obtain ⟨x0, x1, x2, x3, x4, x5, x6⟩ := cells7 ((hC.kept.same wr.heap.size hKx).trans hxW.out)
          obtain ⟨a0, a1, a2, a3, a4, a5, a6⟩ := hda1.out w2 hC.kept
          simp only [upon]
          go_simp
          exact ⟨Below.refl _ _, rfl⟩
        simp only [put_lit, List.set_cons_succ, List.set_cons_zero]
        apply Staged.walk_det
        · exact fun τ z1 z2 h hb => StD.below h hb
        · rfl
        · rfl
        · intro τ w2 hC hF
          simp only [upon]
          go_simp
          exact heqB.out w2 hC.kept
        simp only [put_lit, List.set_cons_succ, List.set_cons_zero]
        apply Staged.walk_det
        · exact fun τ z1 z2 h hb => StD.below h hb
        · rfl
        · rfl
        · intro τ w2 hC hF
          simp only [upon]
          go_simp
          exact ⟨Below.refl _ _, rfl⟩
        simp only [put_lit, List.set_cons_succ, List.set_cons_zero]
        apply Staged.walk_det
        · exact fun τ z1 z2 h hb => StD.below h hb
        · rfl
        · rfl
        · intro τ w2 hC hF
          simp only [upon]
          go_simp
          exact ⟨Below.refl _ _, rfl⟩
        simp only [put_lit, List.set_cons_succ, List.set_cons_zero]
        apply Staged.walk_det
        · exact fun τ z1 z2 h hb => StD.below h hb
        · rfl
        · rfl
        · intro τ w2 hC hF
          simp only [upon]
          go_simp
          exact ⟨Below.refl _ _, rfl⟩
        simp only [put_lit, List.set_cons_succ, List.set_cons_zero]
        apply Staged.walk_det
        · exact fun τ z1 z2 h hb => StD.below h hb
        · rfl
        · rfl
        · intro τ w2 hC hF
          simp only [upon]
          go_simp
          exact ⟨Below.refl _ _, rfl⟩
        simp only [put_lit, List.set_cons_succ, List.set_cons_zero]
        apply Staged.walk_det
        · exact fun τ z1 z2 h hb => StD.below h hb
        · rfl
        · rfl
        · intro τ w2 hC hF
          obtain ⟨x0, x1, x2, x3, x4, x5, x6⟩ := cells7 ((hC.kept.same wr.heap.size hKx).trans hxW.out)
          obtain ⟨a0, a1, a2, a3, a4, a5, a6⟩ := hda1.out w2 hC.kept
          simp only [upon]
          go_simp
          exact ⟨Below.refl _ _, rfl⟩
        simp only [put_lit, List.set_cons_succ, List.set_cons_zero]
        apply Staged.walk_det
        · exact fun τ z1 z2 h hb => StD.below h hb
        · rfl
        · rfl
        · intro τ w2 hC hF
          simp only [upon]
          go_simp
          exact ⟨Below.refl _ _, rfl⟩
        simp only [put_lit, List.set_cons_succ, List.set_cons_zero]
        apply Staged.walk_det
        · exact fun τ z1 z2 h hb => StD.below h hb
        · rfl
        · rfl
        · intro τ w2 hC hF
          simp only [upon]
          go_simp
          exact ⟨Below.refl _ _, rfl⟩
        simp only [put_lit, List.set_cons_succ, List.set_cons_zero]
        apply Staged.walk_det
        · exact fun τ z1 z2 h hb => StD.below h hb
        · rfl
        · rfl
        · intro τ w2 hC hF
          simp only [upon]
          go_simp
          exact ⟨Below.refl _ _, rfl⟩
        simp only [put_lit, List.set_cons_succ, List.set_cons_zero]
        apply Staged.walk_det
        · exact fun τ z1 z2 h hb => StD.below h hb
        · rfl
        · rfl
        · intro τ w2 hC hF
          simp only [upon]
          go_simp
          exact ⟨Below.refl _ _, rfl⟩
        simp only [put_lit, List.set_cons_succ, List.set_cons_zero]
        apply Staged.walk_det
        · exact fun τ z1 z2 h hb => StD.below h hb
        · rfl
        · rfl
        · intro τ w2 hC hF
          obtain ⟨x0, x1, x2, x3, x4, x5, x6⟩ := cells7 ((hC.kept.same wr.heap.size hKx).trans hxW.out)
          obtain ⟨a0, a1, a2, a3, a4, a5, a6⟩ := hda1.out w2 hC.kept
          simp only [upon]
          go_simp
          exact ⟨Below.refl _ _, rfl⟩
        simp only [put_lit, List.set_cons_succ, List.set_cons_zero]
        apply Staged.walk_det
        · exact fun τ z1 z2 h hb => StD.below h hb
        · rfl
        · rfl
        · intro τ w2 hC hF
          simp only [upon]
          go_simp
          exact heqI.out w2 hC.kept
        simp only [put_lit, List.set_cons_succ, List.set_cons_zero]
        apply Staged.walk_det
        · exact fun τ z1 z2 h hb => StD.below h hb
        · rfl
        · rfl
        · intro τ w2 hC hF
          simp only [upon]
          go_simp
          exact ⟨Below.refl _ _, rfl⟩
        simp only [put_lit, List.set_cons_succ, List.set_cons_zero]
        apply Staged.walk_det
        · exact fun τ z1 z2 h hb => StD.below h hb
        · rfl
        · rfl
        · intro τ w2 hC hF
          simp only [upon]
          go_simp
          exact ⟨Below.refl _ _, rfl⟩
        simp only [put_lit, List.set_cons_succ, List.set_cons_zero]
        apply Staged.walk_nil
        intro w5 hC5 _
        simp only [List.drop_succ_cons, List.drop_zero]
        go_wp2_with fail
        have hBw5 : Below w.heap.size w w5 := (hBw.trans (hbW.mono hBw.size)).trans hC5.kept.below
        have hb5 : Both w5 pd pu w.heap.size (4 * k + 4) s1 d1 K := hC5.both
        have hx5 := (hC5.kept.same wr.heap.size hKx).trans hxW.out
        have hbr5 := hC5.kept.row hbuW hKb.out
        have hkr5 := hC5.kept.row hkuW hKk.out
        have hbx := hdi0.out.b.1
        have hbb : ∀ y ∈ b, y < 256 := hbx
        replace hbb : Hid _ := hbb
        clear hC5 hst0 e0 e1 heqB heqI hbuW hkuW hxW hboW hbx hcc
        replace hbW : Hid _ := hbW
        go_loopw [11] (fun j wx => ∃ n : Nat, n ≤ b.length ∧ j = .int .i64 n ∧ Below w.heap.size w wx ∧ Both wx pd pu w.heap.size (4 * k + 4) s1 d1 K ∧ wx.heap[wr.heap.size]? = some (.cells #[.int .i64 kind, .string nm, .string to, .slice bq b.length bcap, .int .i64 nn, .int .i64 bit, .slice kq keep.length kcap] 48) ∧ wx.ownsRow (wr.heap.size + 1) 3 1 (.slice kq keep.length kcap) keep.length (encI keep) ∧ ∃ ys : List Nat, ys.length = b.length ∧ (∀ y ∈ ys, y < 256) ∧ wx.ownsRow (wr.heap.size + 1) 5 1 (.slice bq b.length bcap) ys.length (encB ys)) (fun j _ => b.length - (intOf j).toNat)
        case atStart => exact ⟨0, Nat.zero_le _, rfl, hBw5, hb5, hx5, hkr5, b, rfl, hbb.out, hbr5⟩
        case round =>
          rename World => wx
          obtain ⟨n, hn, rfl, hBx, hbx, hxx, hkx, ys, hy1, hy2, hy3⟩ := hrel
          clear hBw5 hb5 hx5 hbr5 hkr5
          obtain ⟨x0, x1, x2, x3, x4, x5, x6⟩ := cells7 hxx
          by_cases hltn : n < b.length
          · have hnI : (n : Int) < (b.length : Int) := by omega
            have m0 : (0 : Int) ≤ (n : Int) := by omega
            obtain ⟨G, hG⟩ : ∃ G, bq = some ⟨G, 0, none⟩ := by
              rcases hy3.2 with ⟨_, h0⟩ | ⟨G, c, cu, e, _⟩
              · omega
              · injection e with e1; exact ⟨G, e1⟩
            subst hG
            have hdell : wx.cell? ⟨G, n, none⟩ = some (.int .u8 (ys.getD n 0 : Nat)) := by
              have := hy3.cells (g := G) rfl n _ (encB_get ys n (by omega))
              rw [Addr.add_lit, Nat.zero_add] at this
              exact this
            have hyl : ys.getD n 0 < 256 := by
              rw [List.getD_eq_getElem?_getD, List.getElem?_eq_getElem (by omega)]
              exact hy2 _ (List.getElem_mem _)
            have hx8 := and_xor8 _ hyl
            have hxl : ys.getD n 0 ^^^ 1 < 256 := Nat.xor_lt_two_pow (n := 8) hyl (by decide)
            have hGK : K G := hKb.out G rfl
            obtain ⟨hG1, hG2⟩ := hKlt'.out G hGK
            have hGx : G ≠ wr.heap.size := by have := (hy3.lt G rfl).1; omega
            have hGl : G < wx.heap.size := (hy3.lt G rfl).2
            have hXl : wr.heap.size < wx.heap.size := (Array.getElem?_eq_some_iff.1 hxx).1
            obtain ⟨cu, hcu⟩ : ∃ cu, wx.heap[G]? = some (.cells cu 5) := by
              rcases hy3.2 with ⟨e, h0⟩ | ⟨G2, c, cu, e, _, h4, _⟩
              · omega
              · injection e with e1; injection e1 with e1; injection e1 with e1; subst e1; exact ⟨cu, h4⟩
            replace hy1 : Hid _ := hy1
            generalize ys.getD n 0 = y at *
            generalize y ^^^ 1 = yx at *
            go_wp2_with fail
            refine poised_then 10 (fun x => Below wx.heap.size wx x) (fun x y => Below wx.heap.size x y) (by kernel_rfl) (by kernel_rfl) (by kernel_rfl) (fun _ _ h k => h.trans k) ((Below.refl _ _).drew) ?_
            apply Exists.intro
            simp only [List.take_succ_cons, List.take_zero]
            apply walk_det
            · rfl
            · intro w2 hC hF
              simp only [upon]
              go_simp
              exact ⟨Below.refl _ _, rfl⟩
            simp only [put_lit, List.set_cons_succ, List.set_cons_zero]
            apply walk_det
            · rfl
            · intro w2 hC hF
              have z3 := (hC.cell (p := ⟨wr.heap.size, 3, none⟩) hXl).trans x3
              have z6 := (hC.cell (p := ⟨wr.heap.size, 6, none⟩) hXl).trans x6
              have zd := (hC.cell (p := ⟨G, n, none⟩) hGl).trans hdell
              simp only [upon]
              go_simp
              exact ⟨Below.refl _ _, rfl⟩
            simp only [put_lit, List.set_cons_succ, List.set_cons_zero]
            apply walk_det
            · rfl
            · intro w2 hC hF
              simp only [upon]
              go_simp
              exact ⟨Below.refl _ _, rfl⟩
            simp only [put_lit, List.set_cons_succ, List.set_cons_zero]
            apply walk_det
            · rfl
            · intro w2 hC hF
              simp only [upon]
              go_simp
              exact ⟨Below.refl _ _, rfl⟩
            simp only [put_lit, List.set_cons_succ, List.set_cons_zero]
            apply walk_det
            · rfl
            · intro w2 hC hF
              have z3 := (hC.cell (p := ⟨wr.heap.size, 3, none⟩) hXl).trans x3
              have z6 := (hC.cell (p := ⟨wr.heap.size, 6, none⟩) hXl).trans x6
              have zd := (hC.cell (p := ⟨G, n, none⟩) hGl).trans hdell
              simp only [upon]
              go_simp
              exact ⟨Below.refl _ _, rfl⟩
            simp only [put_lit, List.set_cons_succ, List.set_cons_zero]
            apply walk_det
            · rfl
            · intro w2 hC hF
              simp only [upon]
              go_simp
              exact ⟨Below.refl _ _, rfl⟩
            simp only [put_lit, List.set_cons_succ, List.set_cons_zero]
            apply walk_det
            · rfl
            · intro w2 hC hF
              simp only [upon]
              go_simp
              exact ⟨Below.refl _ _, rfl⟩
            simp only [put_lit, List.set_cons_succ, List.set_cons_zero]
            apply walk_det
            · rfl
            · intro w2 hC hF
              have z3 := (hC.cell (p := ⟨wr.heap.size, 3, none⟩) hXl).trans x3
              have z6 := (hC.cell (p := ⟨wr.heap.size, 6, none⟩) hXl).trans x6
              have zd := (hC.cell (p := ⟨G, n, none⟩) hGl).trans hdell
              simp only [upon]
              go_simp
              exact ⟨Below.refl _ _, rfl⟩
            simp only [put_lit, List.set_cons_succ, List.set_cons_zero]
            apply walk_det
            · rfl
            · intro w2 hC hF
              simp only [upon]
              go_simp
              exact ⟨Below.refl _ _, rfl⟩
            simp only [put_lit, List.set_cons_succ, List.set_cons_zero]
            apply walk_det
            · rfl
            · intro w2 hC hF
              simp only [upon]
              go_simp
              exact ⟨Below.refl _ _, rfl⟩
            simp only [put_lit, List.set_cons_succ, List.set_cons_zero]
            apply walk_nil
            intro a0 ha0 _
            simp only [List.drop_succ_cons, List.drop_zero]
            have hfz5 := free_of ((ha0.block G hGl).trans hcu) n
            have hdl5 := (ha0.cell (p := ⟨G, n, none⟩) hGl).trans hdell
            have hb0 := hbx.below ha0
            have hy30 := own_kept hy3 ha0
            obtain ⟨zs, hz1', hz2', hz3'⟩ := store_row (g := G) (k := n) (x := yx) hxl hy30 hy2
            have hkx0 := own_kept hkx ha0
            have hxx0 := (ha0.block wr.heap.size hXl).trans hxx
            have hBx0 := hBx.trans (ha0.mono hBx.size)
            go_wp2_with fail
            go_roundw
            case rel =>
              refine ⟨n + 1, by omega, by go_num, hBx0.setCell (p := ⟨G, n, none⟩) (by show w.heap.size ≤ G; have := hBw.size; omega) _, hb0.set (fun g _ hg => Below.heap_setCell _ _ _ _ (show g ≠ G from fun e => hg (by rw [e]; exact hGK))) (by simp), (Below.heap_setCell _ _ _ _ (show wr.heap.size ≠ G from Ne.symm hGx)).trans hxx0, row_same hkx0 (fun g hg => Below.heap_setCell _ _ _ _ (show g ≠ G from fun e => hbk.out G rfl (by rw [← e]; exact hg))), zs, hz1'.trans hy1.out, hz2', hz3'⟩
            case measure => simp [intOf]; omega
          · obtain rfl : n = b.length := by omega
            go_wp2_with fail
            go_loopw [12] (fun j wy => ∃ n : Nat, n ≤ keep.length ∧ j = .int .i64 n ∧ Below w.heap.size w wy ∧ Both wy pd pu w.heap.size (4 * k + 4) s1 d1 K ∧ wy.heap[wr.heap.size]? = some (.cells #[.int .i64 kind, .string nm, .string to, .slice bq b.length bcap, .int .i64 nn, .int .i64 bit, .slice kq keep.length kcap] 48) ∧ ∃ zs : List Int, zs.length = keep.length ∧ wy.ownsRow (wr.heap.size + 1) 3 1 (.slice kq keep.length kcap) zs.length (encI zs)) (fun j _ => keep.length - (intOf j).toNat)
            case atStart => exact ⟨0, Nat.zero_le _, rfl, hBx, hbx, hxx, keep, rfl, hkx⟩
            case round =>
              rename World => wy
              obtain ⟨n, hn2, rfl, hBy, hby, hxy, zs, hz1, hz3⟩ := hrel
              clear hBx hbx hxx hkx hy3 x0 x1 x2 x3 x4 x5 x6
              obtain ⟨x0, x1, x2, x3, x4, x5, x6⟩ := cells7 hxy
              have hXl : wr.heap.size < wy.heap.size := (Array.getElem?_eq_some_iff.1 hxy).1
              by_cases hltn2 : n < keep.length
              · have hnI : (n : Int) < (keep.length : Int) := by omega
                have m0 : (0 : Int) ≤ (n : Int) := by omega
                obtain ⟨G, hG⟩ : ∃ G, kq = some ⟨G, 0, none⟩ := by
                  rcases hz3.2 with ⟨_, h0⟩ | ⟨G, c, cu, e, _⟩
                  · omega
                  · injection e with e1; exact ⟨G, e1⟩
                subst hG
                have hdell : wy.cell? ⟨G, n, none⟩ = some (.int .i64 (zs.getD n 0)) := by
                  have := hz3.cells (g := G) rfl n _ (encI_get zs n (by omega))
                  rw [Addr.add_lit, Nat.zero_add] at this
                  exact this
                have hGK : K G := hKk.out G rfl
                obtain ⟨hG1, hG2⟩ := hKlt'.out G hGK
                have hGx : G ≠ wr.heap.size := by have := (hz3.lt G rfl).1; omega
                have hGl : G < wy.heap.size := (hz3.lt G rfl).2
                obtain ⟨cu, hcu⟩ : ∃ cu, wy.heap[G]? = some (.cells cu 3) := by
                  rcases hz3.2 with ⟨e, h0⟩ | ⟨G2, c, cu, e, _, h4, _⟩
                  · omega
                  · injection e with e1; injection e1 with e1; injection e1 with e1; subst e1; exact ⟨cu, h4⟩
                replace hz1 : Hid _ := hz1
                generalize zs.getD n 0 = y at *
                go_wp2_with fail
                refine poised_then 10 (fun x => Below wy.heap.size wy x) (fun x y => Below wy.heap.size x y) (by kernel_rfl) (by kernel_rfl) (by kernel_rfl) (fun _ _ h k => h.trans k) ((Below.refl _ _).drew) ?_
                apply Exists.intro
                simp only [List.take_succ_cons, List.take_zero]
                apply walk_det
                · rfl
                · intro w2 hC hF
                  simp only [upon]
                  go_simp
                  exact ⟨Below.refl _ _, rfl⟩
                simp only [put_lit, List.set_cons_succ, List.set_cons_zero]
                apply walk_det
                · rfl
                · intro w2 hC hF
                  have z3 := (hC.cell (p := ⟨wr.heap.size, 3, none⟩) hXl).trans x3
                  have z6 := (hC.cell (p := ⟨wr.heap.size, 6, none⟩) hXl).trans x6
                  have zd := (hC.cell (p := ⟨G, n, none⟩) hGl).trans hdell
                  simp only [upon]
                  go_simp
                  exact ⟨Below.refl _ _, rfl⟩
                simp only [put_lit, List.set_cons_succ, List.set_cons_zero]
                apply walk_det
                · rfl
                · intro w2 hC hF
                  simp only [upon]
                  go_simp
                  exact ⟨Below.refl _ _, rfl⟩
                simp only [put_lit, List.set_cons_succ, List.set_cons_zero]
                apply walk_det
                · rfl
                · intro w2 hC hF
                  simp only [upon]
                  go_simp
                  exact ⟨Below.refl _ _, rfl⟩
                simp only [put_lit, List.set_cons_succ, List.set_cons_zero]
                apply walk_det
                · rfl
                · intro w2 hC hF
                  have z3 := (hC.cell (p := ⟨wr.heap.size, 3, none⟩) hXl).trans x3
                  have z6 := (hC.cell (p := ⟨wr.heap.size, 6, none⟩) hXl).trans x6
                  have zd := (hC.cell (p := ⟨G, n, none⟩) hGl).trans hdell
                  simp only [upon]
                  go_simp
                  exact ⟨Below.refl _ _, rfl⟩
                simp only [put_lit, List.set_cons_succ, List.set_cons_zero]
                apply walk_det
                · rfl
                · intro w2 hC hF
                  simp only [upon]
                  go_simp
                  exact ⟨Below.refl _ _, rfl⟩
                simp only [put_lit, List.set_cons_succ, List.set_cons_zero]
                apply walk_det
                · rfl
                · intro w2 hC hF
                  simp only [upon]
                  go_simp
                  exact ⟨Below.refl _ _, rfl⟩
                simp only [put_lit, List.set_cons_succ, List.set_cons_zero]
                apply walk_det
                · rfl
                · intro w2 hC hF
                  have z3 := (hC.cell (p := ⟨wr.heap.size, 3, none⟩) hXl).trans x3
                  have z6 := (hC.cell (p := ⟨wr.heap.size, 6, none⟩) hXl).trans x6
                  have zd := (hC.cell (p := ⟨G, n, none⟩) hGl).trans hdell
                  simp only [upon]
                  go_simp
                  exact ⟨Below.refl _ _, rfl⟩
                simp only [put_lit, List.set_cons_succ, List.set_cons_zero]
                apply walk_det
                · rfl
                · intro w2 hC hF
                  simp only [upon]
                  go_simp
                  exact ⟨Below.refl _ _, rfl⟩
                simp only [put_lit, List.set_cons_succ, List.set_cons_zero]
                apply walk_det
                · rfl
                · intro w2 hC hF
                  simp only [upon]
                  go_simp
                  exact ⟨Below.refl _ _, rfl⟩
                simp only [put_lit, List.set_cons_succ, List.set_cons_zero]
                apply walk_nil
                intro a0 ha0 _
                simp only [List.drop_succ_cons, List.drop_zero]
                have hfz5 := free_of ((ha0.block G hGl).trans hcu) n
                have hdl5 := (ha0.cell (p := ⟨G, n, none⟩) hGl).trans hdell
                have hb0 := hby.below ha0
                have hz30 := own_kept hz3 ha0
                obtain ⟨yx, hyx⟩ : ∃ yx, bits .xor .i64 y 1 = yx := ⟨_, rfl⟩
                obtain ⟨zs', hz1', hz3'⟩ := store_rowI (g := G) (k := n) (x := yx) hz30
                have hxx0 := (ha0.block wr.heap.size hXl).trans hxy
                have hBx0 := hBy.trans (ha0.mono hBy.size)
                go_wp2_with fail
                go_roundw
                case rel =>
                  refine ⟨n + 1, by omega, by go_num, hBx0.setCell (p := ⟨G, n, none⟩) (by show w.heap.size ≤ G; have := hBw.size; omega) _, hb0.set (fun g _ hg => Below.heap_setCell _ _ _ _ (show g ≠ G from fun e => hg (by rw [e]; exact hGK))) (by simp), (Below.heap_setCell _ _ _ _ (show wr.heap.size ≠ G from Ne.symm hGx)).trans hxx0, zs', hz1'.trans hz1.out, hz3'⟩
                case measure => simp [intOf]; omega
              · obtain rfl : n = keep.length := by omega
                have htl := tells_any nm hby (hal1.out.mono (show 4 * k + 2 ≤ 4 * k + 4 by omega)) (by omega)
                obtain ⟨c0, c1, c2, c3, c4, c5, c6⟩ := hda0.out.below hBy
                unfold ofBlock at htl
                go_wp2_with (go_at_call 68; refine htl.mono ?_; clear htl; rintro e w9 ⟨rfl, hb9⟩)
                go_roundw
                case rel => exact ⟨k + 1, s1, d1, by omega, by omega, by go_num, ((hby.below hb9).sub (fun g hg => hg.elim)).mono (by omega), hal1.out.mono (by omega), hBy.trans (hb9.mono hBy.size)⟩
                case measure => simp [intOf]; omega
      · have hlt' : ¬ ((k : Int) < (D.length : Int)) ∨ ((k : Int) < (D.length : Int) ∧ ¬ (k : Int) < 100) := by omega
        rcases hlt' with h1 | ⟨h1, h2⟩
        all_goals
          clear hlt hbo
          go_wp2_with (go_at_call 24; refine (haw.out _).mono ?_; rintro e w9 ⟨rfl, hb9⟩)
          go_returns
          exact ⟨rfl, hBw.trans (hb9.mono hBw.size)⟩
  · have hn := new_no room (by omega) w
    have hnr := fun W => newR_no room (by omega) W
    clear hroom hDk
    go_enter Tryz.func23, Tryz.ntmps23
    go_wp2_with (first
      | (go_at_call 35; refine hn.mono ?_; clear hn; rintro e w1 ⟨rfl, hb1⟩)
      | (go_at_call 63; refine (hnr _).mono ?_; clear hnr; rintro e w2 ⟨rfl, hb2⟩))
    refine wp_loop_rounds 1 ?_
    rw [rounds_succ]
    go_wp2_with (go_at_call 24; refine (haw.out _).mono ?_; rintro e w9 ⟨rfl, hb9⟩)
    all_goals
      go_returns
      exact ⟨rfl, (hb1.trans (hb2.mono hb1.size)).trans (hb9.mono (hb1.trans (hb2.mono hb1.size)).size)⟩
end Go.Proofs.YtmcmagplaflegaaGreat
