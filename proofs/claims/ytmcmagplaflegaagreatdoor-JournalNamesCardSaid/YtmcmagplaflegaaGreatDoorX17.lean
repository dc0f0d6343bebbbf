/-
 WHEREVER THE POWER FAILS: the statement, walked. Conditions: those of each theorem.
-/
import Derived.Test.YtmcmagplaflegaaGreatDoorX16
import Derived.Deep.CutBlock

namespace Go.Proofs.YtmcmagplaflegaaGreatDoor
open Go Go.RowKit Go.MapL Go.Poised

theorem story_first {J p n₀ m : Nat} {j : Jn} {w : World} (h : JLive w J p n₀ m j (fun _ => False)) :
  StoryAt ((w.alloc (.cells #[.slice none 0 0] 22)).alloc (.cells #[.slice (some ⟨w.heap.size, 0, none⟩) 1 1] 43)) n₀ (w.heap.size + 1) (.slice (some ⟨w.heap.size, 0, none⟩) 1 1) [(.slice none 0 0, [])] ∧
   JLive ((w.alloc (.cells #[.slice none 0 0] 22)).alloc (.cells #[.slice (some ⟨w.heap.size, 0, none⟩) 1 1] 43)) J p n₀ m j (storyK (w.heap.size + 1) (.slice (some ⟨w.heap.size, 0, none⟩) 1 1) [(.slice none 0 0, [])]) ∧
   Below w.heap.size w ((w.alloc (.cells #[.slice none 0 0] 22)).alloc (.cells #[.slice (some ⟨w.heap.size, 0, none⟩) 1 1] 43)) := by
 have hb := ((Below.refl w.heap.size w).alloc (Nat.le_refl _) (.cells #[.slice none 0 0] 22)).alloc (by simp) (.cells #[.slice (some ⟨w.heap.size, 0, none⟩) 1 1] 43)
 have hbase := h.live.base
 have h1 : ((w.alloc (.cells #[.slice none 0 0] 22)).alloc (.cells #[.slice (some ⟨w.heap.size, 0, none⟩) 1 1] 43)).heap[w.heap.size + 1]? = some (.cells #[.slice (some ⟨w.heap.size, 0, none⟩) 1 1] 43) := by
  have := heap_new (w.alloc (.cells #[.slice none 0 0] 22)) (.cells #[.slice (some ⟨w.heap.size, 0, none⟩) 1 1] 43)
  rw [World.size_alloc] at this
  exact this
 have h2 : ((w.alloc (.cells #[.slice none 0 0] 22)).alloc (.cells #[.slice (some ⟨w.heap.size, 0, none⟩) 1 1] 43)).heap[w.heap.size]? = some (.cells #[.slice none 0 0] 22) := (Below.heap_alloc _ _ _ (by simp)).trans (heap_new _ _)
 have hS : StoryAt ((w.alloc (.cells #[.slice none 0 0] 22)).alloc (.cells #[.slice (some ⟨w.heap.size, 0, none⟩) 1 1] 43)) n₀ (w.heap.size + 1) (.slice (some ⟨w.heap.size, 0, none⟩) 1 1) [(.slice none 0 0, [])] := by
  refine ⟨h1, ⟨rfl, .inr ⟨w.heap.size, 1, #[.slice none 0 0], rfl, hbase, h2, Nat.le_refl _, by unfold maxLen; omega, rfl, rfl⟩⟩, fun q hq => ?_, by omega⟩
  rw [List.mem_singleton] at hq; subst hq; exact RowsAt.nil _ _
 refine ⟨hS, h.more hb (fun g hg => .inr ⟨?_, (hS.lt hg).2⟩), hb⟩
 rcases hg with rfl | hg | ⟨q, hq, hg⟩
 ·omega
 ·have h3 : w.heap.size = g := Option.some.inj hg
  omega
 ·rw [List.mem_singleton] at hq; subst hq; exact (rowsK_nil hg).elim

theorem small_goes {j : Jn} {st : List (List (List Nat))} {N : Nat} (h : Tale j st N) (hN1 : 20 ≤ N) (kind : Nat) (b : List Nat) (hb : (∀ x ∈ b, x < 256) ∧ b.length ≤ 200) (l : List (List Nat)) (hl : Small l 20) :
  (∀ L ∈ (goesP j st kind b l).2, Small L (N + 1)) ∧ (goesP j st kind b l).2.length ≤ st.length + 1 := by
 have h1 : ∀ L ∈ st, Small L (N + 1) := fun L hL => (h.small L hL).mono (by omega)
 have hs := h.small _ h.last
 have hp := hs.push hb
 have hl' := hl.mono (show 20 ≤ N + 1 by omega)
 have one : ∀ M : List (List Nat), Small M (N + 1) → (∀ L ∈ [M], Small L (N + 1)) ∧ [M].length ≤ st.length + 1 := fun M hM => ⟨fun L hL => by rw [List.mem_singleton] at hL; subst hL; exact hM, by simp⟩
 have more : ∀ M : List (List Nat), Small M (N + 1) → (∀ L ∈ st ++ [M], Small L (N + 1)) ∧ (st ++ [M]).length ≤ st.length + 1 := fun M hM => ⟨fun L hL => by
  rcases List.mem_append.1 hL with hL | hL
  ·exact h1 L hL
  ·rw [List.mem_singleton] at hL; subst hL; exact hM, by simp⟩
 have same : (∀ L ∈ st, Small L (N + 1)) ∧ st.length ≤ st.length + 1 := ⟨h1, by omega⟩
 unfold goesP
 split
 ·simp only
  split
  ·exact more _ hp
  ·exact same
 split
 ·simp only
  split
  ·exact one _ (hs.mono (by omega))
  split
  ·exact more _ (hs.mono (by omega))
  ·exact same
 ·simp only
  split
  ·exact one _ hl'
  split
  ·exact more _ hl'
  ·exact same
theorem setCell_alloc {w : World} {S : Nat} {v : Value} {o : Obj} (hS : S < w.heap.size) : (w.setCell ⟨S, 0, none⟩ v).alloc o = (w.alloc o).setCell ⟨S, 0, none⟩ v := by
 have h : (w.heap.push o).modify S = fun f => (w.heap.modify S f).push o := by
  funext f
  refine Array.ext_getElem? (fun i => ?_)
  simp only [Array.getElem?_modify, Array.getElem?_push, Array.size_modify]
  by_cases h1 : S = i
  ·subst h1
   rw [if_pos rfl, if_neg (by omega), if_neg (by omega), if_pos rfl]
  ·rw [if_neg h1]
   by_cases h2 : i = w.heap.size
   ·rw [if_pos h2, if_pos h2]
   ·rw [if_neg h2, if_neg h2, if_neg h1]
 unfold World.setCell World.alloc
 simp only [h]
theorem ints_nil (W : World) : IntsIn W (.slice none 0 0) [] := ⟨by simp, by simp, .inl ⟨rfl, rfl⟩⟩
theorem Tale.mono {j : Jn} {st : List (List (List Nat))} {M M' : Nat} (h : Tale j st M) (hn : M ≤ M') : Tale j st M' := ⟨h.br, fun L hL => (h.small L hL).mono hn, h.last, h.many, h.ex⟩
theorem cells5 {w : World} {B : Nat} {a b c d e : Value} {t : TypeId} (h : w.heap[B]? = some (.cells #[a, b, c, d, e] t)) : w.cell? ⟨B, 0, none⟩ = some a ∧ w.cell? ⟨B, 1, none⟩ = some b ∧ w.cell? ⟨B, 2, none⟩ = some c ∧ w.cell? ⟨B, 3, none⟩ = some d ∧ w.cell? ⟨B, 4, none⟩ = some e := by
 simp [World.cell?, h]
set_option maxRecDepth 100000 in
set_option maxHeartbeats 16000000 in
theorem keeps_walk (v : Value) (D : List Jd) (w : World) (hD : JdsIn w v D) :
  Calls Tryz.prog 5 #[v] w fun e w' => e = .returned (.bool true) ∧ Below w.heap.size w w' := by
 obtain ⟨hDl, q, cap, rfl, hDc⟩ := hD
 obtain ⟨o1, o2, _⟩ := open_new 1048576
 have ht0 := tale_new 1048576
 replace o1 : Hid _ := o1
 replace o2 : Hid _ := o2
 replace hDc : Hid _ := hDc
 have hnew := live_new 1048576 (by omega) w
 unfold ofBlock at hnew
 have k1 : True := trivial
 go_enter Tryz.func5, Tryz.ntmps5
 go_wp2_with (first
  |(clear k1; go_at_call 9; refine hnew.mono ?_; clear hnew; rintro e w3 ⟨rfl, hbw3, hL3⟩; have k2 : True := trivial)
  |(clear k2; go_at_call 10; refine (open_any hL3 (by omega)).mono ?_; rintro e w4 ⟨hK4, hok, _⟩; obtain ⟨⟨J, u0, L0, rfl, hJ, hR, hT0, hJn, hL4⟩⟩ := hok o1.out
    rw [o2.out] at hT0
    obtain rfl : L0 = [] := (List.map_eq_nil_iff.1 hT0)
    obtain ⟨u0q, u0cap, rfl⟩ := own_shape hR.row
    have hj4 : JLive w4 J (w.heap.size + 2) w.heap.size 3 (jnew 1048576) (fun _ => False) := ⟨hL4.sub (fun g hg => by rcases hg with hg | hg; exact hg.elim; exact .inr (.inl hg)), hJ, Nat.le_trans hbw3.size hJn, id⟩
    have hB4 := hbw3.trans hK4.below
    obtain ⟨hst5, hj5, hb5⟩ := story_first hj4
    have hB5 := hB4.trans (hb5.mono hB4.size)
    clear hT0 hR hL4 hJ hok hJn hj4
    unfold ofBlock))
 go_loopg [9, 5] 61 (fun gk i jv wr => ∃ (k J' : Nat) (j : Jn) (v : Value) (X : SX), gk + k = 61 ∧ k ≤ D.length ∧ k ≤ 60 ∧ i = .int .i64 k ∧ jv = .pointer (some ⟨J', 0, none⟩) ∧ JLive wr J' (w.heap.size + 2) w.heap.size (3 + 12 * k) j (storyK (w4.heap.size + 1) v X) ∧ StoryAt wr w.heap.size (w4.heap.size + 1) v X ∧ Tale j (statesOf X) (20 + k) ∧ X.length ≤ k + 1 ∧ Below w.heap.size w wr)
 case atStart => exact ⟨0, J, _, _, _, rfl, by omega, by omega, rfl, rfl, hj5, hst5, ht0, Nat.le_refl _, hB5⟩
 case round =>
  obtain ⟨k, J', j, v, X, hgk, hk, hk60, rfl, rfl, hj, hst, hta, hXl, hB⟩ := hrel
  clear hj5 hst5 ht0 hB5 hB4 hb5
  have two : ∀ P : Prop, ((k : Int) < (D.length : Int) → (k : Int) < 60 → k < D.length → P) → (¬ (k : Int) < (D.length : Int) → P) → ((k : Int) < (D.length : Int) → ¬ (k : Int) < 60 → P) → P := by
   intro P a1 a2 a3
   by_cases b1 : (k : Int) < (D.length : Int)
   ·by_cases b2 : (k : Int) < 60
    ·exact a1 b1 b2 (by omega)
    ·exact a3 b1 b2
   ·exact a2 b1
  apply two
  ·intro hlt hlt60 hltN
   clear two
   obtain ⟨b, off, bv, lv, kv, rfl, hJd, x0, x1, x2, x3, x4⟩ := hDc.out k hltN
   have c0 := (hB.cell (p := ⟨b, off + k * 5, none⟩) (lt_of_cell x0)).trans x0
   have c1 := (hB.cell (p := ⟨b, off + k * 5 + 1, none⟩) (lt_of_cell x1)).trans x1
   have c2 := (hB.cell (p := ⟨b, off + k * 5 + 2, none⟩) (lt_of_cell x2)).trans x2
   have c3 := (hB.cell (p := ⟨b, off + k * 5 + 3, none⟩) (lt_of_cell x3)).trans x3
   have c4 := (hB.cell (p := ⟨b, off + k * 5 + 4, none⟩) (lt_of_cell x4)).trans x4
   clear x0 x1 x2 x3 x4
   generalize D[k] = d at *
   obtain ⟨kind, n, db, dl, dk⟩ := d
   simp only at c0 c1
   obtain ⟨bq, bcap, rfl⟩ : ∃ bq bcap, bv = .slice bq db.length bcap := by
    obtain ⟨_, q, c, e, _⟩ := hJd.b
    exact ⟨q, c, e⟩
   obtain ⟨lq, lcap, rfl⟩ : ∃ lq lcap, lv = .slice lq dl.length lcap := by
    obtain ⟨_, ⟨q, c, e, _⟩, _⟩ := hJd.l
    exact ⟨q, c, e⟩
   obtain ⟨kq, kcap, rfl⟩ : ∃ kq kcap, kv = .slice kq dk.length kcap := by
    rcases hJd.keep.2.2 with ⟨rfl, e⟩ | ⟨a, c, rfl, e⟩ | ⟨a, o, c, rfl, _⟩
    ·exact ⟨none, 0, by rw [show dk = [] from e]; rfl⟩
    ·exact ⟨some a, c, by rw [show dk = [] from e]; rfl⟩
    ·exact ⟨_, c, rfl⟩
   replace hJd : Hid _ := hJd
   replace hj : Hid _ := hj
   replace hst : Hid _ := hst
   replace hta : Hid _ := hta
   have hk5 := Int.emod_nonneg kind (b := 5) (by omega)
   have hk6 := Int.emod_lt_of_pos kind (b := 5) (by omega)
   obtain ⟨kk, hkk, hkl⟩ : ∃ kk : Nat, kind % 5 = kk ∧ kk < 5 := ⟨(kind % 5).toNat, by omega, by omega⟩
   clear hk5 hk6
   rename World => wo
   have hal := (Below.refl wo.heap.size wo).alloc (Nat.le_refl _) (.cells #[.int .i64 kind, .int .i64 n, .slice bq db.length bcap, .slice lq dl.length lcap, .slice kq dk.length kcap] 46)
   have hBx := hB.trans (hal.mono hB.size)
   have hxx := heap_new wo (.cells #[.int .i64 kind, .int .i64 n, .slice bq db.length bcap, .slice lq dl.length lcap, .slice kq dk.length kcap] 46)
   have hxl : wo.heap.size < (wo.alloc (.cells #[.int .i64 kind, .int .i64 n, .slice bq db.length bcap, .slice lq dl.length lcap, .slice kq dk.length kcap] 46)).heap.size := by simp
   obtain ⟨z0, z1, z2, z3, z4⟩ := cells5 hxx
   replace hal : Hid _ := hal
   replace hxx : Hid _ := hxx
   have hbr5 := fun W => bring_any kind 5 (by omega) (by omega) hJd.out.kind1 hJd.out.kind2 W
   rw [hkk] at hbr5
   replace hbr5 : Hid _ := hbr5
   go_upto_block 2 with (go_at_call 17; refine (hbr5.out _).mono ?_; rintro e w6 ⟨rfl, hw6⟩; subst hw6)
   go_cut [] from 54 to 89 (fun wx => ∃ (j' : Jn) (v' : Value) (X' : SX) (kx : Int), StoryAt wx w.heap.size (w4.heap.size + 1) v' X' ∧ X'.length ≤ k + 2 ∧ (∀ L ∈ statesOf X', Small L (20 + k + 1)) ∧ wx.heap[wo.heap.size]? = some (.cells #[.int .i64 kx, .int .i64 n, .slice bq db.length bcap, .slice lq dl.length lcap, .slice kq dk.length kcap] 46) ∧ Below w.heap.size w wx ∧ Live wx (w.heap.size + 2) w.heap.size (3 + 12 * k + 3) j'.s (storyE (w4.heap.size + 1) v' X' (fun g => g = wo.heap.size)) ∧ (∀ g, g = wo.heap.size → ¬ storyK (w4.heap.size + 1) v' X' g) ∧
    ((Tale j' (statesOf X') (20 + k + 1) ∧ JLive wx J' (w.heap.size + 2) w.heap.size (3 + 12 * k + 3) j' (storyK (w4.heap.size + 1) v' X')) ∨ Fallen j'.s (statesOf X') (20 + k + 1)))
   case first =>
    have hsm : ∀ L ∈ statesOf X, Small L (20 + k + 1) := fun L hL => (hta.out.small L hL).mono (by omega)
    have hEd : ∀ g, g = wo.heap.size → ¬ storyK (w4.heap.size + 1) v X g := fun g hg h => by have := (hst.out.lt h).2; omega
    replace hsm : Hid _ := hsm
    replace hEd : Hid _ := hEd
    by_cases h3 : kk < 3
    ·have hX1 : (.cells #[.int .i64 kk, .int .i64 n, .slice bq db.length bcap, .slice lq dl.length lcap, .slice kq dk.length kcap] 46 : Obj) = .cells #[.int .i64 ((kk : Nat) : Int), .int .i64 n, .slice bq db.length bcap, .slice lq dl.length lcap, .slice kq dk.length kcap] 46 := rfl
     clear hX1
     have hal1 := (Below.refl wo.heap.size wo).alloc (Nat.le_refl _) (.cells #[.int .i64 ((kk : Nat) : Int), .int .i64 n, .slice bq db.length bcap, .slice lq dl.length lcap, .slice kq dk.length kcap] 46)
     have hx1 := heap_new wo (.cells #[.int .i64 ((kk : Nat) : Int), .int .i64 n, .slice bq db.length bcap, .slice lq dl.length lcap, .slice kq dk.length kcap] 46)
     have hl1 := hj.out.more (K' := storyE (w4.heap.size + 1) v X (fun g => g = wo.heap.size)) hal1 (fun g hg => hg.elim .inl (fun h => .inr ⟨by omega, by rw [h]; simp⟩))
     have hB1 := hB.trans (hal1.mono hB.size)
     have hgo := goes_any kk h3 n _ _ (.slice kq dk.length kcap) db dl v X _ hl1 hEd.out (hst.out.below hal1) (by omega) hta.out (by omega) (by omega) (fun W hW => hJd.out.b.below (hB1.trans (hW.mono (Nat.le_refl _)))) (fun W hW => hJd.out.l.below (hB1.trans (hW.mono (Nat.le_refl _))))
     have hbT : (∀ x ∈ db.take 200, x < 256) ∧ (db.take 200).length ≤ 200 := ⟨byte_take hJd.out.b.1.1 200, by rw [List.length_take]; omega⟩
     have hF := firstOnes_in (L := dl.map (·.2)) (fun l hl x hx => by
      obtain ⟨q, hq, rfl⟩ := List.mem_map.1 hl
      exact (hJd.out.l.2.2 q hq).1.1 x hx)
     have hlS : Small (firstOnes (dl.map (·.2))) 20 := ⟨hF.2, hF.1⟩
     have hco := tale_goes hta.out (by omega) (by omega) kk _ hbT _ hlS
     have hss := small_goes hta.out (by omega) kk _ hbT _ hlS
     have hXs : (statesOf X).length = X.length := by unfold statesOf; rw [List.length_map]
     rw [hXs] at hss
     generalize goesP j (statesOf X) kk (db.take 200) (firstOnes (dl.map (·.2))) = gp at hgo hco hss
     obtain ⟨⟨j1, c⟩, st1⟩ := gp
     simp only at hco hss
     have hk3 : ¬ ((kk : Nat) : Int) = 3 := by omega
     have hk4 : ¬ ((kk : Nat) : Int) = 4 := by omega
     clear hF hbT hlS hXs h3
     replace hss : Hid _ := hss
     unfold ofBlock at hgo
     have fin : ∀ (wx : World), GoesOk (fun g => g = wo.heap.size) (wo.alloc (.cells #[.int .i64 ((kk : Nat) : Int), .int .i64 n, .slice bq db.length bcap, .slice lq dl.length lcap, .slice kq dk.length kcap] 46)) wx J' (w.heap.size + 2) w.heap.size (3 + 12 * k + 3) (w4.heap.size + 1) ((j1, c), st1) (.returned (.int .i64 c)) →
       (Tale j1 st1 (20 + k + 1) ∨ Fallen j1.s st1 (20 + k + 1)) → (∃ (j' : Jn) (v' : Value) (X' : SX) (kx : Int), StoryAt wx w.heap.size (w4.heap.size + 1) v' X' ∧ X'.length ≤ k + 2 ∧ (∀ L ∈ statesOf X', Small L (20 + k + 1)) ∧ wx.heap[wo.heap.size]? = some (.cells #[.int .i64 kx, .int .i64 n, .slice bq db.length bcap, .slice lq dl.length lcap, .slice kq dk.length kcap] 46) ∧ Below w.heap.size w wx ∧ Live wx (w.heap.size + 2) w.heap.size (3 + 12 * k + 3) j'.s (storyE (w4.heap.size + 1) v' X' (fun g => g = wo.heap.size)) ∧ (∀ g, g = wo.heap.size → ¬ storyK (w4.heap.size + 1) v' X' g) ∧ ((Tale j' (statesOf X') (20 + k + 1) ∧ JLive wx J' (w.heap.size + 2) w.heap.size (3 + 12 * k + 3) j' (storyK (w4.heap.size + 1) v' X')) ∨ Fallen j'.s (statesOf X') (20 + k + 1))) := by
      intro wx hg ht
      obtain ⟨v', X', hs', hst', hl', hd'⟩ := hg.ex
      simp only at hs'
      have hB' := hB1.trans hg.below
      refine ⟨j1, v', X', _, hst', ?_, ?_, (hg.keptE _ rfl).trans hx1, hB', hl'.live.sub (fun g hg => .inl hg), hd', ?_⟩
      ·have : X'.length = st1.length := by rw [← hs']; unfold statesOf; rw [List.length_map]
       have := hss.out.2; omega
      ·rw [hs']; exact hss.out.1
      ·rw [hs']
       exact ht.imp (fun h => ⟨h, ⟨hl'.live.sub (fun g hg => hg.elim (fun h => .inl (.inl h)) .inr), hl'.jnl, hl'.base, fun hg => hl'.out (.inl hg)⟩⟩) id
     replace fin : Hid _ := fin
     rcases hco.ex with ⟨rfl | rfl, hT⟩ | ⟨rfl, hT⟩
     all_goals
      clear hco hss
      replace hT : Hid _ := hT
      go_wp2_with (first
       |(go_at_call 17; refine (hbr5.out _).mono ?_; rintro e w6 ⟨rfl, hw6⟩; subst hw6)
       |(go_at_call 21; refine hgo.mono ?_; clear hgo; rintro e w8 hg8; obtain rfl := hg8.code; replace hg8 : Hid _ := hg8))
      go_meet
      case rel => first | exact fin.out _ hg8.out (.inl hT.out) | exact fin.out _ hg8.out (.inr hT.out)
    ·by_cases h4 : kk = 3
     ·subst h4
      have hcr := live_crash _ dk ((hj.out.live.more (K' := (storyE (w4.heap.size + 1) v X (fun g => g = wo.heap.size))) hal.out (fun g hg => hg.elim (fun h => .inl (.inl h)) (fun h => .inr ⟨by omega, by omega⟩)))) (by omega) (fun w2 hk => hJd.out.keep.below (hBx.trans hk.below))
      unfold ofBlock at hcr
      go_wp2_with (go_at_call 19; refine hcr.mono ?_; clear hcr; rintro e w8 ⟨rfl, hLd, hKd⟩)
      go_meet
      case rel =>
       refine ⟨{ j with s := j.s.crash dk }, v, X, _, (hst.out.below hal.out).same (fun g hg => hKd.same g (.inl hg)), by omega, hsm.out, (hKd.same wo.heap.size (.inr rfl)).trans hxx.out, hBx.trans hKd.below, hLd.mono (by omega), hEd.out, .inr ?_⟩
       exact (hta.out.crash (by omega) dk).mono (fun M hM => hM) (by omega)
     ·obtain rfl : kk = 4 := by omega
      clear h3 h4
      have hf1 := Int.emod_nonneg n (b := 12) (by omega)
      have hf2 := Int.emod_lt_of_pos n (b := 12) (by omega)
      obtain ⟨f, hf⟩ : ∃ f, n % 12 = f := ⟨_, rfl⟩
      have hbr12 := fun W => bring_any n 12 (by omega) (by omega) hJd.out.n1 hJd.out.n2 W
      rw [hf] at hbr12 hf1 hf2
      clear hf
      replace hbr12 : Hid _ := hbr12
      go_wp2_with fail
      refine poised_then 6 (fun x => Below (wo.alloc (.cells #[.int .i64 kind, .int .i64 n, .slice bq db.length bcap, .slice lq dl.length lcap, .slice kq dk.length kcap] 46)).heap.size (wo.alloc (.cells #[.int .i64 kind, .int .i64 n, .slice bq db.length bcap, .slice lq dl.length lcap, .slice kq dk.length kcap] 46)) x) (fun x y => Below (wo.alloc (.cells #[.int .i64 kind, .int .i64 n, .slice bq db.length bcap, .slice lq dl.length lcap, .slice kq dk.length kcap] 46)).heap.size x y) (by kernel_rfl) (by kernel_rfl) (by kernel_rfl) (fun _ _ h k => h.trans k) ((Below.refl _ _).drew) ?_
      apply Exists.intro
      simp only [List.take_succ_cons, List.take_zero]
      iterate 2
       apply walk_det
       ·rfl
       ·intro w2 hC hF
        simp only [upon]
        go_simp
        exact ⟨Below.refl _ _, rfl⟩
       simp only [put_lit, List.set_cons_succ, List.set_cons_zero]
      apply walk_det
      ·rfl
      ·intro w2 hC hF
       have y1 := (hC.cell (p := ⟨wo.heap.size, 1, none⟩) hxl).trans z1
       have y4 := (hC.cell (p := ⟨wo.heap.size, 4, none⟩) hxl).trans z4
       simp only [upon]
       go_simp
       exact ⟨Below.refl _ _, rfl⟩
      simp only [put_lit, List.set_cons_succ, List.set_cons_zero]
      apply walk_det
      ·rfl
      ·intro w2 hC hF
       have y1 := (hC.cell (p := ⟨wo.heap.size, 1, none⟩) hxl).trans z1
       have y4 := (hC.cell (p := ⟨wo.heap.size, 4, none⟩) hxl).trans z4
       simp only [upon]
       go_simp
       exact still_call (hbr12.out w2)
      simp only [put_lit, List.set_cons_succ, List.set_cons_zero]
      apply walk_det
      ·rfl
      ·intro w2 hC hF
       simp only [upon]
       go_simp
       exact ⟨Below.refl _ _, rfl⟩
      simp only [put_lit, List.set_cons_succ, List.set_cons_zero]
      apply walk_det
      ·rfl
      ·intro w2 hC hF
       have y1 := (hC.cell (p := ⟨wo.heap.size, 1, none⟩) hxl).trans z1
       have y4 := (hC.cell (p := ⟨wo.heap.size, 4, none⟩) hxl).trans z4
       simp only [upon]
       go_simp
       exact ⟨Below.refl _ _, rfl⟩
      simp only [put_lit, List.set_cons_succ, List.set_cons_zero]
      apply walk_nil
      intro w7 hC7 _
      simp only [List.drop_succ_cons, List.drop_zero]
      have hB7 := hBx.trans (hC7.mono hBx.size)
      have hfa := live_fail f _ dk ((hj.out.live.more (K' := fun g => storyE (w4.heap.size + 1) v X (fun g => g = wo.heap.size) g ∨ g = J') hal.out (fun g hg => by
       rcases hg with (hg | hg) | hg
       ·exact .inl (.inl hg)
       ·exact .inr ⟨by omega, by omega⟩
       ·exact .inl (.inr hg))).below hC7) (by omega) (by omega) (hJd.out.keep.below hB7) hJd.out.klen
      unfold ofBlock at hfa
      go_wp2_with (go_at_call 20; refine hfa.mono ?_; clear hfa; rintro e w8 ⟨rfl, hL8, hK8⟩)
      go_meet
      case rel =>
       refine ⟨{ j with s := j.s.fail f dk }, v, X, _, ((hst.out.below hal.out).below hC7).same (fun g hg => hK8.same g (.inl (.inl hg))), by omega, hsm.out, (hK8.same wo.heap.size (.inl (.inr rfl))).trans ((hC7.block _ hxl).trans hxx.out), hB7.trans hK8.below, (hL8.sub (fun g hg => .inl hg)).mono (by omega), hEd.out, .inl ⟨(hta.out.fail f dk).1.mono (by omega), ?_⟩⟩
       exact ⟨(hL8.sub (fun g hg => hg.elim (fun h => .inl (.inl h)) .inr)).mono (by omega), (hK8.same J' (.inr rfl)).trans ((hj.out.jnl.below hal.out).below hC7), hj.out.base, hj.out.out⟩
   case rest =>
    obtain ⟨j', v', X', kx, hst', hX', hsm, hxx', hBw, hLw, hEd, hcase⟩ := hcut
    rcases hcase with ⟨hta', hjl⟩ | hfal
    ·have hde := live_dead hLw
     rw [hta'.alive] at hde
     unfold ofBlock at hde
     clear hst hta hj
     replace hst' : Hid _ := hst'
     replace hta' : Hid _ := hta'
     replace hjl : Hid _ := hjl
     go_wp2_with (go_at_call 22; refine hde.mono ?_; clear hde; rintro e w9 ⟨rfl, rfl⟩)
     go_roundg (60 - k)
     case rel => exact ⟨k + 1, J', j', v', X', by omega, by omega, by omega, by go_num, rfl, hjl.out.mono (by omega), hst'.out, hta'.out, by omega, hBw⟩
     case measure => omega
    ·have hde := live_dead hLw
     rw [hfal.dead] at hde
     have hbo := live_boot hLw
     unfold ofBlock at hde hbo
     clear hst hta hj hal hxx z0 z1 z2 z3 z4 hbr5 hkk
     have hn1 := hJd.out.n1
     have hn2 := hJd.out.n2
     replace hst' : Hid _ := hst'
     replace hfal : Hid _ := hfal
     replace hsm : Hid _ := hsm
     replace hxx' : Hid _ := hxx'
     replace hEd : Hid _ := hEd
     have kD : True := trivial
     go_wp2_with (first
      |(clear kD; go_at_call 22; refine hde.mono ?_; clear hde; rintro e w9 ⟨rfl, rfl⟩; have kE : True := trivial)
      |(clear kE; go_at_call 23; refine hbo.mono ?_; clear hbo; rintro e w10 ⟨rfl, hLb, hKb⟩; replace hLb : Hid _ := hLb; replace hKb : Hid _ := hKb))
     have hstb := hst'.out.same (fun g hg => hKb.out.same g (.inl hg))
     have hxb := (hKb.out.same wo.heap.size (.inr rfl)).trans hxx'.out
     have hBb := hBw.trans hKb.out.below
     go_loopg [12] 3 (fun gk2 i wx => ∃ (r : Nat) (s : DS) (n' : Int), gk2 + r = 3 ∧ r ≤ 1 ∧ i = .int .i64 r ∧ (r = 1 → n' = -16) ∧ -9223372036854775808 ≤ n' ∧ n' ≤ 9223372036854775807 ∧ Live wx (w.heap.size + 2) w.heap.size (3 + 12 * k + 3 + 3 * r) s.boot (storyE (w4.heap.size + 1) v' X' (fun g => g = wo.heap.size)) ∧ Fallen s (statesOf X') (20 + k + 1) ∧ StoryAt wx w.heap.size (w4.heap.size + 1) v' X' ∧ wx.heap[wo.heap.size]? = some (.cells #[.int .i64 kx, .int .i64 n', .slice bq db.length bcap, .slice lq dl.length lcap, .slice kq dk.length kcap] 46) ∧ Below w.heap.size w wx)
     case atStart => exact ⟨0, _, n, rfl, by omega, rfl, by omega, hn1, hn2, hLb.out, hfal.out, hstb, hxb, hBb⟩
     case round =>
      obtain ⟨r, s, n', hg2, hr1, rfl, hrn, hn3, hn4, hLr, hfr, hsr, hxr, hBr⟩ := hrel
      clear hLb hstb hxb hBb hKb hfal hst' hxx' hLw
      obtain ⟨u0', u1, u2', u3', u4⟩ := cells5 hxr
      have hxw := (Array.getElem?_eq_some_iff.1 hxr).1
      have hr3 : (r : Int) < 3 := by omega
      have hq1 := Int.tmod_add_mul_tdiv n' 16
      have hq2 := Int.tmod_lt_of_pos n' (show (0 : Int) < 16 by omega)
      have hq3 := Int.lt_tmod_of_pos n' (show (0 : Int) < 16 by omega)
      have hq4 : -576460752303423489 ≤ n'.tdiv 16 ∧ n'.tdiv 16 ≤ 576460752303423489 := by omega
      clear hq1 hq2 hq3
      have gq : IntKind.i64.wrap (n'.tdiv 16) = n'.tdiv 16 := IntWalk.i64_in _ (by omega)
      have hbr9 := fun W => bring_any (n'.tdiv 16) 9 (by omega) (by omega) (by omega) (by omega) W
      have hf1 := Int.emod_nonneg (n'.tdiv 16) (b := 9) (by omega)
      have hf2 := Int.emod_lt_of_pos (n'.tdiv 16) (b := 9) (by omega)
      obtain ⟨f, hf⟩ : ∃ f, n'.tdiv 16 % 9 = f := ⟨_, rfl⟩
      rw [hf] at hbr9 hf1 hf2
      have gf : IntKind.i64.wrap (f - 1) = f - 1 := IntWalk.i64_in _ (by omega)
      have hfr1 : r = 1 → f = 8 := fun h => by rw [← hf, hrn h]; rfl
      clear hf
      replace hrn : Hid (r = 1 → n' = -16) := hrn
      replace hfr1 : Hid (r = 1 → f = 8) := hfr1
      replace hLr : Hid _ := hLr
      replace hfr : Hid _ := hfr
      replace hsr : Hid _ := hsr
      replace hxr : Hid _ := hxr
      go_wp2_with fail
      refine poised_then 8 (fun x => Below wr.heap.size wr x) (fun x y => Below wr.heap.size x y) (by kernel_rfl) (by kernel_rfl) (by kernel_rfl) (fun _ _ h k => h.trans k) ((Below.refl _ _).drew) ?_
      apply Exists.intro
      simp only [List.take_succ_cons, List.take_zero]
      iterate 2
       apply walk_det
       ·rfl
       ·intro w2 hC hF
        simp only [upon]
        go_simp
        exact ⟨Below.refl _ _, rfl⟩
       simp only [put_lit, List.set_cons_succ, List.set_cons_zero]
      apply walk_det
      ·rfl
      ·intro w2 hC hF
       have y1 := (hC.cell (p := ⟨wo.heap.size, 1, none⟩) hxw).trans u1
       have y4 := (hC.cell (p := ⟨wo.heap.size, 4, none⟩) hxw).trans u4
       simp only [upon]
       go_simp
       exact ⟨Below.refl _ _, rfl⟩
      simp only [put_lit, List.set_cons_succ, List.set_cons_zero]
      apply walk_det
      ·rfl
      ·intro w2 hC hF
       simp only [upon]
       go_simp
       exact ⟨Below.refl _ _, rfl⟩
      simp only [put_lit, List.set_cons_succ, List.set_cons_zero]
      apply walk_det
      ·rfl
      ·intro w2 hC hF
       have y1 := (hC.cell (p := ⟨wo.heap.size, 1, none⟩) hxw).trans u1
       have y4 := (hC.cell (p := ⟨wo.heap.size, 4, none⟩) hxw).trans u4
       simp only [upon]
       go_simp
       exact still_call (hbr9 w2)
      simp only [put_lit, List.set_cons_succ, List.set_cons_zero]
      iterate 2
       apply walk_det
       ·rfl
       ·intro w2 hC hF
        simp only [upon]
        go_simp
        exact ⟨Below.refl _ _, rfl⟩
       simp only [put_lit, List.set_cons_succ, List.set_cons_zero]
      apply walk_det
      ·rfl
      ·intro w2 hC hF
       have y1 := (hC.cell (p := ⟨wo.heap.size, 1, none⟩) hxw).trans u1
       have y4 := (hC.cell (p := ⟨wo.heap.size, 4, none⟩) hxw).trans u4
       simp only [upon]
       go_simp
       exact ⟨Below.refl _ _, rfl⟩
      simp only [put_lit, List.set_cons_succ, List.set_cons_zero]
      apply walk_nil
      intro w7 hC7 _
      simp only [List.drop_succ_cons, List.drop_zero]
      have hB7 := hBr.trans (hC7.mono hBr.size)
      have hfa := live_fail (f - 1) _ dk (hLr.out.below hC7) (by omega) (by omega) (hJd.out.keep.below hB7) hJd.out.klen
      unfold ofBlock at hfa
      have hsr7 := hsr.out.below hC7
      have hxr7 := (hC7.block _ hxw).trans hxr.out
      replace hsr7 : Hid _ := hsr7
      replace hxr7 : Hid _ := hxr7
      rcases hfr.out.open (by omega) (f - 1) dk with ⟨h0, hmem, htl⟩ | ⟨h51, hfl, _, hmx⟩
      ·replace h0 : Hid _ := h0
       replace hmem : Hid _ := hmem
       replace htl : Hid _ := htl
       have kA : True := trivial
       go_wp2_with (first
        |(clear kA; go_at_call 20; refine hfa.mono ?_; clear hfa; rintro e w8 ⟨rfl, hL8, hK8⟩; replace hL8 : Hid _ := hL8; replace hK8 : Hid _ := hK8; have kB : True := trivial)
        |(clear kB; go_at_call 10; refine (open_any hL8.out (by omega)).mono ?_; rintro e w9 ⟨hK9, hok, _⟩
          obtain ⟨⟨Jy, uy, Ly, rfl, hJy, hRy, hTy, hJn, hLy⟩⟩ := hok h0.out
          obtain ⟨uq, ucap, rfl⟩ := own_shape hRy.row
          have hK9' : Kept (storyE (w4.heap.size + 1) v' X' (fun g => g = wo.heap.size)) w.heap.size w8 w9 := hK9
          have hsr9 := (hsr7.out.same (fun g hg => hK8.out.same g (.inl hg))).same (fun g hg => hK9.same g (.inl hg))
          have hB9 := (hB7.trans hK8.out.below).trans hK9.below
          have hRy0 := rows_less hRy (Nat.le_trans hBr.size (Nat.le_trans hC7.size hK8.out.below.size))
          have hmem2 : Ly.map (·.2) ∈ statesOf X' := by rw [hTy]; exact hmem.out
          have hLyS := hsm.out _ hmem2
          have hyl : ListIn w9 (.slice uq Ly.length ucap) Ly := hRy.list (fun q hq => (hLyS.each _ (List.mem_map_of_mem hq)).1) (fun q hq => by have := (hLyS.each _ (List.mem_map_of_mem hq)).2; omega)
          have hto := storyTold_any (.slice uq Ly.length ucap) Ly w9 hsr9 (by omega) hyl (fun q hq W hW => ((hsr9.each q hq).below hW).list (fun q' hq' => ((hsm.out _ (List.mem_map_of_mem hq)).each _ (List.mem_map_of_mem hq')).1) (fun q' hq' => by have := ((hsm.out _ (List.mem_map_of_mem hq)).each _ (List.mem_map_of_mem hq')).2; omega)) hmem2
          have hJL : JLive w9 Jy (w.heap.size + 2) w.heap.size (3 + 12 * k + 3 + 3 * r + 3) ⟨(openD (s.boot.fail (f - 1) dk)).1, Ly.length, Ly.length, false⟩ (fun g => storyK (w4.heap.size + 1) v' X' g ∨ rowsK (.slice uq Ly.length ucap) Ly g) :=
           ⟨hLy.sub (fun g hg => by
            rcases hg with (hg | hg) | hg
            ·exact .inl (.inl hg)
            ·exact .inr (.inr hg)
            ·exact .inr (.inl hg)), hJy, Nat.le_trans (hB7.trans hK8.out.below).size hJn, fun hg => by
            rcases hg with hg | hg | ⟨q, hq, hg⟩
            ·have := ((hsr7.out.same (fun g hg => hK8.out.same g (.inl hg))).lt hg).2; omega
            ·have h1 := sort_row hRy.row hg; have h2 := sort_cells hJy; omega
            ·have h1 := sort_row (hRy.each q hq) hg; have h2 := sort_cells hJy; omega⟩
          have hTl : Ly.length = (openL (s.boot.fail (f - 1) dk)).length := by rw [← hTy, List.length_map]
          replace hJL : Hid _ := hJL
          replace hTl : Hid (Ly.length = (openL (s.boot.fail (f - 1) dk)).length) := hTl
          clear hok hJn
          replace hK9 : Hid _ := hK9
          replace hJy : Hid _ := hJy
          replace hRy : Hid _ := hRy
          replace hTy : Hid _ := hTy
          replace hLy : Hid _ := hLy
          replace hsr9 : Hid _ := hsr9
          replace hRy0 : Hid _ := hRy0
          replace hyl : Hid _ := hyl
          unfold ofBlock
          have kC : True := trivial)
        |(clear kC; go_at_call 24; refine hto.mono ?_; clear hto; rintro e wt ⟨rfl, hbt⟩
          have hst0 := hsr9.out.below hbt
          have hSl := (Array.getElem?_eq_some_iff.1 hst0.box).1
          have hstA := hst0.below ((Below.refl wt.heap.size wt).alloc (Nat.le_refl _) (.cells #[.slice uq Ly.length ucap] 22))
          have cS := cell_of hstA.box
          have fS := free_of hstA.box 0
          clear hstA
          replace hst0 : Hid _ := hst0
          replace hbt : Hid _ := hbt
          have kD : True := trivial)
        |(clear kD; rw [setCell_alloc hSl]; go_at_call 20
          obtain ⟨q1, q2, q3, _, _⟩ := story_set (E := fun _ => False) (fun g h => h.elim) (fun g h => h.elim) (fun g h => h.elim) (hJL.out.below hbt.out) hst0.out (fun g h => .inl h) (hRy0.out.below hbt.out) (fun g h => .inr h)
          refine (live_fail (-1) (.slice none 0 0) [] q2.live (by omega) (by omega) (ints_nil _) (by simp)).mono ?_
          rintro e wf ⟨rfl, hLf, hKf⟩
          have hBf := (hB9.trans (hbt.out.mono hB9.size)).trans (q3.trans hKf.below)
          have q1' := q1.same (fun g hg => hKf.same g (.inl (.inl hg)))
          have q2' : JLive wf Jy (w.heap.size + 2) w.heap.size (3 + 12 * (k + 1)) ⟨(openD (s.boot.fail (f - 1) dk)).1.fail (-1) [], Ly.length, Ly.length, false⟩ (storyK (w4.heap.size + 1) (.slice (some ⟨wt.heap.size, 0, none⟩) 1 1) [(.slice uq Ly.length ucap, Ly)]) :=
           ⟨(hLf.sub (fun g hg => hg.elim (fun h => .inl (.inl h)) .inr)).mono (by omega), (hKf.same Jy (.inr rfl)).trans q2.jnl, q2.base, fun hg => q2.out (.inl hg)⟩
          have q3' : Tale ⟨(openD (s.boot.fail (f - 1) dk)).1.fail (-1) [], Ly.length, Ly.length, false⟩ (statesOf [(.slice uq Ly.length ucap, Ly)]) (20 + (k + 1)) := by
           show Tale _ [Ly.map (·.2)] _
           rw [hTy.out, hTl.out]
           exact (htl.out.fail (-1) []).1
          clear q1 q2 q3 hKf hLf
          replace q1' : Hid _ := q1'
          replace q2' : Hid _ := q2'
          replace q3' : Hid _ := q3'
          have hr33 : ¬ (r : Int) = 3 := by omega))
       go_roundg (60 - k)
       case rel => exact ⟨k + 1, Jy, _, _, _, by omega, by omega, by omega, by go_num, rfl, q2'.out, q1'.out, q3'.out, by simp, hBf⟩
       case measure => omega
      ·obtain rfl : r = 0 := by
        rcases Nat.lt_or_ge 0 r with hr | hr
        ·have h1 := hfr1.out (by omega); omega
        ·omega
       replace h51 : Hid _ := h51
       replace hfl : Hid _ := hfl
       have kA : True := trivial
       go_wp2_with (first
        |(clear kA; go_at_call 20; refine hfa.mono ?_; clear hfa; rintro e w8 ⟨rfl, hL8, hK8⟩; replace hL8 : Hid _ := hL8; replace hK8 : Hid _ := hK8; have kB : True := trivial)
        |(clear kB; go_at_call 10; refine (open_any hL8.out (by omega)).mono ?_; rintro e w9 ⟨hK9, _, hno⟩
          obtain ⟨rfl, hLy⟩ := hno (by rw [h51.out]; omega)
          rw [h51.out]
          have hB9 := (hB7.trans hK8.out.below).trans hK9.below
          have hsr9 := (hsr7.out.same (fun g hg => hK8.out.same g (.inl hg))).same (fun g hg => hK9.same g (.inl hg))
          have hxr9 := (hK9.same wo.heap.size (.inr rfl)).trans ((hK8.out.same wo.heap.size (.inr rfl)).trans hxr7.out)
          have hbo9 := live_boot hLy
          unfold ofBlock at hbo9
          clear hno
          replace hsr9 : Hid _ := hsr9
          replace hxr9 : Hid _ := hxr9
          replace hLy : Hid _ := hLy
          have kC : True := trivial)
        |(clear kC; go_at_call 23; refine hbo9.mono ?_; clear hbo9; rintro e wb ⟨rfl, hLb, hKb⟩
          have hBb := hB9.trans hKb.below
          have hsb := hsr9.out.same (fun g hg => hKb.same g (.inl hg))
          have hxb := (hKb.same wo.heap.size (.inr rfl)).trans hxr9.out
          obtain ⟨b0, b1, b2, b3, b4⟩ := cells5 hxb
          have fxb := free_of hxb 1
          replace hsb : Hid _ := hsb
          replace hxb : Hid _ := hxb
          replace hLb : Hid _ := hLb
          replace hKb : Hid _ := hKb))
       have hxl9 := (Array.getElem?_eq_some_iff.1 hxb.out).1
       have hxc := setCell_heap (i := 1) (v := .int .i64 (-16)) hxb.out
       have hbw : w.heap.size ≤ wo.heap.size := hB.size
       go_roundg 2
       case rel =>
        refine ⟨1, _, -16, rfl, by omega, by go_num, fun _ => rfl, by omega, by omega, (hLb.out.set (fun g hg hgK => Below.heap_setCell _ _ _ _ (fun e => hgK (.inr e))) (by simp)).mono (by omega), hfl.out, hsb.out.same (fun g hg => Below.heap_setCell _ _ _ _ (fun e => hEd.out g e hg)), hxc.trans (by rfl), hBb.setCell (p := ⟨wo.heap.size, 1, none⟩) hbw _⟩
       case measure => omega
  all_goals
   intros
   clear hj hst hta hDc two
   go_wp2_with (go_at_call 16; refine (awake_any _).mono ?_; rintro e w6 ⟨rfl, hb6⟩)
   go_returns
   exact ⟨rfl, hB.trans (hb6.mono hB.size)⟩
end Go.Proofs.YtmcmagplaflegaaGreatDoor
