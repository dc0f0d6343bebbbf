/-
 A DEED OF A STORY: goes. Conditions: those of each theorem.
 What a row's argument is: a list of deeds. Conditions: those of each theorem.
-/
import Derived.Test.YtmcmagplaflegaaGreatDoorX15

namespace Go.Proofs.YtmcmagplaflegaaGreatDoor
open Go Go.RowKit Go.MapL Go.Poised

variable {J p n₀ m S : Nat} {j : Jn} {E : Nat → Prop}
/-- What goes answers, and leaves. -/
structure GoesOk (E : Nat → Prop) (w w' : World) (J p n₀ m S : Nat) (q : (Jn × Int) × List (List (List Nat))) (e : Ending) : Prop where
 code : e = .returned (.int .i64 q.1.2)
 below : Below n₀ w w'
 keptE : ∀ g, E g → w'.heap[g]? = w.heap[g]?
 ex : ∃ v X, statesOf X = q.2 ∧ StoryAt w' n₀ S v X ∧ JLive w' J p n₀ m q.1.1 (storyE S v X E) ∧ ∀ g, E g → ¬ storyK S v X g
theorem goesP_0 (j : Jn) (st : List (List (List Nat))) (b : List Nat) (l : List (List Nat)) : goesP j st 0 b l = (j.append b, if (j.append b).2 = 0 ∨ (j.append b).2 = 51 then st ++ [lastOf st ++ [b]] else st) := rfl
theorem goesP_1 (j : Jn) (st : List (List (List Nat))) (b : List Nat) (l : List (List Nat)) : goesP j st 1 b l = (j.sync, if j.sync.2 = 0 then [lastOf st] else if j.sync.2 = 51 then st ++ [lastOf st] else st) := rfl
theorem goesP_2 (j : Jn) (st : List (List (List Nat))) (b : List Nat) (l : List (List Nat)) : goesP j st 2 b l = (j.checkpoint l, if (j.checkpoint l).2 = 0 then [l] else if (j.checkpoint l).2 = 51 then st ++ [l] else st) := rfl
theorem statesOf_snoc (X : SX) (q : Value × List (Value × List Nat)) : statesOf (X ++ [q]) = statesOf X ++ [q.2.map (·.2)] := by unfold statesOf; rw [List.map_append]; rfl
theorem rows_oneCell {w : World} {n : Nat} {u : Value} {L : List (Value × List Nat)} (h : RowsAt w n u L) : ∀ y ∈ L.map (·.1), y.oneCell' = true := by
 intro y hy
 obtain ⟨q, hq, rfl⟩ := List.mem_map.1 hy
 obtain ⟨a, c, e⟩ := own_shape (h.each q hq)
 rw [e]; rfl
theorem RowsAt.copy {w w' : World} {n : Nat} {u u' : Value} {L : List (Value × List Nat)} (h : RowsAt w n u L) (hb : Below w.heap.size w w') (hr : w'.ownsRow w.heap.size 32 1 u' L.length (L.map (·.1))) (hn : n ≤ w.heap.size) : RowsAt w' n u' L :=
 ⟨own_base' hr hn, fun q hq => own_kept (h.each q hq) hb⟩
set_option maxRecDepth 100000 in
set_option maxHeartbeats 16000000 in
theorem goes_1 (N : Int) (vb vl vk : Value) (b : List Nat) (A : List (Value × List Nat)) (v u : Value) (Y : SX) (L : List (Value × List Nat)) (w : World)
  (h : JLive w J p n₀ m j (storyE S v (Y ++ [(u, L)]) E)) (hEd : ∀ g, E g → ¬ storyK S v (Y ++ [(u, L)]) g) (hst : StoryAt w n₀ S v (Y ++ [(u, L)])) (hm : m < 100000) (hY : Y.length ≤ 500) (hLl : L.length ≤ 1000) (_ : j.many ≤ 1000)
  (hb : ∀ W, Below n₀ w W → ArgB W vb b) (hA : ∀ W, Below n₀ w W → ArgR W vl A) :
  Calls Tryz.prog 21 #[ofBlock J, .pointer (some ⟨S, 0, none⟩), .agg #[.int .i64 1, .int .i64 N, vb, vl, vk]] w fun e w' => GoesOk E w w' J p n₀ (m + 3) S (goesP j (statesOf (Y ++ [(u, L)])) 1 (b.take 200) (firstOnes (A.map (·.2)))) e := by
 rw [goesP_1, statesOf_snoc, lastOf_snoc]
 have hbase := h.live.base
 obtain ⟨g, cap, hve, hcl, hgl⟩ := hst.at Y.length (by simp)
 have hu := hst.each (u, L) (by simp)
 have hub : ∀ g', rowsK u L g' → storyK S v (Y ++ [(u, L)]) g' := fun g' hg' => .inr (.inr ⟨(u, L), by simp, hg'⟩)
 simp only [List.getElem_concat_length, List.length_append, List.length_singleton] at hcl hve
 obtain ⟨uq, ucap, hue⟩ := own_shape hu.row
 simp only at hue
 rw [hue] at hcl
 have hal := (Below.refl w.heap.size w).alloc (Nat.le_refl _) (.cells #[.int .i64 1, .int .i64 N, vb, vl, vk] 46)
 have hbx := (hst.below hal).box
 rw [hve] at hbx
 have hcl2 := (hal.cell (p := ⟨g, Y.length, none⟩) hgl).trans hcl
 have hd0 := heap_new w (.cells #[.int .i64 1, .int .i64 N, vb, vl, vk] 46)
 have hnow := now_any S g Y.length cap uq L.length ucap _ hbx hcl2 (by simp; omega) (by omega)
 have hone := rows_oneCell hu
 have hlim : Hid (hst.below hal = hst.below hal) := rfl
 have hbr := fun W => bring_any 1 3 (by omega) (by omega) (by omega) (by omega) W
 simp only [show (1 : Int) % 3 = 1 from rfl] at hbr
 replace hst : Hid _ := hst
 replace h : Hid _ := h
 replace hu : Hid _ := hu
 replace hub : Hid _ := hub
 replace hb : Hid _ := hb
 replace hA : Hid _ := hA
 replace hone : Hid _ := hone
 replace hbr : Hid _ := hbr
 replace hve : Hid _ := hve
 replace hue : Hid _ := hue
 replace hbase : Hid _ := hbase
 replace hal : Hid _ := hal
 clear hbx hcl2 hcl hlim
 obtain ⟨jc, c, hjc⟩ : ∃ jc c, j.sync = (jc, c) := ⟨_, _, rfl⟩
 have hsy := fun W K (hl : JLive W J p n₀ m j K) => jsync_any hl (by omega)
 rw [hjc] at hsy ⊢
 simp only at hsy ⊢
 unfold ofBlock at *
 replace hsy : Hid _ := hsy
 clear hjc
 obtain ⟨i22, hi22, hz22, hs22, hby22⟩ := info_parts info22
 replace hz22 : Hid _ := hz22
 replace hs22 : Hid _ := hs22
 replace hby22 : Hid _ := hby22
 have k1 : True := trivial
 by_cases hc0 : c = 0
 ·subst hc0
  simp only [if_true]
  go_enter Tryz.func21, Tryz.ntmps21
  go_wp2_with (first
  |(clear k1; go_at_call 62; refine hnow.mono ?_; clear hnow; rintro e w1 ⟨rfl, hb1⟩; have hB1 := hal.out.trans (hb1.mono hal.out.size); have hd1 := (hb1.block _ (by simp)).trans hd0; have hu1 := hu.out.below hB1; rw [hue.out] at hu1; have k2 : True := trivial)
  |(clear k2; at_builtin; refine wpList_append_rows _ rfl _ _ rfl w1.heap.size n₀ (.slice none 0 0) (.slice uq L.length ucap) 0 L.length [] (L.map (·.1)) rfl rfl (World.ownsRow_nil _ _ _ _) hu1.row hone.out (by omega) (Nat.le_refl _) ?_; intro x1 w2 hx1 hg1 _
    simp only [Nat.zero_add, List.nil_append] at hx1
    have hBa := below_grown (World.ownsRow_nil w1 w1.heap.size 32 1) (Nat.le_refl _) hg1
    obtain ⟨nx, ncap, rfl⟩ := own_shape hx1
    have hB2 := hB1.trans (hBa.mono hB1.size)
    have hnr := hu1.copy hBa hx1 (Nat.le_trans hbase.out hB1.size)
    have hd2 := (hBa.block _ (Array.getElem?_eq_some_iff.1 hd1).1).trans hd1
    have hz0 : w2.cell? ⟨w.heap.size, 0, none⟩ = some (.int .i64 1) := by simp [World.cell?, hd2]
    have hz2 : w2.cell? ⟨w.heap.size, 2, none⟩ = some vb := by simp [World.cell?, hd2]
    have hz3 : w2.cell? ⟨w.heap.size, 3, none⟩ = some vl := by simp [World.cell?, hd2]
    clear hg1
    have k3 : True := trivial)
  |(clear k3; go_at_call 17; refine (hbr.out _).mono ?_; clear hbr; rintro e w3 ⟨rfl, rfl⟩; have k4 : True := trivial)
  |(clear k4; go_at_call 29; refine (hsy.out _ (fun g' => storyE S v (Y ++ [(u, L)]) E g' ∨ rowK (.slice nx L.length ncap) g') (h.out.more hB2 (fun g' hg' => hg'.imp id (fun h => by have := hx1.lt g' h; have := hB1.size; omega)))).mono ?_; clear hsy; rintro e w4 ⟨rfl, hj4, hK4⟩
    have hst4 := (hst.out.below hB2).same (fun g' hg' => hK4.same g' (.inl (.inl hg')))
    have hnr4 := hnr.same (fun g' hg' => hK4.same g' (hg'.elim .inr (fun h => .inl (.inl (hub.out g' (.inr h))))))
    have hbx4 := cell_of hst4.box
    have hfr4 := free_of hst4.box 0
    have hbx5 := cell_of ((Below.heap_alloc w4 (.cells #[.slice nx L.length ncap] 22) S (Array.getElem?_eq_some_iff.1 hst4.box).1).trans hst4.box)
    have hfr5 := free_of ((Below.heap_alloc w4 (.cells #[.slice nx L.length ncap] 22) S (Array.getElem?_eq_some_iff.1 hst4.box).1).trans hst4.box) 0
    have k5 : True := trivial))
  go_returns
  obtain ⟨q1, q2, q3, q4, q5⟩ := story_set (E := E) (fun g' h => .inl (.inr h)) hEd (fun g' hg' hr => hr.elim (fun h1 => by have h2 := (hx1.lt g' h1).1; have h3 := h.out.lt g' (.inr hg'); have h4 := hB1.size; omega) (fun h1 => hEd g' hg' (hub.out g' (.inr h1)))) hj4 hst4 (fun g' h => .inl (.inl h)) hnr4 (fun g' hg' => hg'.elim .inr (fun h => .inl (.inl (hub.out g' (.inr h)))))
  exact ⟨rfl, ((hB2.mono hbase.out).trans hK4.below).trans q3, fun g' hg' => (q4 g' hg').trans ((hK4.same g' (.inl (.inr hg'))).trans (hB2.block g' (h.out.lt g' (.inr hg')))), _, _, rfl, q1, q2.mono (by omega), q5⟩
 ·simp only [hc0, if_false]
  have hc0b : (c == 0) = false := by simpa using hc0
  by_cases hc51 : c = 51
  ·subst hc51
   simp only [if_true]
   go_enter Tryz.func21, Tryz.ntmps21
   go_wp2_with (first
  |(clear k1; go_at_call 62; refine hnow.mono ?_; clear hnow; rintro e w1 ⟨rfl, hb1⟩; have hB1 := hal.out.trans (hb1.mono hal.out.size); have hd1 := (hb1.block _ (by simp)).trans hd0; have hu1 := hu.out.below hB1; rw [hue.out] at hu1; have k2 : True := trivial)
  |(clear k2; at_builtin; refine wpList_append_rows _ rfl _ _ rfl w1.heap.size n₀ (.slice none 0 0) (.slice uq L.length ucap) 0 L.length [] (L.map (·.1)) rfl rfl (World.ownsRow_nil _ _ _ _) hu1.row hone.out (by omega) (Nat.le_refl _) ?_; intro x1 w2 hx1 hg1 _
    simp only [Nat.zero_add, List.nil_append] at hx1
    have hBa := below_grown (World.ownsRow_nil w1 w1.heap.size 32 1) (Nat.le_refl _) hg1
    obtain ⟨nx, ncap, rfl⟩ := own_shape hx1
    have hB2 := hB1.trans (hBa.mono hB1.size)
    have hnr := hu1.copy hBa hx1 (Nat.le_trans hbase.out hB1.size)
    have hd2 := (hBa.block _ (Array.getElem?_eq_some_iff.1 hd1).1).trans hd1
    have hz0 : w2.cell? ⟨w.heap.size, 0, none⟩ = some (.int .i64 1) := by simp [World.cell?, hd2]
    have hz2 : w2.cell? ⟨w.heap.size, 2, none⟩ = some vb := by simp [World.cell?, hd2]
    have hz3 : w2.cell? ⟨w.heap.size, 3, none⟩ = some vl := by simp [World.cell?, hd2]
    clear hg1
    have k3 : True := trivial)
  |(clear k3; go_at_call 17; refine (hbr.out _).mono ?_; clear hbr; rintro e w3 ⟨rfl, rfl⟩; have k4 : True := trivial)
  |(clear k4; go_at_call 29; refine (hsy.out _ (fun g' => storyE S v (Y ++ [(u, L)]) E g' ∨ rowK (.slice nx L.length ncap) g') (h.out.more hB2 (fun g' hg' => hg'.imp id (fun h => by have := hx1.lt g' h; have := hB1.size; omega)))).mono ?_; clear hsy; rintro e w4 ⟨rfl, hj4, hK4⟩
    have hst4 := (hst.out.below hB2).same (fun g' hg' => hK4.same g' (.inl (.inl hg')))
    have hnr4 := hnr.same (fun g' hg' => hK4.same g' (hg'.elim .inr (fun h => .inl (.inl (hub.out g' (.inr h))))))
    have hbx4 := cell_of hst4.box
    have hfr4 := free_of hst4.box 0
    have hbx5 := cell_of ((Below.heap_alloc w4 (.cells #[.slice nx L.length ncap] 22) S (Array.getElem?_eq_some_iff.1 hst4.box).1).trans hst4.box)
    have hfr5 := free_of ((Below.heap_alloc w4 (.cells #[.slice nx L.length ncap] 22) S (Array.getElem?_eq_some_iff.1 hst4.box).1).trans hst4.box) 0
    have hal5 := (Below.refl w4.heap.size w4).alloc (Nat.le_refl _) (.cells #[(.slice nx L.length ncap)] 22)
    have hst5 := hst4.below hal5
    have hj5 := hj4.below hal5
    have hnr5 := hnr4.below hal5
    have hcn5 := cell_of (heap_new w4 (.cells #[(.slice nx L.length ncap)] 22))
    have hrow5 := hst5.row
    rw [hve.out, List.length_append, List.length_singleton] at hrow5
    have hbs5 := hj5.live.base
    have hSl5 := (Array.getElem?_eq_some_iff.1 hst5.box).1
    have hSv5 := hst5.sortS hst5.row (by decide)
    have hbx5' := hst5.box
    rw [hve.out] at hSv5 hbx5' hbx4
    have k5 : True := trivial)
  |(clear k5; at_builtin; refine wpList_append_far _ rfl _ _ 41 22 i22 (.slice none 0 0) rfl Tryz.underlying41 hi22 hz22.out hs22.out hby22.out rfl n₀ (.slice (some ⟨g, 0, none⟩) (Y.length + 1) cap) (.slice nx L.length ncap) (Y.length + 1) ((Y ++ [(u, L)]).map (·.1)) w4.heap.size rfl rfl hrow5 hcn5 (by simp [Value.oneCell']) (by omega) hbs5 ?_; intro v6 w6 hown6 hg6 hn6
    obtain ⟨v6q, v6cap, rfl⟩ := own_shape hown6
    have hbox6 := (hg6.block S hSl5 (fun e => hSv5 e.symm)).trans hbx5'
    have hcl6 := cell_of hbox6
    have hfr6 := free_of hbox6 0))
   go_returns
   obtain ⟨q1, q2, q3, q4, q5⟩ := story_push (E := E) (fun g' h => .inl (.inr h)) hEd (fun g' hg' hr => hr.elim (fun h1 => by have h2 := (hx1.lt g' h1).1; have h3 := h.out.lt g' (.inr hg'); have h4 := hB1.size; omega) (fun h1 => hEd g' hg' (hub.out g' (.inr h1)))) hj5 hst5 (fun g' h => .inl (.inl h)) hnr5 (fun g' hg' => hg'.elim .inr (fun h => .inl (.inl (hub.out g' (.inr h))))) (by simpa using hown6) (by rw [hve.out]; exact hg6) (by rw [hve.out]; exact hn6)
   refine ⟨rfl, (((hB2.mono hbase.out).trans hK4.below).trans (hal5.mono hj4.live.base)).trans q3, fun g' hg' => (q4 g' hg').trans ((hal5.block g' (hj4.lt g' (.inl (.inr hg')))).trans ((hK4.same g' (.inl (.inr hg'))).trans (hB2.block g' (h.out.lt g' (.inr hg'))))), _, _, ?_, q1, q2.mono (by omega), q5⟩
   rw [statesOf_snoc, statesOf_snoc]
  ·simp only [hc51, if_false]
   have hc51b : (c == 51) = false := by simpa using hc51
   go_enter Tryz.func21, Tryz.ntmps21
   go_wp2_with (first
  |(clear k1; go_at_call 62; refine hnow.mono ?_; clear hnow; rintro e w1 ⟨rfl, hb1⟩; have hB1 := hal.out.trans (hb1.mono hal.out.size); have hd1 := (hb1.block _ (by simp)).trans hd0; have hu1 := hu.out.below hB1; rw [hue.out] at hu1; have k2 : True := trivial)
  |(clear k2; at_builtin; refine wpList_append_rows _ rfl _ _ rfl w1.heap.size n₀ (.slice none 0 0) (.slice uq L.length ucap) 0 L.length [] (L.map (·.1)) rfl rfl (World.ownsRow_nil _ _ _ _) hu1.row hone.out (by omega) (Nat.le_refl _) ?_; intro x1 w2 hx1 hg1 _
    simp only [Nat.zero_add, List.nil_append] at hx1
    have hBa := below_grown (World.ownsRow_nil w1 w1.heap.size 32 1) (Nat.le_refl _) hg1
    obtain ⟨nx, ncap, rfl⟩ := own_shape hx1
    have hB2 := hB1.trans (hBa.mono hB1.size)
    have hnr := hu1.copy hBa hx1 (Nat.le_trans hbase.out hB1.size)
    have hd2 := (hBa.block _ (Array.getElem?_eq_some_iff.1 hd1).1).trans hd1
    have hz0 : w2.cell? ⟨w.heap.size, 0, none⟩ = some (.int .i64 1) := by simp [World.cell?, hd2]
    have hz2 : w2.cell? ⟨w.heap.size, 2, none⟩ = some vb := by simp [World.cell?, hd2]
    have hz3 : w2.cell? ⟨w.heap.size, 3, none⟩ = some vl := by simp [World.cell?, hd2]
    clear hg1
    have k3 : True := trivial)
  |(clear k3; go_at_call 17; refine (hbr.out _).mono ?_; clear hbr; rintro e w3 ⟨rfl, rfl⟩; have k4 : True := trivial)
  |(clear k4; go_at_call 29; refine (hsy.out _ (fun g' => storyE S v (Y ++ [(u, L)]) E g' ∨ rowK (.slice nx L.length ncap) g') (h.out.more hB2 (fun g' hg' => hg'.imp id (fun h => by have := hx1.lt g' h; have := hB1.size; omega)))).mono ?_; clear hsy; rintro e w4 ⟨rfl, hj4, hK4⟩
    have hst4 := (hst.out.below hB2).same (fun g' hg' => hK4.same g' (.inl (.inl hg')))
    have hnr4 := hnr.same (fun g' hg' => hK4.same g' (hg'.elim .inr (fun h => .inl (.inl (hub.out g' (.inr h))))))
    have hbx4 := cell_of hst4.box
    have hfr4 := free_of hst4.box 0
    have hbx5 := cell_of ((Below.heap_alloc w4 (.cells #[.slice nx L.length ncap] 22) S (Array.getElem?_eq_some_iff.1 hst4.box).1).trans hst4.box)
    have hfr5 := free_of ((Below.heap_alloc w4 (.cells #[.slice nx L.length ncap] 22) S (Array.getElem?_eq_some_iff.1 hst4.box).1).trans hst4.box) 0
    have k5 : True := trivial))
   go_returns
   exact ⟨rfl, (hB2.mono hbase.out).trans hK4.below, fun g' hg' => (hK4.same g' (.inl (.inr hg'))).trans (hB2.block g' (h.out.lt g' (.inr hg'))), _, _, statesOf_snoc _ _, hst4, (hj4.mono (by omega)).turn (fun _ _ _ => rfl) (Nat.le_refl _) (fun g' hg' => ⟨.inl (.inl hg'), hg'.elim (fun h => (hst4.lt h).2) (fun h => hj4.lt g' (.inl (.inr h)))⟩), hEd⟩
set_option maxRecDepth 100000 in
set_option maxHeartbeats 16000000 in
theorem goes_0 (N : Int) (vb vl vk : Value) (b : List Nat) (A : List (Value × List Nat)) (v u : Value) (Y : SX) (L : List (Value × List Nat)) (w : World)
  (h : JLive w J p n₀ m j (storyE S v (Y ++ [(u, L)]) E)) (hEd : ∀ g, E g → ¬ storyK S v (Y ++ [(u, L)]) g) (hst : StoryAt w n₀ S v (Y ++ [(u, L)])) (hm : m < 100000) (hY : Y.length ≤ 500) (hLl : L.length ≤ 1000) (hmany : j.many ≤ 1000)
  (hb : ∀ W, Below n₀ w W → ArgB W vb b) (hA : ∀ W, Below n₀ w W → ArgR W vl A) :
  Calls Tryz.prog 21 #[ofBlock J, .pointer (some ⟨S, 0, none⟩), .agg #[.int .i64 0, .int .i64 N, vb, vl, vk]] w fun e w' => GoesOk E w w' J p n₀ (m + 3) S (goesP j (statesOf (Y ++ [(u, L)])) 0 (b.take 200) (firstOnes (A.map (·.2)))) e := by
 rw [goesP_0, statesOf_snoc, lastOf_snoc]
 have hbase := h.live.base
 obtain ⟨g, cap, hve, hcl, hgl⟩ := hst.at Y.length (by simp)
 have hu := hst.each (u, L) (by simp)
 have hub : ∀ g', rowsK u L g' → storyK S v (Y ++ [(u, L)]) g' := fun g' hg' => .inr (.inr ⟨(u, L), by simp, hg'⟩)
 simp only [List.getElem_concat_length, List.length_append, List.length_singleton] at hcl hve
 obtain ⟨uq, ucap, hue⟩ := own_shape hu.row
 simp only at hue
 rw [hue] at hcl
 have hal := (Below.refl w.heap.size w).alloc (Nat.le_refl _) (.cells #[.int .i64 0, .int .i64 N, vb, vl, vk] 46)
 have hbx := (hst.below hal).box
 rw [hve] at hbx
 have hcl2 := (hal.cell (p := ⟨g, Y.length, none⟩) hgl).trans hcl
 have hd0 := heap_new w (.cells #[.int .i64 0, .int .i64 N, vb, vl, vk] 46)
 have hnow := now_any S g Y.length cap uq L.length ucap _ hbx hcl2 (by simp; omega) (by omega)
 have hone := rows_oneCell hu
 have hlim : Hid (hst.below hal = hst.below hal) := rfl
 have hbr := fun W => bring_any 0 3 (by omega) (by omega) (by omega) (by omega) W
 simp only [show (0 : Int) % 3 = 0 from rfl] at hbr
 replace hst : Hid _ := hst
 replace h : Hid _ := h
 replace hu : Hid _ := hu
 replace hub : Hid _ := hub
 replace hb : Hid _ := hb
 replace hA : Hid _ := hA
 replace hone : Hid _ := hone
 replace hbr : Hid _ := hbr
 replace hve : Hid _ := hve
 replace hue : Hid _ := hue
 replace hbase : Hid _ := hbase
 replace hal : Hid _ := hal
 clear hbx hcl2 hcl hlim
 obtain ⟨hvb0, bq, bcap, hbe, hbc⟩ := hb.out w (Below.refl _ _)
 subst hbe
 obtain ⟨ml, hml⟩ : ∃ ml, min b.length 200 = ml := ⟨_, rfl⟩
 have hmi : min (b.length : Int) 200 = (ml : Int) := by omega
 have hmlen : ml ≤ b.length := by omega
 have hm200 : ml ≤ 200 := by omega
 have hmc' : (ml : Int) ≤ (bcap : Int) := by omega
 have hm0 : (0 : Int) ≤ (ml : Int) := by omega
 obtain ⟨B', hB'⟩ : ∃ B', b.take 200 = B' := ⟨_, rfl⟩
 have hl2 : b.take ml = B' := by rw [← hB', ← hml, Nat.min_comm]; exact (List.take_eq_take_min).symm
 have hll : B'.length = ml := by rw [← hl2, List.length_take]; omega
 rw [hB']
 have hsl : ∀ W, Below n₀ w W → BytesIn W (.slice bq ml bcap) B' := fun W hW => by
  obtain ⟨_, _, _, e9, h10, _⟩ := (hb.out W hW).1.take ml hmlen
  cases e9
  rw [hl2] at h10
  exact h10
 obtain ⟨jc, c, hjc⟩ : ∃ jc c, j.append B' = (jc, c) := ⟨_, _, rfl⟩
 have hsy := fun W K (hl : JLive W J p n₀ m j K) (hv : BytesIn W (.slice bq ml bcap) B') => jappend_any (.slice bq ml bcap) B' hl (by omega) (by omega) hv (by omega)
 rw [hjc] at hsy ⊢
 simp only at hsy ⊢
 unfold ofBlock at *
 replace hsy : Hid _ := hsy
 replace hsl : Hid _ := hsl
 replace hll : Hid _ := hll
 clear hjc hl2 hB' hvb0
 obtain ⟨i22, hi22, hz22, hs22, hby22⟩ := info_parts info22
 replace hz22 : Hid _ := hz22
 replace hs22 : Hid _ := hs22
 replace hby22 : Hid _ := hby22
 obtain ⟨i32, hi32, hz32, hs32, hby32⟩ := info_parts info32
 replace hz32 : Hid _ := hz32
 replace hs32 : Hid _ := hs32
 replace hby32 : Hid _ := hby32
 have k1 : True := trivial
 by_cases hc0 : c = 0
 ·subst hc0
  simp only [true_or, if_true]
  go_enter Tryz.func21, Tryz.ntmps21
  go_wp2_with (first
  |(clear k1; go_at_call 62; refine hnow.mono ?_; clear hnow; rintro e w1 ⟨rfl, hb1⟩; have hB1 := hal.out.trans (hb1.mono hal.out.size); have hd1 := (hb1.block _ (by simp)).trans hd0; have hu1 := hu.out.below hB1; rw [hue.out] at hu1; have k2 : True := trivial)
  |(clear k2; at_builtin; refine wpList_append_rows _ rfl _ _ rfl w1.heap.size n₀ (.slice none 0 0) (.slice uq L.length ucap) 0 L.length [] (L.map (·.1)) rfl rfl (World.ownsRow_nil _ _ _ _) hu1.row hone.out (by omega) (Nat.le_refl _) ?_; intro x1 w2 hx1 hg1 _
    simp only [Nat.zero_add, List.nil_append] at hx1
    have hBa := below_grown (World.ownsRow_nil w1 w1.heap.size 32 1) (Nat.le_refl _) hg1
    obtain ⟨nx, ncap, rfl⟩ := own_shape hx1
    have hB2 := hB1.trans (hBa.mono hB1.size)
    have hnr := hu1.copy hBa hx1 (Nat.le_trans hbase.out hB1.size)
    have hd2 := (hBa.block _ (Array.getElem?_eq_some_iff.1 hd1).1).trans hd1
    have hz0 : w2.cell? ⟨w.heap.size, 0, none⟩ = some (.int .i64 0) := by simp [World.cell?, hd2]
    have hz2 : w2.cell? ⟨w.heap.size, 2, none⟩ = some (.slice bq b.length bcap) := by simp [World.cell?, hd2]
    have hz3 : w2.cell? ⟨w.heap.size, 3, none⟩ = some vl := by simp [World.cell?, hd2]
    clear hg1
    have k3 : True := trivial)
  |(clear k3; go_at_call 17; refine (hbr.out _).mono ?_; clear hbr; rintro e w3 ⟨rfl, rfl⟩; have k4 : True := trivial)
  |(clear k4; go_at_call 11; refine (hsy.out _ (fun g' => storyE S v (Y ++ [(u, L)]) E g' ∨ rowK (.slice nx L.length ncap) g') (h.out.more hB2 (fun g' hg' => hg'.imp id (fun h => by have := hx1.lt g' h; have := hB1.size; omega))) (hsl.out _ (hB2.mono hbase.out))).mono ?_; clear hsy; rintro e w4 ⟨rfl, hj3, hK4⟩
    have hBn4 := (hB2.mono hbase.out).trans hK4.below
    have hst3 := (hst.out.below hB2).same (fun g' hg' => hK4.same g' (.inl (.inl hg')))
    have hnr3 := hnr.same (fun g' hg' => hK4.same g' (hg'.elim .inr (fun h => .inl (.inl (hub.out g' (.inr h))))))
    have hcb := copyBytes_any _ B' w4 (hsl.out w4 hBn4) (by have := hll.out; omega)
    have k5 : True := trivial)
  |(clear k5; go_at_call 32; refine hcb.mono ?_; clear hcb; rintro e w5 ⟨cpv, rfl, hcp, hb5⟩; obtain ⟨cq, ccap, rfl⟩ := own_shape hcp
    have hal5 := (Below.refl w5.heap.size w5).alloc (Nat.le_refl _) (.cells #[.slice cq B'.length ccap] 32)
    have hB45 := hb5.trans (hal5.mono hb5.size)
    have hcn5 := cell_of (heap_new w5 (.cells #[.slice cq B'.length ccap] 32))
    have hnr5 := hnr3.below hB45
    have hcp5 := own_base' (own_kept hcp hal5) hj3.live.base
    have hbs5 := Nat.le_trans hj3.live.base hB45.size
    have k6 : True := trivial)
  |(clear k6; at_builtin; refine wpList_append_far _ rfl _ _ 22 32 i32 (.slice none 0 0) rfl Tryz.underlying22 hi32 hz32.out hs32.out hby32.out rfl n₀ (.slice nx L.length ncap) (.slice cq B'.length ccap) L.length (L.map (·.1)) w5.heap.size rfl rfl hnr5.row hcn5 (by simp [Value.oneCell']) (by omega) hbs5 ?_; intro y6 w6 hy6 hgy6 hny6
    have hnr4 := hnr5.push hcp5 hy6 hgy6
    obtain ⟨yq, ycap, rfl⟩ := own_shape hy6
    have hsame6 : ∀ g', storyK S v (Y ++ [(u, L)]) g' → w6.heap[g']? = w4.heap[g']? := fun g' hg' => (hgy6.block g' (Nat.lt_of_lt_of_le (hst3.lt hg').2 hB45.size) (fun e => by have h1 := (hx1.lt g' e.symm).1; have h2 := (hst.out.lt hg').2; have h3 := hB1.size; omega)).trans (hB45.block g' (hst3.lt hg').2)
    have hst4 := hst3.same hsame6
    have hsameE : ∀ g', E g' → w6.heap[g']? = w.heap[g']? := fun g' hg' => ((hgy6.block g' (Nat.lt_of_lt_of_le (hj3.lt g' (.inl (.inr hg'))) hB45.size) (fun e => by have h1 := (hx1.lt g' e.symm).1; have h2 := h.out.lt g' (.inr hg'); have h3 := hB1.size; omega)).trans (hB45.block g' (hj3.lt g' (.inl (.inr hg'))))).trans ((hK4.same g' (.inl (.inr hg'))).trans (hB2.block g' (h.out.lt g' (.inr hg'))))
    have hj4 := hj3.turn (K' := fun g' => storyE S v (Y ++ [(u, L)]) E g' ∨ rowsK (.slice yq (L.length + 1) ycap) (L ++ [(.slice cq B'.length ccap, B')]) g') (w' := w6) (fun g' hgl hgK => (hgy6.block g' (Nat.lt_of_lt_of_le hgl hB45.size) (fun e => hgK (.inr e.symm))).trans (hB45.block g' hgl)) (Nat.le_trans hB45.size hgy6.size) (fun g' hg' => ⟨(by
      rcases hg' with hg' | hg' | ⟨q, hq, hg'⟩
      ·exact .inl (.inl hg')
      ·exact (hny6 g' hg').imp .inr (fun h => Nat.le_trans hB45.size h)
      ·rcases List.mem_append.1 hq with hq | hq
       ·exact .inl (.inl (.inl (hub.out g' (.inr ⟨q, hq, hg'⟩))))
       ·rw [List.mem_singleton] at hq; subst hq; exact .inr (hcp.lt g' hg').1), (by
      rcases hg' with (hg' | hg') | hg'
      ·exact (hst4.lt hg').2
      ·exact Nat.lt_of_lt_of_le (hj3.lt g' (.inl (.inr hg'))) (Nat.le_trans hB45.size hgy6.size)
      ·exact (hnr4.lt hg').2)⟩)
    have hB46 : Below n₀ w4 w6 := (hB45.mono hj3.live.base).trans (below_grown hnr5.row hbs5 hgy6)
    have hbx4 := cell_of hst4.box
    have hfr4 := free_of hst4.box 0
    clear hcn5 hal5 hnr5 hbs5
    have hal5 := (Below.refl w6.heap.size w6).alloc (Nat.le_refl _) (.cells #[(.slice yq (L.length + 1) ycap)] 22)
    have hst5 := hst4.below hal5
    have hj5 := hj4.below hal5
    have hnr5 := hnr4.below hal5
    have hcn5 := cell_of (heap_new w6 (.cells #[(.slice yq (L.length + 1) ycap)] 22))
    have hrow5 := hst5.row
    rw [hve.out, List.length_append, List.length_singleton] at hrow5
    have hbs5 := hj5.live.base
    have hSl5 := (Array.getElem?_eq_some_iff.1 hst5.box).1
    have hSv5 := hst5.sortS hst5.row (by decide)
    have hbx5' := hst5.box
    rw [hve.out] at hSv5 hbx5' hbx4
    have k7 : True := trivial)
  |(clear k7; at_builtin; refine wpList_append_far _ rfl _ _ 41 22 i22 (.slice none 0 0) rfl Tryz.underlying41 hi22 hz22.out hs22.out hby22.out rfl n₀ (.slice (some ⟨g, 0, none⟩) (Y.length + 1) cap) (.slice yq (L.length + 1) ycap) (Y.length + 1) ((Y ++ [(u, L)]).map (·.1)) w6.heap.size rfl rfl hrow5 hcn5 (by simp [Value.oneCell']) (by omega) hbs5 ?_; intro v6 w8 hown6 hg6 hn6
    obtain ⟨v6q, v6cap, rfl⟩ := own_shape hown6
    have hbox6 := (hg6.block S hSl5 (fun e => hSv5 e.symm)).trans hbx5'
    have hcl6 := cell_of hbox6
    have hfr6 := free_of hbox6 0))
  go_returns
  obtain ⟨q1, q2, q3, q4, q5⟩ := story_push (E := E) (fun g' h => .inl (.inr h)) hEd (fun g' hg' hr => by
     have h3 := h.out.lt g' (.inr hg')
     have h4 := hB1.size
     rcases hr with h1 | ⟨q, hq, h1⟩
     ·rcases hny6 g' h1 with h5 | h5
      ·have h6 := (hx1.lt g' h5).1; omega
      ·have h6 := hB45.size; have h7 := hj3.lt g' (.inl (.inr hg')); omega
     ·rcases List.mem_append.1 hq with hq | hq
      ·exact hEd g' hg' (hub.out g' (.inr ⟨q, hq, h1⟩))
      ·rw [List.mem_singleton] at hq; subst hq; have h6 := (hcp.lt g' h1).1; have h7 := hj3.lt g' (.inl (.inr hg')); omega) hj5 hst5 (fun g' h => .inl (.inl h)) hnr5 (fun g' hg' => .inr hg') (by simpa using hown6) (by rw [hve.out]; exact hg6) (by rw [hve.out]; exact hn6)
  refine ⟨rfl, (((hBn4).trans hB46).trans (hal5.mono hj4.live.base)).trans q3, fun g' hg' => (q4 g' hg').trans ((hal5.block g' (hj4.lt g' (.inl (.inr hg')))).trans (hsameE g' hg')), _, _, ?_, q1, q2.mono (by omega), q5⟩
  rw [statesOf_snoc, statesOf_snoc, List.map_append]; rfl
 ·have hc0b : (c == 0) = false := by simpa using hc0
  by_cases hc51 : c = 51
  ·subst hc51
   simp only [or_true, if_true]
   go_enter Tryz.func21, Tryz.ntmps21
   go_wp2_with (first
  |(clear k1; go_at_call 62; refine hnow.mono ?_; clear hnow; rintro e w1 ⟨rfl, hb1⟩; have hB1 := hal.out.trans (hb1.mono hal.out.size); have hd1 := (hb1.block _ (by simp)).trans hd0; have hu1 := hu.out.below hB1; rw [hue.out] at hu1; have k2 : True := trivial)
  |(clear k2; at_builtin; refine wpList_append_rows _ rfl _ _ rfl w1.heap.size n₀ (.slice none 0 0) (.slice uq L.length ucap) 0 L.length [] (L.map (·.1)) rfl rfl (World.ownsRow_nil _ _ _ _) hu1.row hone.out (by omega) (Nat.le_refl _) ?_; intro x1 w2 hx1 hg1 _
    simp only [Nat.zero_add, List.nil_append] at hx1
    have hBa := below_grown (World.ownsRow_nil w1 w1.heap.size 32 1) (Nat.le_refl _) hg1
    obtain ⟨nx, ncap, rfl⟩ := own_shape hx1
    have hB2 := hB1.trans (hBa.mono hB1.size)
    have hnr := hu1.copy hBa hx1 (Nat.le_trans hbase.out hB1.size)
    have hd2 := (hBa.block _ (Array.getElem?_eq_some_iff.1 hd1).1).trans hd1
    have hz0 : w2.cell? ⟨w.heap.size, 0, none⟩ = some (.int .i64 0) := by simp [World.cell?, hd2]
    have hz2 : w2.cell? ⟨w.heap.size, 2, none⟩ = some (.slice bq b.length bcap) := by simp [World.cell?, hd2]
    have hz3 : w2.cell? ⟨w.heap.size, 3, none⟩ = some vl := by simp [World.cell?, hd2]
    clear hg1
    have k3 : True := trivial)
  |(clear k3; go_at_call 17; refine (hbr.out _).mono ?_; clear hbr; rintro e w3 ⟨rfl, rfl⟩; have k4 : True := trivial)
  |(clear k4; go_at_call 11; refine (hsy.out _ (fun g' => storyE S v (Y ++ [(u, L)]) E g' ∨ rowK (.slice nx L.length ncap) g') (h.out.more hB2 (fun g' hg' => hg'.imp id (fun h => by have := hx1.lt g' h; have := hB1.size; omega))) (hsl.out _ (hB2.mono hbase.out))).mono ?_; clear hsy; rintro e w4 ⟨rfl, hj3, hK4⟩
    have hBn4 := (hB2.mono hbase.out).trans hK4.below
    have hst3 := (hst.out.below hB2).same (fun g' hg' => hK4.same g' (.inl (.inl hg')))
    have hnr3 := hnr.same (fun g' hg' => hK4.same g' (hg'.elim .inr (fun h => .inl (.inl (hub.out g' (.inr h))))))
    have hcb := copyBytes_any _ B' w4 (hsl.out w4 hBn4) (by have := hll.out; omega)
    have k5 : True := trivial)
  |(clear k5; go_at_call 32; refine hcb.mono ?_; clear hcb; rintro e w5 ⟨cpv, rfl, hcp, hb5⟩; obtain ⟨cq, ccap, rfl⟩ := own_shape hcp
    have hal5 := (Below.refl w5.heap.size w5).alloc (Nat.le_refl _) (.cells #[.slice cq B'.length ccap] 32)
    have hB45 := hb5.trans (hal5.mono hb5.size)
    have hcn5 := cell_of (heap_new w5 (.cells #[.slice cq B'.length ccap] 32))
    have hnr5 := hnr3.below hB45
    have hcp5 := own_base' (own_kept hcp hal5) hj3.live.base
    have hbs5 := Nat.le_trans hj3.live.base hB45.size
    have k6 : True := trivial)
  |(clear k6; at_builtin; refine wpList_append_far _ rfl _ _ 22 32 i32 (.slice none 0 0) rfl Tryz.underlying22 hi32 hz32.out hs32.out hby32.out rfl n₀ (.slice nx L.length ncap) (.slice cq B'.length ccap) L.length (L.map (·.1)) w5.heap.size rfl rfl hnr5.row hcn5 (by simp [Value.oneCell']) (by omega) hbs5 ?_; intro y6 w6 hy6 hgy6 hny6
    have hnr4 := hnr5.push hcp5 hy6 hgy6
    obtain ⟨yq, ycap, rfl⟩ := own_shape hy6
    have hsame6 : ∀ g', storyK S v (Y ++ [(u, L)]) g' → w6.heap[g']? = w4.heap[g']? := fun g' hg' => (hgy6.block g' (Nat.lt_of_lt_of_le (hst3.lt hg').2 hB45.size) (fun e => by have h1 := (hx1.lt g' e.symm).1; have h2 := (hst.out.lt hg').2; have h3 := hB1.size; omega)).trans (hB45.block g' (hst3.lt hg').2)
    have hst4 := hst3.same hsame6
    have hsameE : ∀ g', E g' → w6.heap[g']? = w.heap[g']? := fun g' hg' => ((hgy6.block g' (Nat.lt_of_lt_of_le (hj3.lt g' (.inl (.inr hg'))) hB45.size) (fun e => by have h1 := (hx1.lt g' e.symm).1; have h2 := h.out.lt g' (.inr hg'); have h3 := hB1.size; omega)).trans (hB45.block g' (hj3.lt g' (.inl (.inr hg'))))).trans ((hK4.same g' (.inl (.inr hg'))).trans (hB2.block g' (h.out.lt g' (.inr hg'))))
    have hj4 := hj3.turn (K' := fun g' => storyE S v (Y ++ [(u, L)]) E g' ∨ rowsK (.slice yq (L.length + 1) ycap) (L ++ [(.slice cq B'.length ccap, B')]) g') (w' := w6) (fun g' hgl hgK => (hgy6.block g' (Nat.lt_of_lt_of_le hgl hB45.size) (fun e => hgK (.inr e.symm))).trans (hB45.block g' hgl)) (Nat.le_trans hB45.size hgy6.size) (fun g' hg' => ⟨(by
      rcases hg' with hg' | hg' | ⟨q, hq, hg'⟩
      ·exact .inl (.inl hg')
      ·exact (hny6 g' hg').imp .inr (fun h => Nat.le_trans hB45.size h)
      ·rcases List.mem_append.1 hq with hq | hq
       ·exact .inl (.inl (.inl (hub.out g' (.inr ⟨q, hq, hg'⟩))))
       ·rw [List.mem_singleton] at hq; subst hq; exact .inr (hcp.lt g' hg').1), (by
      rcases hg' with (hg' | hg') | hg'
      ·exact (hst4.lt hg').2
      ·exact Nat.lt_of_lt_of_le (hj3.lt g' (.inl (.inr hg'))) (Nat.le_trans hB45.size hgy6.size)
      ·exact (hnr4.lt hg').2)⟩)
    have hB46 : Below n₀ w4 w6 := (hB45.mono hj3.live.base).trans (below_grown hnr5.row hbs5 hgy6)
    have hbx4 := cell_of hst4.box
    have hfr4 := free_of hst4.box 0
    clear hcn5 hal5 hnr5 hbs5
    have hal5 := (Below.refl w6.heap.size w6).alloc (Nat.le_refl _) (.cells #[(.slice yq (L.length + 1) ycap)] 22)
    have hst5 := hst4.below hal5
    have hj5 := hj4.below hal5
    have hnr5 := hnr4.below hal5
    have hcn5 := cell_of (heap_new w6 (.cells #[(.slice yq (L.length + 1) ycap)] 22))
    have hrow5 := hst5.row
    rw [hve.out, List.length_append, List.length_singleton] at hrow5
    have hbs5 := hj5.live.base
    have hSl5 := (Array.getElem?_eq_some_iff.1 hst5.box).1
    have hSv5 := hst5.sortS hst5.row (by decide)
    have hbx5' := hst5.box
    rw [hve.out] at hSv5 hbx5' hbx4
    have k7 : True := trivial)
  |(clear k7; at_builtin; refine wpList_append_far _ rfl _ _ 41 22 i22 (.slice none 0 0) rfl Tryz.underlying41 hi22 hz22.out hs22.out hby22.out rfl n₀ (.slice (some ⟨g, 0, none⟩) (Y.length + 1) cap) (.slice yq (L.length + 1) ycap) (Y.length + 1) ((Y ++ [(u, L)]).map (·.1)) w6.heap.size rfl rfl hrow5 hcn5 (by simp [Value.oneCell']) (by omega) hbs5 ?_; intro v6 w8 hown6 hg6 hn6
    obtain ⟨v6q, v6cap, rfl⟩ := own_shape hown6
    have hbox6 := (hg6.block S hSl5 (fun e => hSv5 e.symm)).trans hbx5'
    have hcl6 := cell_of hbox6
    have hfr6 := free_of hbox6 0))
   go_returns
   obtain ⟨q1, q2, q3, q4, q5⟩ := story_push (E := E) (fun g' h => .inl (.inr h)) hEd (fun g' hg' hr => by
     have h3 := h.out.lt g' (.inr hg')
     have h4 := hB1.size
     rcases hr with h1 | ⟨q, hq, h1⟩
     ·rcases hny6 g' h1 with h5 | h5
      ·have h6 := (hx1.lt g' h5).1; omega
      ·have h6 := hB45.size; have h7 := hj3.lt g' (.inl (.inr hg')); omega
     ·rcases List.mem_append.1 hq with hq | hq
      ·exact hEd g' hg' (hub.out g' (.inr ⟨q, hq, h1⟩))
      ·rw [List.mem_singleton] at hq; subst hq; have h6 := (hcp.lt g' h1).1; have h7 := hj3.lt g' (.inl (.inr hg')); omega) hj5 hst5 (fun g' h => .inl (.inl h)) hnr5 (fun g' hg' => .inr hg') (by simpa using hown6) (by rw [hve.out]; exact hg6) (by rw [hve.out]; exact hn6)
   refine ⟨rfl, (((hBn4).trans hB46).trans (hal5.mono hj4.live.base)).trans q3, fun g' hg' => (q4 g' hg').trans ((hal5.block g' (hj4.lt g' (.inl (.inr hg')))).trans (hsameE g' hg')), _, _, ?_, q1, q2.mono (by omega), q5⟩
   rw [statesOf_snoc, statesOf_snoc, List.map_append]; rfl
  ·rw [if_neg (by rintro (h | h); exact hc0 h; exact hc51 h)]
   have hc51b : (c == 51) = false := by simpa using hc51
   go_enter Tryz.func21, Tryz.ntmps21
   go_wp2_with (first
  |(clear k1; go_at_call 62; refine hnow.mono ?_; clear hnow; rintro e w1 ⟨rfl, hb1⟩; have hB1 := hal.out.trans (hb1.mono hal.out.size); have hd1 := (hb1.block _ (by simp)).trans hd0; have hu1 := hu.out.below hB1; rw [hue.out] at hu1; have k2 : True := trivial)
  |(clear k2; at_builtin; refine wpList_append_rows _ rfl _ _ rfl w1.heap.size n₀ (.slice none 0 0) (.slice uq L.length ucap) 0 L.length [] (L.map (·.1)) rfl rfl (World.ownsRow_nil _ _ _ _) hu1.row hone.out (by omega) (Nat.le_refl _) ?_; intro x1 w2 hx1 hg1 _
    simp only [Nat.zero_add, List.nil_append] at hx1
    have hBa := below_grown (World.ownsRow_nil w1 w1.heap.size 32 1) (Nat.le_refl _) hg1
    obtain ⟨nx, ncap, rfl⟩ := own_shape hx1
    have hB2 := hB1.trans (hBa.mono hB1.size)
    have hnr := hu1.copy hBa hx1 (Nat.le_trans hbase.out hB1.size)
    have hd2 := (hBa.block _ (Array.getElem?_eq_some_iff.1 hd1).1).trans hd1
    have hz0 : w2.cell? ⟨w.heap.size, 0, none⟩ = some (.int .i64 0) := by simp [World.cell?, hd2]
    have hz2 : w2.cell? ⟨w.heap.size, 2, none⟩ = some (.slice bq b.length bcap) := by simp [World.cell?, hd2]
    have hz3 : w2.cell? ⟨w.heap.size, 3, none⟩ = some vl := by simp [World.cell?, hd2]
    clear hg1
    have k3 : True := trivial)
  |(clear k3; go_at_call 17; refine (hbr.out _).mono ?_; clear hbr; rintro e w3 ⟨rfl, rfl⟩; have k4 : True := trivial)
  |(clear k4; go_at_call 11; refine (hsy.out _ (fun g' => storyE S v (Y ++ [(u, L)]) E g' ∨ rowK (.slice nx L.length ncap) g') (h.out.more hB2 (fun g' hg' => hg'.imp id (fun h => by have := hx1.lt g' h; have := hB1.size; omega))) (hsl.out _ (hB2.mono hbase.out))).mono ?_; clear hsy; rintro e w4 ⟨rfl, hj3, hK4⟩
    have hBn4 := (hB2.mono hbase.out).trans hK4.below
    have hst3 := (hst.out.below hB2).same (fun g' hg' => hK4.same g' (.inl (.inl hg')))
    have hnr3 := hnr.same (fun g' hg' => hK4.same g' (hg'.elim .inr (fun h => .inl (.inl (hub.out g' (.inr h))))))
    have hcb := copyBytes_any _ B' w4 (hsl.out w4 hBn4) (by have := hll.out; omega)
    have k5 : True := trivial)
  |(clear k5; go_at_call 32; refine hcb.mono ?_; clear hcb; rintro e w5 ⟨cpv, rfl, hcp, hb5⟩; obtain ⟨cq, ccap, rfl⟩ := own_shape hcp
    have hal5 := (Below.refl w5.heap.size w5).alloc (Nat.le_refl _) (.cells #[.slice cq B'.length ccap] 32)
    have hB45 := hb5.trans (hal5.mono hb5.size)
    have hcn5 := cell_of (heap_new w5 (.cells #[.slice cq B'.length ccap] 32))
    have hnr5 := hnr3.below hB45
    have hcp5 := own_base' (own_kept hcp hal5) hj3.live.base
    have hbs5 := Nat.le_trans hj3.live.base hB45.size
    have k6 : True := trivial)
  |(clear k6; at_builtin; refine wpList_append_far _ rfl _ _ 22 32 i32 (.slice none 0 0) rfl Tryz.underlying22 hi32 hz32.out hs32.out hby32.out rfl n₀ (.slice nx L.length ncap) (.slice cq B'.length ccap) L.length (L.map (·.1)) w5.heap.size rfl rfl hnr5.row hcn5 (by simp [Value.oneCell']) (by omega) hbs5 ?_; intro y6 w6 hy6 hgy6 hny6
    have hnr4 := hnr5.push hcp5 hy6 hgy6
    obtain ⟨yq, ycap, rfl⟩ := own_shape hy6
    have hsame6 : ∀ g', storyK S v (Y ++ [(u, L)]) g' → w6.heap[g']? = w4.heap[g']? := fun g' hg' => (hgy6.block g' (Nat.lt_of_lt_of_le (hst3.lt hg').2 hB45.size) (fun e => by have h1 := (hx1.lt g' e.symm).1; have h2 := (hst.out.lt hg').2; have h3 := hB1.size; omega)).trans (hB45.block g' (hst3.lt hg').2)
    have hst4 := hst3.same hsame6
    have hsameE : ∀ g', E g' → w6.heap[g']? = w.heap[g']? := fun g' hg' => ((hgy6.block g' (Nat.lt_of_lt_of_le (hj3.lt g' (.inl (.inr hg'))) hB45.size) (fun e => by have h1 := (hx1.lt g' e.symm).1; have h2 := h.out.lt g' (.inr hg'); have h3 := hB1.size; omega)).trans (hB45.block g' (hj3.lt g' (.inl (.inr hg'))))).trans ((hK4.same g' (.inl (.inr hg'))).trans (hB2.block g' (h.out.lt g' (.inr hg'))))
    have hj4 := hj3.turn (K' := fun g' => storyE S v (Y ++ [(u, L)]) E g' ∨ rowsK (.slice yq (L.length + 1) ycap) (L ++ [(.slice cq B'.length ccap, B')]) g') (w' := w6) (fun g' hgl hgK => (hgy6.block g' (Nat.lt_of_lt_of_le hgl hB45.size) (fun e => hgK (.inr e.symm))).trans (hB45.block g' hgl)) (Nat.le_trans hB45.size hgy6.size) (fun g' hg' => ⟨(by
      rcases hg' with hg' | hg' | ⟨q, hq, hg'⟩
      ·exact .inl (.inl hg')
      ·exact (hny6 g' hg').imp .inr (fun h => Nat.le_trans hB45.size h)
      ·rcases List.mem_append.1 hq with hq | hq
       ·exact .inl (.inl (.inl (hub.out g' (.inr ⟨q, hq, hg'⟩))))
       ·rw [List.mem_singleton] at hq; subst hq; exact .inr (hcp.lt g' hg').1), (by
      rcases hg' with (hg' | hg') | hg'
      ·exact (hst4.lt hg').2
      ·exact Nat.lt_of_lt_of_le (hj3.lt g' (.inl (.inr hg'))) (Nat.le_trans hB45.size hgy6.size)
      ·exact (hnr4.lt hg').2)⟩)
    have hB46 : Below n₀ w4 w6 := (hB45.mono hj3.live.base).trans (below_grown hnr5.row hbs5 hgy6)
    have hbx4 := cell_of hst4.box
    have hfr4 := free_of hst4.box 0
    clear hcn5 hal5 hnr5 hbs5
    have k7 : True := trivial))
   go_returns
   exact ⟨rfl, hBn4.trans hB46, hsameE, _, _, statesOf_snoc _ _, hst4, (hj4.mono (by omega)).turn (fun _ _ _ => rfl) (Nat.le_refl _) (fun g' hg' => ⟨.inl (.inl hg'), hg'.elim (fun h => (hst4.lt h).2) (fun h => hj4.lt g' (.inl (.inr h)))⟩), hEd⟩
set_option maxRecDepth 100000 in
set_option maxHeartbeats 16000000 in
theorem goes_2 (N : Int) (vb vl vk : Value) (b : List Nat) (A : List (Value × List Nat)) (v u : Value) (Y : SX) (L : List (Value × List Nat)) (w : World)
  (h : JLive w J p n₀ m j (storyE S v (Y ++ [(u, L)]) E)) (hEd : ∀ g, E g → ¬ storyK S v (Y ++ [(u, L)]) g) (hst : StoryAt w n₀ S v (Y ++ [(u, L)])) (hm : m < 100000) (hY : Y.length ≤ 500) (hLl : L.length ≤ 1000) (_ : j.many ≤ 1000)
  (hb : ∀ W, Below n₀ w W → ArgB W vb b) (hA : ∀ W, Below n₀ w W → ArgR W vl A) :
  Calls Tryz.prog 21 #[ofBlock J, .pointer (some ⟨S, 0, none⟩), .agg #[.int .i64 2, .int .i64 N, vb, vl, vk]] w fun e w' => GoesOk E w w' J p n₀ (m + 3) S (goesP j (statesOf (Y ++ [(u, L)])) 2 (b.take 200) (firstOnes (A.map (·.2)))) e := by
 rw [goesP_2, statesOf_snoc]
 have hbase := h.live.base
 obtain ⟨g, cap, hve, hcl, hgl⟩ := hst.at Y.length (by simp)
 have hu := hst.each (u, L) (by simp)
 have hub : ∀ g', rowsK u L g' → storyK S v (Y ++ [(u, L)]) g' := fun g' hg' => .inr (.inr ⟨(u, L), by simp, hg'⟩)
 simp only [List.getElem_concat_length, List.length_append, List.length_singleton] at hcl hve
 obtain ⟨uq, ucap, hue⟩ := own_shape hu.row
 simp only at hue
 rw [hue] at hcl
 have hal := (Below.refl w.heap.size w).alloc (Nat.le_refl _) (.cells #[.int .i64 2, .int .i64 N, vb, vl, vk] 46)
 have hbx := (hst.below hal).box
 rw [hve] at hbx
 have hcl2 := (hal.cell (p := ⟨g, Y.length, none⟩) hgl).trans hcl
 have hd0 := heap_new w (.cells #[.int .i64 2, .int .i64 N, vb, vl, vk] 46)
 have hnow := now_any S g Y.length cap uq L.length ucap _ hbx hcl2 (by simp; omega) (by omega)
 have hone := rows_oneCell hu
 have hlim : Hid (hst.below hal = hst.below hal) := rfl
 have hbr := fun W => bring_any 2 3 (by omega) (by omega) (by omega) (by omega) W
 simp only [show (2 : Int) % 3 = 2 from rfl] at hbr
 replace hst : Hid _ := hst
 replace h : Hid _ := h
 replace hu : Hid _ := hu
 replace hub : Hid _ := hub
 replace hb : Hid _ := hb
 replace hA : Hid _ := hA
 replace hone : Hid _ := hone
 replace hbr : Hid _ := hbr
 replace hve : Hid _ := hve
 replace hue : Hid _ := hue
 replace hbase : Hid _ := hbase
 replace hal : Hid _ := hal
 clear hbx hcl2 hcl hlim
 have hso := fun W (hB : Below n₀ w W) => some_first vl A W (hA.out W hB)
 have hvl : ∃ q n c, vl = .slice q n c := by
  obtain ⟨_, ⟨q, cap, e, _⟩, _⟩ := hA.out w (Below.refl _ _)
  exact ⟨_, _, _, e⟩
 obtain ⟨lq, ln, lc, rfl⟩ := hvl
 obtain ⟨T, hT⟩ : ∃ T, firstOnes (A.map (·.2)) = T := ⟨_, rfl⟩
 rw [hT] at hso ⊢
 obtain ⟨jc, c, hjc⟩ : ∃ jc c, j.checkpoint T = (jc, c) := ⟨_, _, rfl⟩
 have hsy := fun W K q n cp M (hl : JLive W J p n₀ m j K) (hM : FirstAt W n (.slice q M.length cp) M T) => jcheckpoint_any (.slice q M.length cp) M hl (by omega) hM.list (fun x hx => by have := (hM.each x.2 (by rw [← hM.eq]; exact List.mem_map_of_mem hx)).2; omega)
 have hsy := fun W K q n cp M (hl : JLive W J p n₀ m j K) (hM : FirstAt W n (.slice q M.length cp) M T) => (show Calls Tryz.prog 12 #[ofBlock J, .slice q M.length cp] W fun e w' => e = .returned (.int .i64 c) ∧ JLive w' J p n₀ (m + 3) jc K ∧ Kept K n₀ W w' from by
  have := hsy W K q n cp M hl hM
  rw [hM.eq, hjc] at this
  exact this)
 rw [hjc]
 simp only
 unfold ofBlock at *
 replace hsy : Hid _ := hsy
 replace hso : Hid _ := hso
 clear hjc hT
 obtain ⟨i22, hi22, hz22, hs22, hby22⟩ := info_parts info22
 replace hz22 : Hid _ := hz22
 replace hs22 : Hid _ := hs22
 replace hby22 : Hid _ := hby22
 have k1 : True := trivial
 by_cases hc0 : c = 0
 ·subst hc0
  simp only [if_true]
  go_enter Tryz.func21, Tryz.ntmps21
  go_wp2_with (first
  |(clear k1; go_at_call 62; refine hnow.mono ?_; clear hnow; rintro e w1 ⟨rfl, hb1⟩; have hB1 := hal.out.trans (hb1.mono hal.out.size); have hd1 := (hb1.block _ (by simp)).trans hd0; have hu1 := hu.out.below hB1; rw [hue.out] at hu1; have k2 : True := trivial)
  |(clear k2; at_builtin; refine wpList_append_rows _ rfl _ _ rfl w1.heap.size n₀ (.slice none 0 0) (.slice uq L.length ucap) 0 L.length [] (L.map (·.1)) rfl rfl (World.ownsRow_nil _ _ _ _) hu1.row hone.out (by omega) (Nat.le_refl _) ?_; intro x1 w2 hx1 hg1 _
    simp only [Nat.zero_add, List.nil_append] at hx1
    have hBa := below_grown (World.ownsRow_nil w1 w1.heap.size 32 1) (Nat.le_refl _) hg1
    obtain ⟨nx, ncap, rfl⟩ := own_shape hx1
    have hB2 := hB1.trans (hBa.mono hB1.size)
    have hnr := hu1.copy hBa hx1 (Nat.le_trans hbase.out hB1.size)
    have hd2 := (hBa.block _ (Array.getElem?_eq_some_iff.1 hd1).1).trans hd1
    have hz0 : w2.cell? ⟨w.heap.size, 0, none⟩ = some (.int .i64 2) := by simp [World.cell?, hd2]
    have hz2 : w2.cell? ⟨w.heap.size, 2, none⟩ = some vb := by simp [World.cell?, hd2]
    have hz3 : w2.cell? ⟨w.heap.size, 3, none⟩ = some (.slice lq ln lc) := by simp [World.cell?, hd2]
    clear hg1
    have k3 : True := trivial)
  |(clear k3; go_at_call 17; refine (hbr.out _).mono ?_; clear hbr; rintro e w3 ⟨rfl, rfl⟩; have k4 : True := trivial)
  |(clear k4; go_at_call 8; refine (hso.out _ (hB2.mono hbase.out)).mono ?_; clear hso; rintro e w4 ⟨u4, M, rfl, hM, hb4⟩; obtain ⟨mx, mcap, rfl⟩ := own_shape hM.rows.row; have hB4 := hB2.trans (hb4.mono hB2.size)
    have k5 : True := trivial)
  |(clear k5; go_at_call 12; refine (hsy.out _ (fun g' => storyE S v (Y ++ [(u, L)]) E g' ∨ rowsK (.slice mx M.length mcap) M g') _ _ _ _ (h.out.more hB4 (fun g' hg' => hg'.imp id (fun h => by have := hM.rows.lt h; have := hB2.size; omega))) hM).mono ?_; clear hsy; rintro e w5 ⟨rfl, hj4, hK4⟩
    have hst4 := (hst.out.below hB4).same (fun g' hg' => hK4.same g' (.inl (.inl hg')))
    have hnr4 := (rows_less hM.rows (Nat.le_trans hbase.out hB2.size)).same (fun g' hg' => hK4.same g' (.inr hg'))
    have hbx4 := cell_of hst4.box
    have hfr4 := free_of hst4.box 0
    have hbx5 := cell_of ((Below.heap_alloc w5 (.cells #[.slice mx M.length mcap] 22) S (Array.getElem?_eq_some_iff.1 hst4.box).1).trans hst4.box)
    have hfr5 := free_of ((Below.heap_alloc w5 (.cells #[.slice mx M.length mcap] 22) S (Array.getElem?_eq_some_iff.1 hst4.box).1).trans hst4.box) 0
    have hMe : Hid (M.map (·.2) = T) := hM.eq
    have k6 : True := trivial))
  go_returns
  obtain ⟨q1, q2, q3, q4, q5⟩ := story_set (E := E) (fun g' h => .inl (.inr h)) hEd (fun g' hg' hr => by have h1 := (hM.rows.lt hr).1; have h3 := h.out.lt g' (.inr hg'); have h4 := hB2.size; omega) hj4 hst4 (fun g' h => .inl (.inl h)) hnr4 (fun g' hg' => .inr hg')
  exact ⟨rfl, ((hB4.mono hbase.out).trans hK4.below).trans q3, fun g' hg' => (q4 g' hg').trans ((hK4.same g' (.inl (.inr hg'))).trans (hB4.block g' (h.out.lt g' (.inr hg')))), _, _, by show [M.map (·.2)] = _; rw [hMe.out], q1, q2, q5⟩
 ·simp only [hc0, if_false]
  have hc0b : (c == 0) = false := by simpa using hc0
  by_cases hc51 : c = 51
  ·subst hc51
   simp only [if_true]
   go_enter Tryz.func21, Tryz.ntmps21
   go_wp2_with (first
  |(clear k1; go_at_call 62; refine hnow.mono ?_; clear hnow; rintro e w1 ⟨rfl, hb1⟩; have hB1 := hal.out.trans (hb1.mono hal.out.size); have hd1 := (hb1.block _ (by simp)).trans hd0; have hu1 := hu.out.below hB1; rw [hue.out] at hu1; have k2 : True := trivial)
  |(clear k2; at_builtin; refine wpList_append_rows _ rfl _ _ rfl w1.heap.size n₀ (.slice none 0 0) (.slice uq L.length ucap) 0 L.length [] (L.map (·.1)) rfl rfl (World.ownsRow_nil _ _ _ _) hu1.row hone.out (by omega) (Nat.le_refl _) ?_; intro x1 w2 hx1 hg1 _
    simp only [Nat.zero_add, List.nil_append] at hx1
    have hBa := below_grown (World.ownsRow_nil w1 w1.heap.size 32 1) (Nat.le_refl _) hg1
    obtain ⟨nx, ncap, rfl⟩ := own_shape hx1
    have hB2 := hB1.trans (hBa.mono hB1.size)
    have hnr := hu1.copy hBa hx1 (Nat.le_trans hbase.out hB1.size)
    have hd2 := (hBa.block _ (Array.getElem?_eq_some_iff.1 hd1).1).trans hd1
    have hz0 : w2.cell? ⟨w.heap.size, 0, none⟩ = some (.int .i64 2) := by simp [World.cell?, hd2]
    have hz2 : w2.cell? ⟨w.heap.size, 2, none⟩ = some vb := by simp [World.cell?, hd2]
    have hz3 : w2.cell? ⟨w.heap.size, 3, none⟩ = some (.slice lq ln lc) := by simp [World.cell?, hd2]
    clear hg1
    have k3 : True := trivial)
  |(clear k3; go_at_call 17; refine (hbr.out _).mono ?_; clear hbr; rintro e w3 ⟨rfl, rfl⟩; have k4 : True := trivial)
  |(clear k4; go_at_call 8; refine (hso.out _ (hB2.mono hbase.out)).mono ?_; clear hso; rintro e w4 ⟨u4, M, rfl, hM, hb4⟩; obtain ⟨mx, mcap, rfl⟩ := own_shape hM.rows.row; have hB4 := hB2.trans (hb4.mono hB2.size)
    have k5 : True := trivial)
  |(clear k5; go_at_call 12; refine (hsy.out _ (fun g' => storyE S v (Y ++ [(u, L)]) E g' ∨ rowsK (.slice mx M.length mcap) M g') _ _ _ _ (h.out.more hB4 (fun g' hg' => hg'.imp id (fun h => by have := hM.rows.lt h; have := hB2.size; omega))) hM).mono ?_; clear hsy; rintro e w5 ⟨rfl, hj4, hK4⟩
    have hst4 := (hst.out.below hB4).same (fun g' hg' => hK4.same g' (.inl (.inl hg')))
    have hnr4 := (rows_less hM.rows (Nat.le_trans hbase.out hB2.size)).same (fun g' hg' => hK4.same g' (.inr hg'))
    have hbx4 := cell_of hst4.box
    have hfr4 := free_of hst4.box 0
    have hbx5 := cell_of ((Below.heap_alloc w5 (.cells #[.slice mx M.length mcap] 22) S (Array.getElem?_eq_some_iff.1 hst4.box).1).trans hst4.box)
    have hfr5 := free_of ((Below.heap_alloc w5 (.cells #[.slice mx M.length mcap] 22) S (Array.getElem?_eq_some_iff.1 hst4.box).1).trans hst4.box) 0
    have hMe : Hid (M.map (·.2) = T) := hM.eq
    have hal5 := (Below.refl w5.heap.size w5).alloc (Nat.le_refl _) (.cells #[(.slice mx M.length mcap)] 22)
    have hst5 := hst4.below hal5
    have hj5 := hj4.below hal5
    have hnr5 := hnr4.below hal5
    have hcn5 := cell_of (heap_new w5 (.cells #[(.slice mx M.length mcap)] 22))
    have hrow5 := hst5.row
    rw [hve.out, List.length_append, List.length_singleton] at hrow5
    have hbs5 := hj5.live.base
    have hSl5 := (Array.getElem?_eq_some_iff.1 hst5.box).1
    have hSv5 := hst5.sortS hst5.row (by decide)
    have hbx5' := hst5.box
    rw [hve.out] at hSv5 hbx5' hbx4
    have k6 : True := trivial)
  |(clear k6; at_builtin; refine wpList_append_far _ rfl _ _ 41 22 i22 (.slice none 0 0) rfl Tryz.underlying41 hi22 hz22.out hs22.out hby22.out rfl n₀ (.slice (some ⟨g, 0, none⟩) (Y.length + 1) cap) (.slice mx M.length mcap) (Y.length + 1) ((Y ++ [(u, L)]).map (·.1)) w5.heap.size rfl rfl hrow5 hcn5 (by simp [Value.oneCell']) (by omega) hbs5 ?_; intro v6 w6 hown6 hg6 hn6
    obtain ⟨v6q, v6cap, rfl⟩ := own_shape hown6
    have hbox6 := (hg6.block S hSl5 (fun e => hSv5 e.symm)).trans hbx5'
    have hcl6 := cell_of hbox6
    have hfr6 := free_of hbox6 0))
   go_returns
   obtain ⟨q1, q2, q3, q4, q5⟩ := story_push (E := E) (fun g' h => .inl (.inr h)) hEd (fun g' hg' hr => by have h1 := (hM.rows.lt hr).1; have h3 := h.out.lt g' (.inr hg'); have h4 := hB2.size; omega) hj5 hst5 (fun g' h => .inl (.inl h)) hnr5 (fun g' hg' => .inr hg') (by simpa using hown6) (by rw [hve.out]; exact hg6) (by rw [hve.out]; exact hn6)
   refine ⟨rfl, (((hB4.mono hbase.out).trans hK4.below).trans (hal5.mono hj4.live.base)).trans q3, fun g' hg' => (q4 g' hg').trans ((hal5.block g' (hj4.lt g' (.inl (.inr hg')))).trans ((hK4.same g' (.inl (.inr hg'))).trans (hB4.block g' (h.out.lt g' (.inr hg'))))), _, _, ?_, q1, q2, q5⟩
   rw [statesOf_snoc, statesOf_snoc, hMe.out]
  ·simp only [hc51, if_false]
   have hc51b : (c == 51) = false := by simpa using hc51
   go_enter Tryz.func21, Tryz.ntmps21
   go_wp2_with (first
  |(clear k1; go_at_call 62; refine hnow.mono ?_; clear hnow; rintro e w1 ⟨rfl, hb1⟩; have hB1 := hal.out.trans (hb1.mono hal.out.size); have hd1 := (hb1.block _ (by simp)).trans hd0; have hu1 := hu.out.below hB1; rw [hue.out] at hu1; have k2 : True := trivial)
  |(clear k2; at_builtin; refine wpList_append_rows _ rfl _ _ rfl w1.heap.size n₀ (.slice none 0 0) (.slice uq L.length ucap) 0 L.length [] (L.map (·.1)) rfl rfl (World.ownsRow_nil _ _ _ _) hu1.row hone.out (by omega) (Nat.le_refl _) ?_; intro x1 w2 hx1 hg1 _
    simp only [Nat.zero_add, List.nil_append] at hx1
    have hBa := below_grown (World.ownsRow_nil w1 w1.heap.size 32 1) (Nat.le_refl _) hg1
    obtain ⟨nx, ncap, rfl⟩ := own_shape hx1
    have hB2 := hB1.trans (hBa.mono hB1.size)
    have hnr := hu1.copy hBa hx1 (Nat.le_trans hbase.out hB1.size)
    have hd2 := (hBa.block _ (Array.getElem?_eq_some_iff.1 hd1).1).trans hd1
    have hz0 : w2.cell? ⟨w.heap.size, 0, none⟩ = some (.int .i64 2) := by simp [World.cell?, hd2]
    have hz2 : w2.cell? ⟨w.heap.size, 2, none⟩ = some vb := by simp [World.cell?, hd2]
    have hz3 : w2.cell? ⟨w.heap.size, 3, none⟩ = some (.slice lq ln lc) := by simp [World.cell?, hd2]
    clear hg1
    have k3 : True := trivial)
  |(clear k3; go_at_call 17; refine (hbr.out _).mono ?_; clear hbr; rintro e w3 ⟨rfl, rfl⟩; have k4 : True := trivial)
  |(clear k4; go_at_call 8; refine (hso.out _ (hB2.mono hbase.out)).mono ?_; clear hso; rintro e w4 ⟨u4, M, rfl, hM, hb4⟩; obtain ⟨mx, mcap, rfl⟩ := own_shape hM.rows.row; have hB4 := hB2.trans (hb4.mono hB2.size)
    have k5 : True := trivial)
  |(clear k5; go_at_call 12; refine (hsy.out _ (fun g' => storyE S v (Y ++ [(u, L)]) E g' ∨ rowsK (.slice mx M.length mcap) M g') _ _ _ _ (h.out.more hB4 (fun g' hg' => hg'.imp id (fun h => by have := hM.rows.lt h; have := hB2.size; omega))) hM).mono ?_; clear hsy; rintro e w5 ⟨rfl, hj4, hK4⟩
    have hst4 := (hst.out.below hB4).same (fun g' hg' => hK4.same g' (.inl (.inl hg')))
    have hnr4 := (rows_less hM.rows (Nat.le_trans hbase.out hB2.size)).same (fun g' hg' => hK4.same g' (.inr hg'))
    have hbx4 := cell_of hst4.box
    have hfr4 := free_of hst4.box 0
    have hbx5 := cell_of ((Below.heap_alloc w5 (.cells #[.slice mx M.length mcap] 22) S (Array.getElem?_eq_some_iff.1 hst4.box).1).trans hst4.box)
    have hfr5 := free_of ((Below.heap_alloc w5 (.cells #[.slice mx M.length mcap] 22) S (Array.getElem?_eq_some_iff.1 hst4.box).1).trans hst4.box) 0
    have hMe : Hid (M.map (·.2) = T) := hM.eq
    have k6 : True := trivial))
   go_returns
   exact ⟨rfl, (hB4.mono hbase.out).trans hK4.below, fun g' hg' => (hK4.same g' (.inl (.inr hg'))).trans (hB4.block g' (h.out.lt g' (.inr hg'))), _, _, statesOf_snoc _ _, hst4, hj4.turn (fun _ _ _ => rfl) (Nat.le_refl _) (fun g' hg' => ⟨.inl (.inl hg'), hg'.elim (fun h => (hst4.lt h).2) (fun h => hj4.lt g' (.inl (.inr h)))⟩), hEd⟩
/-- A deed of the first three kinds. -/
theorem goes_any (kd : Nat) (hkd : kd < 3) (N : Int) (vb vl vk : Value) (b : List Nat) (A : List (Value × List Nat)) (v : Value) (X : SX) (w : World)
  (h : JLive w J p n₀ m j (storyE S v X E)) (hEd : ∀ g, E g → ¬ storyK S v X g) (hst : StoryAt w n₀ S v X) (hm : m < 100000) {M : Nat} (ht : Tale j (statesOf X) M) (hM : M ≤ 900) (hX : X.length ≤ 500)
  (hb : ∀ W, Below n₀ w W → ArgB W vb b) (hA : ∀ W, Below n₀ w W → ArgR W vl A) :
  Calls Tryz.prog 21 #[ofBlock J, .pointer (some ⟨S, 0, none⟩), .agg #[.int .i64 kd, .int .i64 N, vb, vl, vk]] w fun e w' => GoesOk E w w' J p n₀ (m + 3) S (goesP j (statesOf X) kd (b.take 200) (firstOnes (A.map (·.2)))) e := by
 have hne : X ≠ [] := fun e => by subst e; exact absurd ht.last (by simp [statesOf])
 obtain ⟨Y, q, rfl⟩ : ∃ Y q, X = Y ++ [q] := ⟨X.dropLast, X.getLast hne, (List.dropLast_concat_getLast hne).symm⟩
 obtain ⟨u, L⟩ := q
 have hY : Y.length ≤ 500 := by rw [List.length_append] at hX; omega
 have e : lastOf (statesOf (Y ++ [(u, L)])) = L.map (·.2) := by rw [statesOf_snoc, lastOf_snoc]
 have hL : L.length ≤ 900 := by
  have := (ht.small _ ht.last).few
  rw [e, List.length_map] at this
  omega
 have hmany : j.many ≤ 1000 := by rw [ht.many, e, List.length_map]; omega
 rcases kd with _ | _ | _ | kd
 ·exact goes_0 N vb vl vk b A v u Y L w h hEd hst hm hY (by omega) hmany hb hA
 ·exact goes_1 N vb vl vk b A v u Y L w h hEd hst hm hY (by omega) hmany hb hA
 ·exact goes_2 N vb vl vk b A v u Y L w h hEd hst hm hY (by omega) hmany hb hA
 ·omega
end Go.Proofs.YtmcmagplaflegaaGreatDoor

namespace Go.Proofs.YtmcmagplaflegaaGreatDoor
open Go Go.ChangeShapes Go.WideShapes Go.ChangeAt Go.RowKit Go.WideMaps Go.LawKit Go.Deep

/-- A deed of a journal. -/
structure Jd where
 kind : Int
 n : Int
 b : List Nat
 l : List (Value × List Nat)
 keep : List Int
/-- It lies in memory. -/
structure JdIn (w : World) (d : Jd) (bv lv kv : Value) : Prop where
 b : ArgB w bv d.b
 l : ArgR w lv d.l
 keep : IntsIn w kv d.keep
 klen : d.keep.length ≤ 17592186044416
 kind1 : -9223372036854775808 ≤ d.kind
 kind2 : d.kind ≤ 9223372036854775807
 n1 : -9223372036854775808 ≤ d.n
 n2 : d.n ≤ 9223372036854775807
def JdsIn (w : World) (v : Value) (D : List Jd) : Prop :=
 D.length ≤ 9223372036854775807 ∧ ∃ q cap, v = .slice q D.length cap ∧ ∀ k (hk : k < D.length), ∃ b off bv lv kv, q = some ⟨b, off, none⟩ ∧ JdIn w D[k] bv lv kv ∧
  w.cell? ⟨b, off + k * 5, none⟩ = some (.int .i64 D[k].kind) ∧ w.cell? ⟨b, off + k * 5 + 1, none⟩ = some (.int .i64 D[k].n) ∧ w.cell? ⟨b, off + k * 5 + 2, none⟩ = some bv ∧ w.cell? ⟨b, off + k * 5 + 3, none⟩ = some lv ∧ w.cell? ⟨b, off + k * 5 + 4, none⟩ = some kv
section
variable {H : Type} {enc : TypeId × Value → H} {P : Program} {w : World} {base : Nat} {spare : Nat → Bool} {held : Bool}
end
section
variable {H : Type} {enc : TypeId × Value → H} {W : World} {fuel : Nat} {v : Value} {x : DataW H × List MemPlace}
end
section
variable {H : Type} {enc : TypeId × Value → H} {W : World} {v : Value} {d : DataW H} {ps : List MemPlace} {r : Reach} {b0 : Nat}
end
end Go.Proofs.YtmcmagplaflegaaGreatDoor
