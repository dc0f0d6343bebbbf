/-
 WHEREVER THE POWER FAILS, in plain Lean: the story of a journal's records, and what a fall leaves of it. Conditions: those of each theorem.
 A STORY IN MEMORY: now, told. Conditions: those of each theorem.
 A STORY GOES ON. Conditions: those of each theorem.
-/
import Derived.Test.YtmcmagplaflegaaGreatDoorX13

namespace Go.Proofs.YtmcmagplaflegaaGreatDoor
open Go Go.RowKit Go.MapL Go.Poised

/-- Records that are few and short. -/
structure Small (L : List (List Nat)) (N : Nat) : Prop where
 few : L.length ≤ N
 each : ∀ b ∈ L, (∀ x ∈ b, x < 256) ∧ b.length ≤ 200
theorem Small.mono {L : List (List Nat)} {N N' : Nat} (h : Small L N) (hn : N ≤ N') : Small L N' := ⟨Nat.le_trans h.few hn, h.each⟩
theorem Small.take {L : List (List Nat)} {N : Nat} (h : Small L N) (k : Nat) : Small (L.take k) N := ⟨by rw [List.length_take]; have := h.few; omega, fun b hb => h.each b (List.mem_of_mem_take hb)⟩
theorem Small.big {L : List (List Nat)} {N : Nat} (h : Small L N) : ∀ b ∈ L, b.length ≤ 262144 := fun b hb => by have := (h.each b hb).2; omega
theorem Small.push {L : List (List Nat)} {N : Nat} (h : Small L N) {b : List Nat} (hb : (∀ x ∈ b, x < 256) ∧ b.length ≤ 200) : Small (L ++ [b]) (N + 1) :=
 ⟨by rw [List.length_append]; exact Nat.add_le_add_right h.few 1, fun c hc => by
  rcases List.mem_append.1 hc with hc | hc
  ·exact h.each c hc
  ·rw [List.mem_singleton] at hc; subst hc; exact hb⟩
/-- The last one. -/
def lastOf (st : List (List (List Nat))) : List (List Nat) := st.getLastD []
theorem lastOf_snoc (st : List (List (List Nat))) (L : List (List Nat)) : lastOf (st ++ [L]) = L := by unfold lastOf; simp
/-- The journal has the last state's records; whatever a fall leaves is a state. -/
structure Tale (j : Jn) (st : List (List (List Nat))) (N : Nat) : Prop where
 br : j.br = false
 small : ∀ L ∈ st, Small L N
 last : lastOf st ∈ st
 many : j.many = (lastOf st).length
 ex : ∃ i k0, JS j.s i (listB 1 (lastOf st)) (sizesB ((lastOf st).take k0)) ∧ k0 ≤ (lastOf st).length ∧ ∀ k, k0 ≤ k → k ≤ (lastOf st).length → (lastOf st).take k ∈ st
/-- The power failed; what is left is a state. -/
structure Fallen (s : DS) (st : List (List (List Nat))) (N : Nat) : Prop where
 dead : s.dead = true
 ex : ∃ i B M, Woken s.boot i B ∧ Reads B M ∧ M ∈ st ∧ Small M N
theorem Fallen.mono {s : DS} {st st' : List (List (List Nat))} {N N' : Nat} (h : Fallen s st N) (hs : ∀ M ∈ st, M ∈ st') (hn : N ≤ N') : Fallen s st' N' := by
 obtain ⟨i, B, M, h1, h2, h3, h4⟩ := h.ex
 exact ⟨h.dead, i, B, M, h1, h2, hs M h3, h4.mono hn⟩
theorem sizesB_mono (L : List (List Nat)) (k : Nat) : sizesB (L.take k) ≤ sizesB L := by
 have := sizesB_app (L.take k) (L.drop k)
 rw [List.take_append_drop] at this
 omega
/-- What a fall leaves where the file is the last state's. -/
theorem tale_part {L : List (List Nat)} {N k0 x : Nat} {st : List (List (List Nat))} (hs : Small L N) (hN : N ≤ 1000) (hk : k0 ≤ L.length) (hst : ∀ k, k0 ≤ k → k ≤ L.length → L.take k ∈ st) {s : DS} {i : Nat} (hd : s.dead = true)
  (hw : Woken s.boot i ((listB 1 L).take (sizesB (L.take k0) + x))) : Fallen s st N := by
 have hl : L.length < 1000000000 := by have := hs.few; omega
 have hr := Reads.part (L := L) hl hs.big (sizesB (L.take k0) + x)
 have hge := whole_ge (L := L) (k := k0) (c := sizesB (L.take k0) + x) hk (by omega)
 exact ⟨hd, i, _, _, hw, hr, hst _ hge (whole_le L _), hs.take _⟩
theorem Tale.crash {j : Jn} {st : List (List (List Nat))} {N : Nat} (h : Tale j st N) (hN : N ≤ 1000) (keep : List Int) : Fallen (j.s.crash keep) st N := by
 obtain ⟨i, k0, h1, h2, h3⟩ := h.ex
 obtain ⟨a1, _, _, x, _, a4⟩ := h1.fall (by rw [listB_len]; exact sizesB_mono _ _) keep
 exact tale_part (h.small _ h.last) hN h2 h3 a1 a4
/-- What comes of a deed. -/
structure Comes' (j' : Jn) (c : Int) (st' : List (List (List Nat))) (N : Nat) : Prop where
 ex : ((c = 0 ∨ c = 52) ∧ Tale j' st' N) ∨ (c = 51 ∧ Fallen j'.s st' N)
/-- A deed of a story, plainly: the journal, the code, the states. -/
def goesP (j : Jn) (st : List (List (List Nat))) (kind : Nat) (b : List Nat) (l : List (List Nat)) : (Jn × Int) × List (List (List Nat)) :=
 if kind = 0 then (j.append b, if (j.append b).2 = 0 ∨ (j.append b).2 = 51 then st ++ [lastOf st ++ [b]] else st)
 else if kind = 1 then (j.sync, if j.sync.2 = 0 then [lastOf st] else if j.sync.2 = 51 then st ++ [lastOf st] else st)
 else (j.checkpoint l, if (j.checkpoint l).2 = 0 then [l] else if (j.checkpoint l).2 = 51 then st ++ [l] else st)
theorem tale_append {j : Jn} {st : List (List (List Nat))} {N : Nat} (h : Tale j st N) (hN : N ≤ 900) (b : List Nat) (hb : (∀ x ∈ b, x < 256) ∧ b.length ≤ 200) :
  Comes' (j.append b).1 (j.append b).2 (if (j.append b).2 = 0 ∨ (j.append b).2 = 51 then st ++ [lastOf st ++ [b]] else st) (N + 1) := by
 obtain ⟨i, k0, h1, h2, h3⟩ := h.ex
 have hs := h.small _ h.last
 have hfew := hs.few
 have hf := (h.crash (by omega) j.s.keep)
 unfold Jn.append
 rw [h.br, h.many, recRes_ok _ _ (by omega) (by omega)]
 simp only [Bool.false_eq_true, if_false, if_true]
 rw [h1.append]
 by_cases hr : j.s.room < (listB 1 (lastOf st)).length + (recB ((lastOf st).length + 1) b).length
 ·rw [if_pos hr]
  refine ⟨.inl ⟨.inr rfl, ?_⟩⟩
  show Tale { j with s := j.s } (if (52 : Int) = 0 ∨ (52 : Int) = 51 then _ else st) _
  rw [if_neg (by omega)]
  exact ⟨h.br, fun L hL => (h.small L hL).mono (by omega), h.last, h.many, h.ex⟩
 ·rw [if_neg hr]
  by_cases h0 : j.s.fails = 0
  ·rw [if_pos h0]
   refine ⟨.inr ⟨rfl, ?_⟩⟩
   show Fallen (j.s.crash j.s.keep) (if (51 : Int) = 0 ∨ (51 : Int) = 51 then _ else st) _
   rw [if_pos (.inr rfl)]
   exact hf.mono (fun M hM => List.mem_append_left _ hM) (by omega)
  ·rw [if_neg h0]
   refine ⟨.inl ⟨.inl rfl, ?_⟩⟩
   show Tale { j with s := _, many := j.many + 1 } (if (0 : Int) = 0 ∨ (0 : Int) = 51 then _ else st) _
   rw [if_pos (.inl rfl)]
   have e : lastOf (st ++ [lastOf st ++ [b]]) = lastOf st ++ [b] := lastOf_snoc _ _
   refine ⟨h.br, fun L hL => ?_, by rw [e]; simp, by rw [e, List.length_append, h.many]; rfl, i, k0, ?_, ?_, fun k hk1 hk2 => ?_⟩
   ·rcases List.mem_append.1 hL with hL | hL
    ·exact (h.small L hL).mono (by omega)
    ·rw [List.mem_singleton] at hL; subst hL; exact hs.push hb
   ·rw [e, List.take_append_of_le_length h2, listB_snoc, show 1 + (lastOf st).length = (lastOf st).length + 1 by omega]
    exact h1.tick.setf ⟨_, _⟩
   ·rw [e, List.length_append]; omega
   ·rw [e] at hk2 ⊢
    by_cases hk : k ≤ (lastOf st).length
    ·rw [List.take_append_of_le_length hk]
     exact List.mem_append_left _ (h3 k hk1 hk)
    ·rw [List.length_append] at hk2
     rw [List.take_of_length_le (by rw [List.length_append]; simp at hk2 ⊢; omega)]
     simp
theorem tale_sync {j : Jn} {st : List (List (List Nat))} {N : Nat} (h : Tale j st N) (hN : N ≤ 900) :
  Comes' j.sync.1 j.sync.2 (if j.sync.2 = 0 then [lastOf st] else if j.sync.2 = 51 then st ++ [lastOf st] else st) (N + 1) := by
 obtain ⟨i, k0, h1, h2, h3⟩ := h.ex
 have hs := h.small _ h.last
 have hf := (h.crash (by omega) j.s.keep)
 unfold Jn.sync
 rw [h.br, h1.sync]
 simp only [Bool.false_eq_true, if_false]
 by_cases h0 : j.s.fails = 0
 ·rw [if_pos h0]
  refine ⟨.inr ⟨rfl, ?_⟩⟩
  show Fallen (j.s.crash j.s.keep) (if (51 : Int) = 0 then _ else if (51 : Int) = 51 then st ++ [lastOf st] else st) _
  rw [if_neg (by omega), if_pos rfl]
  exact hf.mono (fun M hM => List.mem_append_left _ hM) (by omega)
 ·rw [if_neg h0]
  refine ⟨.inl ⟨.inl rfl, ?_⟩⟩
  show Tale { j with s := _, kept := j.many } (if (0 : Int) = 0 then [lastOf st] else _) _
  rw [if_pos rfl]
  have e : lastOf [lastOf st] = lastOf st := lastOf_snoc [] _
  refine ⟨h.br, fun L hL => ?_, by rw [e]; simp, by rw [e]; exact h.many, i, (lastOf st).length, ?_, ?_, fun k hk1 hk2 => ?_⟩
  ·rw [List.mem_singleton] at hL; subst hL; exact hs.mono (by omega)
  ·rw [e, List.take_length]
   have := h1.tick.setf ⟨listB 1 (lastOf st), (listB 1 (lastOf st)).length⟩
   rw [listB_len] at this
   rw [listB_len]
   exact this
  ·rw [e]; exact Nat.le_refl _
  ·rw [e] at hk2 ⊢
   rw [List.take_of_length_le (by omega)]; simp
theorem tale_checkpoint {j : Jn} {st : List (List (List Nat))} {N : Nat} (h : Tale j st N) (hN : N ≤ 900) (hN1 : 20 ≤ N) (l : List (List Nat)) (hl : Small l 20) :
  Comes' (j.checkpoint l).1 (j.checkpoint l).2 (if (j.checkpoint l).2 = 0 then [l] else if (j.checkpoint l).2 = 51 then st ++ [l] else st) (N + 1) := by
 obtain ⟨i, k0, h1, h2, h3⟩ := h.ex
 have hs := h.small _ h.last
 have hr := h1.repl (by rw [listB_len]; exact sizesB_mono _ _) (listB 1 l)
 unfold Jn.checkpoint
 rw [h.br, listRes_ok (by have := hl.few; omega) hl.big]
 simp only [Bool.false_eq_true, if_false, if_true]
 rcases hr with ⟨hr, e⟩ | ⟨hr, e, hj, _⟩ | ⟨_, _, hf⟩
 ·rw [e]
  refine ⟨.inl ⟨.inr rfl, ?_⟩⟩
  show Tale { j with s := j.s } (if (52 : Int) = 0 then _ else if (52 : Int) = 51 then _ else st) _
  rw [if_neg (by omega), if_neg (by omega)]
  exact ⟨h.br, fun L hL => (h.small L hL).mono (by omega), h.last, h.many, h.ex⟩
 ·unfold Jn.after
  rw [if_pos e]
  refine ⟨.inl ⟨.inl rfl, ?_⟩⟩
  show Tale { j with s := _, many := l.length, kept := l.length } (if (0 : Int) = 0 then [l] else _) _
  rw [if_pos rfl]
  have e2 : lastOf [l] = l := lastOf_snoc [] _
  refine ⟨h.br, fun L hL => ?_, by rw [e2]; simp, by rw [e2], j.s.births + 1, l.length, ?_, ?_, fun k hk1 hk2 => ?_⟩
  ·rw [List.mem_singleton] at hL; subst hL; exact hl.mono (by omega)
  ·rw [e2, List.take_length]
   rw [listB_len] at hj
   exact hj
  ·rw [e2]; exact Nat.le_refl _
  ·rw [e2] at hk2 ⊢
   rw [List.take_of_length_le (by omega)]; simp
 ·unfold Jn.after
  rw [hf.code, if_neg (by omega), if_neg (by omega)]
  refine ⟨.inr ⟨rfl, ?_⟩⟩
  show Fallen (replD j.s (listB 1 l)).1 (if (51 : Int) = 0 then _ else if (51 : Int) = 51 then st ++ [l] else st) _
  rw [if_neg (by omega), if_pos rfl]
  rcases hf.woken with ⟨x, _, hw⟩ | hw
  ·exact (tale_part hs (by omega) h2 h3 hf.dead hw).mono (fun M hM => List.mem_append_left _ hM) (by omega)
  ·exact ⟨hf.dead, _, _, l, hw, .self (by have := hl.few; omega) hl.big, by simp, hl.mono (by omega)⟩
theorem tale_goes {j : Jn} {st : List (List (List Nat))} {N : Nat} (h : Tale j st N) (hN : N ≤ 900) (hN1 : 20 ≤ N) (kind : Nat) (b : List Nat) (hb : (∀ x ∈ b, x < 256) ∧ b.length ≤ 200) (l : List (List Nat)) (hl : Small l 20) :
  Comes' (goesP j st kind b l).1.1 (goesP j st kind b l).1.2 (goesP j st kind b l).2 (N + 1) := by
 unfold goesP
 split
 ·exact tale_append h hN b hb
 ·split
  ·exact tale_sync h hN
  ·exact tale_checkpoint h hN hN1 l hl
/-- A disk that fell, woken, and opened: it tells a state; or it fell again. -/
theorem Fallen.open {s : DS} {st : List (List (List Nat))} {N : Nat} (h : Fallen s st N) (hN : N ≤ 900) (n : Int) (keep : List Int) :
  ((openD (s.boot.fail n keep)).2 = 0 ∧ openL (s.boot.fail n keep) ∈ st ∧ Tale ⟨(openD (s.boot.fail n keep)).1, (openL (s.boot.fail n keep)).length, (openL (s.boot.fail n keep)).length, false⟩ [openL (s.boot.fail n keep)] N) ∨
  ((openD (s.boot.fail n keep)).2 = 51 ∧ Fallen (openD (s.boot.fail n keep)).1 st N ∧ 0 ≤ max n (-1) ∧ max n (-1) ≤ 3) := by
 obtain ⟨i, B, M, hw, hr, hM, hs⟩ := h.ex
 have hl : M.length < 1000000000 := by have := hs.few; omega
 have hf : (s.boot.fail n keep).fails = max n (-1) := by
  unfold DS.fail
  rw [if_neg (by rw [hw.rest.dead]; simp)]
 rcases (hw.fail n keep).open hr hl hs.big with ⟨h1, h2, h3, h4, h5⟩ | ⟨⟨B', hr', hfe⟩, h4, h5⟩
 ·refine .inl ⟨h1, by rw [h2]; exact hM, ?_⟩
  rw [h2]
  have e : lastOf [M] = M := lastOf_snoc [] _
  refine ⟨rfl, fun L hL => by rw [List.mem_singleton] at hL; subst hL; exact hs, by rw [e]; simp, by rw [e], i, M.length, ?_, by rw [e]; exact Nat.le_refl _, fun k hk1 hk2 => ?_⟩
  ·rw [e, List.take_length]; exact h3
  ·rw [e] at hk2 ⊢
   rw [List.take_of_length_le (by omega)]; simp
 ·rw [hf] at h4 h5
  exact .inr ⟨hfe.code, ⟨hfe.dead, i, B', M, hfe.woken, hr', hM, hs⟩, h4, h5⟩
/-- Fail changes no state. -/
theorem Tale.fail {j : Jn} {st : List (List (List Nat))} {N : Nat} (h : Tale j st N) (n : Int) (keep : List Int) : Tale { j with s := j.s.fail n keep } st N ∧ (j.s.fail n keep).dead = false := by
 obtain ⟨i, k0, h1, h2, h3⟩ := h.ex
 have hd := h1.dead
 unfold DS.fail
 rw [if_neg (by rw [hd]; simp)]
 exact ⟨⟨h.br, h.small, h.last, h.many, i, k0, ⟨h1.dead, h1.names, h1.kept, h1.works, h1.file, h1.low, h1.high⟩, h2, h3⟩, hd⟩
theorem Tale.alive {j : Jn} {st : List (List (List Nat))} {N : Nat} (h : Tale j st N) : j.s.dead = false := by
 obtain ⟨i, k0, h1, _⟩ := h.ex
 exact h1.dead
theorem tale_new (room : Nat) : Tale (jnew room) [[]] 20 := by
 obtain ⟨o1, o2, o3, _⟩ := open_new room
 refine ⟨rfl, fun L hL => by rw [List.mem_singleton] at hL; subst hL; exact ⟨by simp, fun b hb => by simp at hb⟩, by simp [lastOf], by simp [lastOf, jnew], 1, 0, ?_, by simp, fun k _ hk => by simp [lastOf] at hk ⊢⟩
 exact o3
end Go.Proofs.YtmcmagplaflegaaGreatDoor

namespace Go.Proofs.YtmcmagplaflegaaGreatDoor
open Go Go.RowKit Go.MapL Go.Poised

abbrev SX := List (Value × List (Value × List Nat))
def storyK (S : Nat) (v : Value) (X : SX) (g : Nat) : Prop := g = S ∨ rowK v g ∨ ∃ q ∈ X, rowsK q.1 q.2 g
def statesOf (X : SX) : List (List (List Nat)) := X.map fun q => q.2.map (·.2)
/-- A story: its states, one list of records each. -/
structure StoryAt (w : World) (n₀ S : Nat) (v : Value) (X : SX) : Prop where
 box : w.heap[S]? = some (.cells #[v] 43)
 row : w.ownsRow n₀ 22 1 v X.length (X.map (·.1))
 each : ∀ q ∈ X, RowsAt w n₀ q.1 q.2
 base : n₀ ≤ S
variable {n₀ S : Nat} {v : Value} {X : SX} {w w' : World}
theorem StoryAt.same (h : StoryAt w n₀ S v X) (hs : ∀ g, storyK S v X g → w'.heap[g]? = w.heap[g]?) : StoryAt w' n₀ S v X :=
 ⟨(hs S (.inl rfl)).trans h.box, row_same h.row (fun g hg => hs g (.inr (.inl hg))), fun q hq => (h.each q hq).same (fun g hg => hs g (.inr (.inr ⟨q, hq, hg⟩))), h.base⟩
theorem StoryAt.lt (h : StoryAt w n₀ S v X) {g : Nat} (hg : storyK S v X g) : n₀ ≤ g ∧ g < w.heap.size := by
 rcases hg with rfl | hg | ⟨q, hq, hg⟩
 ·exact ⟨h.base, (Array.getElem?_eq_some_iff.1 h.box).1⟩
 ·exact h.row.lt g hg
 ·exact (h.each q hq).lt hg
theorem StoryAt.below (h : StoryAt w n₀ S v X) (hb : Below w.heap.size w w') : StoryAt w' n₀ S v X := h.same (fun g hg => hb.block g (h.lt hg).2)
/-- A state's cell. -/
theorem StoryAt.at (h : StoryAt w n₀ S v X) (k : Nat) (hk : k < X.length) : ∃ g cap, v = .slice (some ⟨g, 0, none⟩) X.length cap ∧ w.cell? ⟨g, k, none⟩ = some X[k].1 ∧ g < w.heap.size := by
 obtain ⟨g, cap, e⟩ := own_pos h.row (by omega)
 have hr := h.row
 rw [e] at hr
 refine ⟨g, cap, e, ?_, (hr.lt g rfl).2⟩
 have := hr.cells (g := g) rfl k X[k].1 (by simp [hk])
 rw [Addr.add_lit, Nat.zero_add] at this
 exact this
set_option maxRecDepth 100000 in
set_option maxHeartbeats 2000000 in
theorem now_any (S g n cap : Nat) (uq : Option Addr) (un uc : Nat) (w : World) (h1 : w.heap[S]? = some (.cells #[.slice (some ⟨g, 0, none⟩) (n + 1) cap] 43)) (h2 : w.cell? ⟨g, n, none⟩ = some (.slice uq un uc)) (hgl : g < w.heap.size) (hn : n < 1000000) :
  Calls Tryz.prog 62 #[.pointer (some ⟨S, 0, none⟩)] w fun e w' => e = .returned (.slice uq un uc) ∧ Below w.heap.size w w' := by
 have hSl := (Array.getElem?_eq_some_iff.1 h1).1
 have hc1 := cell_of h1
 have gw : IntKind.i64.wrap (((n + 1 : Nat) : Int) - 1) = (n : Int) := by rw [show ((n + 1 : Nat) : Int) - 1 = (n : Int) by omega]; exact IntWalk.i64_in _ (by omega)
 have gw2 : IntKind.i64.wrap ((n : Int) + 1 - 1) = (n : Int) := by rw [show (n : Int) + 1 - 1 = (n : Int) by omega]; exact IntWalk.i64_in _ (by omega)
 have gw3 : IntKind.i64.wrap (n : Int) = (n : Int) := IntWalk.i64_in _ (by omega)
 have hlt : (n : Int) < (n : Int) + 1 := by omega
 clear h1
 go_enter Tryz.func62, Tryz.ntmps62
 go_wp2_with fail
 refine poised_whole (fun x => Below w.heap.size w x) (fun x y => Below w.heap.size x y) (by kernel_rfl) (by kernel_rfl) (by kernel_rfl) (fun _ _ h k => h.trans k) ((Below.refl _ _).drew) ?_
 apply Exists.intro
 iterate 3
  apply walk_det
  ·rfl
  ·intro w2 hC hF
   simp only [upon]
   go_simp
   exact ⟨Below.refl _ _, rfl⟩
  simp only [put_lit, List.set_cons_succ, List.set_cons_zero]
 apply walk_det
 ·rfl
 ·intro w2 hC hF
  have c1 := (hC.cell (p := ⟨S, 0, none⟩) hSl).trans hc1
  have c2 := (hC.cell (p := ⟨g, n, none⟩) hgl).trans h2
  simp only [upon]
  go_simp
  exact ⟨Below.refl _ _, rfl⟩
 simp only [put_lit, List.set_cons_succ, List.set_cons_zero]
 iterate 3
  apply walk_det
  ·rfl
  ·intro w2 hC hF
   simp only [upon]
   go_simp
   exact ⟨Below.refl _ _, rfl⟩
  simp only [put_lit, List.set_cons_succ, List.set_cons_zero]
 apply walk_det
 ·rfl
 ·intro w2 hC hF
  have c1 := (hC.cell (p := ⟨S, 0, none⟩) hSl).trans hc1
  have c2 := (hC.cell (p := ⟨g, n, none⟩) hgl).trans h2
  simp only [upon]
  go_simp
  exact ⟨Below.refl _ _, rfl⟩
 simp only [put_lit, List.set_cons_succ, List.set_cons_zero]
 iterate 3
  apply walk_det
  ·rfl
  ·intro w2 hC hF
   simp only [upon]
   go_simp
   exact ⟨Below.refl _ _, rfl⟩
  simp only [put_lit, List.set_cons_succ, List.set_cons_zero]
 apply walk_det
 ·rfl
 ·intro w2 hC hF
  have c1 := (hC.cell (p := ⟨S, 0, none⟩) hSl).trans hc1
  have c2 := (hC.cell (p := ⟨g, n, none⟩) hgl).trans h2
  simp only [upon]
  go_simp
  exact ⟨Below.refl _ _, rfl⟩
 simp only [put_lit, List.set_cons_succ, List.set_cons_zero]
 apply walk_det
 ·rfl
 ·intro w2 hC hF
  simp only [upon]
  go_simp
  exact ⟨Below.refl _ _, rfl⟩
 simp only [put_lit, List.set_cons_succ, List.set_cons_zero]
 apply walk_nil
 intro w2 hC _
 go_wp2
 go_returns
 exact ⟨rfl, hC⟩
set_option maxRecDepth 100000 in
set_option maxHeartbeats 4000000 in
theorem storyTold_any (u : Value) (L : List (Value × List Nat)) (w : World) (h : StoryAt w n₀ S v X) (hX : X.length ≤ 1000) (hu : ListIn w u L) (hs : ∀ q ∈ X, ∀ W, Below w.heap.size w W → ListIn W q.1 q.2) (hmem : L.map (·.2) ∈ statesOf X) :
  Calls Tryz.prog 24 #[.pointer (some ⟨S, 0, none⟩), u] w fun e w' => e = .returned (.bool true) ∧ Below w.heap.size w w' := by
 obtain ⟨vq, vcap, hve⟩ := own_shape h.row
 obtain ⟨uq, ucap, rfl, _⟩ := hu.shape
 have hc0 := cell_of h.box
 have hSl := (Array.getElem?_eq_some_iff.1 h.box).1
 rw [hve] at hc0
 replace hve : Hid _ := hve
 replace h : Hid _ := h
 replace hs : Hid _ := hs
 replace hmem : Hid _ := hmem
 replace hu : Hid _ := hu
 go_enter Tryz.func24, Tryz.ntmps24
 go_wp2_with fail
 go_loopw [5] (fun i wr => ∃ k : Nat, k ≤ X.length ∧ i = .int .i64 k ∧ (∀ st ∈ (statesOf X).take k, ¬ L.map (·.2) = st) ∧ Below w.heap.size w wr) (fun i _ => X.length - (intOf i).toNat)
 case atStart => exact ⟨0, by omega, rfl, fun st hst => by simp at hst, Below.refl _ _⟩
 case round =>
  obtain ⟨k, hk, rfl, hno, hB⟩ := hrel
  have hc1 := (hB.cell (p := ⟨S, 0, none⟩) hSl).trans hc0
  by_cases hlt : k < X.length
  ·have hlt' : (k : Int) < (X.length : Int) := by omega
   obtain ⟨g, cap, e, hcell, hgl⟩ := h.out.at k hlt
   rw [hve.out] at e
   cases e
   have hcell2 := (hB.cell (p := ⟨g, k, none⟩) hgl).trans hcell
   have hq := hs.out X[k] (List.getElem_mem hlt) wr hB
   have hst : (statesOf X)[k]? = some (X[k].2.map (·.2)) := by unfold statesOf; rw [List.getElem?_map, List.getElem?_eq_getElem hlt]; rfl
   have hsm := same_any _ _ X[k].2 L wr hq (hu.out.below hB)
   obtain ⟨xq, xcap, hxe, _⟩ := hq.shape
   rw [hxe] at hcell2 hsm
   clear hcell hq
   by_cases hy : X[k].2.map (·.2) = L.map (·.2)
   ·rw [decide_eq_true hy] at hsm
    clear hy hst hxe
    replace hno : Hid _ := hno
    go_wp2_with (go_at_call 15; refine hsm.mono ?_; clear hsm; rintro e w2 ⟨rfl, hb2⟩)
    go_returns
    exact ⟨rfl, hB.trans (hb2.mono hB.size)⟩
   ·rw [decide_eq_false hy] at hsm
    have hno2 : Hid (∀ st ∈ (statesOf X).take (k + 1), ¬ L.map (·.2) = st) := fun st h2 => by
     have hkl : k < (statesOf X).length := by unfold statesOf; rw [List.length_map]; exact hlt
     rw [List.take_succ_eq_append_getElem hkl] at h2
     rcases List.mem_append.1 h2 with h2 | h2
     ·exact hno st h2
     ·rw [List.mem_singleton] at h2
      rw [List.getElem?_eq_getElem hkl] at hst
      rw [h2, Option.some.inj hst]
      exact fun e => hy e.symm
    clear hy hst hxe hno
    go_wp2_with (go_at_call 15; refine hsm.mono ?_; clear hsm; rintro e w2 ⟨rfl, hb2⟩)
    go_roundw
    case rel => exact ⟨k + 1, by omega, by go_num, hno2.out, hB.trans (hb2.mono hB.size)⟩
    case measure => simp [intOf]; omega
  ·obtain rfl : k = X.length := by omega
   exfalso
   rw [List.take_of_length_le (by unfold statesOf; rw [List.length_map]; exact Nat.le_refl _)] at hno
   exact hno _ hmem.out rfl
end Go.Proofs.YtmcmagplaflegaaGreatDoor

namespace Go.Proofs.YtmcmagplaflegaaGreatDoor
open Go Go.RowKit Go.MapL Go.Poised

variable {J p n₀ m S : Nat} {j : Jn} {v v' u : Value} {X : SX} {L : List (Value × List Nat)} {w w' : World} {K K' : Nat → Prop}
theorem JLive.turn (h : JLive w J p n₀ m j K) (hs : ∀ g, g < w.heap.size → ¬ K g → w'.heap[g]? = w.heap[g]?) (hz : w.heap.size ≤ w'.heap.size) (hK : ∀ g, K' g → (K g ∨ w.heap.size ≤ g) ∧ g < w'.heap.size) : JLive w' J p n₀ m j K' := by
 have hJl := h.live.lt J (.inr rfl)
 refine ⟨⟨?_, h.live.sound, Nat.le_trans h.live.base hz⟩, (hs J hJl h.out).trans h.jnl, h.base, fun hJ => ?_⟩
 ·obtain ⟨r, hL, h1⟩ := h.live.ex
  refine ⟨r, hL.same (fun g hg2 => hs g (hL.own_lt g hg2).1 (fun e => (h1 g (.inl e)).2 hg2)), fun g hg2 => ?_⟩
  rcases hg2 with hg2 | rfl
  ·refine ⟨(hK g hg2).2, fun ho => ?_⟩
   rcases (hK g hg2).1 with h3 | h3
   ·exact (h1 g (.inl h3)).2 ho
   ·have := (hL.own_lt g ho).1; omega
  ·exact ⟨Nat.lt_of_lt_of_le hJl hz, (h1 g (.inr rfl)).2⟩
 ·rcases (hK J hJ).1 with h3 | h3
  ·exact h.out h3
  ·omega
theorem StoryAt.sortS (h : StoryAt w n₀ S v X) {n e k : Nat} {x : Value} {xs : List Value} (hx : w.ownsRow n e 1 x k xs) (he : e ≠ 43) : x.ownBlock ≠ some S := fun hg => by
 have h1 := sort_row hx hg
 have h2 : sort w S = 44 := by unfold sort; rw [h.box]
 omega
theorem rows_away {e n1 k : Nat} {x : Value} {xs : List Value} (hu : RowsAt w n₀ u L) (hx : w.ownsRow n1 e 1 x k xs) (h32 : e ≠ 32) (h5 : e ≠ 5) {g : Nat} (hg : rowsK u L g) : x.ownBlock ≠ some g := fun h => by
 have h1 := sort_row hx h
 rcases hg with hg | ⟨q, hq, hg⟩
 ·have := sort_row hu.row hg; omega
 ·have := sort_row (hu.each q hq) hg; omega
theorem StoryAt.rows_ne (h : StoryAt w n₀ S v X) (hu : RowsAt w n₀ u L) {g : Nat} (hg : rowsK u L g) : g ≠ S := fun e => by
 subst e
 rcases hg with hg | ⟨q, hq, hg⟩
 ·exact h.sortS hu.row (by decide) hg
 ·exact h.sortS (hu.each q hq) (by decide) hg
/-- The story's blocks, and others. -/
abbrev storyE (S : Nat) (v : Value) (X : SX) (E : Nat → Prop) (g : Nat) : Prop := storyK S v X g ∨ E g
/-- A state more. -/
theorem story_push {E : Nat → Prop} (hE : ∀ g, E g → K g) (hEd : ∀ g, E g → ¬ storyK S v X g) (hEu : ∀ g, E g → ¬ rowsK u L g) (h : JLive w J p n₀ m j K) (hst : StoryAt w n₀ S v X) (hK : ∀ g, storyK S v X g → K g) (hu : RowsAt w n₀ u L) (huK : ∀ g, rowsK u L g → K g)
  (hrow : w'.ownsRow n₀ 22 1 v' (X.length + 1) (X.map (·.1) ++ [u])) (hg : w.grownBy w' v.ownBlock) (hn : ∀ k, v'.ownBlock = some k → v.ownBlock = some k ∨ w.heap.size ≤ k) :
  StoryAt (w'.setCell ⟨S, 0, none⟩ v') n₀ S v' (X ++ [(u, L)]) ∧ JLive (w'.setCell ⟨S, 0, none⟩ v') J p n₀ m j (storyE S v' (X ++ [(u, L)]) E) ∧ Below n₀ w (w'.setCell ⟨S, 0, none⟩ v') ∧ (∀ g, E g → (w'.setCell ⟨S, 0, none⟩ v').heap[g]? = w.heap[g]?) ∧ ∀ g, E g → ¬ storyK S v' (X ++ [(u, L)]) g := by
 have hSl := (Array.getElem?_eq_some_iff.1 hst.box).1
 have hSv : v.ownBlock ≠ some S := hst.sortS hst.row (by decide)
 have hb' : w'.heap[S]? = some (.cells #[v] 43) := (hg.block S hSl (fun e => hSv e.symm)).trans hst.box
 have hSv' : v'.ownBlock ≠ some S := fun e => by
  rcases hn S e with h1 | h1
  ·exact hSv h1
  ·omega
 have hsz : (w'.setCell ⟨S, 0, none⟩ v').heap.size = w'.heap.size := by simp
 have hrows : ∀ {x : Value} {M : List (Value × List Nat)}, RowsAt w n₀ x M → RowsAt (w'.setCell ⟨S, 0, none⟩ v') n₀ x M := fun {x M} hx =>
  hx.same (fun g hg2 => (Below.heap_setCell _ _ _ _ (hst.rows_ne hx hg2)).trans (hg.block g (hx.lt hg2).2 (fun e => rows_away hx hst.row (by decide) (by decide) hg2 e.symm)))
 have hS1 : StoryAt (w'.setCell ⟨S, 0, none⟩ v') n₀ S v' (X ++ [(u, L)]) := by
  refine ⟨(setCell_heap hb').trans rfl, ?_, fun q hq => ?_, hst.base⟩
  ·rw [List.length_append, List.map_append]
   exact row_same hrow (fun g hg2 => Below.heap_setCell _ _ _ _ (fun e => hSv' (by have e2 : g = S := e; rw [← e2]; exact hg2)))
  ·rcases List.mem_append.1 hq with hq | hq
   ·exact hrows (hst.each q hq)
   ·rw [List.mem_singleton] at hq; subst hq; exact hrows hu
 refine ⟨hS1, h.turn (fun g hgl hgK => ?_) (by rw [hsz]; exact hg.size) (fun g hg2 => ⟨?_, ?_⟩), ?_, fun g hgE => ?_, fun g hgE hg2 => ?_⟩
 ·rw [Below.heap_setCell _ _ _ _ (fun e => hgK (hK g (.inl e)))]
  exact hg.block g hgl (fun e => hgK (hK g (.inr (.inl e.symm))))
 ·rcases hg2 with (hg2 | hg2 | ⟨q, hq, hg2⟩) | hg2
  ·exact .inl (hK g (.inl hg2))
  ·exact (hn g hg2).imp (fun h => hK g (.inr (.inl h))) id
  ·rcases List.mem_append.1 hq with hq | hq
   ·exact .inl (hK g (.inr (.inr ⟨q, hq, hg2⟩)))
   ·rw [List.mem_singleton] at hq; subst hq; exact .inl (huK g hg2)
  ·exact .inl (hE g hg2)
 ·rcases hg2 with hg2 | hg2
  ·exact (hS1.lt hg2).2
  ·rw [hsz]; exact Nat.lt_of_lt_of_le (h.lt g (hE g hg2)) hg.size
 ·exact (below_grown hst.row h.live.base hg).setCell (p := ⟨S, 0, none⟩) hst.base _
 ·exact (Below.heap_setCell _ _ _ _ (fun e => hEd g hgE (.inl e))).trans (hg.block g (h.lt g (hE g hgE)) (fun e => hEd g hgE (.inr (.inl e.symm))))
 ·rcases hg2 with hg2 | hg2 | ⟨q, hq, hg2⟩
  ·exact hEd g hgE (.inl hg2)
  ·rcases hn g hg2 with h3 | h3
   ·exact hEd g hgE (.inr (.inl h3))
   ·have := h.lt g (hE g hgE); omega
  ·rcases List.mem_append.1 hq with hq | hq
   ·exact hEd g hgE (.inr (.inr ⟨q, hq, hg2⟩))
   ·rw [List.mem_singleton] at hq; subst hq; exact hEu g hgE hg2
/-- A state alone. -/
theorem story_set {E : Nat → Prop} (hE : ∀ g, E g → K g) (hEd : ∀ g, E g → ¬ storyK S v X g) (hEu : ∀ g, E g → ¬ rowsK u L g) (h : JLive w J p n₀ m j K) (hst : StoryAt w n₀ S v X) (hK : ∀ g, storyK S v X g → K g) (hu : RowsAt w n₀ u L) (huK : ∀ g, rowsK u L g → K g) :
  StoryAt ((w.alloc (.cells #[u] 22)).setCell ⟨S, 0, none⟩ (.slice (some ⟨w.heap.size, 0, none⟩) 1 1)) n₀ S (.slice (some ⟨w.heap.size, 0, none⟩) 1 1) [(u, L)] ∧
   JLive ((w.alloc (.cells #[u] 22)).setCell ⟨S, 0, none⟩ (.slice (some ⟨w.heap.size, 0, none⟩) 1 1)) J p n₀ m j (storyE S (.slice (some ⟨w.heap.size, 0, none⟩) 1 1) [(u, L)] E) ∧
   Below n₀ w ((w.alloc (.cells #[u] 22)).setCell ⟨S, 0, none⟩ (.slice (some ⟨w.heap.size, 0, none⟩) 1 1)) ∧
   (∀ g, E g → ((w.alloc (.cells #[u] 22)).setCell ⟨S, 0, none⟩ (.slice (some ⟨w.heap.size, 0, none⟩) 1 1)).heap[g]? = w.heap[g]?) ∧ ∀ g, E g → ¬ storyK S (.slice (some ⟨w.heap.size, 0, none⟩) 1 1) [(u, L)] g := by
 have hSl := (Array.getElem?_eq_some_iff.1 hst.box).1
 have hal := (Below.refl w.heap.size w).alloc (Nat.le_refl _) (.cells #[u] 22)
 have hst1 := hst.below hal
 have hu1 := hu.below hal
 have hrow : (w.alloc (.cells #[u] 22)).ownsRow n₀ 22 1 (.slice (some ⟨w.heap.size, 0, none⟩) 1 1) 1 [u] :=
  ⟨rfl, .inr ⟨w.heap.size, 1, #[u], rfl, h.live.base, heap_new _ _, Nat.le_refl _, by unfold maxLen; omega, rfl, rfl⟩⟩
 have hS1 : StoryAt ((w.alloc (.cells #[u] 22)).setCell ⟨S, 0, none⟩ (.slice (some ⟨w.heap.size, 0, none⟩) 1 1)) n₀ S (.slice (some ⟨w.heap.size, 0, none⟩) 1 1) [(u, L)] := by
  refine ⟨(setCell_heap hst1.box).trans rfl, row_same hrow (fun g hg2 => Below.heap_setCell _ _ _ _ (fun e => ?_)), fun q hq => ?_, hst.base⟩
  ·have h2 : w.heap.size = g := Option.some.inj hg2
   have h3 : g = S := e
   omega
  ·rw [List.mem_singleton] at hq; subst hq
   exact hu1.same (fun g hg2 => Below.heap_setCell _ _ _ _ (hst1.rows_ne hu1 hg2))
 refine ⟨hS1, h.turn (fun g hgl hgK => ?_) (by simp) (fun g hg2 => ⟨?_, ?_⟩), ?_, fun g hgE => ?_, fun g hgE hg2 => ?_⟩
 ·rw [Below.heap_setCell _ _ _ _ (fun e => hgK (hK g (.inl e)))]
  exact hal.block g hgl
 ·rcases hg2 with (hg2 | hg2 | ⟨q, hq, hg2⟩) | hg2
  ·exact .inl (hK g (.inl hg2))
  ·right
   have h2 : w.heap.size = g := Option.some.inj hg2
   omega
  ·rw [List.mem_singleton] at hq; subst hq; exact .inl (huK g hg2)
  ·exact .inl (hE g hg2)
 ·rcases hg2 with hg2 | hg2
  ·exact (hS1.lt hg2).2
  ·have := h.lt g (hE g hg2); simp; omega
 ·exact (hal.mono h.live.base).setCell (p := ⟨S, 0, none⟩) hst.base _
 ·exact (Below.heap_setCell _ _ _ _ (fun e => hEd g hgE (.inl e))).trans (hal.block g (h.lt g (hE g hgE)))
 ·rcases hg2 with hg2 | hg2 | ⟨q, hq, hg2⟩
  ·exact hEd g hgE (.inl hg2)
  ·have h2 : w.heap.size = g := Option.some.inj hg2
   have := h.lt g (hE g hgE); omega
  ·rw [List.mem_singleton] at hq; subst hq; exact hEu g hgE hg2
theorem info22 : (Tryz.prog.info? 22).map (fun i => (i.zero, i.size, i.bytes)) = some (some (.slice none 0 0), 1, 24) := by kernel_rfl
end Go.Proofs.YtmcmagplaflegaaGreatDoor
