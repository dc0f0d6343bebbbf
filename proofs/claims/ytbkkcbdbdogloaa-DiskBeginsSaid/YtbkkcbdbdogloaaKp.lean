/-
  WHAT IS KEPT STAYS: in plain Lean. Conditions: those of each theorem.
-/
import Derived.Test.YtbkkcbdbdogloaaFe
import Derived.Test.YtbkkcbdbdogloaaNe
namespace Go.Proofs.Ytbkkcbdbdogloaa
open Go Go.RowKit Go.MapL Go.Poised
variable {s : DS} {β : Type}

/-! ### lists of pairs -/
theorem look_del (a x : ByteArray) : ∀ (l : List (ByteArray × β)), (l.map (·.1)).Nodup → MapL.look x (del a l) = if x = a then none else MapL.look x l
  | [], _ => by simp [del, MapL.look]
  | (k, v) :: l, h => by
    simp only [List.map_cons, List.nodup_cons] at h
    unfold del
    by_cases hk : k = a
    · subst hk
      rw [if_pos rfl]
      by_cases hx : x = k
      · subst hx
        rw [if_pos rfl]
        cases hl : MapL.look x l with
        | none => rfl
        | some v => exact absurd (List.mem_map_of_mem (look_mem hl)) h.1
      · rw [if_neg hx]
        show _ = (if k = x then some v else MapL.look x l)
        rw [if_neg (fun e => hx e.symm)]
    · rw [if_neg hk]
      show (if k = x then some v else MapL.look x (del a l)) = _
      rw [look_del a x l h.2]
      by_cases hx : k = x
      · subst hx; rw [if_pos rfl, if_neg hk]; show _ = (if k = k then some v else _); rw [if_pos rfl]
      · rw [if_neg hx]
        by_cases hxa : x = a
        · rw [if_pos hxa, if_pos hxa]
        · rw [if_neg hxa, if_neg hxa]; show _ = (if k = x then some v else MapL.look x l); rw [if_neg hx]
theorem look_put (b x : ByteArray) (i : β) : ∀ (l : List (ByteArray × β)), MapL.look x (put b i l) = if x = b then some i else MapL.look x l
  | [] => by
    show (if b = x then some i else none) = _
    by_cases h : x = b
    · subst h; simp
    · rw [if_neg (fun e => h e.symm), if_neg h]; rfl
  | (k, v) :: l => by
    unfold put
    by_cases hk : k = b
    · subst hk
      rw [if_pos rfl]
      show (if k = x then some i else MapL.look x l) = _
      by_cases hx : k = x
      · subst hx; simp
      · rw [if_neg hx, if_neg (fun e => hx e.symm)]; show _ = (if k = x then some v else MapL.look x l); rw [if_neg hx]
    · rw [if_neg hk]
      show (if k = x then some v else MapL.look x (put b i l)) = _
      rw [look_put b x i l]
      by_cases hx : k = x
      · subst hx; rw [if_pos rfl, if_neg hk]; show _ = (if k = k then some v else _); rw [if_pos rfl]
      · rw [if_neg hx]; congr 1; show _ = (if k = x then some v else MapL.look x l); rw [if_neg hx]
/-- What a name is behind a work. -/
theorem look_step (a b x : ByteArray) (f : Option β) (l : List (ByteArray × β)) (h : (l.map (·.1)).Nodup) : MapL.look x (step a b f l) = if f ≠ none ∧ x = b then f else if x = a then none else MapL.look x l := by
  cases f with
  | none => simp only [step]; rw [look_del a x l h]; simp
  | some i => simp only [step]; rw [look_put, look_del a x l h]; simp
theorem look_step_other {a b x : ByteArray} {f : Option β} {l : List (ByteArray × β)} (h : (l.map (·.1)).Nodup) (h1 : x ≠ a) (h2 : x ≠ b) : MapL.look x (step a b f l) = MapL.look x l := by
  rw [look_step a b x f l h, if_neg (fun e => h2 e.2), if_neg h1]

/-- No file goes by two names. -/
def Uniq (l : List (ByteArray × Nat)) : Prop := ∀ x y i, MapL.look x l = some i → MapL.look y l = some i → x = y
theorem uniq_nil : Uniq [] := fun x y i h => by cases h
theorem uniq_del {a : ByteArray} {l : List (ByteArray × Nat)} (hn : (l.map (·.1)).Nodup) (h : Uniq l) : Uniq (del a l) := by
  intro x y i hx hy
  rw [look_del a _ l hn] at hx hy
  split at hx
  · cases hx
  · split at hy
    · cases hy
    · exact h x y i hx hy
theorem uniq_put {b : ByteArray} {i : Nat} {l : List (ByteArray × Nat)} (h : Uniq l) (hi : ∀ x, MapL.look x l = some i → x = b) : Uniq (put b i l) := by
  intro x y j hx hy
  rw [look_put] at hx hy
  split at hx
  · rename_i e
    cases hx
    split at hy
    · rename_i e2; rw [e, e2]
    · rw [e]; exact (hi y hy).symm
  · split at hy
    · rename_i e2; cases hy; rw [e2]; exact hi x hx
    · exact h x y j hx hy

/-- The file i, at the name a, was kept with the bytes b. -/
structure KeptAt (a : ByteArray) (i : Nat) (b : List Nat) (s : DS) : Prop where
  live : s.dead = false
  name : MapL.look a s.names = some i
  kept : MapL.look a s.kept = some i
  uniq : Uniq s.names
  works : ∀ q ∈ s.works, q.1 ≠ a ∧ q.2.1 ≠ a
  bytes : (s.file i).b = b
  mark : (s.file i).mark = b.length
  born : i ≤ s.births

theorem act_live (k : Nat) (x y : ByteArray) (l : List Nat) (h : s.dead = false) : (act s k x y l).1.dead = false := by
  unfold act
  split
  · unfold DS.append
    rw [h]
    simp only [Bool.false_eq_true, if_false]
    split
    · exact h
    · split
      · exact h
      · unfold DS.find
        split
        · exact h
        · exact h
  · simp only [DS.sync]; split <;> exact h
  · simp only [DS.rename]
    split
    · exact h
    · split <;> exact h
  · simp only [DS.remove]; split <;> exact h
  · simp only [DS.syncNames]; split
    · exact h
    · exact h
theorem renamed_uniq {a b : ByteArray} {f : Option Nat} (hs : (s.names.map (·.1)).Nodup) (h : Uniq s.names) (hf : ∀ i, f = some i → ∀ x, MapL.look x (del a s.names) = some i → x = b) : Uniq (s.renamed a b f).names := by
  show Uniq (step a b f s.names)
  cases f with
  | none => exact uniq_del hs h
  | some i => exact uniq_put (uniq_del hs h) (hf i rfl)
theorem look_bound {m : Nat} (hs : Sound m s) {x : ByteArray} {i : Nat} (h : MapL.look x s.names = some i) : i ≤ s.births := (hs.wf.names _ (look_mem h)).2
theorem uniq_act {m : Nat} (hs : Sound m s) (k : Nat) (x y : ByteArray) (l : List Nat) (h : Uniq s.names) : Uniq (act s k x y l).1.names := by
  unfold act
  split
  · unfold DS.append
    split
    · exact h
    · split
      · exact h
      · split
        · exact h
        · unfold DS.find
          split
          · exact h
          · show Uniq (s.born.renamed ⟨#[]⟩ x (some (s.births + 1))).names
            refine renamed_uniq (s := s.born) hs.tn.1 h (fun i hi z hz => ?_)
            cases hi
            change MapL.look z (del _ s.names) = _ at hz
            rw [look_del _ _ _ hs.tn.1] at hz
            split at hz
            · cases hz
            · have := look_bound hs hz; omega
  · simp only [DS.sync]; split <;> exact h
  · simp only [DS.rename]
    split
    · exact h
    · rename_i i hi
      obtain ⟨_, h2, _⟩ := ofRes_some hi
      split
      · exact h
      · refine renamed_uniq hs.tn.1 h (fun j hj z hz => ?_)
        cases hj
        rw [look_del _ _ _ hs.tn.1] at hz
        split at hz
        · cases hz
        · rename_i hzx
          exact absurd (h z x i hz h2) hzx
  · simp only [DS.remove]
    split
    · exact h
    · exact renamed_uniq hs.tn.1 h (fun i hi => by cases hi)
  · simp only [DS.syncNames]; split <;> exact h

/-! ### room enough -/
def Small (c : Nat) (s : DS) : Prop := ∀ i, (s.file i).b.length ≤ c
theorem small_mono {c e : Nat} (h : Small c s) (he : c ≤ e) : Small e s := fun i => Nat.le_trans (h i) he
theorem small_new (r : Nat) : Small 0 (DS.new r) := fun i => by simp [DS.new]
theorem small_grow {c n : Nat} {i : Nat} {l : List Nat} (h : Small c s) (hl : l.length ≤ n) : Small (c + n) (s.grow i l) := fun j => by
  by_cases hj : j = i
  · subst hj; simp only [DS.grow, upd_same, List.length_append]; have := h j; omega
  · simp only [DS.grow, upd_other _ _ hj]; have := h j; omega
theorem small_act {c n : Nat} (k : Nat) (x y : ByteArray) (l : List Nat) (h : Small c s) (hl : l.length ≤ n) : Small (c + n) (act s k x y l).1 := by
  unfold act
  split
  · unfold DS.append
    split
    · exact small_mono h (by omega)
    · split
      · exact small_mono h (by omega)
      · split
        · exact small_mono h (by omega)
        · unfold DS.find
          split
          · exact small_grow h hl
          · refine small_grow (s := s.born.renamed ⟨#[]⟩ x (some (s.births + 1))) (c := c) (fun j => ?_) hl
            show (upd s.file (s.births + 1) ⟨[], 0⟩ j).b.length ≤ c
            by_cases hj : j = s.births + 1
            · subst hj; rw [upd_same]; simp
            · rw [upd_other _ _ hj]; exact h j
  · simp only [DS.sync]
    split
    · exact small_mono h (by omega)
    · rename_i i _
      intro j
      by_cases hj : j = i
      · subst hj; simp only [upd_same]; have := h j; omega
      · simp only [upd_other _ _ hj]; have := h j; omega
  · simp only [DS.rename]
    split
    · exact small_mono h (by omega)
    · split <;> exact small_mono h (by omega)
  · simp only [DS.remove]
    split <;> exact small_mono h (by omega)
  · simp only [DS.syncNames]
    split <;> exact small_mono h (by omega)
theorem used_small {c : Nat} (h : Small c s) : usedOf s ≤ s.births * c := by
  unfold usedOf
  have := sum_le (fun j => if held s (j + 1) then (s.file (j + 1)).b.length else 0) c (fun x => by split; exact h _; omega) (List.range s.births)
  simpa using this
/-- What holds of a disk behind n deeds made near. -/
structure Near (n : Nat) (s : DS) : Prop where
  sound : Sound (2 * n) s
  live : s.dead = false
  uniq : Uniq s.names
  small : Small (30 * n) s
  room : s.room = 1048576
theorem act_room (k : Nat) (x y : ByteArray) (l : List Nat) : (act s k x y l).1.room = s.room := by
  unfold act
  split
  · unfold DS.append
    split
    · rfl
    · split
      · rfl
      · split
        · rfl
        · unfold DS.find
          split <;> rfl
  · simp only [DS.sync]; split <;> rfl
  · simp only [DS.rename]
    split
    · rfl
    · split <;> rfl
  · simp only [DS.remove]; split <;> rfl
  · simp only [DS.syncNames]; split <;> rfl
theorem near_new : Near 0 (DS.new 1048576) := ⟨sound_new (by omega), rfl, uniq_nil, small_new _, rfl⟩
theorem near_act {n : Nat} (h : Near n s) (hn : n ≤ 1000) (k : Nat) (x y : ByteArray) (l : List Nat) (hl : l.length ≤ 30) (hb : ∀ z ∈ l, z < 256) : Near (n + 1) (act s k x y l).1 :=
  ⟨(sound_act h.sound (by omega) k x y l hb).mono (by omega), act_live k x y l h.live, uniq_act h.sound k x y l h.uniq, small_mono (small_act k x y l h.small hl) (by omega), (act_room k x y l).trans h.room⟩
theorem append_ok {n : Nat} (h : Near n s) (hn : n ≤ 100) (x : ByteArray) (hx : okName x = true) (l : List Nat) (hl : l.length ≤ 30) : (s.append x l) = ((s.find x).1.grow (s.find x).2 l, 0) := by
  have h1 := used_small h.small
  have h2 : s.births * (30 * n) ≤ 200 * 3000 := Nat.mul_le_mul (by have := h.sound.nb; omega) (by omega)
  unfold DS.append
  rw [h.live]
  unfold okName at hx
  rw [hx, if_neg (by simp), if_neg (by simp), if_neg (by rw [h.room]; omega)]
end Go.Proofs.Ytbkkcbdbdogloaa
