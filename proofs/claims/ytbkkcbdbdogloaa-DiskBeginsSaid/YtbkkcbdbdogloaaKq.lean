/-
  WHAT IS KEPT STAYS: the steps, in plain Lean. Conditions: those of each theorem.
-/
import Derived.Test.YtbkkcbdbdogloaaKp
namespace Go.Proofs.Ytbkkcbdbdogloaa
open Go Go.RowKit Go.MapL Go.Poised
variable {s : DS} {β : Type} {a : ByteArray} {i m n : Nat} {b : List Nat}

theorem find_name (s : DS) (x : ByteArray) : fileOf (s.find x).1 x = some (s.find x).2 := by
  unfold DS.find
  cases hf : fileOf s x with
  | some i => exact hf
  | none =>
    show MapL.look x (put x (s.births + 1) (del ⟨#[]⟩ s.names)) = _
    rw [look_put, if_pos rfl]
theorem find_born (hs : Sound m s) (x : ByteArray) : (s.find x).2 ≤ (s.find x).1.births := by
  unfold DS.find
  cases hf : fileOf s x with
  | some i => exact look_bound hs hf
  | none => exact Nat.le_refl _
/-- The state behind Append, Sync, SyncNames of one name. -/
def keptS (s : DS) (x : ByteArray) (l : List Nat) : DS := (((s.append x l).1).sync x).syncNames
theorem kept_start (h : Near n s) (hn : n ≤ 100) (x : ByteArray) (hx : okName x = true) (l : List Nat) (hl : l.length ≤ 30) (hb : ∀ z ∈ l, z < 256) :
    (s.append x l).2 = 0 ∧ (ofRes (s.append x l).1 x true).2 = 0 ∧ ((s.append x l).1.sync x).dead = false ∧ ∃ i b, KeptAt x i b (keptS s x l) ∧ readRes (keptS s x l) x = (b, 0) ∧ Sound (2 * n + 6) (keptS s x l) := by
  have ha := append_ok h hn x hx l hl
  have hlive : (s.append x l).1.dead = false := act_live 0 x x l h.live
  have huniq : Uniq (s.append x l).1.names := uniq_act h.sound 0 x x l h.uniq
  have hsnd : Sound (2 * n + 2) (s.append x l).1 := sound_append h.sound (by omega) x l hb
  have hfile : fileOf (s.append x l).1 x = some (s.find x).2 := by rw [ha]; exact find_name s x
  have hborn : (s.find x).2 ≤ (s.append x l).1.births := by rw [ha]; exact find_born h.sound x
  have hres : ofRes (s.append x l).1 x true = (some (s.find x).2, 0) := by
    unfold ofRes; rw [hlive, hfile]; rfl
  refine ⟨by rw [ha], by rw [hres], ?_, (s.find x).2, ((s.append x l).1.file (s.find x).2).b, ?_, ?_, ?_⟩
  · exact act_live 1 x x l hlive
  · have he : keptS s x l = { (s.append x l).1 with file := upd (s.append x l).1.file (s.find x).2 ⟨((s.append x l).1.file (s.find x).2).b, ((s.append x l).1.file (s.find x).2).b.length⟩, kept := (s.append x l).1.names, works := [] } := by
      unfold keptS DS.sync
      rw [hres]
      unfold DS.syncNames
      simp only [hlive, Bool.false_eq_true, if_false]
    rw [he]
    exact ⟨hlive, hfile, hfile, huniq, by simp, by simp, by simp, hborn⟩
  · have he : keptS s x l = { (s.append x l).1 with file := upd (s.append x l).1.file (s.find x).2 ⟨((s.append x l).1.file (s.find x).2).b, ((s.append x l).1.file (s.find x).2).b.length⟩, kept := (s.append x l).1.names, works := [] } := by
      unfold keptS DS.sync
      rw [hres]
      unfold DS.syncNames
      simp only [hlive, Bool.false_eq_true, if_false]
    unfold readRes
    have h1 : (keptS s x l).dead = false := by rw [he]; exact hlive
    have h2 : fileOf (keptS s x l) x = some (s.find x).2 := by rw [he]; exact hfile
    rw [h1, h2, he]
    simp
  · exact (sound_syncNames (sound_sync hsnd x)).mono (by omega)

theorem kept_act (h : KeptAt a i b s) (hs : Sound m s) (k : Nat) (x y : ByteArray) (l : List Nat) (hx : x ≠ a) (hy : y ≠ a) (he : (⟨#[]⟩ : ByteArray) ≠ a) : KeptAt a i b (act s k x y l).1 := by
  have hne : ∀ j, fileOf s x = some j → j ≠ i := fun j hj e => by subst e; exact hx (h.uniq x a j hj h.name)
  have hu := uniq_act hs k x y l h.uniq
  have hd := act_live k x y l h.live
  unfold act at *
  split at hu
  · simp only at hd ⊢
    unfold DS.append at *
    rw [h.live] at hu hd ⊢
    simp only [Bool.false_eq_true, if_false] at hu hd ⊢
    split
    · exact h
    · split
      · exact h
      · rename_i h1 h2
        rw [if_neg h1, if_neg h2] at hu
        unfold DS.find at *
        cases hf : fileOf s x with
        | some j =>
          rw [hf] at hu
          have := hne j hf
          exact ⟨h.live, h.name, h.kept, h.uniq, h.works, by show (upd s.file j _ i).b = b; rw [upd_other _ _ (fun e => this e.symm)]; exact h.bytes, by show (upd s.file j _ i).mark = _; rw [upd_other _ _ (fun e => this e.symm)]; exact h.mark, h.born⟩
        | none =>
          rw [hf] at hu
          have hi : i ≠ s.births + 1 := by have := h.born; omega
          refine ⟨h.live, ?_, h.kept, hu, ?_, ?_, ?_, Nat.le_succ_of_le h.born⟩
          · show MapL.look a (step ⟨#[]⟩ x (some (s.births + 1)) s.names) = _
            rw [look_step_other hs.tn.1 (fun e => he e.symm) (fun e => hx e.symm)]; exact h.name
          · intro q hq
            rcases List.mem_append.1 hq with hq | hq
            · exact h.works q hq
            · rw [List.mem_singleton] at hq; subst hq; exact ⟨he, hx⟩
          · show (upd (upd s.file (s.births + 1) _) (s.births + 1) _ i).b = b
            rw [upd_other _ _ hi, upd_other _ _ hi]; exact h.bytes
          · show (upd (upd s.file (s.births + 1) _) (s.births + 1) _ i).mark = _
            rw [upd_other _ _ hi, upd_other _ _ hi]; exact h.mark
  · simp only [DS.sync]
    split
    · exact h
    · rename_i j hj
      have := hne j (ofRes_some hj).2.1
      exact ⟨h.live, h.name, h.kept, h.uniq, h.works, by show (upd s.file j _ i).b = b; rw [upd_other _ _ (fun e => this e.symm)]; exact h.bytes, by show (upd s.file j _ i).mark = _; rw [upd_other _ _ (fun e => this e.symm)]; exact h.mark, h.born⟩
  · simp only [DS.rename] at hu ⊢
    split
    · exact h
    · rename_i j hj
      rw [hj] at hu
      split
      · exact h
      · rename_i hxy
        simp only [if_neg hxy] at hu
        refine ⟨h.live, ?_, h.kept, hu, ?_, h.bytes, h.mark, h.born⟩
        · show MapL.look a (step x y (some j) s.names) = _
          rw [look_step_other hs.tn.1 (fun e => hx e.symm) (fun e => hy e.symm)]; exact h.name
        · intro q hq
          rcases List.mem_append.1 hq with hq | hq
          · exact h.works q hq
          · rw [List.mem_singleton] at hq; subst hq; exact ⟨hx, hy⟩
  · simp only [DS.remove] at hu ⊢
    split
    · exact h
    · rename_i j hj
      rw [hj] at hu
      refine ⟨h.live, ?_, h.kept, hu, ?_, h.bytes, h.mark, h.born⟩
      · show MapL.look a (step x ⟨#[]⟩ none s.names) = _
        rw [look_step_other hs.tn.1 (fun e => hx e.symm) (fun e => he e.symm)]; exact h.name
      · intro q hq
        rcases List.mem_append.1 hq with hq | hq
        · exact h.works q hq
        · rw [List.mem_singleton] at hq; subst hq; exact ⟨hx, he⟩
  · simp only [DS.syncNames]
    rw [h.live]
    simp only [Bool.false_eq_true, if_false]
    exact ⟨rfl, h.name, h.name, h.uniq, by simp, h.bytes, h.mark, h.born⟩

theorem step_nodup {x y : ByteArray} {f : Option β} {l : List (ByteArray × β)} (h : (l.map (·.1)).Nodup) : ((step x y f l).map (·.1)).Nodup := by
  cases f with
  | none => exact h.sublist (del_sub x l)
  | some i => exact put_nodup y i _ (h.sublist (del_sub x l))
theorem crash_file (keep : List Int) : ∀ (l : List Nat) (s : DS) (k : Nat), (s.file i).b = b → (s.file i).mark = b.length → ((crashFiles keep s k l).file i).b = b ∧ ((crashFiles keep s k l).file i).mark = b.length
  | [], _, _, h1, h2 => ⟨h1, h2⟩
  | j :: l, s, k, h1, h2 => by
    by_cases hj : j = i
    · have h0 : brought keep (1 + k) ((s.file i).b.length - (s.file i).mark) = 0 := by
        have := brought_le keep (1 + k) ((s.file i).b.length - (s.file i).mark)
        rw [h1, h2] at this ⊢
        omega
      refine crash_file keep l (crashFile keep s k j) (k + 1) ?_ ?_
      · rw [hj]
        show (upd s.file i _ i).b = b
        rw [upd_same, h0, h1, h2]; simp
      · rw [hj]
        show (upd s.file i _ i).mark = _
        rw [upd_same, h0, h2]; simp
    · refine crash_file keep l (crashFile keep s k j) (k + 1) ?_ ?_
      · show (upd s.file j _ i).b = b
        rw [upd_other _ _ (fun e => hj e.symm)]; exact h1
      · show (upd s.file j _ i).mark = _
        rw [upd_other _ _ (fun e => hj e.symm)]; exact h2
theorem kept_after (h : KeptAt a i b s) (hs : Sound m s) (n : Nat) : MapL.look a (after s n) = some i := by
  unfold after
  have key : ∀ (ws : List (ByteArray × ByteArray × Option Nat)) (l : List (ByteArray × Nat)), (∀ q ∈ ws, q.1 ≠ a ∧ q.2.1 ≠ a) → (l.map (·.1)).Nodup → MapL.look a (ws.foldl stepW l) = MapL.look a l := by
    intro ws
    induction ws with
    | nil => intro l _ _; rfl
    | cons x ws ih =>
      intro l hw hn
      rw [List.foldl_cons, ih (stepW l x) (fun q hq => hw q (.tail _ hq)) (step_nodup hn)]
      have := hw x (.head _)
      exact look_step_other hn (fun e => this.1 e.symm) (fun e => this.2 e.symm)
  rw [key _ _ (fun q hq => h.works q (List.mem_of_mem_take hq)) hs.tk.1]
  exact h.kept
theorem kept_crash (h : KeptAt a i b s) (hs : Sound m s) (keep : List Int) : readRes (s.crash keep).boot a = (b, 0) := by
  unfold DS.crash
  rw [h.live]
  simp only [Bool.false_eq_true, if_false]
  have h1 := kept_after h hs (brought keep 0 s.works.length)
  have h2 := crash_file keep (rising ((after s (brought keep 0 s.works.length)).map (·.2))) s 0 h.bytes h.mark
  simp only [readRes, DS.boot, fileOf, Bool.false_eq_true, if_false]
  rw [h1]
  simp only [h2.1]
end Go.Proofs.Ytbkkcbdbdogloaa
