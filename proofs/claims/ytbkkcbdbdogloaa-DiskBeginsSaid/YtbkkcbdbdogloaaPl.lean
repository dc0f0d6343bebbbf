/-
  WHAT HOLDS OF EVERY DISK, in plain Lean. Conditions: those of each theorem.
-/
import Derived.Test.YtbkkcbdbdogloaaDeed
namespace Go.Proofs.Ytbkkcbdbdogloaa
open Go Go.RowKit Go.MapL Go.Poised
variable {s : DS} {β : Type}

theorem del_mem (a : ByteArray) : ∀ (l : List (ByteArray × β)), ∀ q ∈ del a l, q ∈ l
  | [], q, h => by cases h
  | (k, v) :: l, q, h => by
    unfold del at h
    split at h
    · exact .tail _ h
    · rcases List.mem_cons.1 h with rfl | h
      · exact .head _
      · exact .tail _ (del_mem a l q h)
theorem del_sub (a : ByteArray) : ∀ (l : List (ByteArray × β)), ((del a l).map (·.1)).Sublist (l.map (·.1))
  | [] => .slnil
  | (k, v) :: l => by
    unfold del
    split
    · exact .cons _ (List.Sublist.refl _)
    · exact .cons_cons _ (del_sub a l)
theorem del_tidied {a : ByteArray} {l : List (ByteArray × β)} (h : Tidied l) : Tidied (del a l) :=
  ⟨h.1.sublist (del_sub a l), fun q hq => h.2 q (del_mem a l q hq)⟩
theorem put_mem (b : ByteArray) (i : β) : ∀ (l : List (ByteArray × β)), ∀ q ∈ put b i l, q = (b, i) ∨ q ∈ l
  | [], q, h => by simp [put] at h; exact .inl h
  | (k, v) :: l, q, h => by
    unfold put at h
    split at h
    · rcases List.mem_cons.1 h with rfl | h
      · exact .inl rfl
      · exact .inr (.tail _ h)
    · rcases List.mem_cons.1 h with rfl | h
      · exact .inr (.head _)
      · rcases put_mem b i l q h with h | h
        · exact .inl h
        · exact .inr (.tail _ h)
theorem put_keys_mem (b : ByteArray) (i : β) (l : List (ByteArray × β)) (x : ByteArray) (h : x ∈ (put b i l).map (·.1)) : x = b ∨ x ∈ l.map (·.1) := by
  obtain ⟨q, hq, rfl⟩ := List.mem_map.1 h
  rcases put_mem b i l q hq with rfl | h
  · exact .inl rfl
  · exact .inr (List.mem_map_of_mem h)
theorem put_nodup (b : ByteArray) (i : β) : ∀ (l : List (ByteArray × β)), (l.map (·.1)).Nodup → ((put b i l).map (·.1)).Nodup
  | [], _ => by simp [put]
  | (k, v) :: l, h => by
    simp only [List.map_cons, List.nodup_cons] at h
    unfold put
    split
    · rename_i e
      subst e
      simpa using h
    · rename_i e
      simp only [List.map_cons, List.nodup_cons]
      refine ⟨fun hm => ?_, put_nodup b i l h.2⟩
      rcases put_keys_mem b i l k hm with h5 | h5
      · exact e h5
      · exact h.1 h5
theorem put_tidied {b : ByteArray} {i : β} {l : List (ByteArray × β)} (h : Tidied l) (hb : b.size ≤ 40) : Tidied (put b i l) :=
  ⟨put_nodup b i l h.1, fun q hq => by rcases put_mem b i l q hq with rfl | h5; exact hb; exact h.2 q h5⟩
theorem step_tidied {a b : ByteArray} {f : Option β} {l : List (ByteArray × β)} (h : Tidied l) (hb : f ≠ none → b.size ≤ 40) : Tidied (step a b f l) := by
  cases f with
  | none => exact del_tidied h
  | some i => exact put_tidied (del_tidied h) (hb (by simp))
theorem le_sum : ∀ (l : List Nat) (x : Nat), x ∈ l → x ≤ l.sum
  | y :: l, x, h => by
    rw [List.sum_cons]
    rcases List.mem_cons.1 h with rfl | h
    · omega
    · have := le_sum l x h; omega
theorem held_used {i : Nat} (h1 : 1 ≤ i) (h2 : i ≤ s.births) (hh : held s i = true) : (s.file i).b.length ≤ usedOf s := by
  refine le_sum _ _ (List.mem_map.2 ⟨i - 1, by simp; omega, ?_⟩)
  simp only [show i - 1 + 1 = i by omega, hh, if_true]
theorem held_of_name {x : ByteArray} {i : Nat} (h : (x, i) ∈ s.names) : held s i = true := by
  unfold held; rw [List.any_eq_true]; exact ⟨(x, i), List.mem_append_left _ h, by simp⟩

theorem wf_renamed {a b : ByteArray} {f : Option Nat} (hwf : WF s) (hc : s.works.length < 1073741824) (hf : ∀ i, f = some i → 1 ≤ i ∧ i ≤ s.births) : WF (s.renamed a b f) := {
  room := hwf.room
  births := hwf.births
  names := step_in (P := fun i => 1 ≤ i ∧ i ≤ s.births) hwf.names hf
  kept := hwf.kept
  works := fun q hq i hi => by
    rcases List.mem_append.1 hq with hq | hq
    · exact hwf.works q hq i hi
    · rw [List.mem_singleton] at hq; subst hq; exact hf i hi
  count := by show (s.works ++ [(a, b, f)]).length ≤ _; simp; omega
  bytes := hwf.bytes
  len := hwf.len
  mark := hwf.mark }
theorem wf_grow {i : Nat} {l : List Nat} (hwf : WF s) (hl : ∀ x ∈ l, x < 256) (hlen : (s.file i).b.length + l.length ≤ 16777216) : WF (s.grow i l) := {
  room := hwf.room
  births := hwf.births
  names := hwf.names
  kept := hwf.kept
  works := hwf.works
  count := hwf.count
  bytes := fun j x hx => by
    by_cases hj : j = i
    · subst hj; simp only [DS.grow, upd_same] at hx
      rcases List.mem_append.1 hx with hx | hx
      · exact hwf.bytes j x hx
      · exact hl x hx
    · simp only [DS.grow, upd_other _ _ hj] at hx; exact hwf.bytes j x hx
  len := fun j => by
    by_cases hj : j = i
    · subst hj; simp only [DS.grow, upd_same, List.length_append]; exact hlen
    · simp only [DS.grow, upd_other _ _ hj]; exact hwf.len j
  mark := fun j => by
    by_cases hj : j = i
    · subst hj; simp only [DS.grow, upd_same, List.length_append]; have := hwf.mark j; omega
    · simp only [DS.grow, upd_other _ _ hj]; exact hwf.mark j }

/-- What holds of a disk to which no more than m deeds were done. -/
structure Sound (m : Nat) (s : DS) : Prop where
  wf : WF s
  tn : Tidied s.names
  tk : Tidied s.kept
  tw : ∀ q ∈ s.works, q.2.2 ≠ none → q.2.1.size ≤ 40
  nb : s.births ≤ m
  nw : s.works.length ≤ m
  nn : s.names.length ≤ m
  nk : s.kept.length ≤ m
theorem Sound.mono {m k : Nat} (h : Sound m s) (hk : m ≤ k) : Sound k s := {
  wf := h.wf
  tn := h.tn
  tk := h.tk
  tw := h.tw
  nb := Nat.le_trans h.nb hk
  nw := Nat.le_trans h.nw hk
  nn := Nat.le_trans h.nn hk
  nk := Nat.le_trans h.nk hk }
theorem tidied_nil : Tidied ([] : List (ByteArray × β)) := ⟨by simp, by simp⟩
theorem sound_new {room : Nat} (h : room ≤ 16777216) : Sound 0 (DS.new room) := {
  wf := wf_new room h
  tn := tidied_nil
  tk := tidied_nil
  tw := by simp [DS.new]
  nb := by simp [DS.new]
  nw := by simp [DS.new]
  nn := by simp [DS.new]
  nk := by simp [DS.new] }
theorem sound_renamed {m : Nat} {a b : ByteArray} {f : Option Nat} (h : Sound m s) (hm : m < 1073741824) (hf : ∀ i, f = some i → 1 ≤ i ∧ i ≤ s.births) (hb : f ≠ none → b.size ≤ 40) : Sound (m + 1) (s.renamed a b f) := {
  wf := wf_renamed h.wf (by have := h.nw; omega) hf
  tn := step_tidied h.tn hb
  tk := h.tk
  tw := fun q hq hq2 => by
    rcases List.mem_append.1 hq with hq | hq
    · exact h.tw q hq hq2
    · rw [List.mem_singleton] at hq; subst hq; exact hb hq2
  nb := Nat.le_succ_of_le h.nb
  nw := by show (s.works ++ [(a, b, f)]).length ≤ _; have := h.nw; simp; omega
  nn := by have := step_len a b f s.names; have := h.nn; show (step a b f s.names).length ≤ _; omega
  nk := Nat.le_succ_of_le h.nk }
theorem sound_born {m : Nat} (h : Sound m s) (hm : m < 1073741824) : Sound (m + 1) s.born := {
  wf := wf_born h.wf (by have := h.nb; omega)
  tn := h.tn
  tk := h.tk
  tw := h.tw
  nb := by show s.births + 1 ≤ _; have := h.nb; omega
  nw := Nat.le_succ_of_le h.nw
  nn := Nat.le_succ_of_le h.nn
  nk := Nat.le_succ_of_le h.nk }
theorem sound_grow {m : Nat} {i : Nat} {l : List Nat} (h : Sound m s) (hl : ∀ x ∈ l, x < 256) (hlen : (s.file i).b.length + l.length ≤ 16777216) : Sound m (s.grow i l) := {
  wf := wf_grow h.wf hl hlen
  tn := h.tn
  tk := h.tk
  tw := h.tw
  nb := h.nb
  nw := h.nw
  nn := h.nn
  nk := h.nk }
theorem sound_append {m : Nat} (h : Sound m s) (hm : m < 536870912) (x : ByteArray) (l : List Nat) (hl : ∀ x ∈ l, x < 256) : Sound (m + 2) (s.append x l).1 := by
  unfold DS.append
  split
  · exact h.mono (by omega)
  · split
    · exact h.mono (by omega)
    · rename_i hok
      split
      · exact h.mono (by omega)
      · rename_i hroom
        have hr := h.wf.room
        simp only [Bool.not_eq_false, Bool.and_eq_true, decide_eq_true_eq] at hok
        cases hf : fileOf s x with
        | some i =>
          have he : s.find x = (s, i) := by unfold DS.find; rw [hf]
          rw [he]
          have h3 := fileOf_in h.wf hf
          have h4 := held_used h3.1 h3.2 (held_of_name (look_mem hf))
          exact (sound_grow h hl (by show (s.file i).b.length + l.length ≤ _; omega)).mono (by omega)
        | none =>
          have he : s.find x = (s.born.renamed ⟨#[]⟩ x (some (s.births + 1)), s.births + 1) := by unfold DS.find; rw [hf]
          rw [he]
          refine sound_grow (sound_renamed (sound_born h (by omega)) (by omega) (fun i hi => ?_) (fun _ => hok.2)) hl ?_
          · cases hi; exact ⟨by omega, Nat.le_refl _⟩
          · show (upd s.file (s.births + 1) ⟨[], 0⟩ (s.births + 1)).b.length + l.length ≤ _
            rw [upd_same]; simp; omega
theorem sound_sync {m : Nat} (h : Sound m s) (x : ByteArray) : Sound m (s.sync x) := by
  unfold DS.sync
  split
  · exact h
  · rename_i i _
    exact {
      wf := {
        room := h.wf.room
        births := h.wf.births
        names := h.wf.names
        kept := h.wf.kept
        works := h.wf.works
        count := h.wf.count
        bytes := fun j x hx => by
          by_cases hj : j = i
          · subst hj; simp only [upd_same] at hx; exact h.wf.bytes j x hx
          · simp only [upd_other _ _ hj] at hx; exact h.wf.bytes j x hx
        len := fun j => by
          by_cases hj : j = i
          · subst hj; simp only [upd_same]; exact h.wf.len j
          · simp only [upd_other _ _ hj]; exact h.wf.len j
        mark := fun j => by
          by_cases hj : j = i
          · subst hj; simp only [upd_same]; exact Nat.le_refl _
          · simp only [upd_other _ _ hj]; exact h.wf.mark j }
      tn := h.tn
      tk := h.tk
      tw := h.tw
      nb := h.nb
      nw := h.nw
      nn := h.nn
      nk := h.nk }
theorem ofRes_some {x : ByteArray} {ok : Bool} {i : Nat} (h : (ofRes s x ok).1 = some i) : s.dead = false ∧ fileOf s x = some i ∧ ok = true := by
  unfold ofRes at h
  split at h
  · cases h
  · rename_i hd
    split at h
    · cases h
    · rename_i j hj
      split at h
      · rename_i hok; cases h; exact ⟨by simpa using hd, hj, hok⟩
      · cases h
theorem sound_remove {m : Nat} (h : Sound m s) (hm : m < 536870912) (x : ByteArray) : Sound (m + 1) (s.remove x) := by
  unfold DS.remove
  split
  · exact h.mono (by omega)
  · exact sound_renamed h (by omega) (fun i hi => by cases hi) (fun e => absurd rfl e)
theorem sound_rename {m : Nat} (h : Sound m s) (hm : m < 536870912) (x y : ByteArray) : Sound (m + 1) (s.rename x y) := by
  unfold DS.rename
  split
  · exact h.mono (by omega)
  · rename_i i hi
    split
    · exact h.mono (by omega)
    · obtain ⟨_, h2, h3⟩ := ofRes_some hi
      simp only [Bool.and_eq_true, decide_eq_true_eq] at h3
      exact sound_renamed h (by omega) (fun j hj => by cases hj; exact fileOf_in h.wf h2) (fun _ => h3.2)
theorem sound_syncNames {m : Nat} (h : Sound m s) : Sound m s.syncNames := by
  unfold DS.syncNames
  split
  · exact h
  · exact {
      wf := {
        room := h.wf.room
        births := h.wf.births
        names := h.wf.names
        kept := h.wf.names
        works := by simp
        count := by simp
        bytes := h.wf.bytes
        len := h.wf.len
        mark := h.wf.mark }
      tn := h.tn
      tk := h.tn
      tw := by simp
      nb := h.nb
      nw := by simp
      nn := h.nn
      nk := h.nn }
theorem sound_act {m : Nat} (h : Sound m s) (hm : m < 536870912) (k : Nat) (x y : ByteArray) (l : List Nat) (hl : ∀ x ∈ l, x < 256) : Sound (m + 2) (act s k x y l).1 := by
  unfold act
  split
  · exact sound_append h hm x l hl
  · exact (sound_sync h x).mono (by omega)
  · exact (sound_rename h hm x y).mono (by omega)
  · exact (sound_remove h hm x).mono (by omega)
  · exact (sound_syncNames h).mono (by omega)
theorem sound_crash {m : Nat} (h : Sound m s) (hm : m < 536870912) (keep : List Int) : Sound (2 * m) (s.crash keep) := by
  unfold DS.crash
  split
  · exact h.mono (by omega)
  · obtain ⟨e1, e2, e3, e4, e5, e6⟩ := crashFiles_same keep (rising ((after s (brought keep 0 s.works.length)).map (·.2))) s 0
    have hw := wf_crashFiles keep (rising ((after s (brought keep 0 s.works.length)).map (·.2))) s 0 h.wf
    have hin := after_in h.wf (brought keep 0 s.works.length)
    have hlen : (after s (brought keep 0 s.works.length)).length ≤ 2 * m := by
      unfold after
      have key : ∀ (ws : List (ByteArray × ByteArray × Option Nat)) (l : List (ByteArray × Nat)), (ws.foldl stepW l).length ≤ l.length + ws.length := by
        intro ws
        induction ws with
        | nil => intro l; simp
        | cons x ws ih => intro l; have := ih (stepW l x); have := step_len x.1 x.2.1 x.2.2 l; simp only [List.foldl_cons, List.length_cons]; unfold stepW at *; omega
      have := key (s.works.take (brought keep 0 s.works.length)) s.kept
      have h2 : (s.works.take (brought keep 0 s.works.length)).length ≤ s.works.length := by simp; omega
      have := h.nk
      have := h.nw
      omega
    have htid : Tidied (after s (brought keep 0 s.works.length)) := by
      unfold after
      have key : ∀ (ws : List (ByteArray × ByteArray × Option Nat)) (l : List (ByteArray × Nat)), (∀ q ∈ ws, q.2.2 ≠ none → q.2.1.size ≤ 40) → Tidied l → Tidied (ws.foldl stepW l) := by
        intro ws
        induction ws with
        | nil => intro l _ hl; exact hl
        | cons x ws ih => intro l hw hl; exact ih (stepW l x) (fun q hq => hw q (.tail _ hq)) (step_tidied hl (hw x (.head _)))
      exact key _ _ (fun q hq => h.tw q (List.mem_of_mem_take hq)) h.tk
    exact {
      wf := {
        room := by rw [e2]; exact h.wf.room
        births := by rw [e1]; exact h.wf.births
        names := by rw [e1]; exact hin
        kept := by rw [e1]; exact hin
        works := by simp
        count := by simp
        bytes := hw.bytes
        len := hw.len
        mark := hw.mark }
      tn := htid
      tk := htid
      tw := by simp
      nb := by show (crashFiles _ _ _ _).births ≤ _; rw [e1]; have := h.nb; omega
      nw := by simp
      nn := hlen
      nk := hlen }
def DS.boot (s : DS) : DS := { s with dead := false }
theorem sound_boot {m : Nat} (h : Sound m s) : Sound m s.boot := {
  wf := { room := h.wf.room
          births := h.wf.births
          names := h.wf.names
          kept := h.wf.kept
          works := h.wf.works
          count := h.wf.count
          bytes := h.wf.bytes
          len := h.wf.len
          mark := h.wf.mark }
  tn := h.tn
  tk := h.tk
  tw := h.tw
  nb := h.nb
  nw := h.nw
  nn := h.nn
  nk := h.nk }
end Go.Proofs.Ytbkkcbdbdogloaa
