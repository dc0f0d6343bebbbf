/-
  A REGION THAT DRAWS ITS ORDER, WITH CALLS THAT TURN MEMORY ONE BEHIND THE OTHER, WALKED ONCE IN THE ORDER OF THE TEXT: each world is at a stage; an operation that turns memory goes from one stage to the next, each other one goes through at every stage, and leaves the same. Conditions: those of each theorem.
-/
import Derived.Test.YtmcmagplaflegaaGreatX0
namespace Go.Staged
open Go Go.Poised Go.RowKit

/-- What an operation leaves: a value that meets 'dom', and of it, in the world, 'V', which lasts. -/
structure Leaves (R : World → World → Prop) where
  dom : Value → Prop
  V : Value → World → Prop
  one : Value
  ok : dom one
  lasts : ∀ v w w', R w w' → V v w → V v w'

def Leaves.det {R : World → World → Prop} (u : Value) : Leaves R := ⟨fun v => v = u, fun _ _ => True, u, rfl, fun _ _ _ _ _ => trivial⟩
def Leaves.free {R : World → World → Prop} (V : Value → World → Prop) (h : ∀ v w w', R w w' → V v w → V v w') : Leaves R := ⟨fun _ => True, V, undef, trivial, h⟩

section
variable {P : Program} {ops : Array Oper} {md : Region.Mode} {C : Nat → World → Prop} {R : World → World → Prop} {eff : Nat → Bool}

/-- The stage behind an operation. -/
def nx (b : Bool) (σ : Nat) : Nat := if b then σ + 1 else σ
/-- In state a: the operation goes through, at this stage if it turns memory, at every stage else. -/
def goes (P : Program) (C : Nat → World → Prop) (R : World → World → Prop) (b : Bool) (σ : Nat) (o : Oper) (a : Act) (S : World → Prop) (D : Value → World → Prop) : Prop :=
  if b then poised P (fun w w' => R w w' ∧ C (σ + 1) w') o a (fun w => C σ w ∧ S w) D else ∀ τ, poised P (fun w w' => R w w' ∧ C τ w') o a (fun w => C τ w ∧ S w) D
theorem goes_now {b : Bool} {σ : Nat} {o : Oper} {a : Act} {S : World → Prop} {D : Value → World → Prop} (h : goes P C R b σ o a S D) : poised P (fun w w' => R w w' ∧ C (nx b σ) w') o a (fun w => C σ w ∧ S w) D := by
  unfold goes at h
  unfold nx
  cases b
  · exact h σ
  · exact h
theorem goes_at {b c : Bool} {σ : Nat} {o : Oper} {a : Act} {S : World → Prop} {D : Value → World → Prop} (hbc : ¬ (b = true ∧ c = true)) : goes P C R b (nx c σ) o a S D ↔ goes P C R b σ o a S D := by
  unfold goes nx
  cases b <;> cases c <;> simp at hbc ⊢
theorem nx_comm {b c : Bool} {σ : Nat} : nx b (nx c σ) = nx c (nx b σ) := by
  unfold nx
  cases b <;> cases c <;> simp
def pOp (P : Program) (md : Region.Mode) (ops : Array Oper) (C : Nat → World → Prop) (R : World → World → Prop) (b : Bool) (o : Oper) (i : Nat) (s : Leaves R) (σ : Nat) (fs : Facts) (K : Nat → Facts → Act → Prop) (a : Act) : Prop :=
  if Region.wanted o (yielded ops a.tmps) then
    goes P C R b σ o a (Poised.seen md fs o) (fun v w' => s.dom v ∧ s.V v w') ∧ ∀ v, s.dom v → K (nx b σ) (Facts.put i (s.V v) fs) (a.put o.dst v)
  else K σ fs (a.put o.dst undef)

theorem pOp_mono {b : Bool} {o : Oper} {i σ : Nat} {s : Leaves R} {fs : Facts} {K K' : Nat → Facts → Act → Prop} {a : Act} (h : ∀ σ fs a, K σ fs a → K' σ fs a) (hh : pOp P md ops C R b o i s σ fs K a) : pOp P md ops C R b o i s σ fs K' a := by
  unfold pOp at *
  split
  · rename_i hw; simp only [hw, if_true] at hh; exact ⟨hh.1, fun v hv => h _ _ _ (hh.2 v hv)⟩
  · rename_i hw; simp only [hw] at hh; exact h _ _ _ hh

/-- Whatever order is picked among the first m. -/
def wpAnyP (P : Program) (md : Region.Mode) (ops : Array Oper) (C : Nat → World → Prop) (R : World → World → Prop) (eff : Nat → Bool) (m : Nat) (S : Nat → Leaves R) (Q : Nat → Array Bool → Facts → Act → Prop) : Nat → Array Bool → Nat → Facts → Act → Prop
  | 0, listed, σ, fs, a => (∀ j ∈ Region.ready md ops listed, m ≤ j) ∧ Q σ listed fs a
  | fuel + 1, listed, σ, fs, a => Region.ready md ops listed ≠ [] ∧
    ∀ i ∈ Region.ready md ops listed, ∃ o, ops[i]? = some o ∧ pOp P md ops C R (eff i) o i (S i) σ fs (fun σ fs a => wpAnyP P md ops C R eff m S Q fuel (listed.setIfInBounds i true) σ fs a) a

theorem wpAny_of_P {m r : Nat} {S : Nat → Leaves R} {Q : Nat → Array Bool → Facts → Act → Prop} {Q' : Exit → Act → World → Prop}
    (hQ : ∀ σ listed fs a w, C σ w → (∀ k, fs k w) → Q σ listed fs a → wpAny P md ops Q' r listed a w) :
    ∀ (fuel : Nat) (listed : Array Bool) (σ : Nat) (fs : Facts) (a : Act) (w : World), C σ w → (∀ k, fs k w) → (∀ k w w', R w w' → fs k w → fs k w') →
      wpAnyP P md ops C R eff m S Q fuel listed σ fs a → wpAny P md ops Q' (fuel + r) listed a w
  | 0, listed, σ, fs, a, w, hw, hf, _, h => by rw [Nat.zero_add]; exact hQ _ _ _ _ _ hw hf h.2
  | fuel + 1, listed, σ, fs, a, w, hw, hf, hl, h => by
    rw [Nat.succ_add]
    refine ⟨fun h0 => absurd h0 h.1, fun i hi => ?_⟩
    obtain ⟨o, ho, hp⟩ := h.2 i hi
    unfold wpOp
    simp only [ho]
    unfold pOp at hp
    split
    · rename_i hwant
      simp only [hwant, if_true] at hp
      refine .inl (wp_of_poised (C := fun w => C σ w ∧ Poised.seen md fs o w) ⟨hw, fun k _ => hf k⟩ (goes_now hp.1) fun v w' hr hd => ?_)
      refine wpAny_of_P hQ fuel _ _ _ _ w' hr.2 (fun k => ?_) (fun k w1 w2 h2 => ?_) (hp.2 v hd.1)
      · simp only [Facts.put]; split
        · exact hd.2
        · exact hl k _ _ hr.1 (hf k)
      · simp only [Facts.put]; split
        · exact (S i).lasts v w1 w2 h2
        · exact hl k w1 w2 h2
    · rename_i hwant
      simp only [hwant] at hp
      exact wpAny_of_P hQ fuel _ _ _ _ w hw hf hl hp

theorem goes_congr {b : Bool} {σ : Nat} {o : Oper} {a a' : Act} {S : World → Prop} {D : Value → World → Prop} (he : execOp a'.eval o = execOp a.eval o) (h : goes P C R b σ o a S D) : goes P C R b σ o a' S D := by
  unfold goes at *
  cases b
  · exact fun τ => poised_congr he (fun _ h => h) (h τ)
  · exact poised_congr he (fun _ h => h) h

/-- 'oj', apart from 'oi', neither waiting for the other: oi may come up first. -/
theorem pOp_swap {i j : Nat} {bi bj : Bool} {oi oj : Oper} {si sj : Leaves R} (hij : i ≠ j) (hb : ¬ (bi = true ∧ bj = true)) (hap : oi.apart ops oj = true) (hsi : ∀ cs b, oi.op ≠ .select cs b) (hsj : ∀ cs b, oj.op ≠ .select cs b)
    (hwi : waits md oi j = false) (hwj : waits md oj i = false) {σ : Nat} {fs : Facts} {a : Act} {K : Nat → Facts → Act → Prop}
    (h : pOp P md ops C R bi oi i si σ fs (fun σ fs a => pOp P md ops C R bj oj j sj σ fs K a) a) : pOp P md ops C R bj oj j sj σ fs (fun σ fs a => pOp P md ops C R bi oi i si σ fs K a) a := by
  have hb' : ¬ (bj = true ∧ bi = true) := fun h => hb ⟨h.2, h.1⟩
  obtain ⟨h1, h2, h3⟩ := Oper.apart_spec hap
  have ej : ∀ (a : Act) u, execOp (a.put oi.dst u).eval oj = execOp a.eval oj := fun a u => execOp_put oj hsj a oi.dst u h1
  have wj : ∀ (a : Act) u, Region.wanted oj (yielded ops (Act.put a oi.dst u).tmps) = Region.wanted oj (yielded ops a.tmps) := fun a u => wanted_put oj a oi.dst u h1
  have ei : ∀ (a : Act) u, execOp (a.put oj.dst u).eval oi = execOp a.eval oi := fun a u => execOp_put oi hsi a oj.dst u h3
  have wi : ∀ (a : Act) u, Region.wanted oi (yielded ops (Act.put a oj.dst u).tmps) = Region.wanted oi (yielded ops a.tmps) := fun a u => wanted_put oi a oj.dst u h3
  have cm : ∀ (a : Act) u v, (a.put oi.dst u).put oj.dst v = (a.put oj.dst v).put oi.dst u := fun a u v => (Act.put_comm a u v h2)
  unfold pOp at *
  by_cases hi : Region.wanted oi (yielded ops a.tmps) = true
  · simp only [hi, if_true] at h
    obtain ⟨hpi, hk⟩ := h
    have key : ∀ v, si.dom v → (if Region.wanted oj (yielded ops a.tmps) = true then
        goes P C R bj σ oj a (Poised.seen md fs oj) (fun v w' => sj.dom v ∧ sj.V v w') ∧ ∀ u, sj.dom u → K (nx bj (nx bi σ)) (Facts.put j (sj.V u) (Facts.put i (si.V v) fs)) ((a.put oi.dst v).put oj.dst u)
        else K (nx bi σ) (Facts.put i (si.V v) fs) ((a.put oi.dst v).put oj.dst undef)) := fun v hv => by
      have := hk v hv
      simp only [wj, Poised.seen_put hwj] at this
      split
      · rename_i hw; simp only [hw, if_true] at this
        exact ⟨(goes_at hb').1 (goes_congr (ej a v).symm this.1), this.2⟩
      · rename_i hw; simp only [hw] at this; exact this
    by_cases hj : Region.wanted oj (yielded ops a.tmps) = true
    · simp only [hj, if_true] at key ⊢
      refine ⟨(key si.one si.ok).1, fun u hu => ?_⟩
      simp only [wi, hi, if_true, Poised.seen_put hwi]
      refine ⟨(goes_at hb).2 (goes_congr (ei a u) hpi), fun v hv => ?_⟩
      rw [Facts.put_comm hij, ← cm, nx_comm]
      exact (key v hv).2 u hu
    · simp only [hj] at key ⊢
      simp only [Bool.false_eq_true, if_false] at key ⊢
      simp only [wi, hi, if_true]
      refine ⟨goes_congr (ei a undef) hpi, fun v hv => ?_⟩
      rw [← cm]
      exact key v hv
  · simp only [hi] at h
    simp only [Bool.false_eq_true, if_false, wj] at h
    by_cases hj : Region.wanted oj (yielded ops a.tmps) = true
    · simp only [hj, if_true] at h ⊢
      refine ⟨goes_congr (ej a undef).symm h.1, fun u hu => ?_⟩
      simp only [wi, hi, Bool.false_eq_true, if_false]
      rw [← cm]
      exact h.2 u hu
    · simp only [hj] at h ⊢
      simp only [Bool.false_eq_true, if_false, wi, hi] at h ⊢
      rw [← cm]
      exact h

theorem getD_setT {l : Array Bool} {j k : Nat} (h : l.getD k true = true) : (l.setIfInBounds j true).getD k true = true := by
  by_cases hk : k < l.size
  · by_cases e : j = k
    · subst e; simp [Array.getD_eq_getD_getElem?, hk]
    · rw [getD_set_ne true e]; exact h
  · simp [Array.getD_eq_getD_getElem?, Array.getElem?_eq_none (show (l.setIfInBounds j true).size ≤ k by simpa using hk)]
/-- Of two that turn memory the later one waits for the earlier one. -/
def effWaits (md : Region.Mode) (ops : Array Oper) (eff : Nat → Bool) : Prop := ∀ i j oj, i < j → eff i = true → eff j = true → ops[j]? = some oj → reaches md ops ops.size oj i = true

/-- An operation that may come up may come up first. -/
theorem wpAnyP_first {m : Nat} {S : Nat → Leaves R} {Q : Nat → Array Bool → Facts → Act → Prop} {i : Nat} {oi : Oper} (hi : ops[i]? = some oi) (hsel : ∀ (j : Nat) (o : Oper) cs b, ops[j]? = some o → o.op ≠ .select cs b)
    (htail : ∀ j oj, ops[j]? = some oj → m ≤ j → reaches md ops ops.size oj i = true) (heff : effWaits md ops eff) :
    ∀ (fuel : Nat) (listed : Array Bool) (σ : Nat) (fs : Facts) (a : Act), Closed md ops listed → (∀ j, j < i → listed.getD j true = true) →
      (∀ j oj, ops[j]? = some oj → j ≠ i → listed.getD j true = false → (∀ e ∈ oj.after, Region.binds md e = true → e.on ≠ i) → oi.apart ops oj = true) →
      i ∈ Region.ready md ops listed → pOp P md ops C R (eff i) oi i (S i) σ fs (fun σ fs a => wpAnyP P md ops C R eff m S Q fuel (listed.setIfInBounds i true) σ fs a) a → wpAnyP P md ops C R eff m S Q (fuel + 1) listed σ fs a := by
  have notOn : ∀ {j : Nat} {oj : Oper} {listed : Array Bool}, i ∈ Region.ready md ops listed → (∀ e ∈ oj.after, Region.binds md e = true → listed.getD e.on false = true) → ∀ e ∈ oj.after, Region.binds md e = true → e.on ≠ i := by
    intro j oj listed hr hall e he hb heq
    have h1 := hall e he hb
    have h0 := (mem_ready.1 hr).1
    rw [heq] at h1
    rcases Nat.lt_or_ge i listed.size with h' | h'
    · simp [h'] at h0 h1; rw [h0] at h1; cases h1
    · simp [Array.getElem?_eq_none h'] at h1
  have lateOf : ∀ {j : Nat} {oj : Oper} {listed : Array Bool}, Closed md ops listed → i ∈ Region.ready md ops listed → (∀ e ∈ oj.after, Region.binds md e = true → listed.getD e.on false = true) → reaches md ops ops.size oj i = true → False := by
    intro j oj listed hcl hr hall hre
    have h1 := hcl.reaches _ oj hre hall
    have h0 := (mem_ready.1 hr).1
    rcases Nat.lt_or_ge i listed.size with h' | h'
    · simp [h'] at h0 h1; rw [h0] at h1; cases h1
    · simp [Array.getElem?_eq_none h'] at h1
  intro fuel
  induction fuel with
  | zero =>
    intro listed σ fs a hcl _ _ hr H
    refine ⟨fun h => (by rw [h] at hr; cases hr), fun j hj => ?_⟩
    by_cases hji : j = i
    · subst hji; exact ⟨oi, hi, H⟩
    · exfalso
      obtain ⟨_, oj, hoj, hall⟩ := mem_ready.1 hj
      have hlt : ¬ m ≤ j := fun hm => lateOf (j := j) hcl hr hall (htail j oj hoj hm)
      have hj' := ready_mono hj hji
      have : ∃ σ fs a, wpAnyP P md ops C R eff m S Q 0 (listed.setIfInBounds i true) σ fs a := by
        unfold pOp at H
        split at H
        · exact ⟨_, _, _, H.2 _ (S i).ok⟩
        · exact ⟨_, _, _, H⟩
      obtain ⟨_, _, _, h0⟩ := this
      exact hlt (h0.1 j hj')
  | succ fuel ih =>
    intro listed σ fs a hcl hlow hfree hr H
    refine ⟨fun h => (by rw [h] at hr; cases hr), fun j hj => ?_⟩
    by_cases hji : j = i
    · subst hji; exact ⟨oi, hi, H⟩
    · obtain ⟨hjun, oj, hoj, hall⟩ := mem_ready.1 hj
      have hnot := notOn (j := j) hr hall
      obtain ⟨hiun, oi', hoi', halli⟩ := mem_ready.1 hr
      obtain rfl : oi' = oi := by rw [hi] at hoi'; exact (Option.some.inj hoi').symm
      have hnoti : ∀ e ∈ oi'.after, Region.binds md e = true → e.on ≠ j := fun e he hb heq => by
        have h1 := halli e he hb
        rw [heq] at h1
        rcases Nat.lt_or_ge j listed.size with h' | h'
        · simp [h'] at hjun h1; rw [hjun] at h1; cases h1
        · simp [Array.getElem?_eq_none h'] at h1
      have hgt : i < j := by
        rcases Nat.lt_trichotomy i j with h | h | h
        · exact h
        · exact absurd h.symm hji
        · have h1 := hlow j h
          rw [h1] at hjun
          cases hjun
      have hbb : ¬ (eff i = true ∧ eff j = true) := fun h => lateOf (j := j) hcl hr hall (heff i j oj hgt h.1 h.2 hoj)
      refine ⟨oj, hoj, ?_⟩
      have h1 : pOp P md ops C R (eff i) oi' i (S i) σ fs (fun σ fs a => pOp P md ops C R (eff j) oj j (S j) σ fs (fun σ fs a => wpAnyP P md ops C R eff m S Q fuel ((listed.setIfInBounds i true).setIfInBounds j true) σ fs a) a) a := by
        refine pOp_mono (fun σ' fs' a' h => ?_) H
        obtain ⟨o', ho', h2⟩ := h.2 j (ready_mono hj hji)
        obtain rfl : o' = oj := by rw [hoj] at ho'; exact (Option.some.inj ho').symm
        exact h2
      have h2 := pOp_swap (Ne.symm hji) hbb (hfree j oj hoj hji hjun hnot) (fun cs b => hsel i oi' cs b hi) (fun cs b => hsel j oj cs b hoj) (waits_false hnoti) (waits_false hnot) h1
      have hfree' : ∀ k ok, ops[k]? = some ok → k ≠ i → (listed.setIfInBounds j true).getD k true = false →
          (∀ e ∈ ok.after, Region.binds md e = true → e.on ≠ i) → oi'.apart ops ok = true := fun k ok hk hki hun hno => by
        refine hfree k ok hk hki ?_ hno
        by_cases hjk : j = k
        · subst hjk; exact hjun
        · rw [getD_set_ne true hjk] at hun; exact hun
      have hlow' : ∀ k, k < i → (listed.setIfInBounds j true).getD k true = true := fun k hk => getD_setT (hlow k hk)
      refine pOp_mono (fun σ' fs' a' h3 => ih (listed.setIfInBounds j true) σ' fs' a' (hcl.set hj) hlow' hfree' (ready_mono hr (Ne.symm hji)) ?_) h2
      rw [Array.setIfInBounds_comm _ _ hji]
      exact h3

/-- THE WALK OF THE TEXT'S ORDER: the operations, what each leaves, the number of the next, the stage. -/
def walk (P : Program) (md : Region.Mode) (ops : Array Oper) (C : Nat → World → Prop) (R : World → World → Prop) (eff : Nat → Bool) (Q : Nat → Facts → Act → Prop) : List Oper → List (Leaves R) → Nat → Nat → Facts → Act → Prop
  | o :: l, s :: L, k, σ, fs, a => pOp P md ops C R (eff k) o k s σ fs (fun σ' fs' a' => walk P md ops C R eff Q l L (k + 1) σ' fs' a') a
  | [], _, _, σ, fs, a => Q σ fs a
  | _ :: _, [], _, _, _, _ => False

/-- Of those that turn memory each waits for all ahead of it. -/
def effLex (md : Region.Mode) (ops : Array Oper) (es : List Nat) : Bool := es.all fun j => es.all fun i => !decide (i < j) || (match ops[j]? with | some oj => reaches md ops ops.size oj i | none => true)
theorem effLex_spec {es : List Nat} (h : effLex md ops es = true) : effWaits md ops (fun i => es.contains i) := by
  intro i j oj hij hi hj ho
  have hi' : i ∈ es := by simpa using hi
  have hj' : j ∈ es := by simpa using hj
  have := List.all_eq_true.1 (List.all_eq_true.1 h j hj') i hi'
  rw [ho] at this
  simpa [hij] using this

theorem wpAnyP_lex {m : Nat} {Q : Nat → Facts → Act → Prop} {L0 : List (Leaves R)} {dflt : Leaves R} {listed0 : Array Bool} (hs : Region.noSelect ops = true) (ht : tailWaits md ops m = true) (heff : effWaits md ops eff) :
    ∀ (n : Nat) (l : List Oper) (L : List (Leaves R)) (k : Nat) (listed : Array Bool) (σ : Nat) (fs : Facts) (a : Act), l.length = n → k + n = m → (∀ j, j < n → l[j]? = ops[k + j]?) → (∀ j, L[j]? = L0[k + j]?) →
      Closed md ops listed → (∀ j, j < k → listed.getD j true = true) → lexTo md ops m n k listed = true → listedTo n k listed = listed0 → walk P md ops C R eff Q l L k σ fs a → wpAnyP P md ops C R eff m (fun k => L0[k]?.getD dflt) (fun σ ls fs a => ls = listed0 ∧ Q σ fs a) n listed σ fs a := by
  intro n
  induction n with
  | zero =>
    intro l L k listed σ fs a hn _ _ _ _ _ hB hl h
    obtain rfl : l = [] := List.length_eq_zero_iff.1 hn
    refine ⟨fun j hj => ?_, hl, ?_⟩
    · simp only [lexTo, List.all_eq_true, decide_eq_true_eq] at hB
      exact hB j hj
    · cases L <;> exact h
  | succ n ih =>
    intro l L k listed σ fs a hn hk hl hL hcl hlow hB hd h
    obtain ⟨o, l, rfl⟩ : ∃ o l', l = o :: l' := by
      cases l with
      | nil => cases hn
      | cons o l => exact ⟨o, l, rfl⟩
    obtain ⟨s, L, rfl⟩ : ∃ s L', L = s :: L' := by
      cases L with
      | nil => exact h.elim
      | cons s L => exact ⟨s, L, rfl⟩
    have h0 : ops[k]? = some o := by simpa using (hl 0 (by omega)).symm
    have hs0 : L0[k]? = some s := by simpa using (hL 0).symm
    simp only [lexTo, Bool.and_eq_true] at hB
    obtain ⟨⟨hr, hf⟩, hB'⟩ := hB
    refine wpAnyP_first h0 (Region.noSelect_spec hs) (fun j oj hj hm => tailWaits_spec ht j oj hj hm k (by omega)) heff n listed σ fs a hcl hlow (Region.free_spec h0 hf) (by simpa using hr) ?_
    simp only [hs0, Option.getD_some]
    refine pOp_mono (fun σ' fs' a' h' => ?_) h
    refine ih l L (k + 1) _ σ' fs' a' (by simpa using hn) (by omega) (fun j hj => by have := hl (j + 1) (by omega); simpa [Nat.add_assoc, Nat.add_comm 1 j] using this)
      (fun j => by have := hL (j + 1); simpa [Nat.add_assoc, Nat.add_comm 1 j] using this) (hcl.set (by simpa using hr)) (fun j hj => ?_) hB' hd h'
    by_cases e : j = k
    · subst e
      by_cases hz : j < listed.size
      · simp [Array.getD_eq_getD_getElem?, hz]
      · simp [Array.getD_eq_getD_getElem?, Array.getElem?_eq_none (show (listed.setIfInBounds j true).size ≤ j by simpa using hz)]
    · exact getD_setT (hlow j (by omega))

/-- **THE RULE, WITH A TAIL.** -/
theorem staged_tail {id : Nat} {l : List Oper} {Q : Exit → Act → World → Prop} {a : Act} {w : World} (m : Nat) (es : List Nat) (C : Nat → World → Prop) (R : World → World → Prop) (L : List (Leaves R)) (hm : P.follows .mixedOrders = true) (hB : lexOk .any l.toArray m = true) (hE : effLex .any l.toArray es = true)
    (hC : C 0 w.drew)
    (h : walk P .any l.toArray C R (fun i => es.contains i) (fun σ fs a' => ∀ w', C σ w' → (∀ k, fs k w') → wpAny P .any l.toArray Q (l.length - m) (listedTo m 0 (Array.replicate l.length false)) a' w') (l.take m) L 0 0 Facts.none a) : (Code.region id l.toArray true).wp P Q a w := by
  simp only [lexOk, Bool.and_eq_true, decide_eq_true_eq] at hB
  obtain ⟨⟨⟨hs, ht⟩, hle⟩, hx⟩ := hB
  have hle' : m ≤ l.length := by simpa using hle
  refine wp_region_any hm ?_
  have key := wpAnyP_lex (P := P) (md := .any) (ops := l.toArray) (m := m) (L0 := L) (dflt := Leaves.det undef) (listed0 := listedTo m 0 (Array.replicate l.length false)) hs ht (effLex_spec hE) m (l.take m) L 0 (Array.replicate l.length false) 0 Facts.none a
    (by simp [hle']) (by omega) (fun j hj => by simp [hj]) (fun j => by simp) (closed_none _ _ _) (fun j hj => by omega) (by simpa using hx) rfl h
  have := wpAny_of_P (m := m) (r := l.length - m) (Q' := Q) (fun σ listed fs a w hw hf hq => by rw [hq.1]; exact hq.2 w hw hf) m (Array.replicate l.length false) 0 Facts.none a w.drew hC (fun _ => trivial) (fun _ _ _ _ _ => trivial) key
  have hsz : l.toArray.size = m + (l.length - m) := by simp; omega
  rw [hsz]
  have hrep : Array.replicate (m + (l.length - m)) false = Array.replicate l.length false := by rw [Nat.add_sub_cancel' hle']
  rw [hrep]
  exact this
/-- **The first m operations by one walk, what is left one after the other.** -/
theorem staged_then {id : Nat} {l : List Oper} {Q : Exit → Act → World → Prop} {a : Act} {w : World} (m : Nat) (es : List Nat) (C : Nat → World → Prop) (R : World → World → Prop) (hm : P.follows .mixedOrders = true) (hB : lexOk .any l.toArray m = true) (hE : effLex .any l.toArray es = true)
    (hT : seqTail .any l.toArray (l.length - m) m (listedTo m 0 (Array.replicate l.length false)) = true) (hC : C 0 w.drew)
    (h : ∃ L, walk P .any l.toArray C R (fun i => es.contains i) (fun σ fs a' => ∀ w', C σ w' → (∀ k, fs k w') → wpList P l.toArray Q (l.drop m) a' w') (l.take m) L 0 0 Facts.none a) : (Code.region id l.toArray true).wp P Q a w := by
  obtain ⟨L, h⟩ := h
  refine staged_tail m es C R L hm hB hE hC ?_
  have mono : ∀ (l' : List Oper) (L' : List (Leaves R)) (k σ : Nat) (fs : Facts) (a : Act), walk P .any l.toArray C R (fun i => es.contains i) (fun σ fs a' => ∀ w', C σ w' → (∀ k, fs k w') → wpList P l.toArray Q (l.drop m) a' w') l' L' k σ fs a →
      walk P .any l.toArray C R (fun i => es.contains i) (fun σ fs a' => ∀ w', C σ w' → (∀ k, fs k w') → wpAny P .any l.toArray Q (l.length - m) (listedTo m 0 (Array.replicate l.length false)) a' w') l' L' k σ fs a := by
    intro l'
    induction l' with
    | nil => intro L' k σ fs a hh w' hw hf; exact wpAny_seq _ (l.drop m) m _ a w' (by simp) (fun j _ => by simp) hT (hh w' hw hf)
    | cons o l' ih =>
      intro L' k σ fs a hh
      cases L' with
      | nil => exact hh
      | cons s L' => exact pOp_mono (fun σ fs a h => ih L' _ σ fs a h) hh
  exact mono _ L 0 0 Facts.none a h

/-! ### The steps -/
variable {Q : Nat → Facts → Act → Prop} {o : Oper} {rest : List Oper} {L : List (Leaves R)} {k σ : Nat} {fs : Facts} {a : Act}
theorem walk_nil (h : Q σ fs a) : walk P md ops C R eff Q [] [] k σ fs a := h
theorem walk_skip (hw : Region.wanted o (yielded ops a.tmps) = false) (h : walk P md ops C R eff Q rest L (k + 1) σ fs (a.put o.dst undef)) : walk P md ops C R eff Q (o :: rest) (Leaves.det undef :: L) k σ fs a := by
  unfold walk pOp; simp only [hw, Bool.false_eq_true, if_false]; exact h
theorem det_eq (u : Value) : (fun (v : Value) (w' : World) => (Leaves.det (R := R) u).dom v ∧ (Leaves.det (R := R) u).V v w') = fun v _ => v = u := by
  funext v w'; simp [Leaves.det]
/-- An operation that turns nothing that was there. -/
theorem walk_det (u : Value) (hCB : ∀ τ w w', C τ w → Below w.heap.size w w' → R w w' ∧ C τ w') (he : eff k = false) (hw : Region.wanted o (yielded ops a.tmps) = true) (hp : ∀ τ w, C τ w → Poised.seen md fs o w → upon P (fun w w' => Below w.heap.size w w') w (fun v _ => v = u) ((execOp a.eval o).run P w)) (h : walk P md ops C R eff Q rest L (k + 1) σ (Facts.put k (fun _ => True) fs) (a.put o.dst u)) :
    walk P md ops C R eff Q (o :: rest) (Leaves.det u :: L) k σ fs a := by
  unfold walk pOp; simp only [hw, if_true, he]
  refine ⟨fun τ w hh => ?_, fun v hv => ?_⟩
  · have := hp τ w hh.1 hh.2
    rw [det_eq]
    generalize (execOp a.eval o).run P w = r at *
    cases r with
    | ok n w' =>
      cases n <;> simp only [upon] at this ⊢
      case value u' => exact ⟨hCB τ w w' hh.1 this.1, this.2⟩
      case skip => exact ⟨hCB τ w w' hh.1 this.1, this.2⟩
      case enter f args => exact this.mono fun e w'' ⟨v, h1, h2, h3⟩ => ⟨v, h1, hCB τ w w'' hh.1 h2, h3⟩
    | halt x w' => simp only [upon] at this
  · obtain rfl : v = u := hv
    exact h
/-- One that turns memory: the next stage. -/
theorem walk_turn (u : Value) (he : eff k = true) (hw : Region.wanted o (yielded ops a.tmps) = true) (hp : ∀ w, C σ w → Poised.seen md fs o w → upon P (fun w w' => R w w' ∧ C (σ + 1) w') w (fun v _ => v = u) ((execOp a.eval o).run P w)) (h : walk P md ops C R eff Q rest L (k + 1) (σ + 1) (Facts.put k (fun _ => True) fs) (a.put o.dst u)) :
    walk P md ops C R eff Q (o :: rest) (Leaves.det u :: L) k σ fs a := by
  unfold walk pOp; simp only [hw, if_true, he]
  refine ⟨fun w hh => ?_, fun v hv => ?_⟩
  · have := hp w hh.1 hh.2
    rw [det_eq]
    exact this
  · obtain rfl : v = u := hv
    exact h
/-- One of whose value only a lasting fact is known. -/
theorem walk_free (V : Value → World → Prop) (hl : ∀ v w w', R w w' → V v w → V v w') (hCB : ∀ τ w w', C τ w → Below w.heap.size w w' → R w w' ∧ C τ w') (he : eff k = false) (hw : Region.wanted o (yielded ops a.tmps) = true) (hp : ∀ τ w, C τ w → Poised.seen md fs o w → upon P (fun w w' => Below w.heap.size w w') w V ((execOp a.eval o).run P w))
    (h : ∀ v, walk P md ops C R eff Q rest L (k + 1) σ (Facts.put k (V v) fs) (a.put o.dst v)) :
    walk P md ops C R eff Q (o :: rest) (Leaves.free V hl :: L) k σ fs a := by
  unfold walk pOp; simp only [hw, if_true, he]
  refine ⟨fun τ w hh => ?_, fun v _ => h v⟩
  have := hp τ w hh.1 hh.2
  have e : (fun (v : Value) (w' : World) => (Leaves.free (R := R) V hl).dom v ∧ (Leaves.free (R := R) V hl).V v w') = V := by
    funext v w'; simp [Leaves.free]
  rw [e]
  generalize (execOp a.eval o).run P w = r at *
  cases r with
  | ok n w' =>
    cases n <;> simp only [upon] at this ⊢
    case value u' => exact ⟨hCB τ w w' hh.1 this.1, this.2⟩
    case skip => exact ⟨hCB τ w w' hh.1 this.1, this.2⟩
    case enter f args => exact this.mono fun e w'' ⟨v, h1, h2, h3⟩ => ⟨v, h1, hCB τ w w'' hh.1 h2, h3⟩
  | halt x w' => simp only [upon] at this
end
end Go.Staged
