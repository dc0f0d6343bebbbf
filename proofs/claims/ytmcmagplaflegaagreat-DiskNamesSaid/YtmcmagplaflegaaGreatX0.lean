/-
  A REGION THAT DRAWS ITS ORDER, WALKED ONCE IN THE ORDER OF THE TEXT, WHERE OPERATIONS MAY ALSO MAKE MEMORY: each operation leaves either one known value, or some value of which a lasting fact of the world is known (a fresh block, say). Conditions: those of each theorem.
  MAPS AS LISTS OF PAIRS, in the order of their making: look up, store, strike out, range over. Conditions: those of each theorem.
  THE OPERATIONS ON MAPS, FOR THE WALK, over 'MapAt' and 'RangeAt'. Conditions: those of each theorem.
  THE DISK IN MEMORY: what its blocks hold, which blocks are its own, and what is left alone. Conditions: those of each theorem.
  THE DISK's SMALL FUNCTIONS: what each does. Conditions: those of each theorem.
  THE DISK's SMALL FUNCTIONS, MORE: copies, numbers to keep by, works on names. Conditions: those of each theorem.
  WHERE AN APPENDED SLICE LIES: in the old block, or in a new one. Conditions: those of each theorem.
  SLICES OF BYTES: read, appended, copied. Conditions: those of each theorem.
  A ROW OF NUMBERS, COPIED. Conditions: those of each theorem.
  WORKS ON NAMES, and the room that is used. Conditions: those of each theorem.
-/
import Derived.Still
import Derived.Below
import Derived.Tactics
import Derived.LaidEql
import Derived.Maps.RangeRun
import Derived.Maps.Range
import Derived.Maps.OwnIn
import Derived.Maps.OwnOps
import Derived.Test.YtmcmagplaflegaaGreatProg
import Derived.Handy
import Derived.ProofKit
import Derived.IntWalk
import Derived.Laws.AppendOwn
import Derived.WalkSpells
import Derived.Shelf.SlMaps.Clone
import Derived.ArgAppend
import Derived.OwnWalk
import Derived.Maps.AppendAt
import Derived.Lib.SliceRun

namespace Go.Poised
open Go

/-- What is known of the operations that have come up: by number, a fact of the world. -/
abbrev Facts := Nat → World → Prop
def Facts.none : Facts := fun _ _ => True
def Facts.put (i : Nat) (F : World → Prop) (fs : Facts) : Facts := fun k => if k = i then F else fs k

theorem Facts.put_comm {i j : Nat} (h : i ≠ j) (F G : World → Prop) (fs : Facts) : Facts.put i F (Facts.put j G fs) = Facts.put j G (Facts.put i F fs) := by
  funext k
  simp only [Facts.put]
  by_cases h1 : k = i
  · subst h1; simp [h]
  · by_cases h2 : k = j
    · have : ¬ j = i := fun e => h e.symm
      simp [h2, this]
    · simp [h1, h2]

/-- What an operation leaves: a value that meets 'dom', and of it, in the world, 'V', which lasts. -/
structure Leaves (C : World → Prop) (R : World → World → Prop) where
  dom : Value → Prop
  V : Value → World → Prop
  one : Value
  ok : dom one
  lasts : ∀ v w w', C w → R w w' → V v w → V v w'

def Leaves.det {C : World → Prop} {R : World → World → Prop} (u : Value) : Leaves C R := ⟨fun v => v = u, fun _ _ => True, u, rfl, fun _ _ _ _ _ _ => trivial⟩
def Leaves.free {C : World → Prop} {R : World → World → Prop} (V : Value → World → Prop) (h : ∀ v w w', C w → R w w' → V v w → V v w') : Leaves C R := ⟨fun _ => True, V, undef, trivial, h⟩

section
variable {P : Program} {ops : Array Oper} {md : Region.Mode} {C : World → Prop} {R : World → World → Prop}

/-- Does an operation wait for number k? -/
def waits (md : Region.Mode) (o : Oper) (k : Nat) : Bool := o.after.any fun e => Region.binds md e && e.on == k

/-- The facts that an operation may lean on. -/
def seen (md : Region.Mode) (fs : Facts) (o : Oper) (w : World) : Prop := ∀ k, waits md o k = true → fs k w

theorem seen_put {fs : Facts} {o : Oper} {i : Nat} {F : World → Prop} (h : waits md o i = false) : seen md (Facts.put i F fs) o = seen md fs o := by
  funext w
  simp only [seen, Facts.put]
  apply propext
  constructor
  · intro hh k hk
    have hki : k ≠ i := fun e => by subst e; rw [h] at hk; cases hk
    simpa [hki] using hh k hk
  · intro hh k hk
    have hki : k ≠ i := fun e => by subst e; rw [h] at hk; cases hk
    simpa [hki] using hh k hk

def upon (P : Program) (R : World → World → Prop) (w : World) (D : Value → World → Prop) : Result Next → Prop
  | .ok (.value u) w' => R w w' ∧ D u w'
  | .ok .skip w' => R w w' ∧ D undef w'
  | .ok (.enter f args) w' => Calls P f args w' fun e w'' => ∃ v, e = .returned v ∧ R w w'' ∧ D v w''
  | _ => False

/-- In state a, in every world of the class C: the operation goes through, the world moves by R, and what it leaves meets D. -/
def poised (P : Program) (R : World → World → Prop) (o : Oper) (a : Act) (C : World → Prop) (D : Value → World → Prop) : Prop := ∀ w, C w → upon P R w D ((execOp a.eval o).run P w)

def pOp (P : Program) (md : Region.Mode) (ops : Array Oper) (C : World → Prop) (R : World → World → Prop) (o : Oper) (i : Nat) (s : Leaves C R) (fs : Facts) (K : Facts → Act → Prop) (a : Act) : Prop :=
  if Region.wanted o (yielded ops a.tmps) then
    poised P R o a (fun w => C w ∧ seen md fs o w) (fun v w' => s.dom v ∧ s.V v w') ∧ ∀ v, s.dom v → K (Facts.put i (s.V v) fs) (a.put o.dst v)
  else K fs (a.put o.dst undef)

theorem pOp_mono {o : Oper} {i : Nat} {s : Leaves C R} {fs : Facts} {K K' : Facts → Act → Prop} {a : Act} (h : ∀ fs a, K fs a → K' fs a) (hh : pOp P md ops C R o i s fs K a) : pOp P md ops C R o i s fs K' a := by
  unfold pOp at *
  split
  · rename_i hw; simp only [hw, if_true] at hh; exact ⟨hh.1, fun v hv => h _ _ (hh.2 v hv)⟩
  · rename_i hw; simp only [hw] at hh; exact h _ _ hh

/-- Whatever order is picked among the first m. -/
def wpAnyP (P : Program) (md : Region.Mode) (ops : Array Oper) (C : World → Prop) (R : World → World → Prop) (m : Nat) (S : Nat → Leaves C R) (Q : Array Bool → Facts → Act → Prop) : Nat → Array Bool → Facts → Act → Prop
  | 0, listed, fs, a => (∀ j ∈ Region.ready md ops listed, m ≤ j) ∧ Q listed fs a
  | fuel + 1, listed, fs, a => Region.ready md ops listed ≠ [] ∧
    ∀ i ∈ Region.ready md ops listed, ∃ o, ops[i]? = some o ∧ pOp P md ops C R o i (S i) fs (wpAnyP P md ops C R m S Q fuel (listed.setIfInBounds i true)) a

theorem wp_of_poised {o : Oper} {a : Act} {D : Value → World → Prop} {K : Act → World → Prop} {Q : Exit → Act → World → Prop} {w : World} (hC : C w)
    (h : poised P R o a C D) (hk : ∀ v w', R w w' → D v w' → K (a.put o.dst v) w') : o.wp P a w K Q := by
  have h3 := h w hC
  unfold Oper.wp
  generalize (execOp a.eval o).run P w = r at *
  cases r with
  | ok n w' =>
    cases n <;> simp only [upon] at h3 <;> simp only [Oper.upon]
    case value u => exact hk _ _ h3.1 h3.2
    case skip => exact hk _ _ h3.1 h3.2
    case enter f args => exact h3.mono fun e w'' ⟨v, he, hr, hd⟩ => by subst he; exact hk _ _ hr hd
  | halt x w' => simp only [upon] at h3

theorem wpAny_of_P {m r : Nat} {S : Nat → Leaves C R} {Q : Array Bool → Facts → Act → Prop} {Q' : Exit → Act → World → Prop} (hCR : ∀ w w', C w → R w w' → C w')
    (hQ : ∀ listed fs a w, C w → (∀ k, fs k w) → Q listed fs a → wpAny P md ops Q' r listed a w) :
    ∀ (fuel : Nat) (listed : Array Bool) (fs : Facts) (a : Act) (w : World), C w → (∀ k, fs k w) → (∀ k w w', C w → R w w' → fs k w → fs k w') →
      wpAnyP P md ops C R m S Q fuel listed fs a → wpAny P md ops Q' (fuel + r) listed a w
  | 0, listed, fs, a, w, hw, hf, _, h => by rw [Nat.zero_add]; exact hQ _ _ _ _ hw hf h.2
  | fuel + 1, listed, fs, a, w, hw, hf, hl, h => by
    rw [Nat.succ_add]
    refine ⟨fun h0 => absurd h0 h.1, fun i hi => ?_⟩
    obtain ⟨o, ho, hp⟩ := h.2 i hi
    unfold wpOp
    simp only [ho]
    unfold pOp at hp
    split
    · rename_i hwant
      simp only [hwant, if_true] at hp
      refine .inl (wp_of_poised (C := fun w => C w ∧ seen md fs o w) ⟨hw, fun k _ => hf k⟩ hp.1 fun v w' hr hd => ?_)
      refine wpAny_of_P hCR hQ fuel _ _ _ w' (hCR _ _ hw hr) (fun k => ?_) (fun k w1 w2 h1 h2 => ?_) (hp.2 v hd.1)
      · simp only [Facts.put]; split
        · exact hd.2
        · exact hl k _ _ hw hr (hf k)
      · simp only [Facts.put]; split
        · exact (S i).lasts v w1 w2 h1 h2
        · exact hl k w1 w2 h1 h2
    · rename_i hwant
      simp only [hwant] at hp
      exact wpAny_of_P hCR hQ fuel _ _ _ w hw hf hl hp

theorem poised_congr {o : Oper} {a a' : Act} {C C' : World → Prop} {D : Value → World → Prop} (he : execOp a'.eval o = execOp a.eval o) (hC : ∀ w, C' w → C w) (h : poised P R o a C D) : poised P R o a' C' D := by
  unfold poised at *
  rw [he]
  exact fun w hw => h w (hC w hw)

theorem waits_false {o : Oper} {k : Nat} (h : ∀ e ∈ o.after, Region.binds md e = true → e.on ≠ k) : waits md o k = false := by
  rw [Bool.eq_false_iff]
  intro hh
  obtain ⟨e, he, hb⟩ := Array.any_eq_true'.1 hh
  simp only [Bool.and_eq_true, beq_iff_eq] at hb
  exact h e he hb.1 hb.2

/-- 'oj', apart from 'oi', neither waiting for the other: oi may come up first. -/
theorem pOp_swap {i j : Nat} {oi oj : Oper} {si sj : Leaves C R} (hij : i ≠ j) (hap : oi.apart ops oj = true) (hsi : ∀ cs b, oi.op ≠ .select cs b) (hsj : ∀ cs b, oj.op ≠ .select cs b)
    (hwi : waits md oi j = false) (hwj : waits md oj i = false) {fs : Facts} {a : Act} {K : Facts → Act → Prop}
    (h : pOp P md ops C R oi i si fs (pOp P md ops C R oj j sj · K) a) : pOp P md ops C R oj j sj fs (pOp P md ops C R oi i si · K) a := by
  obtain ⟨h1, h2, h3⟩ := Oper.apart_spec hap
  have ej : ∀ (a : Act) u, execOp (a.put oi.dst u).eval oj = execOp a.eval oj := fun a u => execOp_put oj hsj a oi.dst u h1
  have wj : ∀ (a : Act) u, Region.wanted oj (yielded ops (Act.put a oi.dst u).tmps) = Region.wanted oj (yielded ops a.tmps) := fun a u => wanted_put oj a oi.dst u h1
  have ei : ∀ (a : Act) u, execOp (a.put oj.dst u).eval oi = execOp a.eval oi := fun a u => execOp_put oi hsi a oj.dst u h3
  have wi : ∀ (a : Act) u, Region.wanted oi (yielded ops (Act.put a oj.dst u).tmps) = Region.wanted oi (yielded ops a.tmps) := fun a u => wanted_put oi a oj.dst u h3
  have cm : ∀ (a : Act) u v, (a.put oi.dst u).put oj.dst v = (a.put oj.dst v).put oi.dst u := fun a u v => (Act.put_comm a u v h2)
  unfold pOp at *
  by_cases hi : Region.wanted oi (yielded ops a.tmps) = true
  · simp only [hi, if_true] at h
    obtain ⟨hpi, hk⟩ := h
    have key : ∀ v, si.dom v → (if Region.wanted oj (yielded ops a.tmps) = true then
        poised P R oj a (fun w => C w ∧ seen md fs oj w) (fun v w' => sj.dom v ∧ sj.V v w') ∧ ∀ u, sj.dom u → K (Facts.put j (sj.V u) (Facts.put i (si.V v) fs)) ((a.put oi.dst v).put oj.dst u)
        else K (Facts.put i (si.V v) fs) ((a.put oi.dst v).put oj.dst undef)) := fun v hv => by
      have := hk v hv
      simp only [wj, seen_put hwj] at this
      split
      · rename_i hw; simp only [hw, if_true] at this
        exact ⟨poised_congr (ej a v).symm (fun _ h => h) this.1, this.2⟩
      · rename_i hw; simp only [hw] at this; exact this
    by_cases hj : Region.wanted oj (yielded ops a.tmps) = true
    · simp only [hj, if_true] at key ⊢
      refine ⟨(key si.one si.ok).1, fun u hu => ?_⟩
      simp only [wi, hi, if_true, seen_put hwi]
      refine ⟨poised_congr (ei a u) (fun _ h => h) hpi, fun v hv => ?_⟩
      rw [Facts.put_comm hij, ← cm]
      exact (key v hv).2 u hu
    · simp only [hj] at key ⊢
      simp only [Bool.false_eq_true, if_false] at key ⊢
      simp only [wi, hi, if_true]
      refine ⟨poised_congr (ei a undef) (fun _ h => h) hpi, fun v hv => ?_⟩
      rw [← cm]
      exact key v hv
  · simp only [hi] at h
    simp only [Bool.false_eq_true, if_false, wj] at h
    by_cases hj : Region.wanted oj (yielded ops a.tmps) = true
    · simp only [hj, if_true] at h ⊢
      refine ⟨poised_congr (ej a undef).symm (fun _ h => h) h.1, fun u hu => ?_⟩
      simp only [wi, hi, Bool.false_eq_true, if_false]
      rw [← cm]
      exact h.2 u hu
    · simp only [hj] at h ⊢
      simp only [Bool.false_eq_true, if_false, wi, hi] at h ⊢
      rw [← cm]
      exact h

/-- Whatever has come up has come up behind all that it waits for. -/
def Closed (md : Region.Mode) (ops : Array Oper) (listed : Array Bool) : Prop := ∀ k ok, ops[k]? = some ok → listed.getD k false = true → ∀ e ∈ ok.after, Region.binds md e = true → listed.getD e.on false = true
/-- Does an operation wait for number i, in at most n + 1 steps? -/
def reaches (md : Region.Mode) (ops : Array Oper) : Nat → Oper → Nat → Bool
  | 0, o, i => waits md o i
  | n + 1, o, i => waits md o i || o.after.any fun e => Region.binds md e && match ops[e.on]? with | some o' => reaches md ops n o' i | none => false
theorem listed_of_waits {md : Region.Mode} {o : Oper} {i : Nat} {listed : Array Bool} (h : waits md o i = true) (hall : ∀ e ∈ o.after, Region.binds md e = true → listed.getD e.on false = true) : listed.getD i false = true := by
  unfold waits at h
  obtain ⟨e, he, hb⟩ := Array.any_eq_true'.1 h
  simp only [Bool.and_eq_true, beq_iff_eq] at hb
  rw [← hb.2]
  exact hall e he hb.1
theorem Closed.reaches {md : Region.Mode} {ops : Array Oper} {listed : Array Bool} (hc : Closed md ops listed) {i : Nat} : ∀ (n : Nat) (o : Oper), reaches md ops n o i = true → (∀ e ∈ o.after, Region.binds md e = true → listed.getD e.on false = true) → listed.getD i false = true
  | 0, o, h, hall => listed_of_waits h hall
  | n + 1, o, h, hall => by
    unfold Go.Poised.reaches at h
    rw [Bool.or_eq_true] at h
    rcases h with h | h
    · exact listed_of_waits h hall
    · obtain ⟨e, he, hb⟩ := Array.any_eq_true'.1 h
      rw [Bool.and_eq_true] at hb
      obtain ⟨hb, hm⟩ := hb
      split at hm
      · rename_i o' ho'
        exact hc.reaches n o' hm (hc e.on o' ho' (hall e he hb))
      · cases hm
theorem Closed.set {md : Region.Mode} {ops : Array Oper} {listed : Array Bool} (hc : Closed md ops listed) {j : Nat} (hj : j ∈ Region.ready md ops listed) : Closed md ops (listed.setIfInBounds j true) := by
  intro k ok hk hl e he hb
  by_cases hkj : j = k
  · subst hkj
    obtain ⟨_, o, ho, hall⟩ := mem_ready.1 hj
    obtain rfl : o = ok := by rw [ho] at hk; exact Option.some.inj hk
    exact getD_set_true (hall e he hb)
  · rw [getD_set_ne false hkj] at hl
    exact getD_set_true (hc k ok hk hl e he hb)
theorem closed_none (md : Region.Mode) (ops : Array Oper) (n : Nat) : Closed md ops (Array.replicate n false) := by
  intro k ok _ hl
  exfalso
  rcases Nat.lt_or_ge k n with h | h
  · simp [Array.getD_eq_getD_getElem?, h] at hl
  · simp [Array.getD_eq_getD_getElem?, h] at hl

/-- An operation that may come up may come up first. -/
theorem wpAnyP_first {m : Nat} {S : Nat → Leaves C R} {Q : Array Bool → Facts → Act → Prop} {i : Nat} {oi : Oper} (hi : ops[i]? = some oi) (hsel : ∀ (j : Nat) (o : Oper) cs b, ops[j]? = some o → o.op ≠ .select cs b)
    (htail : ∀ j oj, ops[j]? = some oj → m ≤ j → reaches md ops ops.size oj i = true) :
    ∀ (fuel : Nat) (listed : Array Bool) (fs : Facts) (a : Act), Closed md ops listed →
      (∀ j oj, ops[j]? = some oj → j ≠ i → listed.getD j true = false → (∀ e ∈ oj.after, Region.binds md e = true → e.on ≠ i) → oi.apart ops oj = true) →
      i ∈ Region.ready md ops listed → pOp P md ops C R oi i (S i) fs (wpAnyP P md ops C R m S Q fuel (listed.setIfInBounds i true)) a → wpAnyP P md ops C R m S Q (fuel + 1) listed fs a := by
  have notOn : ∀ {j : Nat} {oj : Oper} {listed : Array Bool}, i ∈ Region.ready md ops listed → (∀ e ∈ oj.after, Region.binds md e = true → listed.getD e.on false = true) → ∀ e ∈ oj.after, Region.binds md e = true → e.on ≠ i := by
    intro j oj listed hr hall e he hb heq
    have h1 := hall e he hb
    have h0 := (mem_ready.1 hr).1
    rw [heq] at h1
    rcases Nat.lt_or_ge i listed.size with h' | h'
    · simp [h'] at h0 h1; rw [h0] at h1; cases h1
    · simp [Array.getElem?_eq_none h'] at h1
  -- what an unlisted oi holds back
  intro fuel
  induction fuel with
  | zero =>
    intro listed fs a hcl _ hr H
    refine ⟨fun h => (by rw [h] at hr; cases hr), fun j hj => ?_⟩
    by_cases hji : j = i
    · subst hji; exact ⟨oi, hi, H⟩
    · exfalso
      obtain ⟨_, oj, hoj, hall⟩ := mem_ready.1 hj
      have hno := notOn (j := j) hr hall
      have hlt : ¬ m ≤ j := fun hm => by
        have h1 := hcl.reaches _ oj (htail j oj hoj hm) hall
        have h0 := (mem_ready.1 hr).1
        rcases Nat.lt_or_ge i listed.size with h' | h'
        · simp [h'] at h0 h1; rw [h0] at h1; cases h1
        · simp [Array.getElem?_eq_none h'] at h1
      have hj' := ready_mono hj hji
      have : ∃ fs a, wpAnyP P md ops C R m S Q 0 (listed.setIfInBounds i true) fs a := by
        unfold pOp at H
        split at H
        · exact ⟨_, _, H.2 _ (S i).ok⟩
        · exact ⟨_, _, H⟩
      obtain ⟨_, _, h0⟩ := this
      exact hlt (h0.1 j hj')
  | succ fuel ih =>
    intro listed fs a hcl hfree hr H
    refine ⟨fun h => (by rw [h] at hr; cases hr), fun j hj => ?_⟩
    by_cases hji : j = i
    · subst hji; exact ⟨oi, hi, H⟩
    · obtain ⟨hjun, oj, hoj, hall⟩ := mem_ready.1 hj
      have hnot := notOn (j := j) hr hall
      obtain ⟨hiun, oi', hoi', halli⟩ := mem_ready.1 hr
      obtain rfl : oi' = oi := by rw [hi] at hoi'; exact (Option.some.inj hoi').symm
      have hnoti : ∀ e ∈ oi'.after, Region.binds md e = true → e.on ≠ j := fun e he hb heq => by
        have h1 := halli e he hb
        rw [heq] at h1
        rcases Nat.lt_or_ge j listed.size with h' | h'
        · simp [h'] at hjun h1; rw [hjun] at h1; cases h1
        · simp [Array.getElem?_eq_none h'] at h1
      refine ⟨oj, hoj, ?_⟩
      have h1 : pOp P md ops C R oi' i (S i) fs (fun fs a => pOp P md ops C R oj j (S j) fs (wpAnyP P md ops C R m S Q fuel ((listed.setIfInBounds i true).setIfInBounds j true)) a) a := by
        refine pOp_mono (fun fs' a' h => ?_) H
        obtain ⟨o', ho', h2⟩ := h.2 j (ready_mono hj hji)
        obtain rfl : o' = oj := by rw [hoj] at ho'; exact (Option.some.inj ho').symm
        exact h2
      have h2 := pOp_swap (Ne.symm hji) (hfree j oj hoj hji hjun hnot) (fun cs b => hsel i oi' cs b hi) (fun cs b => hsel j oj cs b hoj) (waits_false hnoti) (waits_false hnot) h1
      have hfree' : ∀ k ok, ops[k]? = some ok → k ≠ i → (listed.setIfInBounds j true).getD k true = false →
          (∀ e ∈ ok.after, Region.binds md e = true → e.on ≠ i) → oi'.apart ops ok = true := fun k ok hk hki hun hno => by
        refine hfree k ok hk hki ?_ hno
        by_cases hjk : j = k
        · subst hjk; exact hjun
        · rw [getD_set_ne true hjk] at hun; exact hun
      refine pOp_mono (fun fs' a' h3 => ih (listed.setIfInBounds j true) fs' a' (hcl.set hj) hfree' (ready_mono hr (Ne.symm hji)) ?_) h2
      rw [Array.setIfInBounds_comm _ _ hji]
      exact h3

/-- THE WALK OF THE TEXT'S ORDER: the operations, what each leaves, the number of the next. -/
def walk (P : Program) (md : Region.Mode) (ops : Array Oper) (C : World → Prop) (R : World → World → Prop) (Q : Facts → Act → Prop) : List Oper → List (Leaves C R) → Nat → Facts → Act → Prop
  | o :: l, s :: L, k, fs, a => pOp P md ops C R o k s fs (fun fs' a' => walk P md ops C R Q l L (k + 1) fs' a') a
  | [], _, _, fs, a => Q fs a
  | _ :: _, [], _, _, _ => False

/-- The first m come up in the text's order; what is left then waits. -/
def lexTo (md : Region.Mode) (ops : Array Oper) (m : Nat) : Nat → Nat → Array Bool → Bool
  | 0, _, listed => (Region.ready md ops listed).all (m ≤ ·)
  | fuel + 1, k, listed => (Region.ready md ops listed).contains k && Region.free md ops listed k && lexTo md ops m fuel (k + 1) (listed.setIfInBounds k true)

/-- Each operation from m on waits for all ahead of m. -/
def tailWaits (md : Region.Mode) (ops : Array Oper) (m : Nat) : Bool := (ops.toList.drop m).all fun o => (List.range m).all fun i => reaches md ops ops.size o i

def lexOk (md : Region.Mode) (ops : Array Oper) (m : Nat) : Bool := Region.noSelect ops && tailWaits md ops m && decide (m ≤ ops.size) && lexTo md ops m m 0 (Array.replicate ops.size false)

/-- The numbers ahead of m have come up. -/
def listedTo : Nat → Nat → Array Bool → Array Bool
  | 0, _, l => l
  | n + 1, k, l => listedTo n (k + 1) (l.setIfInBounds k true)

theorem tailWaits_spec {m : Nat} (h : tailWaits md ops m = true) (j : Nat) (oj : Oper) (hj : ops[j]? = some oj) (hm : m ≤ j) (i : Nat) (hi : i < m) : reaches md ops ops.size oj i = true := by
  simp only [tailWaits, List.all_eq_true, List.mem_range] at h
  refine h oj ?_ i hi
  refine List.mem_iff_getElem?.2 ⟨j - m, ?_⟩
  rw [List.getElem?_drop, Nat.add_sub_cancel' hm]
  simpa using hj

theorem wpAnyP_lex {m : Nat} {Q : Facts → Act → Prop} {L0 : List (Leaves C R)} {dflt : Leaves C R} {listed0 : Array Bool} (hs : Region.noSelect ops = true) (ht : tailWaits md ops m = true) :
    ∀ (n : Nat) (l : List Oper) (L : List (Leaves C R)) (k : Nat) (listed : Array Bool) (fs : Facts) (a : Act), l.length = n → k + n = m → (∀ j, j < n → l[j]? = ops[k + j]?) → (∀ j, L[j]? = L0[k + j]?) →
      Closed md ops listed → lexTo md ops m n k listed = true → listedTo n k listed = listed0 → walk P md ops C R Q l L k fs a → wpAnyP P md ops C R m (fun k => L0[k]?.getD dflt) (fun ls fs a => ls = listed0 ∧ Q fs a) n listed fs a := by
  intro n
  induction n with
  | zero =>
    intro l L k listed fs a hn _ _ _ _ hB hl h
    obtain rfl : l = [] := List.length_eq_zero_iff.1 hn
    refine ⟨fun j hj => ?_, hl, ?_⟩
    · simp only [lexTo, List.all_eq_true, decide_eq_true_eq] at hB
      exact hB j hj
    · cases L <;> exact h
  | succ n ih =>
    intro l L k listed fs a hn hk hl hL hcl hB hd h
    obtain ⟨o, l, rfl⟩ : ∃ o l', l = o :: l' := by
      cases l with
      | nil => cases hn
      | cons o l => exact ⟨o, l, rfl⟩
    obtain ⟨s, L, rfl⟩ : ∃ s L', L = s :: L' := by
      cases L with
      | nil => exact h.elim
      | cons s L => exact ⟨s, L, rfl⟩
    have h0 : ops[k]? = some o := by simpa using (hl 0 (by omega)).symm
    have hs0 : L0[k]? = some s := by simpa using (hL 0).symm
    simp only [lexTo, Bool.and_eq_true] at hB
    obtain ⟨⟨hr, hf⟩, hB'⟩ := hB
    refine wpAnyP_first h0 (Region.noSelect_spec hs) (fun j oj hj hm => tailWaits_spec ht j oj hj hm k (by omega)) n listed fs a hcl (Region.free_spec h0 hf) (by simpa using hr) ?_
    simp only [hs0, Option.getD_some]
    refine pOp_mono (fun fs' a' h' => ?_) h
    exact ih l L (k + 1) _ fs' a' (by simpa using hn) (by omega) (fun j hj => by have := hl (j + 1) (by omega); simpa [Nat.add_assoc, Nat.add_comm 1 j] using this)
      (fun j => by have := hL (j + 1); simpa [Nat.add_assoc, Nat.add_comm 1 j] using this) (hcl.set (by simpa using hr)) hB' hd h'

/-- **THE RULE, WITH A TAIL**: the first m operations by one walk; behind them the tail, from whatever world of the class. -/
theorem poised_tail {id : Nat} {l : List Oper} {Q : Exit → Act → World → Prop} {a : Act} {w : World} (m : Nat) (C : World → Prop) (R : World → World → Prop) (L : List (Leaves C R)) (hm : P.follows .mixedOrders = true) (hB : lexOk .any l.toArray m = true)
    (hCR : ∀ w w', C w → R w w' → C w') (hC : C w.drew)
    (h : walk P .any l.toArray C R (fun fs a' => ∀ w', C w' → (∀ k, fs k w') → wpAny P .any l.toArray Q (l.length - m) (listedTo m 0 (Array.replicate l.length false)) a' w') (l.take m) L 0 Facts.none a) : (Code.region id l.toArray true).wp P Q a w := by
  simp only [lexOk, Bool.and_eq_true, decide_eq_true_eq] at hB
  obtain ⟨⟨⟨hs, ht⟩, hle⟩, hx⟩ := hB
  have hle' : m ≤ l.length := by simpa using hle
  refine wp_region_any hm ?_
  have key := wpAnyP_lex (P := P) (md := .any) (ops := l.toArray) (m := m) (L0 := L) (dflt := Leaves.det undef) (listed0 := listedTo m 0 (Array.replicate l.length false)) hs ht m (l.take m) L 0 (Array.replicate l.length false) Facts.none a
    (by simp [hle']) (by omega) (fun j hj => by simp [hj]) (fun j => by simp) (closed_none _ _ _) (by simpa using hx) rfl h
  have := wpAny_of_P (m := m) (r := l.length - m) (Q' := Q) hCR (fun listed fs a w hw hf hq => by rw [hq.1]; exact hq.2 w hw hf) m (Array.replicate l.length false) Facts.none a w.drew hC (fun _ => trivial) (fun _ _ _ _ _ _ => trivial) key
  have hsz : l.toArray.size = m + (l.length - m) := by simp; omega
  rw [hsz]
  have hrep : Array.replicate (m + (l.length - m)) false = Array.replicate l.length false := by rw [Nat.add_sub_cancel' hle']
  rw [hrep]
  exact this

/-- **THE RULE**: the whole region by one walk. -/
theorem poised_region {id : Nat} {l : List Oper} {Q : Exit → Act → World → Prop} {a : Act} {w : World} (C : World → Prop) (R : World → World → Prop) (L : List (Leaves C R)) (hm : P.follows .mixedOrders = true) (hB : lexOk .any l.toArray l.length = true)
    (hE : (Region.ready .any l.toArray (listedTo l.length 0 (Array.replicate l.length false))) = [])
    (hCR : ∀ w w', C w → R w w' → C w') (hC : C w.drew)
    (h : walk P .any l.toArray C R (fun fs a' => ∀ w', C w' → (∀ k, fs k w') → Q .normal a' w') l L 0 Facts.none a) : (Code.region id l.toArray true).wp P Q a w := by
  refine poised_tail l.length C R L hm hB hCR hC ?_
  rw [List.take_length]
  have mono : ∀ (l' : List Oper) (L' : List (Leaves C R)) (k : Nat) (fs : Facts) (a : Act), walk P .any l.toArray C R (fun fs a' => ∀ w', C w' → (∀ k, fs k w') → Q .normal a' w') l' L' k fs a →
      walk P .any l.toArray C R (fun fs a' => ∀ w', C w' → (∀ k, fs k w') → wpAny P .any l.toArray Q (l.length - l.length) (listedTo l.length 0 (Array.replicate l.length false)) a' w') l' L' k fs a := by
    intro l'
    induction l' with
    | nil => intro L' k fs a hh w' hw hf; exact wpAny_done hE (hh w' hw hf) _
    | cons o l' ih =>
      intro L' k fs a hh
      cases L' with
      | nil => exact hh
      | cons s L' => exact pOp_mono (fun fs a h => ih L' _ fs a h) hh
  exact mono l L 0 Facts.none a h

/-! ### The steps -/
variable {Q : Facts → Act → Prop} {o : Oper} {rest : List Oper} {L : List (Leaves C R)} {k : Nat} {fs : Facts} {a : Act}

theorem walk_nil (h : Q fs a) : walk P md ops C R Q [] [] k fs a := h

theorem walk_skip (hw : Region.wanted o (yielded ops a.tmps) = false) (h : walk P md ops C R Q rest L (k + 1) fs (a.put o.dst undef)) : walk P md ops C R Q (o :: rest) (Leaves.det undef :: L) k fs a := by
  unfold walk pOp; simp only [hw, Bool.false_eq_true, if_false]; exact h

theorem walk_det (u : Value) (hw : Region.wanted o (yielded ops a.tmps) = true) (hp : ∀ w, C w → seen md fs o w → upon P R w (fun v _ => v = u) ((execOp a.eval o).run P w)) (h : walk P md ops C R Q rest L (k + 1) (Facts.put k (fun _ => True) fs) (a.put o.dst u)) :
    walk P md ops C R Q (o :: rest) (Leaves.det u :: L) k fs a := by
  unfold walk pOp; simp only [hw, if_true]
  refine ⟨fun w hh => ?_, fun v hv => ?_⟩
  · have := hp w hh.1 hh.2
    have e : (fun (v : Value) (w' : World) => (Leaves.det (C := C) (R := R) u).dom v ∧ (Leaves.det (C := C) (R := R) u).V v w') = fun v _ => v = u := by
      funext v w'; simp [Leaves.det]
    rw [e]; exact this
  · obtain rfl : v = u := hv
    exact h

theorem walk_free (V : Value → World → Prop) (hl : ∀ v w w', C w → R w w' → V v w → V v w') (hw : Region.wanted o (yielded ops a.tmps) = true) (hp : ∀ w, C w → seen md fs o w → upon P R w V ((execOp a.eval o).run P w))
    (h : ∀ v, walk P md ops C R Q rest L (k + 1) (Facts.put k (V v) fs) (a.put o.dst v)) :
    walk P md ops C R Q (o :: rest) (Leaves.free V hl :: L) k fs a := by
  unfold walk pOp; simp only [hw, if_true]
  refine ⟨fun w hh => ?_, fun v _ => h v⟩
  have := hp w hh.1 hh.2
  have e : (fun (v : Value) (w' : World) => (Leaves.free (C := C) (R := R) V hl).dom v ∧ (Leaves.free (C := C) (R := R) V hl).V v w') = V := by
    funext v w'; simp [Leaves.free]
  rw [e]; exact this

end
end Go.Poised

namespace Go.Poised
open Go
theorem put_lit (l : List Value) (d : List Deferred) (i : Nat) (v : Value) : Act.put ⟨l.toArray, d⟩ (some i) v = ⟨(l.set i v).toArray, d⟩ := by simp [Act.put]
theorem put_no (a : Act) (v : Value) : Act.put a none v = a := rfl
section
variable {P : Program}
/-- As 'poised_region', for a walk that finds what the operations leave. -/
theorem poised_whole {id : Nat} {l : List Oper} {Q : Exit → Act → World → Prop} {a : Act} {w : World} (C : World → Prop) (R : World → World → Prop) (hm : P.follows .mixedOrders = true) (hB : lexOk .any l.toArray l.length = true)
    (hE : (Region.ready .any l.toArray (listedTo l.length 0 (Array.replicate l.length false))) = [])
    (hCR : ∀ w w', C w → R w w' → C w') (hC : C w.drew)
    (h : ∃ L, walk P .any l.toArray C R (fun fs a' => ∀ w', C w' → (∀ k, fs k w') → Q .normal a' w') l L 0 Facts.none a) : (Code.region id l.toArray true).wp P Q a w :=
  let ⟨L, h⟩ := h
  poised_region C R L hm hB hE hCR hC h
theorem poised_ahead {id : Nat} {l : List Oper} {Q : Exit → Act → World → Prop} {a : Act} {w : World} (m : Nat) (C : World → Prop) (R : World → World → Prop) (hm : P.follows .mixedOrders = true) (hB : lexOk .any l.toArray m = true)
    (hCR : ∀ w w', C w → R w w' → C w') (hC : C w.drew)
    (h : ∃ L, walk P .any l.toArray C R (fun fs a' => ∀ w', C w' → (∀ k, fs k w') → wpAny P .any l.toArray Q (l.length - m) (listedTo m 0 (Array.replicate l.length false)) a' w') (l.take m) L 0 Facts.none a) : (Code.region id l.toArray true).wp P Q a w :=
  let ⟨L, h⟩ := h
  poised_tail m C R L hm hB hCR hC h

/-- From number k on only one operation may come up at a time, in the text's order. -/
def seqTail (md : Region.Mode) (ops : Array Oper) : Nat → Nat → Array Bool → Bool
  | 0, _, listed => (Region.ready md ops listed).isEmpty
  | n + 1, k, listed => (Region.ready md ops listed == [k]) && seqTail md ops n (k + 1) (listed.setIfInBounds k true)

theorem wpAny_seq {md : Region.Mode} {ops : Array Oper} {Q : Exit → Act → World → Prop} : ∀ (n : Nat) (l : List Oper) (k : Nat) (listed : Array Bool) (a : Act) (w : World), l.length = n → (∀ j, j < n → l[j]? = ops[k + j]?) → seqTail md ops n k listed = true →
    wpList P ops Q l a w → wpAny P md ops Q n listed a w := by
  intro n
  induction n with
  | zero =>
    intro l k listed a w hn _ hs h
    obtain rfl : l = [] := List.length_eq_zero_iff.1 hn
    exact ⟨by simpa [seqTail] using hs, h⟩
  | succ n ih =>
    intro l k listed a w hn hl hs h
    obtain ⟨o, l, rfl⟩ : ∃ o l', l = o :: l' := by
      cases l with
      | nil => cases hn
      | cons o l => exact ⟨o, l, rfl⟩
    simp only [seqTail, Bool.and_eq_true, beq_iff_eq] at hs
    obtain ⟨hr, hs⟩ := hs
    have h0 : ops[k]? = some o := by simpa using (hl 0 (by omega)).symm
    refine wpAny_all hr (by simp) (fun i hi => ?_)
    obtain rfl : i = k := by simpa using hi
    unfold wpOp
    simp only [h0]
    have step : ∀ a w, wpList P ops Q l a w → wpAny P md ops Q n (listed.setIfInBounds i true) a w := fun a w h' =>
      ih l (i + 1) _ a w (by simpa using hn) (fun j hj => by have := hl (j + 1) (by omega); simpa [Nat.add_assoc, Nat.add_comm 1 j] using this) hs h'
    unfold wpList at h
    split
    · rename_i hw; simp only [hw, if_true] at h
      rcases h with h | h
      · exact .inl (Oper.wp_mono step h)
      · exact .inr h
    · rename_i hw; simp only [hw] at h
      exact step _ _ h

/-- **The first m operations by one walk, what is left one after the other.** -/
theorem poised_then {id : Nat} {l : List Oper} {Q : Exit → Act → World → Prop} {a : Act} {w : World} (m : Nat) (C : World → Prop) (R : World → World → Prop) (hm : P.follows .mixedOrders = true) (hB : lexOk .any l.toArray m = true)
    (hT : seqTail .any l.toArray (l.length - m) m (listedTo m 0 (Array.replicate l.length false)) = true)
    (hCR : ∀ w w', C w → R w w' → C w') (hC : C w.drew)
    (h : ∃ L, walk P .any l.toArray C R (fun fs a' => ∀ w', C w' → (∀ k, fs k w') → wpList P l.toArray Q (l.drop m) a' w') (l.take m) L 0 Facts.none a) : (Code.region id l.toArray true).wp P Q a w := by
  obtain ⟨L, h⟩ := h
  refine poised_tail m C R L hm hB hCR hC ?_
  have mono : ∀ (l' : List Oper) (L' : List (Leaves C R)) (k : Nat) (fs : Facts) (a : Act), walk P .any l.toArray C R (fun fs a' => ∀ w', C w' → (∀ k, fs k w') → wpList P l.toArray Q (l.drop m) a' w') l' L' k fs a →
      walk P .any l.toArray C R (fun fs a' => ∀ w', C w' → (∀ k, fs k w') → wpAny P .any l.toArray Q (l.length - m) (listedTo m 0 (Array.replicate l.length false)) a' w') l' L' k fs a := by
    intro l'
    induction l' with
    | nil => intro L' k fs a hh w' hw hf; exact wpAny_seq _ (l.drop m) m _ a w' (by simp) (fun j _ => by simp) hT (hh w' hw hf)
    | cons o l' ih =>
      intro L' k fs a hh
      cases L' with
      | nil => exact hh
      | cons s L' => exact pOp_mono (fun fs a h => ih L' _ fs a h) hh
  exact mono _ L 0 Facts.none a h
end
end Go.Poised

namespace Go.MapL
open Go Go.MapKept Go.ChangeMaps
section
variable {P : Program} {α β : Type} [DecidableEq α]

/-! ### the plain lists -/
def look (a : α) : List (α × β) → Option β
  | [] => none
  | (k, v) :: r => if k = a then some v else look a r
def put (a : α) (b : β) : List (α × β) → List (α × β)
  | [] => [(a, b)]
  | (k, v) :: r => if k = a then (a, b) :: r else (k, v) :: put a b r
def del (a : α) : List (α × β) → List (α × β)
  | [] => []
  | (k, v) :: r => if k = a then r else (k, v) :: del a r
def fnd (a : α) : List (α × β) → Nat → Option (Nat × β)
  | [], _ => none
  | (k, v) :: r, i => if k = a then some (i, v) else fnd a r (i + 1)

theorem fnd_look (a : α) : ∀ (l : List (α × β)) (i : Nat), (fnd a l i).map (·.2) = look a l
  | [], _ => rfl
  | (k, v) :: r, i => by
    unfold fnd look
    split
    · rfl
    · exact fnd_look a r (i + 1)
theorem fnd_none (a : α) (b : β) : ∀ (l : List (α × β)) (i : Nat), fnd a l i = none → put a b l = l ++ [(a, b)] ∧ del a l = l
  | [], _, _ => ⟨rfl, rfl⟩
  | (k, v) :: r, i, h => by
    unfold fnd at h
    split at h
    · cases h
    · rename_i hk
      have := fnd_none a b r (i + 1) h
      simp [put, del, hk, this.1, this.2]
theorem fnd_some (a : α) (b : β) : ∀ (l : List (α × β)) (i j : Nat) (v : β), fnd a l i = some (j, v) → ∃ d, j = i + d ∧ l[d]? = some (a, v) ∧ put a b l = l.set d (a, b) ∧ del a l = l.eraseIdx d
  | [], _, _, _, h => by cases h
  | (k, v) :: r, i, j, u, h => by
    unfold fnd at h
    split at h
    · rename_i hk
      cases h
      exact ⟨0, rfl, by simp [hk], by simp [put, hk], by simp [del, hk]⟩
    · rename_i hk
      obtain ⟨d, rfl, h1, h2, h3⟩ := fnd_some a b r (i + 1) j u h
      exact ⟨d + 1, by omega, by simpa using h1, by simp [put, hk, h2], by simp [del, hk, h3]⟩

/-! ### the map's block -/
variable {mk : α → Value} {mv : β → Value} {w : World} {b : Nat} {l : List (α × β)}

def kv (mk : α → Value) (mv : β → Value) (p : α × β) : Value × Value := (mk p.1, mv p.2)

/-- Block b is a map that holds the pairs l. -/
def MapAt (mk : α → Value) (mv : β → Value) (w : World) (b : Nat) (l : List (α × β)) : Prop :=
  ∃ es clock, w.heap[b]? = some (.map es clock) ∧ es.toList.map (fun e => (e.key, e.val)) = l.map (kv mk mv) ∧ (es.toList.map (·.born)).Nodup ∧ ∀ x ∈ es.toList, x.born < clock

theorem MapAt.lt {α β : Type} {mk : α → Value} {mv : β → Value} {w : World} {b : Nat} {l : List (α × β)} (h : MapAt mk mv w b l) : b < w.heap.size := by
  obtain ⟨es, clock, hb, _⟩ := h
  exact (Array.getElem?_eq_some_iff.1 hb).1
theorem MapAt.same {α β : Type} {mk : α → Value} {mv : β → Value} {w : World} {b : Nat} {l : List (α × β)} {w' : World} (h : MapAt mk mv w b l) (hb : w'.heap[b]? = w.heap[b]?) : MapAt mk mv w' b l := by
  obtain ⟨es, clock, h1, h2⟩ := h
  exact ⟨es, clock, hb.trans h1, h2⟩
theorem MapAt.alloc {α β : Type} {mk : α → Value} {mv : β → Value} {w : World} {b : Nat} {l : List (α × β)} (h : MapAt mk mv w b l) (o : Obj) : MapAt mk mv (w.alloc o) b l := h.same ((MapKept.heap_alloc _ _).2 _ h.lt)
theorem MapAt.new {α β : Type} {mk : α → Value} {mv : β → Value} (w : World) : MapAt mk mv (w.alloc (.map #[] 0)) w.heap.size [] :=
  ⟨#[], 0, (MapKept.heap_alloc w _).1, by simp, by simp, by simp⟩

/-- What is asked of a key's type: that keys are told apart as 'mk' says, by those that are 'ok'. -/
structure Finds (P : Program) (k : TypeId) (mk : α → Value) (w : World) (ok : α → Prop) : Prop where
  check : ∀ e a, (Instr.checkKey e 10000 k (mk a)).run P w = .ok () w
  find : ∀ (β : Type) (mv : β → Value) (a : α) (es : List MapEntry) (l : List (α × β)), ok a → (∀ p ∈ l, ok p.1) → es.map (fun e => (e.key, e.val)) = l.map (kv mk mv) → (Instr.findKey k (mk a) es).run P w = .ok ((fnd a l 0).map fun x => (x.1, mv x.2)) w
  stays : ∀ a, (Instr.keyThatStays (mk a) (mk a)).run P w = .ok (mk a) w

variable {k e t : TypeId} {ok : α → Prop}

theorem MapAt.lookup (h : MapAt mk mv w b l) (F : Finds P k mk w ok) (ht : P.underlying t = some (.map k e)) {z : Value} (hz : (zeroValue e).run P w = .ok z w) (a : α) (ha : ok a) (hl : ∀ p ∈ l, ok p.1) :
    (Instr.lookup t (.map (some b)) (mk a) false).run P w = .ok (((look a l).map mv).getD z) w := by
  obtain ⟨es, clock, hb, he, _, _⟩ := h
  have hf := F.find β mv a es.toList l ha hl he
  have hk := fnd_look a l 0
  simp only [Instr.lookup, Sem.run_bind, run_underlying ht, Result.andThen, MapKept.run_getObj_map hb, F.check, Sem.run_pure, hf]
  cases hx : fnd a l 0 with
  | none => rw [hx] at hk; simp only [Option.map_none] at hk; rw [← hk]; simp [hz]
  | some y => rw [hx] at hk; simp only [Option.map_some] at hk; rw [← hk]; simp

theorem setBlock_heap {w : World} {b : Nat} {o o' : Obj} (hb : w.heap[b]? = some o) : (setBlock w b o').heap[b]? = some o' := (heap_set hb).1
theorem grownBy_setBlock (w : World) (b : Nat) (o : Obj) : w.grownBy (setBlock w b o) (some b) :=
  ⟨rfl, rfl, rfl, by simp [setBlock], fun i _ hi => by
    have : i ≠ b := fun e => hi (by rw [e])
    simp [setBlock, Ne.symm this]⟩

theorem MapAt.update (h : MapAt mk mv w b l) (F : Finds P k mk w ok) (ht : P.underlying t = some (.map k e)) (a : α) (x : β) (ha : ok a) (hl : ∀ p ∈ l, ok p.1) :
    ∃ w', (Instr.mapUpdate t (.map (some b)) (mk a) (mv x)).run P w = .ok () w' ∧ MapAt mk mv w' b (put a x l) ∧ w.grownBy w' (some b) ∧ w'.heap.size = w.heap.size := by
  obtain ⟨es, clock, hb, he, hn, hc⟩ := h
  have hf := F.find β mv a es.toList l ha hl he
  cases hx : fnd a l 0 with
  | none =>
    rw [hx] at hf
    obtain ⟨hp, _⟩ := fnd_none a x l 0 hx
    refine ⟨setBlock w b (.map (es.push { key := mk a, val := mv x, born := clock }) (clock + 1)), ?_, ?_, grownBy_setBlock _ _ _, by simp [setBlock]⟩
    · simp only [Instr.mapUpdate, Sem.run_bind, run_underlying ht, Result.andThen, MapKept.run_getObj_map hb, F.check, hf, Option.map_none, run_setObj_map _ hb]
      rfl
    · refine ⟨_, _, setBlock_heap hb, ?_, ?_, ?_⟩
      · rw [hp]; simp [he, kv]
      · simp only [Array.toList_push, List.map_append, List.map_cons, List.map_nil]
        rw [List.nodup_append]
        refine ⟨hn, by simp, ?_⟩
        intro y hy z hz e
        simp at hz; subst hz
        obtain ⟨q, hq, rfl⟩ := List.mem_map.1 hy
        have := hc q hq; omega
      · intro q hq
        simp only [Array.toList_push, List.mem_append, List.mem_singleton] at hq
        rcases hq with hq | rfl
        · have := hc q hq; omega
        · show clock < clock + 1; omega
  | some y =>
    obtain ⟨j, v⟩ := y
    rw [hx] at hf
    obtain ⟨d, hd, hld, hp, _⟩ := fnd_some a x l 0 j v hx
    obtain rfl : j = d := by omega
    have hlen : es.toList.length = l.length := by have := congrArg List.length he; simpa using this
    have hjl : j < es.size := by have := (List.getElem?_eq_some_iff.1 hld).1; simp at hlen; omega
    have hke : (es[j]'hjl).key = mk a := by
      have := congrArg (·[j]?) he
      simp only [List.getElem?_map, hld, Option.map_some, kv] at this
      rw [List.getElem?_eq_getElem (by simpa using hjl)] at this
      simp at this
      exact this.1
    refine ⟨setBlock w b (.map (es.modify j fun e => { e with key := mk a, val := mv x }) clock), ?_, ?_, grownBy_setBlock _ _ _, by simp [setBlock]⟩
    · simp only [Instr.mapUpdate, Sem.run_bind, run_underlying ht, Result.andThen, MapKept.run_getObj_map hb, F.check, hf, Option.map_some, Array.getElem?_eq_getElem hjl, Option.getD_some, hke, F.stays, run_setObj_map _ hb]
      rfl
    · refine ⟨_, _, setBlock_heap hb, ?_, ?_, ?_⟩
      · rw [hp]
        apply List.ext_getElem?
        intro i
        have hi := congrArg (·[i]?) he
        simp only [List.getElem?_map] at hi
        simp only [List.getElem?_map, Array.getElem?_toList, Array.getElem?_modify, List.getElem?_set]
        simp only [Array.getElem?_toList] at hi
        by_cases hij : j = i
        · subst hij
          have : j < l.length := by simp at hlen; omega
          simp [hjl, this, kv]
        · simp [hij, hi]
      · have : (es.modify j fun e => { e with key := mk a, val := mv x }).toList.map (·.born) = es.toList.map (·.born) := by
          apply List.ext_getElem?
          intro i
          simp only [List.getElem?_map, Array.getElem?_toList, Array.getElem?_modify]
          by_cases hij : j = i
          · subst hij; simp [hjl]
          · simp [hij]
        rw [this]; exact hn
      · intro q hq
        obtain ⟨i, hi, rfl⟩ := List.getElem_of_mem hq
        simp only [Array.getElem_toList, Array.getElem_modify]
        have hi' : i < es.size := by simpa using hi
        have := hc (es[i]'hi') (by simp)
        split <;> exact this

theorem MapAt.delete (h : MapAt mk mv w b l) (F : Finds P k mk w ok) (ht : P.underlying t = some (.map k e)) (a : α) (ha : ok a) (hl : ∀ p ∈ l, ok p.1) (ty : TypeId) :
    ∃ w', (Builtin.delete_ #[t, k] ty #[.map (some b), mk a]).run P w = .ok (.tuple #[]) w' ∧ MapAt mk mv w' b (del a l) ∧ w.grownBy w' (some b) ∧ w'.heap.size = w.heap.size := by
  obtain ⟨es, clock, hb, he, hn, hc⟩ := h
  have hf := F.find β mv a es.toList l ha hl he
  cases hx : fnd a l 0 with
  | none =>
    rw [hx] at hf
    have hp : del a l = l := by
      clear hf
      have : ∀ (l : List (α × β)) i, fnd a l i = none → del a l = l := by
        intro l
        induction l with
        | nil => intro i _; rfl
        | cons p r ih =>
          intro i h
          obtain ⟨k', v'⟩ := p
          unfold fnd at h
          split at h
          · cases h
          · rename_i hk; simp [del, hk, ih _ h]
      exact this l 0 hx
    refine ⟨setBlock w b (.map es clock), ?_, ⟨es, clock, setBlock_heap hb, by rw [hp]; exact he, hn, hc⟩, grownBy_setBlock _ _ _, by simp [setBlock]⟩
    simp [Builtin.delete_, run_underlying ht, Result.andThen, MapKept.run_getObj_map hb, F.check, hf, run_setObj_map _ hb, setBlock]
  | some y =>
    obtain ⟨j, v⟩ := y
    rw [hx] at hf
    obtain ⟨d, hd, hld, _, hp⟩ := fnd_some a v l 0 j v hx
    obtain rfl : j = d := by omega
    refine ⟨setBlock w b (.map (es.eraseIdxIfInBounds j) clock), ?_, ⟨_, _, setBlock_heap hb, ?_, ?_, ?_⟩, grownBy_setBlock _ _ _, by simp [setBlock]⟩
    · simp [Builtin.delete_, run_underlying ht, Result.andThen, MapKept.run_getObj_map hb, F.check, hf, run_setObj_map _ hb, setBlock]
    · rw [hp, map_eraseIdx, ← he, ← map_eraseIdx]; simp
    · have : (es.eraseIdxIfInBounds j).toList.map (·.born) = (es.toList.map (·.born)).eraseIdx j := by rw [← map_eraseIdx]; simp
      rw [this]
      exact hn.sublist (List.eraseIdx_sublist _ _)
    · intro q hq
      exact hc q ((List.eraseIdx_sublist es.toList j).subset (by simpa using hq))
end

/-! ### keys that are texts -/
def ofText (s : ByteArray) : Value := .string s
theorem finds_text {P : Program} {k : TypeId} (hk : P.underlying k = some .string) (w : World) : Finds P k ofText w (fun _ => True) := {
  check e a := MapKept.run_checkKey hk (by simp [ofText, IsKey]) e 9999
  find := by
    intro β mv a es l _ _ he
    have key : ∀ (es : List MapEntry) (l : List (ByteArray × β)) (i : Nat), es.map (fun e => (e.key, e.val)) = l.map (kv ofText mv) → Instr.findNow .string (ofText a) es i = some ((fnd a l i).map fun x => (x.1, mv x.2)) := by
      intro es
      induction es with
      | nil => intro l i h; cases l with
        | nil => rfl
        | cons p r => simp at h
      | cons x es ih =>
        intro l i h
        cases l with
        | nil => simp at h
        | cons p r =>
          obtain ⟨s, v⟩ := p
          simp only [List.map_cons, List.cons.injEq, kv, Prod.mk.injEq] at h
          obtain ⟨⟨h1, h2⟩, h3⟩ := h
          have hs : Instr.sameNow .string (ofText a) x.key = some (decide (s = a)) := by
            rw [h1]
            simp only [ofText, Instr.sameNow]
            congr 1
            rw [Bool.eq_iff_iff, bytes_beq, decide_eq_true_eq]
            exact eq_comm
          unfold Instr.findNow fnd
          rw [hs]
          by_cases hsa : s = a
          · simp [hsa, h2]
          · simp only [hsa, decide_false, if_false]
            exact ih r (i + 1) h3
    exact run_findKey hk (key es l 0 he)
  stays a := MapKept.run_keyThatStays (d := .string) (by simp [ofText, IsKey]) }

/-! ### keys that are pointers to blocks -/
def ofBlock (b : Nat) : Value := .pointer (some ⟨b, 0, none⟩)
/-- A block of cells of which none is frozen. -/
def Plain (w : World) (b : Nat) : Prop := ∃ c t, w.heap[b]? = some (.cells c t (0, 0))

theorem run_equal_blocks {P : Program} {k e : TypeId} {i : TypeInfo} (hk : P.underlying k = some (.pointer e)) (hi : P.info? e = some i) (hz : i.size ≠ 0) (w : World) {a b : Nat} (ha : Plain w a) (hb : Plain w b) :
    (Op.equal k (ofBlock a) (ofBlock b)).run P w = .ok (decide (b = a)) w := by
  obtain ⟨ca, ta, ha⟩ := ha
  obtain ⟨cb, tb, hb⟩ := hb
  have h : ∀ d : Nat, (Op.equalIn (d + 1) k (ofBlock a) (ofBlock b)).run P w = .ok (decide (b = a)) w := fun d => by
    by_cases hab : b = a
    · subst hab
      simp [Op.equalIn, ofBlock, run_underlying hk, sizeOf, typeInfo, hi, run_sameAddr_same]
    · have hne : (⟨a, 0, none⟩ : Addr) ≠ ⟨b, 0, none⟩ := fun e => hab (by injection e with e1; exact e1.symm)
      simp [Op.equalIn, ofBlock, run_underlying hk, sizeOf, typeInfo, hi, hz, run_sameAddr_other w hne ha hb, hab]
  exact h 9999

theorem finds_block {P : Program} {k e : TypeId} {i : TypeInfo} (hk : P.underlying k = some (.pointer e)) (hi : P.info? e = some i) (hz : i.size ≠ 0) (w : World) : Finds P k ofBlock w (Plain w) := {
  check e a := by
    show (Instr.checkKey e (9999 + 1) k (ofBlock a)).run P w = .ok () w
    unfold Instr.checkKey
    simp only [Sem.run_bind, run_underlying hk, Result.andThen, ofBlock]
    rfl
  find := by
    intro β mv a es l ha hl he
    have key : ∀ (es : List MapEntry) (l : List (Nat × β)) (i : Nat), (∀ p ∈ l, Plain w p.1) → es.map (fun e => (e.key, e.val)) = l.map (kv ofBlock mv) → (Instr.findAsking k (ofBlock a) es i).run P w = .ok ((fnd a l i).map fun x => (x.1, mv x.2)) w := by
      intro es
      induction es with
      | nil => intro l i _ h; cases l with
        | nil => rfl
        | cons p r => simp at h
      | cons x es ih =>
        intro l i hp h
        cases l with
        | nil => simp at h
        | cons p r =>
          obtain ⟨s, v⟩ := p
          simp only [List.map_cons, List.cons.injEq, kv, Prod.mk.injEq] at h
          obtain ⟨⟨h1, h2⟩, h3⟩ := h
          unfold Instr.findAsking fnd
          rw [h1]
          simp only [Sem.run_bind, run_equal_blocks hk hi hz w ha (hp _ (.head _)), Result.andThen]
          by_cases hsa : s = a
          · simp [hsa, h2]
          · simp only [hsa, decide_false, if_false, Bool.false_eq_true]
            exact ih r (i + 1) (fun p hq => hp p (.tail _ hq)) h3
    cases es with
    | nil => cases l with
      | nil => simp [Instr.findKey, Instr.findNow, run_underlying hk, fnd]
      | cons p r => simp at he
    | cons x es =>
      have hn : Instr.findNow (.pointer e) (ofBlock a) (x :: es) 0 = none := by
        unfold Instr.findNow
        simp [Instr.sameNow]
      simp only [Instr.findKey, Sem.run_bind, run_underlying hk, Result.andThen, hn]
      exact key (x :: es) l 0 hl he
  stays a := by simp [Instr.keyThatStays, Instr.sameBits, ofBlock] }

/-! ### to range over a map -/
theorem perm_eraseIdx {γ : Type} : ∀ (L : List γ) (i : Nat) (hi : i < L.length), L.Perm (L[i] :: L.eraseIdx i)
  | [], i, hi => by simp at hi
  | x :: L, 0, _ => by simp
  | x :: L, i + 1, hi => by
    have := perm_eraseIdx L i (by simpa using hi)
    simp only [List.getElem_cons_succ, List.eraseIdx_cons_succ]
    exact (this.cons x).trans (List.Perm.swap _ _ _)

section
variable {P : Program} {α β : Type} [DecidableEq α] {mk : α → Value} {mv : β → Value} {w : World} {b r : Nat} {l todo : List (α × β)} {k e t : TypeId}

/-- Block r is an iterator over the map at block b, which holds the pairs l; 'todo' are still to come. -/
def RangeAt (mk : α → Value) (mv : β → Value) (w : World) (r b : Nat) (l todo : List (α × β)) : Prop :=
  r ≠ b ∧ ∃ es clock since seen c0, w.heap[b]? = some (.map es clock) ∧ es.toList.map (fun e => (e.key, e.val)) = l.map (kv mk mv) ∧ (es.toList.map (·.born)).Nodup ∧ (∀ x ∈ es.toList, x.born < clock) ∧ (∀ x ∈ es.toList, x.born < since) ∧
    w.heap[r]? = some (.mapIter (some b) since seen c0) ∧ since ≤ c0 ∧ since ≤ clock ∧ (leftOf es seen).toList.map (fun e => (e.key, e.val)) = todo.map (kv mk mv)

theorem RangeAt.map {α β : Type} {mk : α → Value} {mv : β → Value} {w : World} {b r : Nat} {l todo : List (α × β)} (h : RangeAt mk mv w r b l todo) : MapAt mk mv w b l := by
  obtain ⟨_, es, clock, _, _, _, h1, h2, h3, h4, _⟩ := h
  exact ⟨es, clock, h1, h2, h3, h4⟩
theorem RangeAt.ne {α β : Type} {mk : α → Value} {mv : β → Value} {w : World} {b r : Nat} {l todo : List (α × β)} (h : RangeAt mk mv w r b l todo) : r ≠ b := h.1
theorem RangeAt.lt {α β : Type} {mk : α → Value} {mv : β → Value} {w : World} {b r : Nat} {l todo : List (α × β)} (h : RangeAt mk mv w r b l todo) : r < w.heap.size := by
  obtain ⟨_, es, clock, _, _, _, _, _, _, _, _, h, _⟩ := h
  exact (Array.getElem?_eq_some_iff.1 h).1
theorem RangeAt.same {α β : Type} {mk : α → Value} {mv : β → Value} {w : World} {b r : Nat} {l todo : List (α × β)} {w' : World} (h : RangeAt mk mv w r b l todo) (hr : w'.heap[r]? = w.heap[r]?) (hb : w'.heap[b]? = w.heap[b]?) : RangeAt mk mv w' r b l todo := by
  obtain ⟨h0, es, clock, since, seen, c0, h1, h2, h3, h4, h5, h6, h7⟩ := h
  exact ⟨h0, es, clock, since, seen, c0, hb.trans h1, h2, h3, h4, h5, hr.trans h6, h7⟩

theorem MapAt.range {α β : Type} {mk : α → Value} {mv : β → Value} {w : World} {b : Nat} {l : List (α × β)} (h : MapAt mk mv w b l) (ht : P.underlying t = some (.map k e)) :
    ∃ w', (Instr.range t (.map (some b))).run P w = .ok (.pointer (some ⟨w.heap.size, 0, none⟩)) w' ∧ RangeAt mk mv w' w.heap.size b l l ∧ w.grownBy w' none ∧ w'.heap.size = w.heap.size + 1 := by
  have hlt := h.lt
  obtain ⟨es, clock, hb, he, hn, hc⟩ := h
  refine ⟨_, run_range_map w t k e b es clock ht hb, ⟨by omega, es, clock, clock, #[], clock, ?_, he, hn, hc, hc, (MapKept.heap_alloc w _).1, Nat.le_refl _, Nat.le_refl _, ?_⟩, World.grownBy_alloc _ _ _, by simp⟩
  · exact ((MapKept.heap_alloc w _).2 _ hlt).trans hb
  · have : (leftOf es #[]) = es := by unfold leftOf; rw [Array.filter_eq_self]; simp
    rw [this]; exact he

theorem perm_filter_born {es : List MapEntry} {e : MapEntry} (hn : (es.map (·.born)).Nodup) (he : e ∈ es) : es.Perm (e :: es.filter fun x => !(x.born == e.born)) := by
  induction es with
  | nil => cases he
  | cons x es ih =>
    simp only [List.map_cons, List.nodup_cons] at hn
    by_cases hx : x.born = e.born
    · have hxe : x = e := by
        rcases List.mem_cons.1 he with h | h
        · exact h.symm
        · exact absurd (by rw [hx]; exact List.mem_map.2 ⟨e, h, rfl⟩) hn.1
      subst hxe
      have : es.filter (fun y => !(y.born == x.born)) = es := by
        rw [List.filter_eq_self]
        intro y hy
        have : y.born ≠ x.born := fun h => hn.1 (by rw [← h]; exact List.mem_map.2 ⟨y, hy, rfl⟩)
        simp [this]
      simp [this]
    · have he' : e ∈ es := by
        rcases List.mem_cons.1 he with h | h
        · exact absurd (by rw [h]) hx
        · exact h
      have h1 : (x :: es).filter (fun y => !(y.born == e.born)) = x :: es.filter (fun y => !(y.born == e.born)) := by simp [hx]
      rw [h1]
      exact ((ih hn.2 he').cons x).trans (List.Perm.swap _ _ _)

/-- THE STEP: nothing is left; or one of those that are to come, whichever the tape says. -/
theorem RangeAt.next {α β : Type} {mk : α → Value} {mv : β → Value} {w : World} {b r : Nat} {l todo : List (α × β)} (h : RangeAt mk mv w r b l todo) (ty : TypeId) :
    (todo = [] ∧ (Instr.next (.pointer (some ⟨r, 0, none⟩)) false ty).run P w = .ok (.tuple #[.bool false]) w) ∨
    ∃ x todo' w', todo.Perm (x :: todo') ∧ (Instr.next (.pointer (some ⟨r, 0, none⟩)) false ty).run P w = .ok (.tuple #[.bool true, mk x.1, mv x.2]) w' ∧ RangeAt mk mv w' r b l todo' ∧ w.grownBy w' (some r) ∧ w'.heap.size = w.heap.size ∧
      (Instr.entry (.pointer (some ⟨r, 0, none⟩))).run P w' = .ok (.tuple #[mk x.1, mv x.2]) w' := by
  obtain ⟨hne, es, clock, since, seen, c0, hb, he, hn, hc, hold, hr, hsc, hsk, hl⟩ := h
  rcases run_next_at (P := P) w ty r b since c0 seen es clock hr hb hold hsc with ⟨h0, hrun⟩ | ⟨e, hel, w1, hal, hrun⟩
  · refine Or.inl ⟨?_, hrun⟩
    have : (leftOf es seen) = #[] := Array.eq_empty_of_size_eq_zero h0
    rw [this] at hl
    cases todo with
    | nil => rfl
    | cons p q => simp at hl
  · obtain ⟨hem, hes⟩ := mem_left hel
    have hr1 : w1.heap[r]? = some (.mapIter (some b) since seen c0) := by rcases hal with rfl | rfl <;> exact hr
    have hb1 : w1.heap[b]? = some (.map es clock) := by rcases hal with rfl | rfl <;> exact hb
    have hset := heap_set (o' := .mapIter (some b) since (seen.push e.born) clock) hr1
    have hb' : (setBlock w1 r (.mapIter (some b) since (seen.push e.born) clock)).heap[b]? = some (.map es clock) := (hset.2 b (fun e1 => hne e1.symm)).trans hb1
    have hnl : ((leftOf es seen).toList.map (·.born)).Nodup := by
      have hsub : (leftOf es seen).toList.Sublist es.toList := by unfold leftOf; simp
      exact hn.sublist (hsub.map _)
    have hleft : (leftOf es (seen.push e.born)).toList = (leftOf es seen).toList.filter fun x => !(x.born == e.born) := by
      unfold leftOf
      simp only [Array.toList_filter, List.filter_filter]
      congr 1
      funext x
      rw [contains_push]
      cases seen.contains x.born <;> cases (x.born == e.born) <;> rfl
    have hp := perm_filter_born hnl hel
    have hpm := hp.map (fun e : MapEntry => (e.key, e.val))
    rw [hl, List.map_cons, ← hleft] at hpm
    -- the pairs behind the entries
    have hx : ∃ x todo', todo.Perm (x :: todo') ∧ (e.key, e.val) = kv mk mv x ∧ (leftOf es (seen.push e.born)).toList.map (fun e => (e.key, e.val)) = todo'.map (kv mk mv) := by
      have hlen : (leftOf es seen).toList.length = todo.length := by have := congrArg List.length hl; simpa using this
      obtain ⟨i, hi, hie⟩ := List.getElem_of_mem hel
      have hti : i < todo.length := by omega
      refine ⟨todo[i], todo.eraseIdx i, ?_, ?_, ?_⟩
      · exact perm_eraseIdx todo i hti
      · have := congrArg (·[i]?) hl
        simp only [List.getElem?_map, List.getElem?_eq_getElem hi, List.getElem?_eq_getElem hti, Option.map_some, Option.some.injEq] at this
        rw [hie] at this
        exact this
      · rw [hleft, map_eraseIdx, ← hl, ← map_eraseIdx]
        congr 1
        have : ∀ (L : List MapEntry) (i : Nat) (hi : i < L.length), (L.map (·.born)).Nodup → L.filter (fun x => !(x.born == L[i].born)) = L.eraseIdx i := by
          intro L
          induction L with
          | nil => intro i hi _; simp at hi
          | cons y L ih =>
            intro i hi hnd
            simp only [List.map_cons, List.nodup_cons] at hnd
            cases i with
            | zero =>
              simp only [List.getElem_cons_zero, List.eraseIdx_zero, List.tail_cons]
              have : L.filter (fun x => !(x.born == y.born)) = L := by
                rw [List.filter_eq_self]
                intro z hz
                have : z.born ≠ y.born := fun h => hnd.1 (by rw [← h]; exact List.mem_map.2 ⟨z, hz, rfl⟩)
                simp [this]
              simp [this]
            | succ i =>
              have hi' : i < L.length := by simpa using hi
              have hy : y.born ≠ L[i].born := fun h => hnd.1 (by rw [h]; exact List.mem_map.2 ⟨L[i], List.getElem_mem hi', rfl⟩)
              simp only [List.getElem_cons_succ, List.eraseIdx_cons_succ]
              rw [List.filter_cons]
              simp only [hy, Bool.not_eq_true', beq_eq_false_iff_ne, ne_eq, not_false_eq_true, if_true]
              rw [ih i hi' hnd.2]
        have h2 := this (leftOf es seen).toList i hi hnl
        rw [hie] at h2
        exact h2
    obtain ⟨x, todo', hperm, hxe, htodo⟩ := hx
    simp only [kv, Prod.mk.injEq] at hxe
    refine Or.inr ⟨x, todo', _, hperm, by rw [← hxe.1, ← hxe.2]; exact hrun, ⟨hne, es, clock, since, seen.push e.born, clock, hb', he, hn, hc, hold, hset.1, hsk, hsk, htodo⟩, ?_, ?_, ?_⟩
    · rcases hal with rfl | rfl <;> exact ⟨rfl, rfl, rfl, by simp [setBlock], fun i _ hi => hset.2 i (fun e1 => hi (by rw [e1]))⟩
    · rcases hal with rfl | rfl <;> simp [setBlock]
    · rw [← hxe.1, ← hxe.2]
      exact run_entry_at _ r b since seen es clock e hset.1 hb' hem hn
end
end Go.MapL

namespace Go.MapL
open Go Go.MapKept Go.ChangeMaps
section
variable {P : Program} {α β : Type} [DecidableEq α] {mk : α → Value} {mv : β → Value} {ok : α → Prop} (w : World) {ops : Array Oper} {rest : List Oper} {o : Oper} {a : Act} {Q : Exit → Act → World → Prop}

theorem wpList_lookup_map (hg : o.guard = none) (m x : Operand) (t : TypeId) (hop : o.op = Op.lookup t m x false)
    (k e : TypeId) (ht : P.underlying t = some (.map k e)) {z : Value} (hz : (zeroValue e).run P w = .ok z w) (F : Finds P k mk w ok) (b : Nat) (l : List (α × β))
    (hm : a.eval m = .map (some b)) (h : MapAt mk mv w b l) (c : α) (hx : a.eval x = mk c) (hc : ok c) (hl : ∀ p ∈ l, ok p.1)
    (hK : wpList P ops Q rest (a.put o.dst (((look c l).map mv).getD z)) w) : wpList P ops Q (o :: rest) a w := by
  refine wpList_plain hg fun K' hK' => ?_
  unfold Oper.wp
  simp [execOp, hop, hm, hx, h.lookup F ht hz c hc hl, Result.andThen]
  exact hK' _ _ hK

theorem wpList_update_map (hg : o.guard = none) (m x v : Operand) (t : TypeId) (hop : o.op = Op.mapUpdate t m x v)
    (k e : TypeId) (ht : P.underlying t = some (.map k e)) (F : Finds P k mk w ok) (b : Nat) (l : List (α × β))
    (hm : a.eval m = .map (some b)) (h : MapAt mk mv w b l) (c : α) (d : β) (hx : a.eval x = mk c) (hv : a.eval v = mv d) (hc : ok c) (hl : ∀ p ∈ l, ok p.1)
    (hK : ∀ w', MapAt mk mv w' b (put c d l) → w.grownBy w' (some b) → w'.heap.size = w.heap.size → wpList P ops Q rest (a.put o.dst undef) w') : wpList P ops Q (o :: rest) a w := by
  refine wpList_plain hg fun K' hK' => ?_
  obtain ⟨w', hrun, r1, r2, r3⟩ := h.update F ht c d hc hl
  unfold Oper.wp
  simp [execOp, hop, hm, hx, hv, hrun, Result.andThen]
  exact hK' _ _ (hK w' r1 r2 r3)

theorem wpList_delete_map (hg : o.guard = none) (m x : Operand) (t k : TypeId) (hop : o.op = Op.call { callee := Callee.builtin Builtin.delete, args := #[m, x], argTypes := #[t, k] })
    (e : TypeId) (ht : P.underlying t = some (.map k e)) (F : Finds P k mk w ok) (b : Nat) (l : List (α × β))
    (hm : a.eval m = .map (some b)) (h : MapAt mk mv w b l) (c : α) (hx : a.eval x = mk c) (hc : ok c) (hl : ∀ p ∈ l, ok p.1)
    (hK : ∀ w', MapAt mk mv w' b (del c l) → w.grownBy w' (some b) → w'.heap.size = w.heap.size → wpList P ops Q rest (a.put o.dst (.tuple #[])) w') : wpList P ops Q (o :: rest) a w := by
  refine wpList_plain hg fun K' hK' => ?_
  obtain ⟨w', hrun, r1, r2, r3⟩ := h.delete F ht c hc hl o.type
  unfold Oper.wp
  simp [execOp, hop, resolve, invoke, builtin, hm, hx, hrun, Result.andThen]
  exact hK' _ _ (hK w' r1 r2 r3)
end
section
variable {P : Program} {α β : Type} {mk : α → Value} {mv : β → Value} (w : World) {ops : Array Oper} {rest : List Oper} {o : Oper} {a : Act} {Q : Exit → Act → World → Prop}

theorem wpList_range_map (hg : o.guard = none) (m : Operand) (t : TypeId) (hop : o.op = Op.range t m) (k e : TypeId) (ht : P.underlying t = some (.map k e)) (b : Nat) (l : List (α × β))
    (hm : a.eval m = .map (some b)) (h : MapAt mk mv w b l)
    (hK : ∀ w', RangeAt mk mv w' w.heap.size b l l → w.grownBy w' none → w'.heap.size = w.heap.size + 1 → wpList P ops Q rest (a.put o.dst (.pointer (some ⟨w.heap.size, 0, none⟩))) w') : wpList P ops Q (o :: rest) a w := by
  refine wpList_plain hg fun K' hK' => ?_
  obtain ⟨w', hrun, r1, r2, r3⟩ := h.range (P := P) ht
  unfold Oper.wp
  simp [execOp, hop, hm, hrun, Result.andThen]
  exact hK' _ _ (hK w' r1 r2 r3)

theorem wpList_next_map (hg : o.guard = none) (it : Operand) (hop : o.op = Op.next it false) (r b : Nat) (l todo : List (α × β))
    (hit : a.eval it = .pointer (some ⟨r, 0, none⟩)) (h : RangeAt mk mv w r b l todo)
    (hDone : todo = [] → wpList P ops Q rest (a.put o.dst (.tuple #[.bool false])) w)
    (hMore : ∀ (x : α) (y : β) (todo' : List (α × β)) (w' : World), todo.Perm ((x, y) :: todo') → RangeAt mk mv w' r b l todo' → w.grownBy w' (some r) → w'.heap.size = w.heap.size →
      (Instr.entry (.pointer (some ⟨r, 0, none⟩))).run P w' = .ok (.tuple #[mk x, mv y]) w' → wpList P ops Q rest (a.put o.dst (.tuple #[.bool true, mk x, mv y])) w') : wpList P ops Q (o :: rest) a w := by
  refine wpList_plain hg fun K' hK' => ?_
  unfold Oper.wp
  rcases h.next (P := P) o.type with ⟨h0, hrun⟩ | ⟨x, todo', w', hp, hrun, h1, h2, h3, hen⟩
  · simp [execOp, hop, hit, hrun, Result.andThen]
    exact hK' _ _ (hDone h0)
  · simp [execOp, hop, hit, hrun, Result.andThen]
    exact hK' _ _ (hMore x.1 x.2 todo' w' hp h1 h2 h3 hen)
end

section
variable {F : Fence} {nF : Nat} {P : Program} {α β : Type} {mk : α → Value} {mv : β → Value} (w : World) {ops : Array Oper} {rest : List Oper} {o : Oper} {a : Act} {Q : Exit → Act → World → Prop}

theorem wpListIn_range_map (hg : o.guard = none) (m : Operand) (t : TypeId) (hop : o.op = Op.range t m) (k e : TypeId) (ht : P.underlying t = some (.map k e)) (b : Nat) (l : List (α × β))
    (hm : a.eval m = .map (some b)) (h : MapAt mk mv w b l)
    (hK : ∀ w', RangeAt mk mv w' w.heap.size b l l → w.grownBy w' none → w'.heap.size = w.heap.size + 1 → wpListIn F nF P ops Q rest (a.put o.dst (.pointer (some ⟨w.heap.size, 0, none⟩))) w') : wpListIn F nF P ops Q (o :: rest) a w := by
  refine wpListIn_plain hg fun K' hK' => ?_
  obtain ⟨w', hrun, r1, r2, r3⟩ := h.range (P := P) ht
  unfold Oper.wpIn
  refine ⟨by simp [Oper.about, hop], ?_⟩
  rw [Oper.semAt_plain F _ _ (by rw [hop]; intro c hc'; cases hc')]
  simp [execOp, hop, hm, hrun, Result.andThen]
  exact hK' _ _ (hK w' r1 r2 r3)

theorem wpListIn_next_map (hg : o.guard = none) (it : Operand) (hop : o.op = Op.next it false) (r b : Nat) (l todo : List (α × β))
    (hit : a.eval it = .pointer (some ⟨r, 0, none⟩)) (h : RangeAt mk mv w r b l todo)
    (hDone : todo = [] → wpListIn F nF P ops Q rest (a.put o.dst (.tuple #[.bool false])) w)
    (hMore : ∀ (x : α) (y : β) (todo' : List (α × β)) (w' : World), todo.Perm ((x, y) :: todo') → RangeAt mk mv w' r b l todo' → w.grownBy w' (some r) → w'.heap.size = w.heap.size →
      (Instr.entry (.pointer (some ⟨r, 0, none⟩))).run P w' = .ok (.tuple #[mk x, mv y]) w' → wpListIn F nF P ops Q rest (a.put o.dst (.tuple #[.bool true, mk x, mv y])) w') : wpListIn F nF P ops Q (o :: rest) a w := by
  refine wpListIn_plain hg fun K' hK' => ?_
  unfold Oper.wpIn
  refine ⟨by simp [Oper.about, hop], ?_⟩
  rw [Oper.semAt_plain F _ _ (by rw [hop]; intro c hc'; cases hc')]
  rcases h.next (P := P) o.type with ⟨h0, hrun⟩ | ⟨x, todo', w', hp, hrun, h1, h2, h3, hen⟩
  · simp [execOp, hop, hit, hrun, Result.andThen]
    exact hK' _ _ (hDone h0)
  · simp [execOp, hop, hit, hrun, Result.andThen]
    exact hK' _ _ (hMore x.1 x.2 todo' w' hp h1 h2 h3 hen)
end
end Go.MapL

namespace Go.Proofs.YtmcmagplaflegaaGreat
open Go Go.RowKit Go.MapL

/-! ### which blocks may have turned -/
/-- Of what there was only the blocks of S may have turned. -/
structure Grown (S : Nat → Prop) (w w' : World) : Prop where
  os : w'.os = w.os
  tape : w'.tape = w.tape
  output : w'.output = w.output
  size : w.heap.size ≤ w'.heap.size
  block : ∀ k, k < w.heap.size → ¬ S k → w'.heap[k]? = w.heap[k]?
theorem Grown.refl (S : Nat → Prop) (w : World) : Grown S w w := ⟨rfl, rfl, rfl, Nat.le_refl _, fun _ _ _ => rfl⟩
theorem Grown.trans {S T : Nat → Prop} {a b c : World} (h : Grown S a b) (k : Grown T b c) (hT : ∀ x, T x → S x ∨ a.heap.size ≤ x) : Grown S a c :=
  ⟨k.os.trans h.os, k.tape.trans h.tape, k.output.trans h.output, Nat.le_trans h.size k.size, fun i hi hs => (k.block i (Nat.lt_of_lt_of_le hi h.size) (fun ht => (hT i ht).elim hs (by omega))).trans (h.block i hi hs)⟩
theorem Grown.mono {S T : Nat → Prop} {a b : World} (h : Grown S a b) (hT : ∀ x, S x → T x) : Grown T a b := ⟨h.os, h.tape, h.output, h.size, fun i hi hs => h.block i hi (fun k => hs (hT i k))⟩
theorem Grown.of_below {S : Nat → Prop} {a b : World} (h : Below a.heap.size a b) : Grown S a b := ⟨h.os, h.tape, h.output, h.size, fun i hi _ => h.block i hi⟩
theorem Grown.of_grownBy {S : Nat → Prop} {a b : World} {row : Option Nat} (h : a.grownBy b row) (hr : ∀ k, row = some k → S k ∨ a.heap.size ≤ k) : Grown S a b :=
  ⟨h.os, h.tape, h.output, h.size, fun i hi hs => h.block i hi (fun e => (hr i e.symm).elim hs (by omega))⟩
theorem Grown.below {S : Nat → Prop} {a b : World} {n : Nat} (h : Grown S a b) (hn : n ≤ a.heap.size) (hS : ∀ k, S k → n ≤ k) : Below n a b :=
  ⟨h.os, h.tape, h.output, h.size, fun i hi => h.block i (by omega) (fun hs => by have := hS i hs; omega)⟩
theorem Grown.alloc {S : Nat → Prop} {a b : World} (h : Grown S a b) (o : Obj) : Grown S a (b.alloc o) := h.trans (T := S) (Grown.of_below ((Below.refl _ _).alloc (Nat.le_refl _) o)) (fun _ hx => .inl hx)
theorem Grown.setCell {S : Nat → Prop} {a b : World} (h : Grown S a b) {p : Addr} (hp : S p.block ∨ a.heap.size ≤ p.block) (u : Value) : Grown S a (b.setCell p u) :=
  h.trans (T := fun x => x = p.block) ⟨rfl, rfl, rfl, by simp [World.setCell], fun k _ hk => Below.heap_setCell _ _ _ _ hk⟩ (fun x e => by subst e; exact hp)
theorem Grown.step {S : Nat → Prop} {a b c : World} (h : Grown S a b) (k : Below b.heap.size b c) : Grown S a c := h.trans (T := S) (Grown.of_below k) (fun _ hx => .inl hx)
theorem Grown.drew {S : Nat → Prop} {a b : World} (h : Grown S a b) : Grown S a b.drew := ⟨h.os, h.tape, h.output, h.size, h.block⟩

/-! ### the disk, plainly -/
structure FileS where
  b : List Nat
  mark : Nat
/-- A disk: its files go by their birth. -/
structure DS where
  room : Nat
  births : Nat
  file : Nat → FileS
  names : List (ByteArray × Nat)
  kept : List (ByteArray × Nat)
  works : List (ByteArray × ByteArray × Option Nat)
  dead : Bool
  fails : Int
  keep : List Int

/-- What holds of every disk that is made by its package, as long as no more than 2^30 works are done. -/
structure WF (s : DS) : Prop where
  room : s.room ≤ 16777216
  births : s.births ≤ 1073741824
  names : ∀ p ∈ s.names, 1 ≤ p.2 ∧ p.2 ≤ s.births
  kept : ∀ p ∈ s.kept, 1 ≤ p.2 ∧ p.2 ≤ s.births
  works : ∀ p ∈ s.works, ∀ i, p.2.2 = some i → 1 ≤ i ∧ i ≤ s.births
  count : s.works.length ≤ 1073741824
  bytes : ∀ i, ∀ x ∈ (s.file i).b, x < 256
  len : ∀ i, (s.file i).b.length ≤ 16777216
  mark : ∀ i, (s.file i).mark ≤ (s.file i).b.length
  fails : -1 ≤ s.fails ∧ s.fails ≤ 9223372036854775807
  keepB : ∀ x ∈ s.keep, -9223372036854775808 ≤ x ∧ x ≤ 9223372036854775807
  keepL : s.keep.length ≤ 17592186044416

/-- Where a disk's parts lie. -/
structure Rep where
  bn : Nat
  bk : Nat
  ad : Nat → Nat
  wv : Value
  bv : Nat → Value
  kv : Value

def encI (l : List Int) : List Value := l.map (Value.int .i64)
def encB (l : List Nat) : List Value := l.map fun (x : Nat) => Value.int .u8 (x : Int)
def ptrOf (ad : Nat → Nat) : Option Nat → Value
  | none => .pointer none
  | some i => .pointer (some ⟨ad i, 0, none⟩)
def encW (ad : Nat → Nat) (p : ByteArray × ByteArray × Option Nat) : List Value := [.string p.1, .string p.2.1, ptrOf ad p.2.2]
def at_ (ad : Nat → Nat) (l : List (ByteArray × Nat)) : List (ByteArray × Nat) := l.map fun p => (p.1, ad p.2)

def top (s : DS) (r : Rep) : Obj := .cells #[.int .i64 s.room, .int .i64 s.births, .map (some r.bn), .map (some r.bk), r.wv, .bool s.dead, .int .i64 s.fails, r.kv] 45
def fileAt (i : Nat) (bv : Value) (mark : Nat) : Obj := .cells #[.int .i64 i, bv, .int .i64 mark] 72

/-- The disk s lies at block p; all its blocks are n₀ or beyond. -/
structure Lies (w : World) (p n₀ : Nat) (r : Rep) (s : DS) : Prop where
  top : w.heap[p]? = some (top s r)
  names : MapAt ofText ofBlock w r.bn (at_ r.ad s.names)
  kept : MapAt ofText ofBlock w r.bk (at_ r.ad s.kept)
  works : w.ownsRow n₀ 76 3 r.wv s.works.length (s.works.flatMap (encW r.ad))
  file : ∀ i, 1 ≤ i → i ≤ s.births → w.heap[r.ad i]? = some (fileAt i (r.bv i) (s.file i).mark)
  data : ∀ i, 1 ≤ i → i ≤ s.births → w.ownsRow n₀ 5 1 (r.bv i) (s.file i).b.length (encB (s.file i).b)
  keep : w.ownsRow n₀ 3 1 r.kv s.keep.length (encI s.keep)
  apart : r.bn ≠ r.bk
  adInj : ∀ i j, 1 ≤ i → i ≤ s.births → 1 ≤ j → j ≤ s.births → r.ad i = r.ad j → i = j
  rowInj : ∀ i j, 1 ≤ i → i ≤ s.births → 1 ≤ j → j ≤ s.births → i ≠ j → (r.bv i).ownBlock ≠ none → (r.bv i).ownBlock ≠ (r.bv j).ownBlock
  baseP : n₀ ≤ p
  baseN : n₀ ≤ r.bn
  baseK : n₀ ≤ r.bk
  baseF : ∀ i, 1 ≤ i → i ≤ s.births → n₀ ≤ r.ad i

/-- The blocks that are the disk's own. -/
def foot (p : Nat) (r : Rep) (s : DS) (k : Nat) : Prop :=
  k = p ∨ k = r.bn ∨ k = r.bk ∨ r.wv.ownBlock = some k ∨ ∃ i, 1 ≤ i ∧ i ≤ s.births ∧ (k = r.ad i ∨ (r.bv i).ownBlock = some k)

variable {w w' : World} {p n₀ : Nat} {r : Rep} {s : DS}

theorem row_same {n e size k : Nat} {v : Value} {xs : List Value} (h : w.ownsRow n e size v k xs) (hb : ∀ g, v.ownBlock = some g → w'.heap[g]? = w.heap[g]?) : w'.ownsRow n e size v k xs := by
  refine ⟨h.1, ?_⟩
  rcases h.2 with h2 | ⟨g, cap, cur, rfl, h3, h4, h5⟩
  · exact .inl h2
  · exact .inr ⟨g, cap, cur, rfl, h3, (hb g rfl).trans h4, h5⟩

theorem Lies.foot_lt (h : Lies w p n₀ r s) : ∀ k, foot p r s k → k < w.heap.size ∧ n₀ ≤ k := by
  rintro k (rfl | rfl | rfl | hk | ⟨i, h1, h2, rfl | hk⟩)
  · exact ⟨(Array.getElem?_eq_some_iff.1 h.top).1, h.baseP⟩
  · exact ⟨h.names.lt, h.baseN⟩
  · exact ⟨h.kept.lt, h.baseK⟩
  · exact ⟨(h.works.lt k hk).2, (h.works.lt k hk).1⟩
  · exact ⟨(Array.getElem?_eq_some_iff.1 (h.file i h1 h2)).1, h.baseF i h1 h2⟩
  · exact ⟨((h.data i h1 h2).lt k hk).2, ((h.data i h1 h2).lt k hk).1⟩

/-- .. and what it never writes. -/
def own (p : Nat) (r : Rep) (s : DS) (k : Nat) : Prop := foot p r s k ∨ r.kv.ownBlock = some k
theorem Lies.own_lt (h : Lies w p n₀ r s) : ∀ k, own p r s k → k < w.heap.size ∧ n₀ ≤ k := by
  rintro k (hk | hk)
  · exact h.foot_lt k hk
  · exact ⟨(h.keep.lt k hk).2, (h.keep.lt k hk).1⟩
theorem Lies.same (h : Lies w p n₀ r s) (hb0 : ∀ k, own p r s k → w'.heap[k]? = w.heap[k]?) : Lies w' p n₀ r s :=
  have hb : ∀ k, foot p r s k → w'.heap[k]? = w.heap[k]? := fun k hk => hb0 k (.inl hk)
  {
  top := (hb _ (.inl rfl)).trans h.top
  names := h.names.same (hb _ (.inr (.inl rfl)))
  kept := h.kept.same (hb _ (.inr (.inr (.inl rfl))))
  works := row_same h.works (fun _ hg => hb _ (.inr (.inr (.inr (.inl hg)))))
  file := fun i h1 h2 => (hb _ (.inr (.inr (.inr (.inr ⟨i, h1, h2, .inl rfl⟩))))).trans (h.file i h1 h2)
  data := fun i h1 h2 => row_same (h.data i h1 h2) (fun _ hg => hb _ (.inr (.inr (.inr (.inr ⟨i, h1, h2, .inr hg⟩)))))
  keep := row_same h.keep (fun _ hg => hb0 _ (.inr hg))
  apart := h.apart
  adInj := h.adInj
  rowInj := h.rowInj
  baseP := h.baseP
  baseN := h.baseN
  baseK := h.baseK
  baseF := h.baseF }

theorem Lies.below (h : Lies w p n₀ r s) (hb : Below w.heap.size w w') : Lies w' p n₀ r s := h.same (fun k hk => hb.block k (h.own_lt k hk).1)
theorem Lies.alloc (h : Lies w p n₀ r s) (o : Obj) : Lies (w.alloc o) p n₀ r s := h.below ((Below.refl _ _).alloc (Nat.le_refl _) o)
theorem Lies.drew (h : Lies w p n₀ r s) : Lies w.drew p n₀ r s := h.same (fun _ _ => rfl)

/-- What is said of a disk outside its package: it lies at p, its blocks are F's. -/
def DiskAt (w : World) (p n₀ : Nat) (F : Nat → Prop) (s : DS) : Prop := ∃ r, Lies w p n₀ r s ∧ WF s ∧ F = own p r s

theorem Lies.cells (h : Lies w p n₀ r s) : w.cell? ⟨p, 0, none⟩ = some (.int .i64 s.room) ∧ w.cell? ⟨p, 1, none⟩ = some (.int .i64 s.births) ∧ w.cell? ⟨p, 2, none⟩ = some (.map (some r.bn)) ∧ w.cell? ⟨p, 3, none⟩ = some (.map (some r.bk)) ∧
    w.cell? ⟨p, 4, none⟩ = some r.wv ∧ w.cell? ⟨p, 5, none⟩ = some (.bool s.dead) ∧ w.cell? ⟨p, 6, none⟩ = some (.int .i64 s.fails) ∧ w.cell? ⟨p, 7, none⟩ = some r.kv := by
  simp [World.cell?, h.top, YtmcmagplaflegaaGreat.top]
theorem Lies.free (h : Lies w p n₀ r s) (i : Nat) : w.frozen? ⟨p, i, none⟩ = false := by
  simp [World.frozen?, h.top, YtmcmagplaflegaaGreat.top]
end Go.Proofs.YtmcmagplaflegaaGreat

namespace Go.Proofs.YtmcmagplaflegaaGreat
open Go Go.RowKit Go.MapL

variable {p n₀ : Nat} {r : Rep} {s : DS}

set_option maxRecDepth 100000 in
theorem none_at (w : World) (h : Lies w p n₀ r s) :
    Calls Tryz.prog 49 #[ofBlock p] w fun e w' => e = .returned (.bool false) ∧ w' = w := by
  obtain ⟨c0, c1, c2, c3, c4, c5, c6, c7⟩ := h.cells
  have hq := fun w => run_eql_map_nil (P := Tryz.prog) w 41 9 70 (some r.bn) Tryz.underlying41
  unfold ofBlock
  go_enter Tryz.func49, Tryz.ntmps49
  go_wp2
  go_returns
  exact ⟨rfl, rfl⟩

set_option maxRecDepth 100000 in
theorem away_at (w : World) (h : Lies w p n₀ r s) :
    Calls Tryz.prog 39 #[ofBlock p] w fun e w' => e = .returned (.int .i64 (if s.dead then 51 else 0)) ∧ w' = w := by
  obtain ⟨c0, c1, c2, c3, c4, c5, c6, c7⟩ := h.cells
  have hn := none_at w h
  unfold ofBlock at *
  cases hd : s.dead
  all_goals
    rw [hd] at c5
    go_enter Tryz.func39, Tryz.ntmps39
    go_wp2_with (go_at_call 49; refine hn.mono ?_; rintro e w' ⟨rfl, rfl⟩)
    go_returns
    exact ⟨rfl, rfl⟩

theorem isName_any (x : ByteArray) (w : World) :
    Calls Tryz.prog 50 #[.string x] w fun e w' => e = .returned (.bool (decide (1 ≤ x.size) && decide (x.size ≤ 40))) ∧ w' = w := by
  by_cases h1 : 1 ≤ x.size
  · by_cases h2 : x.size ≤ 40
    · have e1 : decide (1 ≤ x.size) = true := by simpa using h1
      have e2 : decide (x.size ≤ 40) = true := by simpa using h2
      go_enter Tryz.func50, Tryz.ntmps50
      go_wp2
      go_returns
      exact ⟨by simp [e1, e2]; omega, rfl⟩
    · have e1 : decide (1 ≤ x.size) = true := by simpa using h1
      have e2 : decide (x.size ≤ 40) = false := by simpa using h2
      go_enter Tryz.func50, Tryz.ntmps50
      go_wp2
      go_returns
      exact ⟨by simp [e1, e2]; omega, rfl⟩
  · have e1 : decide (1 ≤ x.size) = false := by simpa using h1
    go_enter Tryz.func50, Tryz.ntmps50
    go_wp2
    go_returns
    exact ⟨by simp, rfl⟩
end Go.Proofs.YtmcmagplaflegaaGreat

namespace Go.Proofs.YtmcmagplaflegaaGreat
open Go Go.RowKit Go.MapL

/-- A slice of integers reads as l. -/
def IntsIn (w : World) (v : Value) (l : List Int) : Prop :=
  (∀ x ∈ l, -9223372036854775808 ≤ x ∧ x ≤ 9223372036854775807) ∧ l.length ≤ 9223372036854775807 ∧ ((v = .slice none 0 0 ∧ l = []) ∨ (∃ a cap, v = .slice (some a) 0 cap ∧ l = []) ∨ ∃ b off cap, v = .slice (some ⟨b, off, none⟩) l.length cap ∧ ∀ k, k < l.length → w.cell? ⟨b, off + k, none⟩ = some (.int .i64 (l.getD k 0)))
theorem lt_of_cell {w : World} {b o : Nat} {v : Value} (h : w.cell? ⟨b, o, none⟩ = some v) : b < w.heap.size := by
  simp only [World.cell?, Option.isSome_none, Bool.false_eq_true, if_false] at h
  split at h
  · rename_i hh; exact (Array.getElem?_eq_some_iff.1 hh).1
  · cases h

theorem ret_int {k : IntKind} {a b : Int} (h : a = b) : Ending.returned (.int k a) = Ending.returned (.int k b) := by rw [h]

/-- A number to keep by. -/
def brought (l : List Int) (i most : Nat) : Nat := if i < l.length then (l.getD i 0 % (most + 1)).toNat else 0
theorem brought_le (l : List Int) (i most : Nat) : brought l i most ≤ most := by
  unfold brought
  split
  · have := Int.emod_lt_of_pos (l.getD i 0) (b := (most : Int) + 1) (by omega)
    have := Int.emod_nonneg (l.getD i 0) (b := (most : Int) + 1) (by omega)
    omega
  · omega

set_option maxHeartbeats 2000000 in
set_option maxRecDepth 100000 in
theorem brought_any (v : Value) (l : List Int) (i most : Nat) (_ : i ≤ 4611686018427387904) (hm : most ≤ 4611686018427387904) (w : World) (hl : IntsIn w v l) :
    Calls Tryz.prog 42 #[v, .int .i64 i, .int .i64 most] w fun e w' => e = .returned (.int .i64 (brought l i most)) ∧ w' = w := by
  obtain ⟨hb, hlen, hv⟩ := hl
  by_cases hlt : i < l.length
  · obtain ⟨rfl, rfl⟩ | ⟨a, cap, rfl, rfl⟩ | ⟨b, off, cap, rfl, hc⟩ := hv
    · simp at hlt
    · simp at hlt
    · have hci := hc i hlt
      obtain ⟨x, hx⟩ : ∃ x, l.getD i 0 = x := ⟨_, rfl⟩
      have hxb : -9223372036854775808 ≤ x ∧ x ≤ 9223372036854775807 := by
        rw [← hx, List.getD_eq_getElem?_getD, List.getElem?_eq_getElem hlt]; exact hb _ (List.getElem_mem hlt)
      rw [hx] at hci
      obtain ⟨y, hy⟩ : ∃ y : Nat, brought l i most = y := ⟨_, rfl⟩
      have hyx : Hid ((y : Int) = x % (most + 1)) := by
        show (y : Int) = x % (most + 1)
        rw [← hy, brought, if_pos hlt, hx]
        have := Int.emod_nonneg x (b := (most : Int) + 1) (by omega)
        omega
      rw [hy]
      have h1 : -((most : Int) + 1) < x.tmod (most + 1) := by have := Int.lt_tmod_of_pos x (show (0:Int) < most + 1 by omega); omega
      have h2 : x.tmod (most + 1) < most + 1 := Int.tmod_lt_of_pos x (by omega)
      have g1 : IntKind.i64.wrap ((most : Int) + 1) = (most : Int) + 1 := IntWalk.i64_in _ (by omega)
      have g3 : decide (l.length ≤ i) = false := by simp; omega
      clear hx hy hb hc
      obtain ⟨n, hn⟩ : ∃ n : Int, (most : Int) + 1 = n := ⟨_, rfl⟩
      rw [hn] at h1 h2 hyx
      have hn1 : 1 ≤ n ∧ n ≤ 4611686018427387905 := by omega
      rw [hn] at g1
      have hn0 : ¬ n ≤ 0 := by omega
      have g1' : IntKind.i64.wrap ((most : Int) + 1) = n := by rw [hn]; exact g1
      clear hn
      by_cases hneg : x.tmod n < 0
      · have hr : Hid (x.tmod n + n = x % n) := by
          show x.tmod n + n = x % n
          have e1 := Int.emod_add_mul_ediv x n
          have e2 := Int.tmod_add_mul_tdiv x n
          have e3 : (x.tmod n + n - x % n) = n * (x / n - x.tdiv n + 1) := by rw [Int.mul_add, Int.mul_sub]; omega
          have a1 := Int.emod_nonneg x (show n ≠ 0 by omega)
          have a2 := Int.emod_lt_of_pos x (show 0 < n by omega)
          have h5 : (x / n - x.tdiv n + 1) = 0 := by
            have b1 : n * (x / n - x.tdiv n + 1) < n * 1 := by omega
            have b2 : n * (-1) < n * (x / n - x.tdiv n + 1) := by omega
            have c1 := Int.lt_of_mul_lt_mul_left b1 (by omega)
            have c2 := Int.lt_of_mul_lt_mul_left b2 (by omega)
            omega
          rw [h5] at e3
          omega
        go_enter Tryz.func42, Tryz.ntmps42
        go_wp2
        go_returns
        exact ⟨ret_int (hr.out.trans hyx.out.symm), rfl⟩
      · have hr : Hid (x.tmod n = x % n) := by
          show x.tmod n = x % n
          have e1 := Int.emod_add_mul_ediv x n
          have e2 := Int.tmod_add_mul_tdiv x n
          have e3 : (x.tmod n - x % n) = n * (x / n - x.tdiv n) := by rw [Int.mul_sub]; omega
          have a1 := Int.emod_nonneg x (show n ≠ 0 by omega)
          have a2 := Int.emod_lt_of_pos x (show 0 < n by omega)
          have h5 : (x / n - x.tdiv n) = 0 := by
            have b1 : n * (x / n - x.tdiv n) < n * 1 := by omega
            have b2 : n * (-1) < n * (x / n - x.tdiv n) := by omega
            have c1 := Int.lt_of_mul_lt_mul_left b1 (by omega)
            have c2 := Int.lt_of_mul_lt_mul_left b2 (by omega)
            omega
          rw [h5] at e3
          omega
        go_enter Tryz.func42, Tryz.ntmps42
        go_wp2
        go_returns
        exact ⟨ret_int (hr.out.trans hyx.out.symm), rfl⟩
  · have hy : brought l i most = 0 := by rw [brought, if_neg hlt]
    rw [hy]
    have g3 : decide (l.length ≤ i) = true := by simp; omega
    obtain ⟨rfl, rfl⟩ | ⟨a, cap, rfl, rfl⟩ | ⟨b, off, cap, rfl, hc⟩ := hv
    all_goals
      go_enter Tryz.func42, Tryz.ntmps42
      go_wp2
      go_returns
      exact ⟨rfl, rfl⟩

set_option maxHeartbeats 2000000 in
set_option maxRecDepth 100000 in
theorem clone_any (b : Nat) (l : List (ByteArray × Nat)) (w : World) (h : MapAt ofText ofBlock w b l) :
    Calls Tryz.prog 41 #[.map (some b)] w fun e w' => e = .returned (.map (some w.heap.size)) ∧ MapAt ofText ofBlock w' w.heap.size l ∧ w'.heap.size = w.heap.size + 1 ∧ Below w.heap.size w w' := by
  obtain ⟨es, clock, hb, h1, h2, h3⟩ := h
  have hq := fun w => run_eql_map_nil (P := Tryz.prog) w 41 9 70 (some b) Tryz.underlying41
  go_enter Tryz.func41, Tryz.ntmps41
  go_wp2
  rw [run_callFunc_extern Tryz.func91 (by kernel_rfl) (by kernel_rfl) (by kernel_rfl) (e := Extern.MapsClone.clone) (by kernel_rfl), run_maps_clone_sl w 41 hb]
  simp only [Result.andThen]
  rw [Oper.upon_value]
  go_wp2
  rw [run_typeAssert_map_sl _ 41 20 _ _ _ Tryz.underlying41]
  simp only [Result.andThen]
  rw [Oper.upon_value]
  go_wp2
  go_returns
  exact ⟨rfl, ⟨es, clock, (MapKept.heap_alloc w _).1, h1, h2, h3⟩, by simp, (Below.refl _ w).alloc (Nat.le_refl _) _⟩
end Go.Proofs.YtmcmagplaflegaaGreat

namespace Go
section
variable {P : Program} (w : World)
theorem run_append_where (base : Nat) (t ty e : TypeId) (i : TypeInfo) (z : Value) (size bytes : Nat) (ht : P.underlying t = some (.slice e)) (hi : P.info? e = some i) (hz : i.zero = some z)
    (hsize : i.size = size) (hby : i.bytes = bytes) (hzs : z.cells.size = size) (hsz : 0 < size)
    (v : Value) (n : Nat) (xs : List Value) (hown : w.ownsRow base e size v n xs)
    (a : Addr) (m c : Nat) (news : List Value) (hl : news.length = m * size) (hnews : ∀ j u, news[j]? = some u → w.cell? (a.add j) = some u) (h1 : ∀ u ∈ news, u.oneCell' = true)
    (h63 : n + m ≤ maxLen) (hbytes : (n + m) * bytes ≤ 140737488355328) (hbase : base ≤ w.heap.size) :
    ∃ v' w', (Builtin.append_ #[t, t] ty #[v, .slice (some a) m c]).run P w = .ok v' w' ∧ w'.ownsRow base e size v' (n + m) (xs ++ news) ∧ w.grownBy w' v.ownBlock ∧
      ∀ k, v'.ownBlock = some k → v.ownBlock = some k ∨ w.heap.size ≤ k := by
  obtain ⟨v', w', hr, h2, h3, _⟩ := run_append_own (P := P) w base t ty e i z size bytes ht hi hz hsize hby hzs hsz v n xs hown a m c news hl hnews h1 h63 hbytes hbase
  refine ⟨v', w', hr, h2, h3, ?_⟩
  subst hsize
  subst hby
  have hsmall : n + m ≤ 9223372036854775807 := by simp only [maxLen] at h63; omega
  rcases hown.2 with ⟨rfl, rfl⟩ | ⟨g, cap, cur, rfl, hbg, hg, hnc, hcm, hcs, htake⟩
  · have hx : xs = [] := List.eq_nil_of_length_eq_zero (by simpa using hown.1)
    subst hx
    obtain ⟨v'', w'', hr', h2', _⟩ := run_append_own (P := P) w w.heap.size t ty e i z i.size i.bytes ht hi hz rfl rfl hzs hsz (.slice none 0 0) 0 [] (World.ownsRow_nil _ _ _ _) a m c news hl hnews h1 h63 hbytes (Nat.le_refl _)
    rw [hr] at hr'
    cases hr'
    intro k hk
    exact .inr (h2'.lt k hk).1
  · by_cases hroom : n + m ≤ cap
    · have hfit : n * i.size + news.length ≤ cur.size := by rw [hl, hcs, ← Nat.add_mul]; exact Nat.mul_le_mul_right _ hroom
      have hr' := run_append_room (P := P) w t ty e i ht hi g n cap cur hg a m c news hl hnews h1 hroom hfit
      rw [hr] at hr'
      cases hr'
      intro k hk
      exact .inl hk
    · have holds : ∀ j u, xs[j]? = some u → w.cell? ((⟨g, 0, none⟩ : Addr).add j) = some u := hown.cells (g := g) rfl
      have hr' := run_append_grow (P := P) w t ty e i z ht hi hz ⟨g, 0, none⟩ n cap xs hown.1 holds a m c news hl hnews (by omega) (by omega) (growslice_fits (by omega) hbytes)
      rw [hr] at hr'
      cases hr'
      intro k hk
      simp [Value.ownBlock] at hk
      exact .inr (by omega)
end
end Go

namespace Go.Proofs.YtmcmagplaflegaaGreat
open Go Go.RowKit Go.MapL

/-- A slice of bytes reads as l. -/
def BytesIn (w : World) (v : Value) (l : List Nat) : Prop :=
  (∀ x ∈ l, x < 256) ∧ l.length ≤ 9223372036854775807 ∧ ((v = .slice none 0 0 ∧ l = []) ∨ (∃ a cap, v = .slice (some a) 0 cap ∧ l = []) ∨ ∃ b off cap, v = .slice (some ⟨b, off, none⟩) l.length cap ∧ ∀ k, k < l.length → w.cell? ⟨b, off + k, none⟩ = some (.int .u8 (l.getD k 0 : Nat)))

theorem BytesIn.below {w w' : World} {v : Value} {l : List Nat} (h : BytesIn w v l) (hb : Below w.heap.size w w') : BytesIn w' v l := by
  obtain ⟨h1, h2, h3⟩ := h
  refine ⟨h1, h2, ?_⟩
  rcases h3 with h3 | h3 | ⟨b, off, cap, rfl, hc⟩
  · exact .inl h3
  · exact .inr (.inl h3)
  · exact .inr (.inr ⟨b, off, cap, rfl, fun k hk => (hb.cell (p := ⟨b, off + k, none⟩) (lt_of_cell (hc k hk))).trans (hc k hk)⟩)

theorem encB_len (l : List Nat) : (encB l).length = l.length := by simp [encB]
theorem encB_append (l m : List Nat) : encB (l ++ m) = encB l ++ encB m := by simp [encB]
theorem encB_get (l : List Nat) (k : Nat) (hk : k < l.length) : (encB l)[k]? = some (.int .u8 (l.getD k 0 : Nat)) := by
  rw [encB, List.getElem?_map, List.getD_eq_getElem?_getD]; simp [hk]

theorem bytesIn_of_own {W : World} {n : Nat} {v : Value} {l : List Nat} (h : W.ownsRow n 5 1 v l.length (encB l)) (hb : ∀ x ∈ l, x < 256) (hl : l.length ≤ 9223372036854775807) : BytesIn W v l := by
  refine ⟨hb, hl, ?_⟩
  rcases h.2 with ⟨rfl, h0⟩ | ⟨g, cap, cur, rfl, _, hg, hc, _, hsz, ht⟩
  · exact .inl ⟨rfl, List.length_eq_zero_iff.1 h0⟩
  · refine .inr (.inr ⟨g, 0, cap, rfl, fun k hk => ?_⟩)
    rw [Nat.zero_add]
    simp only [World.cell?, hg, Option.isSome_none, Bool.false_eq_true, if_false]
    have h1 : cur[k]? = (cur.toList.take (l.length * 1))[k]? := by
      rw [List.getElem?_take, if_pos (by omega)]; simp
    rw [h1, ht]
    exact encB_get l k hk

/-- A slice that was cut at its end reads as the beginning. -/
theorem BytesIn.take {w : World} {v : Value} {l : List Nat} (h : BytesIn w v l) (n : Nat) (hn : n ≤ l.length) : ∃ p len cap, v = .slice p len cap ∧ BytesIn w (.slice p n cap) (l.take n) ∧ BytesIn w (.slice p n n) (l.take n) := by
  obtain ⟨h1, h2, h3⟩ := h
  have hb : ∀ x ∈ l.take n, x < 256 := fun x hx => h1 x (List.mem_of_mem_take hx)
  have hl : (l.take n).length = n := by simp; omega
  rcases h3 with ⟨rfl, rfl⟩ | ⟨a, cap, rfl, rfl⟩ | ⟨b, off, cap, rfl, hc⟩
  · obtain rfl : n = 0 := by simpa using hn
    exact ⟨_, _, _, rfl, ⟨hb, by simp, .inl ⟨rfl, by simp⟩⟩, ⟨hb, by simp, .inl ⟨rfl, by simp⟩⟩⟩
  · obtain rfl : n = 0 := by simpa using hn
    exact ⟨_, _, _, rfl, ⟨hb, by simp, .inr (.inl ⟨_, _, rfl, by simp⟩)⟩, ⟨hb, by simp, .inr (.inl ⟨_, _, rfl, by simp⟩)⟩⟩
  · have hc' : ∀ k, k < (l.take n).length → w.cell? ⟨b, off + k, none⟩ = some (.int .u8 ((l.take n).getD k 0 : Nat)) := by
      intro k hk
      rw [hl] at hk
      rw [hc k (by omega), List.getD_eq_getElem?_getD, List.getD_eq_getElem?_getD, List.getElem?_take, if_pos hk]
    exact ⟨_, _, _, rfl, ⟨hb, by omega, .inr (.inr ⟨b, off, cap, by rw [hl], hc'⟩)⟩, ⟨hb, by omega, .inr (.inr ⟨b, off, n, by rw [hl], hc'⟩)⟩⟩

theorem info5 : (Tryz.prog.info? 5).map (fun i => (i.zero, i.size, i.bytes)) = some (some (.int .u8 0), 1, 1) := by kernel_rfl

/-- 'append(s, x...)' of bytes, s the call's own. -/
theorem run_append_bytes (w : World) (base ty : Nat) (v u : Value) (l m : List Nat) (hown : w.ownsRow base 5 1 v l.length (encB l)) (hu : BytesIn w u m) (hlen : l.length + m.length ≤ 140737488355328) (hbase : base ≤ w.heap.size) :
    ∃ v' w', (Builtin.append_ #[23, 23] ty #[v, u]).run Tryz.prog w = .ok v' w' ∧ w'.ownsRow base 5 1 v' (l ++ m).length (encB (l ++ m)) ∧ w.grownBy w' v.ownBlock ∧ ∀ k, v'.ownBlock = some k → v.ownBlock = some k ∨ w.heap.size ≤ k := by
  obtain ⟨i0, hi, hz0, hz1, hz2⟩ := info_parts info5
  have key : ∀ (ad : Addr) (c : Nat) (hc : ∀ j x, (encB m)[j]? = some x → w.cell? (ad.add j) = some x), u = .slice (some ad) m.length c →
      ∃ v' w', (Builtin.append_ #[23, 23] ty #[v, u]).run Tryz.prog w = .ok v' w' ∧ w'.ownsRow base 5 1 v' (l ++ m).length (encB (l ++ m)) ∧ w.grownBy w' v.ownBlock ∧ ∀ k, v'.ownBlock = some k → v.ownBlock = some k ∨ w.heap.size ≤ k := by
    rintro ad c hc rfl
    obtain ⟨v', w', h1, h2, h3, h4⟩ := run_append_where (P := Tryz.prog) w base 23 ty 5 i0 (.int .u8 0) 1 1 Tryz.underlying23 hi hz0 hz1 hz2 rfl (by decide) v l.length (encB l) hown ad m.length c (encB m) (by simp [encB_len]) hc
      (by intro x hx; obtain ⟨y, _, rfl⟩ := List.mem_map.1 hx; rfl) (by unfold maxLen; omega) (by omega) hbase
    exact ⟨v', w', h1, by rw [List.length_append, encB_append]; exact h2, h3, h4⟩
  rcases hu.2.2 with ⟨rfl, rfl⟩ | ⟨a, cap, rfl, rfl⟩ | ⟨b, off, cap, rfl, hc⟩
  · refine ⟨v, w, ?_, by simpa using hown, ⟨rfl, rfl, rfl, Nat.le_refl _, fun _ _ _ => rfl⟩, fun k hk => .inl hk⟩
    rcases hown.2 with ⟨rfl, h0⟩ | ⟨g, cap, cur, rfl, _, hg, hcc, _, hsz, ht⟩
    · simp [Builtin.append_, run_underlying Tryz.underlying23, sizeOf, typeInfo, hi, Builtin.lenOf, Builtin.firstCells]
    · simp [Builtin.append_, run_underlying Tryz.underlying23, sizeOf, typeInfo, hi, Builtin.lenOf, Builtin.firstCells, hcc, storeCells]
  · exact key a cap (by intro j x hx; simp [encB] at hx) (by simp)
  · refine key ⟨b, off, none⟩ cap ?_ rfl
    intro j x hx
    have hj : j < m.length := by
      have := (List.getElem?_eq_some_iff.1 hx).1
      simpa [encB_len] using this
    rw [encB_get m j hj] at hx
    cases hx
    rw [Addr.add_lit]
    exact hc j hj

theorem wpList_append_bytes (w : World) {ops : Array Oper} {rest : List Oper} {o : Oper} {a : Act} {Q : Exit → Act → World → Prop} (hgd : o.guard = none) (s x : Operand)
    (ho : o.op = .call { callee := .builtin .append, args := #[s, x], argTypes := #[23, 23] }) (base : Nat) (v u : Value) (l m : List Nat) (hs : a.eval s = v) (hx : a.eval x = u) (hown : w.ownsRow base 5 1 v l.length (encB l)) (hu : BytesIn w u m) (hlen : l.length + m.length ≤ 140737488355328) (hbase : base ≤ w.heap.size)
    (h : ∀ v' w', w'.ownsRow base 5 1 v' (l ++ m).length (encB (l ++ m)) → w.grownBy w' v.ownBlock → (∀ k, v'.ownBlock = some k → v.ownBlock = some k ∨ w.heap.size ≤ k) → wpList Tryz.prog ops Q rest (a.put o.dst v') w') : wpList Tryz.prog ops Q (o :: rest) a w := by
  refine wpList_plain hgd fun K hK => ?_
  obtain ⟨v', w', hr, h2, h3, h4⟩ := run_append_bytes w base o.type v u l m hown hu hlen hbase
  unfold Oper.wp execOp
  simp only [ho, resolve, invoke, builtin, Sem.run_bind, Sem.run_pure, Result.andThen_ok, List.map_toArray, List.map_cons, List.map_nil, hs, hx, hr]
  exact hK _ _ (h v' w' h2 h3 h4)

set_option maxHeartbeats 2000000 in
set_option maxRecDepth 100000 in
theorem cloneB_any (v : Value) (l : List Nat) (w : World) (hl : BytesIn w v l) (hlen : l.length ≤ 140737488355328) :
    Calls Tryz.prog 40 #[v] w fun e w' => ∃ v', e = .returned v' ∧ w'.ownsRow w.heap.size 5 1 v' l.length (encB l) ∧ Below w.heap.size w w' := by
  obtain ⟨p, len, cap, rfl⟩ : ∃ p len cap, v = .slice p len cap := by
    rcases hl.2.2 with ⟨rfl, _⟩ | ⟨a, cap, rfl, _⟩ | ⟨b, off, cap, rfl, _⟩ <;> exact ⟨_, _, _, rfl⟩
  cases p with
  | none =>
    have h0 : l = [] := by
      rcases hl.2.2 with ⟨_, h⟩ | ⟨a, cap, h, _⟩ | ⟨b, off, cap, h, _⟩
      · exact h
      · cases h
      · cases h
    subst h0
    have hq := fun w => Go.Lib.run_eql_slice_nil (P := Tryz.prog) w 23 5 none len cap 0 0 Tryz.underlying23
    go_enter Tryz.func40, Tryz.ntmps40
    go_wp2
    go_returns
    exact ⟨_, rfl, World.ownsRow_nil _ _ _ _, Below.refl _ _⟩
  | some a =>
    have hl1 := hl.below ((Below.refl _ w).alloc (Nat.le_refl _) (.cells #[] 5))
    have hown : (w.alloc (.cells #[] 5)).ownsRow w.heap.size 5 1 (.slice (some ⟨w.heap.size, 0, none⟩) 0 0) ([] : List Nat).length (encB []) :=
      World.ownsRow_made w #[] 0 (Nat.le_refl _) (by unfold maxLen; omega) rfl
    have hq := fun w => Go.Lib.run_eql_slice_nil (P := Tryz.prog) w 23 5 (some a) len cap 0 0 Tryz.underlying23
    go_enter Tryz.func40, Tryz.ntmps40
    go_wp2_with (at_builtin; refine wpList_append_bytes _ rfl _ _ rfl w.heap.size (.slice (some ⟨w.heap.size, 0, none⟩) 0 0) (.slice (some a) len cap) [] l rfl rfl hown hl1 (by simpa using hlen) (by simp) ?_; intro v' w1 hown' hgrow hwhere)
    go_returns
    exact ⟨_, rfl, by simpa using hown', ((Below.refl _ w).alloc (Nat.le_refl _) _).grown hgrow (by simp) (by intro k hk; simp [Value.ownBlock] at hk; omega)⟩
end Go.Proofs.YtmcmagplaflegaaGreat

namespace Go.Proofs.YtmcmagplaflegaaGreat
open Go Go.RowKit Go.MapL

theorem info3 : (Tryz.prog.info? 3).map (fun i => (i.zero, i.size, i.bytes)) = some (some (.int .i64 0), 1, 8) := by kernel_rfl
theorem encI_len (l : List Int) : (encI l).length = l.length := by simp [encI]
theorem encI_append (l m : List Int) : encI (l ++ m) = encI l ++ encI m := by simp [encI]
theorem encI_get (l : List Int) (k : Nat) (hk : k < l.length) : (encI l)[k]? = some (.int .i64 (l.getD k 0)) := by
  simp [encI, List.getElem?_map, List.getElem?_eq_getElem hk, List.getD_eq_getElem?_getD]
theorem IntsIn.below {w w' : World} {v : Value} {l : List Int} (h : IntsIn w v l) (hb : Below w.heap.size w w') : IntsIn w' v l := by
  obtain ⟨h1, h2, h3⟩ := h
  refine ⟨h1, h2, ?_⟩
  rcases h3 with h3 | h3 | ⟨b, off, cap, rfl, hc⟩
  · exact .inl h3
  · exact .inr (.inl h3)
  · exact .inr (.inr ⟨b, off, cap, rfl, fun k hk => (hb.cell (p := ⟨b, off + k, none⟩) (lt_of_cell (hc k hk))).trans (hc k hk)⟩)
theorem run_append_ints (w : World) (base ty : Nat) (v u : Value) (l m : List Int) (hown : w.ownsRow base 3 1 v l.length (encI l)) (hu : IntsIn w u m) (hlen : l.length + m.length ≤ 17592186044416) (hbase : base ≤ w.heap.size) :
    ∃ v' w', (Builtin.append_ #[43, 43] ty #[v, u]).run Tryz.prog w = .ok v' w' ∧ w'.ownsRow base 3 1 v' (l ++ m).length (encI (l ++ m)) ∧ w.grownBy w' v.ownBlock ∧ ∀ k, v'.ownBlock = some k → v.ownBlock = some k ∨ w.heap.size ≤ k := by
  obtain ⟨i0, hi, hz0, hz1, hz2⟩ := info_parts info3
  have key : ∀ (ad : Addr) (c : Nat) (hc : ∀ j x, (encI m)[j]? = some x → w.cell? (ad.add j) = some x), u = .slice (some ad) m.length c →
      ∃ v' w', (Builtin.append_ #[43, 43] ty #[v, u]).run Tryz.prog w = .ok v' w' ∧ w'.ownsRow base 3 1 v' (l ++ m).length (encI (l ++ m)) ∧ w.grownBy w' v.ownBlock ∧ ∀ k, v'.ownBlock = some k → v.ownBlock = some k ∨ w.heap.size ≤ k := by
    rintro ad c hc rfl
    obtain ⟨v', w', h1, h2, h3, h4⟩ := run_append_where (P := Tryz.prog) w base 43 ty 3 i0 (.int .i64 0) 1 8 Tryz.underlying43 hi hz0 hz1 hz2 rfl (by decide) v l.length (encI l) hown ad m.length c (encI m) (by simp [encI_len]) hc
      (by intro x hx; obtain ⟨y, _, rfl⟩ := List.mem_map.1 hx; rfl) (by unfold maxLen; omega) (by omega) hbase
    exact ⟨v', w', h1, by rw [List.length_append, encI_append]; exact h2, h3, h4⟩
  rcases hu.2.2 with ⟨rfl, rfl⟩ | ⟨a, cap, rfl, rfl⟩ | ⟨b, off, cap, rfl, hc⟩
  · refine ⟨v, w, ?_, by simpa using hown, ⟨rfl, rfl, rfl, Nat.le_refl _, fun _ _ _ => rfl⟩, fun k hk => .inl hk⟩
    rcases hown.2 with ⟨rfl, h0⟩ | ⟨g, cap, cur, rfl, _, hg, hcc, _, hsz, ht⟩
    · simp [Builtin.append_, run_underlying Tryz.underlying43, sizeOf, typeInfo, hi, Builtin.lenOf, Builtin.firstCells]
    · simp [Builtin.append_, run_underlying Tryz.underlying43, sizeOf, typeInfo, hi, Builtin.lenOf, Builtin.firstCells, hcc, storeCells]
  · exact key a cap (by intro j x hx; simp [encI] at hx) (by simp)
  · refine key ⟨b, off, none⟩ cap ?_ rfl
    intro j x hx
    have hj : j < m.length := by
      have := (List.getElem?_eq_some_iff.1 hx).1
      simpa [encI_len] using this
    rw [encI_get m j hj] at hx
    cases hx
    rw [Addr.add_lit]
    exact hc j hj

theorem wpList_append_ints (w : World) {ops : Array Oper} {rest : List Oper} {o : Oper} {a : Act} {Q : Exit → Act → World → Prop} (hgd : o.guard = none) (s x : Operand)
    (ho : o.op = .call { callee := .builtin .append, args := #[s, x], argTypes := #[43, 43] }) (base : Nat) (v u : Value) (l m : List Int) (hs : a.eval s = v) (hx : a.eval x = u) (hown : w.ownsRow base 3 1 v l.length (encI l)) (hu : IntsIn w u m) (hlen : l.length + m.length ≤ 17592186044416) (hbase : base ≤ w.heap.size)
    (h : ∀ v' w', w'.ownsRow base 3 1 v' (l ++ m).length (encI (l ++ m)) → w.grownBy w' v.ownBlock → (∀ k, v'.ownBlock = some k → v.ownBlock = some k ∨ w.heap.size ≤ k) → wpList Tryz.prog ops Q rest (a.put o.dst v') w') : wpList Tryz.prog ops Q (o :: rest) a w := by
  refine wpList_plain hgd fun K hK => ?_
  obtain ⟨v', w', hr, h2, h3, h4⟩ := run_append_ints w base o.type v u l m hown hu hlen hbase
  unfold Oper.wp execOp
  simp only [ho, resolve, invoke, builtin, Sem.run_bind, Sem.run_pure, Result.andThen_ok, List.map_toArray, List.map_cons, List.map_nil, hs, hx, hr]
  exact hK _ _ (h v' w' h2 h3 h4)

set_option maxHeartbeats 2000000 in
set_option maxRecDepth 100000 in
theorem cloneI_any (v : Value) (l : List Int) (w : World) (hl : IntsIn w v l) (hlen : l.length ≤ 17592186044416) :
    Calls Tryz.prog 48 #[v] w fun e w' => ∃ v', e = .returned v' ∧ w'.ownsRow w.heap.size 3 1 v' l.length (encI l) ∧ Below w.heap.size w w' := by
  obtain ⟨p, len, cap, rfl⟩ : ∃ p len cap, v = .slice p len cap := by
    rcases hl.2.2 with ⟨rfl, _⟩ | ⟨a, cap, rfl, _⟩ | ⟨b, off, cap, rfl, _⟩ <;> exact ⟨_, _, _, rfl⟩
  cases p with
  | none =>
    have h0 : l = [] := by
      rcases hl.2.2 with ⟨_, h⟩ | ⟨a, cap, h, _⟩ | ⟨b, off, cap, h, _⟩
      · exact h
      · cases h
      · cases h
    subst h0
    have hq := fun w => Go.Lib.run_eql_slice_nil (P := Tryz.prog) w 43 3 none len cap 0 0 Tryz.underlying43
    go_enter Tryz.func48, Tryz.ntmps48
    go_wp2
    go_returns
    exact ⟨_, rfl, World.ownsRow_nil _ _ _ _, Below.refl _ _⟩
  | some a =>
    have hl1 := hl.below ((Below.refl _ w).alloc (Nat.le_refl _) (.cells #[] 3))
    have hown : (w.alloc (.cells #[] 3)).ownsRow w.heap.size 3 1 (.slice (some ⟨w.heap.size, 0, none⟩) 0 0) ([] : List Int).length (encI []) :=
      World.ownsRow_made w #[] 0 (Nat.le_refl _) (by unfold maxLen; omega) rfl
    have hq := fun w => Go.Lib.run_eql_slice_nil (P := Tryz.prog) w 43 3 (some a) len cap 0 0 Tryz.underlying43
    go_enter Tryz.func48, Tryz.ntmps48
    go_wp2_with (at_builtin; refine wpList_append_ints _ rfl _ _ rfl w.heap.size (.slice (some ⟨w.heap.size, 0, none⟩) 0 0) (.slice (some a) len cap) [] l rfl rfl hown hl1 (by simpa using hlen) (by simp) ?_; intro v' w1 hown' hgrow hwhere)
    go_returns
    exact ⟨_, rfl, by simpa using hown', ((Below.refl _ w).alloc (Nat.le_refl _) _).grown hgrow (by simp) (by intro k hk; simp [Value.ownBlock] at hk; omega)⟩
end Go.Proofs.YtmcmagplaflegaaGreat

namespace Go.Proofs.YtmcmagplaflegaaGreat
open Go Go.RowKit Go.MapL Go.Poised

/-- What a work does to names. -/
def step {β : Type} (a b : ByteArray) (f : Option β) (l : List (ByteArray × β)) : List (ByteArray × β) :=
  match f with
  | none => del a l
  | some i => put b i (del a l)

theorem cells3 {w : World} {B : Nat} {x y z : Value} {t : TypeId} (h : w.heap[B]? = some (.cells #[x, y, z] t)) : w.cell? ⟨B, 0, none⟩ = some x ∧ w.cell? ⟨B, 1, none⟩ = some y ∧ w.cell? ⟨B, 2, none⟩ = some z := by
  simp [World.cell?, h]
theorem free_of {w : World} {B : Nat} {cs : Array Value} {t : TypeId} (h : w.heap[B]? = some (.cells cs t)) (i : Nat) : w.frozen? ⟨B, i, none⟩ = false := by simp [World.frozen?, h]
theorem heap_new (w : World) (o : Obj) : (w.alloc o).heap[w.heap.size]? = some o := by show (w.heap.push o)[w.heap.size]? = _; simp

set_option maxHeartbeats 2000000 in
set_option maxRecDepth 100000 in
theorem does_any (a b : ByteArray) (f : Option Nat) (bn : Nat) (l : List (ByteArray × Nat)) (w : World) (h : MapAt ofText ofBlock w bn l) :
    Calls Tryz.prog 43 #[.agg #[.string a, .string b, ptrOf id f], .map (some bn)] w fun e w' => e = .returned (.tuple #[]) ∧ MapAt ofText ofBlock w' bn (step a b f l) ∧ Grown (fun k => k = bn) w w' := by
  have hlt := h.lt
  have h1 := h.alloc (.cells #[.string a, .string b, ptrOf id f] 76)
  cases f with
  | none =>
    unfold ptrOf at *
    go_enter Tryz.func43, Tryz.ntmps43
    go_wp2_with (at_delete; refine wpList_delete_map _ rfl _ _ 41 9 rfl 70 Tryz.underlying41 (finds_text Tryz.underlying9 _) bn l rfl h1 a rfl trivial (fun _ _ => trivial) ?_; intro w1 hm1 hg1 hs1; obtain ⟨c0, c1, c2⟩ := cells3 ((hg1.block w.heap.size (by simp) (by simp; omega)).trans (heap_new w _)))
    go_returns
    exact ⟨rfl, hm1, (Grown.refl _ _).alloc _ |>.trans (Grown.of_grownBy hg1 (S := fun k => k = bn) (by intro k hk; simp at hk; exact .inl hk.symm)) (fun _ hx => .inl hx)⟩
  | some i =>
    unfold ptrOf at *
    go_enter Tryz.func43, Tryz.ntmps43
    go_wp2_with (first | (at_delete; refine wpList_delete_map _ rfl _ _ 41 9 rfl 70 Tryz.underlying41 (finds_text Tryz.underlying9 _) bn l rfl h1 a rfl trivial (fun _ _ => trivial) ?_; intro w1 hm1 hg1 hs1; obtain ⟨c0, c1, c2⟩ := cells3 ((hg1.block w.heap.size (by simp) (by simp; omega)).trans (heap_new w _))) | (at_mapUpdate; refine wpList_update_map _ rfl _ _ _ 41 rfl 9 70 Tryz.underlying41 (finds_text Tryz.underlying9 _) bn _ rfl hm1 b i rfl rfl trivial (fun _ _ => trivial) ?_; intro w2 hm2 hg2 hs2))
    go_returns
    exact ⟨rfl, hm2, ((Grown.refl _ _).alloc _ |>.trans (Grown.of_grownBy hg1 (S := fun k => k = bn) (by intro k hk; simp at hk; exact .inl hk.symm)) (fun _ hx => .inl hx)).trans (Grown.of_grownBy hg2 (S := fun k => k = bn) (by intro k hk; simp at hk; exact .inl hk.symm)) (fun _ hx => .inl hx)⟩
end Go.Proofs.YtmcmagplaflegaaGreat
