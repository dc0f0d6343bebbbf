/-
  A REGION THAT DRAWS ITS ORDER, WALKED ONCE IN THE ORDER OF THE TEXT, WHERE OPERATIONS MAY ALSO MAKE MEMORY: each operation leaves either one known value, or some value of which a lasting fact of the world is known (a fresh block, say). Conditions: those of each theorem.
-/
import Derived.Still
import Derived.Below
import Derived.Tactics
namespace Go.Poised
open Go

/-- What is known of the operations that have come up: by number, a fact of the world. -/
abbrev Facts := Nat → World → Prop
def Facts.none : Facts := fun _ _ => True
def Facts.put (i : Nat) (F : World → Prop) (fs : Facts) : Facts := fun k => if k = i then F else fs k

theorem Facts.put_comm {i j : Nat} (h : i ≠ j) (F G : World → Prop) (fs : Facts) : Facts.put i F (Facts.put j G fs) = Facts.put j G (Facts.put i F fs) := by
  funext k
  simp only [Facts.put]
  by_cases h1 : k = i
  · subst h1; simp [h]
  · by_cases h2 : k = j
    · have : ¬ j = i := fun e => h e.symm
      simp [h2, this]
    · simp [h1, h2]

/-- What an operation leaves: a value that meets 'dom', and of it, in the world, 'V', which lasts. -/
structure Leaves (C : World → Prop) (R : World → World → Prop) where
  dom : Value → Prop
  V : Value → World → Prop
  one : Value
  ok : dom one
  lasts : ∀ v w w', C w → R w w' → V v w → V v w'

def Leaves.det {C : World → Prop} {R : World → World → Prop} (u : Value) : Leaves C R := ⟨fun v => v = u, fun _ _ => True, u, rfl, fun _ _ _ _ _ _ => trivial⟩
def Leaves.free {C : World → Prop} {R : World → World → Prop} (V : Value → World → Prop) (h : ∀ v w w', C w → R w w' → V v w → V v w') : Leaves C R := ⟨fun _ => True, V, undef, trivial, h⟩

section
variable {P : Program} {ops : Array Oper} {md : Region.Mode} {C : World → Prop} {R : World → World → Prop}

/-- Does an operation wait for number k? -/
def waits (md : Region.Mode) (o : Oper) (k : Nat) : Bool := o.after.any fun e => Region.binds md e && e.on == k

/-- The facts that an operation may lean on. -/
def seen (md : Region.Mode) (fs : Facts) (o : Oper) (w : World) : Prop := ∀ k, waits md o k = true → fs k w

theorem seen_put {fs : Facts} {o : Oper} {i : Nat} {F : World → Prop} (h : waits md o i = false) : seen md (Facts.put i F fs) o = seen md fs o := by
  funext w
  simp only [seen, Facts.put]
  apply propext
  constructor
  · intro hh k hk
    have hki : k ≠ i := fun e => by subst e; rw [h] at hk; cases hk
    simpa [hki] using hh k hk
  · intro hh k hk
    have hki : k ≠ i := fun e => by subst e; rw [h] at hk; cases hk
    simpa [hki] using hh k hk

def upon (P : Program) (R : World → World → Prop) (w : World) (D : Value → World → Prop) : Result Next → Prop
  | .ok (.value u) w' => R w w' ∧ D u w'
  | .ok .skip w' => R w w' ∧ D undef w'
  | .ok (.enter f args) w' => Calls P f args w' fun e w'' => ∃ v, e = .returned v ∧ R w w'' ∧ D v w''
  | _ => False

/-- In state a, in every world of the class C: the operation goes through, the world moves by R, and what it leaves meets D. -/
def poised (P : Program) (R : World → World → Prop) (o : Oper) (a : Act) (C : World → Prop) (D : Value → World → Prop) : Prop := ∀ w, C w → upon P R w D ((execOp a.eval o).run P w)

def pOp (P : Program) (md : Region.Mode) (ops : Array Oper) (C : World → Prop) (R : World → World → Prop) (o : Oper) (i : Nat) (s : Leaves C R) (fs : Facts) (K : Facts → Act → Prop) (a : Act) : Prop :=
  if Region.wanted o (yielded ops a.tmps) then
    poised P R o a (fun w => C w ∧ seen md fs o w) (fun v w' => s.dom v ∧ s.V v w') ∧ ∀ v, s.dom v → K (Facts.put i (s.V v) fs) (a.put o.dst v)
  else K fs (a.put o.dst undef)

theorem pOp_mono {o : Oper} {i : Nat} {s : Leaves C R} {fs : Facts} {K K' : Facts → Act → Prop} {a : Act} (h : ∀ fs a, K fs a → K' fs a) (hh : pOp P md ops C R o i s fs K a) : pOp P md ops C R o i s fs K' a := by
  unfold pOp at *
  split
  · rename_i hw; simp only [hw, if_true] at hh; exact ⟨hh.1, fun v hv => h _ _ (hh.2 v hv)⟩
  · rename_i hw; simp only [hw] at hh; exact h _ _ hh

/-- Whatever order is picked among the first m. -/
def wpAnyP (P : Program) (md : Region.Mode) (ops : Array Oper) (C : World → Prop) (R : World → World → Prop) (m : Nat) (S : Nat → Leaves C R) (Q : Array Bool → Facts → Act → Prop) : Nat → Array Bool → Facts → Act → Prop
  | 0, listed, fs, a => (∀ j ∈ Region.ready md ops listed, m ≤ j) ∧ Q listed fs a
  | fuel + 1, listed, fs, a => Region.ready md ops listed ≠ [] ∧
    ∀ i ∈ Region.ready md ops listed, ∃ o, ops[i]? = some o ∧ pOp P md ops C R o i (S i) fs (wpAnyP P md ops C R m S Q fuel (listed.setIfInBounds i true)) a

theorem wp_of_poised {o : Oper} {a : Act} {D : Value → World → Prop} {K : Act → World → Prop} {Q : Exit → Act → World → Prop} {w : World} (hC : C w)
    (h : poised P R o a C D) (hk : ∀ v w', R w w' → D v w' → K (a.put o.dst v) w') : o.wp P a w K Q := by
  have h3 := h w hC
  unfold Oper.wp
  generalize (execOp a.eval o).run P w = r at *
  cases r with
  | ok n w' =>
    cases n <;> simp only [upon] at h3 <;> simp only [Oper.upon]
    case value u => exact hk _ _ h3.1 h3.2
    case skip => exact hk _ _ h3.1 h3.2
    case enter f args => exact h3.mono fun e w'' ⟨v, he, hr, hd⟩ => by subst he; exact hk _ _ hr hd
  | halt x w' => simp only [upon] at h3

theorem wpAny_of_P {m r : Nat} {S : Nat → Leaves C R} {Q : Array Bool → Facts → Act → Prop} {Q' : Exit → Act → World → Prop} (hCR : ∀ w w', C w → R w w' → C w')
    (hQ : ∀ listed fs a w, C w → (∀ k, fs k w) → Q listed fs a → wpAny P md ops Q' r listed a w) :
    ∀ (fuel : Nat) (listed : Array Bool) (fs : Facts) (a : Act) (w : World), C w → (∀ k, fs k w) → (∀ k w w', C w → R w w' → fs k w → fs k w') →
      wpAnyP P md ops C R m S Q fuel listed fs a → wpAny P md ops Q' (fuel + r) listed a w
  | 0, listed, fs, a, w, hw, hf, _, h => by rw [Nat.zero_add]; exact hQ _ _ _ _ hw hf h.2
  | fuel + 1, listed, fs, a, w, hw, hf, hl, h => by
    rw [Nat.succ_add]
    refine ⟨fun h0 => absurd h0 h.1, fun i hi => ?_⟩
    obtain ⟨o, ho, hp⟩ := h.2 i hi
    unfold wpOp
    simp only [ho]
    unfold pOp at hp
    split
    · rename_i hwant
      simp only [hwant, if_true] at hp
      refine .inl (wp_of_poised (C := fun w => C w ∧ seen md fs o w) ⟨hw, fun k _ => hf k⟩ hp.1 fun v w' hr hd => ?_)
      refine wpAny_of_P hCR hQ fuel _ _ _ w' (hCR _ _ hw hr) (fun k => ?_) (fun k w1 w2 h1 h2 => ?_) (hp.2 v hd.1)
      · simp only [Facts.put]; split
        · exact hd.2
        · exact hl k _ _ hw hr (hf k)
      · simp only [Facts.put]; split
        · exact (S i).lasts v w1 w2 h1 h2
        · exact hl k w1 w2 h1 h2
    · rename_i hwant
      simp only [hwant] at hp
      exact wpAny_of_P hCR hQ fuel _ _ _ w hw hf hl hp

theorem poised_congr {o : Oper} {a a' : Act} {C C' : World → Prop} {D : Value → World → Prop} (he : execOp a'.eval o = execOp a.eval o) (hC : ∀ w, C' w → C w) (h : poised P R o a C D) : poised P R o a' C' D := by
  unfold poised at *
  rw [he]
  exact fun w hw => h w (hC w hw)

theorem waits_false {o : Oper} {k : Nat} (h : ∀ e ∈ o.after, Region.binds md e = true → e.on ≠ k) : waits md o k = false := by
  rw [Bool.eq_false_iff]
  intro hh
  obtain ⟨e, he, hb⟩ := Array.any_eq_true'.1 hh
  simp only [Bool.and_eq_true, beq_iff_eq] at hb
  exact h e he hb.1 hb.2

/-- 'oj', apart from 'oi', neither waiting for the other: oi may come up first. -/
theorem pOp_swap {i j : Nat} {oi oj : Oper} {si sj : Leaves C R} (hij : i ≠ j) (hap : oi.apart ops oj = true) (hsi : ∀ cs b, oi.op ≠ .select cs b) (hsj : ∀ cs b, oj.op ≠ .select cs b)
    (hwi : waits md oi j = false) (hwj : waits md oj i = false) {fs : Facts} {a : Act} {K : Facts → Act → Prop}
    (h : pOp P md ops C R oi i si fs (pOp P md ops C R oj j sj · K) a) : pOp P md ops C R oj j sj fs (pOp P md ops C R oi i si · K) a := by
  obtain ⟨h1, h2, h3⟩ := Oper.apart_spec hap
  have ej : ∀ (a : Act) u, execOp (a.put oi.dst u).eval oj = execOp a.eval oj := fun a u => execOp_put oj hsj a oi.dst u h1
  have wj : ∀ (a : Act) u, Region.wanted oj (yielded ops (Act.put a oi.dst u).tmps) = Region.wanted oj (yielded ops a.tmps) := fun a u => wanted_put oj a oi.dst u h1
  have ei : ∀ (a : Act) u, execOp (a.put oj.dst u).eval oi = execOp a.eval oi := fun a u => execOp_put oi hsi a oj.dst u h3
  have wi : ∀ (a : Act) u, Region.wanted oi (yielded ops (Act.put a oj.dst u).tmps) = Region.wanted oi (yielded ops a.tmps) := fun a u => wanted_put oi a oj.dst u h3
  have cm : ∀ (a : Act) u v, (a.put oi.dst u).put oj.dst v = (a.put oj.dst v).put oi.dst u := fun a u v => (Act.put_comm a u v h2)
  unfold pOp at *
  by_cases hi : Region.wanted oi (yielded ops a.tmps) = true
  · simp only [hi, if_true] at h
    obtain ⟨hpi, hk⟩ := h
    have key : ∀ v, si.dom v → (if Region.wanted oj (yielded ops a.tmps) = true then
        poised P R oj a (fun w => C w ∧ seen md fs oj w) (fun v w' => sj.dom v ∧ sj.V v w') ∧ ∀ u, sj.dom u → K (Facts.put j (sj.V u) (Facts.put i (si.V v) fs)) ((a.put oi.dst v).put oj.dst u)
        else K (Facts.put i (si.V v) fs) ((a.put oi.dst v).put oj.dst undef)) := fun v hv => by
      have := hk v hv
      simp only [wj, seen_put hwj] at this
      split
      · rename_i hw; simp only [hw, if_true] at this
        exact ⟨poised_congr (ej a v).symm (fun _ h => h) this.1, this.2⟩
      · rename_i hw; simp only [hw] at this; exact this
    by_cases hj : Region.wanted oj (yielded ops a.tmps) = true
    · simp only [hj, if_true] at key ⊢
      refine ⟨(key si.one si.ok).1, fun u hu => ?_⟩
      simp only [wi, hi, if_true, seen_put hwi]
      refine ⟨poised_congr (ei a u) (fun _ h => h) hpi, fun v hv => ?_⟩
      rw [Facts.put_comm hij, ← cm]
      exact (key v hv).2 u hu
    · simp only [hj] at key ⊢
      simp only [Bool.false_eq_true, if_false] at key ⊢
      simp only [wi, hi, if_true]
      refine ⟨poised_congr (ei a undef) (fun _ h => h) hpi, fun v hv => ?_⟩
      rw [← cm]
      exact key v hv
  · simp only [hi] at h
    simp only [Bool.false_eq_true, if_false, wj] at h
    by_cases hj : Region.wanted oj (yielded ops a.tmps) = true
    · simp only [hj, if_true] at h ⊢
      refine ⟨poised_congr (ej a undef).symm (fun _ h => h) h.1, fun u hu => ?_⟩
      simp only [wi, hi, Bool.false_eq_true, if_false]
      rw [← cm]
      exact h.2 u hu
    · simp only [hj] at h ⊢
      simp only [Bool.false_eq_true, if_false, wi, hi] at h ⊢
      rw [← cm]
      exact h

/-- Whatever has come up has come up behind all that it waits for. -/
def Closed (md : Region.Mode) (ops : Array Oper) (listed : Array Bool) : Prop := ∀ k ok, ops[k]? = some ok → listed.getD k false = true → ∀ e ∈ ok.after, Region.binds md e = true → listed.getD e.on false = true
/-- Does an operation wait for number i, in at most n + 1 steps? -/
def reaches (md : Region.Mode) (ops : Array Oper) : Nat → Oper → Nat → Bool
  | 0, o, i => waits md o i
  | n + 1, o, i => waits md o i || o.after.any fun e => Region.binds md e && match ops[e.on]? with | some o' => reaches md ops n o' i | none => false
theorem listed_of_waits {md : Region.Mode} {o : Oper} {i : Nat} {listed : Array Bool} (h : waits md o i = true) (hall : ∀ e ∈ o.after, Region.binds md e = true → listed.getD e.on false = true) : listed.getD i false = true := by
  unfold waits at h
  obtain ⟨e, he, hb⟩ := Array.any_eq_true'.1 h
  simp only [Bool.and_eq_true, beq_iff_eq] at hb
  rw [← hb.2]
  exact hall e he hb.1
theorem Closed.reaches {md : Region.Mode} {ops : Array Oper} {listed : Array Bool} (hc : Closed md ops listed) {i : Nat} : ∀ (n : Nat) (o : Oper), reaches md ops n o i = true → (∀ e ∈ o.after, Region.binds md e = true → listed.getD e.on false = true) → listed.getD i false = true
  | 0, o, h, hall => listed_of_waits h hall
  | n + 1, o, h, hall => by
    unfold Go.Poised.reaches at h
    rw [Bool.or_eq_true] at h
    rcases h with h | h
    · exact listed_of_waits h hall
    · obtain ⟨e, he, hb⟩ := Array.any_eq_true'.1 h
      rw [Bool.and_eq_true] at hb
      obtain ⟨hb, hm⟩ := hb
      split at hm
      · rename_i o' ho'
        exact hc.reaches n o' hm (hc e.on o' ho' (hall e he hb))
      · cases hm
theorem Closed.set {md : Region.Mode} {ops : Array Oper} {listed : Array Bool} (hc : Closed md ops listed) {j : Nat} (hj : j ∈ Region.ready md ops listed) : Closed md ops (listed.setIfInBounds j true) := by
  intro k ok hk hl e he hb
  by_cases hkj : j = k
  · subst hkj
    obtain ⟨_, o, ho, hall⟩ := mem_ready.1 hj
    obtain rfl : o = ok := by rw [ho] at hk; exact Option.some.inj hk
    exact getD_set_true (hall e he hb)
  · rw [getD_set_ne false hkj] at hl
    exact getD_set_true (hc k ok hk hl e he hb)
theorem closed_none (md : Region.Mode) (ops : Array Oper) (n : Nat) : Closed md ops (Array.replicate n false) := by
  intro k ok _ hl
  exfalso
  rcases Nat.lt_or_ge k n with h | h
  · simp [Array.getD_eq_getD_getElem?, h] at hl
  · simp [Array.getD_eq_getD_getElem?, h] at hl

/-- An operation that may come up may come up first. -/
theorem wpAnyP_first {m : Nat} {S : Nat → Leaves C R} {Q : Array Bool → Facts → Act → Prop} {i : Nat} {oi : Oper} (hi : ops[i]? = some oi) (hsel : ∀ (j : Nat) (o : Oper) cs b, ops[j]? = some o → o.op ≠ .select cs b)
    (htail : ∀ j oj, ops[j]? = some oj → m ≤ j → reaches md ops ops.size oj i = true) :
    ∀ (fuel : Nat) (listed : Array Bool) (fs : Facts) (a : Act), Closed md ops listed →
      (∀ j oj, ops[j]? = some oj → j ≠ i → listed.getD j true = false → (∀ e ∈ oj.after, Region.binds md e = true → e.on ≠ i) → oi.apart ops oj = true) →
      i ∈ Region.ready md ops listed → pOp P md ops C R oi i (S i) fs (wpAnyP P md ops C R m S Q fuel (listed.setIfInBounds i true)) a → wpAnyP P md ops C R m S Q (fuel + 1) listed fs a := by
  have notOn : ∀ {j : Nat} {oj : Oper} {listed : Array Bool}, i ∈ Region.ready md ops listed → (∀ e ∈ oj.after, Region.binds md e = true → listed.getD e.on false = true) → ∀ e ∈ oj.after, Region.binds md e = true → e.on ≠ i := by
    intro j oj listed hr hall e he hb heq
    have h1 := hall e he hb
    have h0 := (mem_ready.1 hr).1
    rw [heq] at h1
    rcases Nat.lt_or_ge i listed.size with h' | h'
    · simp [h'] at h0 h1; rw [h0] at h1; cases h1
    · simp [Array.getElem?_eq_none h'] at h1
  -- what an unlisted oi holds back
  intro fuel
  induction fuel with
  | zero =>
    intro listed fs a hcl _ hr H
    refine ⟨fun h => (by rw [h] at hr; cases hr), fun j hj => ?_⟩
    by_cases hji : j = i
    · subst hji; exact ⟨oi, hi, H⟩
    · exfalso
      obtain ⟨_, oj, hoj, hall⟩ := mem_ready.1 hj
      have hno := notOn (j := j) hr hall
      have hlt : ¬ m ≤ j := fun hm => by
        have h1 := hcl.reaches _ oj (htail j oj hoj hm) hall
        have h0 := (mem_ready.1 hr).1
        rcases Nat.lt_or_ge i listed.size with h' | h'
        · simp [h'] at h0 h1; rw [h0] at h1; cases h1
        · simp [Array.getElem?_eq_none h'] at h1
      have hj' := ready_mono hj hji
      have : ∃ fs a, wpAnyP P md ops C R m S Q 0 (listed.setIfInBounds i true) fs a := by
        unfold pOp at H
        split at H
        · exact ⟨_, _, H.2 _ (S i).ok⟩
        · exact ⟨_, _, H⟩
      obtain ⟨_, _, h0⟩ := this
      exact hlt (h0.1 j hj')
  | succ fuel ih =>
    intro listed fs a hcl hfree hr H
    refine ⟨fun h => (by rw [h] at hr; cases hr), fun j hj => ?_⟩
    by_cases hji : j = i
    · subst hji; exact ⟨oi, hi, H⟩
    · obtain ⟨hjun, oj, hoj, hall⟩ := mem_ready.1 hj
      have hnot := notOn (j := j) hr hall
      obtain ⟨hiun, oi', hoi', halli⟩ := mem_ready.1 hr
      obtain rfl : oi' = oi := by rw [hi] at hoi'; exact (Option.some.inj hoi').symm
      have hnoti : ∀ e ∈ oi'.after, Region.binds md e = true → e.on ≠ j := fun e he hb heq => by
        have h1 := halli e he hb
        rw [heq] at h1
        rcases Nat.lt_or_ge j listed.size with h' | h'
        · simp [h'] at hjun h1; rw [hjun] at h1; cases h1
        · simp [Array.getElem?_eq_none h'] at h1
      refine ⟨oj, hoj, ?_⟩
      have h1 : pOp P md ops C R oi' i (S i) fs (fun fs a => pOp P md ops C R oj j (S j) fs (wpAnyP P md ops C R m S Q fuel ((listed.setIfInBounds i true).setIfInBounds j true)) a) a := by
        refine pOp_mono (fun fs' a' h => ?_) H
        obtain ⟨o', ho', h2⟩ := h.2 j (ready_mono hj hji)
        obtain rfl : o' = oj := by rw [hoj] at ho'; exact (Option.some.inj ho').symm
        exact h2
      have h2 := pOp_swap (Ne.symm hji) (hfree j oj hoj hji hjun hnot) (fun cs b => hsel i oi' cs b hi) (fun cs b => hsel j oj cs b hoj) (waits_false hnoti) (waits_false hnot) h1
      have hfree' : ∀ k ok, ops[k]? = some ok → k ≠ i → (listed.setIfInBounds j true).getD k true = false →
          (∀ e ∈ ok.after, Region.binds md e = true → e.on ≠ i) → oi'.apart ops ok = true := fun k ok hk hki hun hno => by
        refine hfree k ok hk hki ?_ hno
        by_cases hjk : j = k
        · subst hjk; exact hjun
        · rw [getD_set_ne true hjk] at hun; exact hun
      refine pOp_mono (fun fs' a' h3 => ih (listed.setIfInBounds j true) fs' a' (hcl.set hj) hfree' (ready_mono hr (Ne.symm hji)) ?_) h2
      rw [Array.setIfInBounds_comm _ _ hji]
      exact h3

/-- THE WALK OF THE TEXT'S ORDER: the operations, what each leaves, the number of the next. -/
def walk (P : Program) (md : Region.Mode) (ops : Array Oper) (C : World → Prop) (R : World → World → Prop) (Q : Facts → Act → Prop) : List Oper → List (Leaves C R) → Nat → Facts → Act → Prop
  | o :: l, s :: L, k, fs, a => pOp P md ops C R o k s fs (fun fs' a' => walk P md ops C R Q l L (k + 1) fs' a') a
  | [], _, _, fs, a => Q fs a
  | _ :: _, [], _, _, _ => False

/-- The first m come up in the text's order; what is left then waits. -/
def lexTo (md : Region.Mode) (ops : Array Oper) (m : Nat) : Nat → Nat → Array Bool → Bool
  | 0, _, listed => (Region.ready md ops listed).all (m ≤ ·)
  | fuel + 1, k, listed => (Region.ready md ops listed).contains k && Region.free md ops listed k && lexTo md ops m fuel (k + 1) (listed.setIfInBounds k true)

/-- Each operation from m on waits for all ahead of m. -/
def tailWaits (md : Region.Mode) (ops : Array Oper) (m : Nat) : Bool := (ops.toList.drop m).all fun o => (List.range m).all fun i => reaches md ops ops.size o i

def lexOk (md : Region.Mode) (ops : Array Oper) (m : Nat) : Bool := Region.noSelect ops && tailWaits md ops m && decide (m ≤ ops.size) && lexTo md ops m m 0 (Array.replicate ops.size false)

/-- The numbers ahead of m have come up. -/
def listedTo : Nat → Nat → Array Bool → Array Bool
  | 0, _, l => l
  | n + 1, k, l => listedTo n (k + 1) (l.setIfInBounds k true)

theorem tailWaits_spec {m : Nat} (h : tailWaits md ops m = true) (j : Nat) (oj : Oper) (hj : ops[j]? = some oj) (hm : m ≤ j) (i : Nat) (hi : i < m) : reaches md ops ops.size oj i = true := by
  simp only [tailWaits, List.all_eq_true, List.mem_range] at h
  refine h oj ?_ i hi
  refine List.mem_iff_getElem?.2 ⟨j - m, ?_⟩
  rw [List.getElem?_drop, Nat.add_sub_cancel' hm]
  simpa using hj

theorem wpAnyP_lex {m : Nat} {Q : Facts → Act → Prop} {L0 : List (Leaves C R)} {dflt : Leaves C R} {listed0 : Array Bool} (hs : Region.noSelect ops = true) (ht : tailWaits md ops m = true) :
    ∀ (n : Nat) (l : List Oper) (L : List (Leaves C R)) (k : Nat) (listed : Array Bool) (fs : Facts) (a : Act), l.length = n → k + n = m → (∀ j, j < n → l[j]? = ops[k + j]?) → (∀ j, L[j]? = L0[k + j]?) →
      Closed md ops listed → lexTo md ops m n k listed = true → listedTo n k listed = listed0 → walk P md ops C R Q l L k fs a → wpAnyP P md ops C R m (fun k => L0[k]?.getD dflt) (fun ls fs a => ls = listed0 ∧ Q fs a) n listed fs a := by
  intro n
  induction n with
  | zero =>
    intro l L k listed fs a hn _ _ _ _ hB hl h
    obtain rfl : l = [] := List.length_eq_zero_iff.1 hn
    refine ⟨fun j hj => ?_, hl, ?_⟩
    · simp only [lexTo, List.all_eq_true, decide_eq_true_eq] at hB
      exact hB j hj
    · cases L <;> exact h
  | succ n ih =>
    intro l L k listed fs a hn hk hl hL hcl hB hd h
    obtain ⟨o, l, rfl⟩ : ∃ o l', l = o :: l' := by
      cases l with
      | nil => cases hn
      | cons o l => exact ⟨o, l, rfl⟩
    obtain ⟨s, L, rfl⟩ : ∃ s L', L = s :: L' := by
      cases L with
      | nil => exact h.elim
      | cons s L => exact ⟨s, L, rfl⟩
    have h0 : ops[k]? = some o := by simpa using (hl 0 (by omega)).symm
    have hs0 : L0[k]? = some s := by simpa using (hL 0).symm
    simp only [lexTo, Bool.and_eq_true] at hB
    obtain ⟨⟨hr, hf⟩, hB'⟩ := hB
    refine wpAnyP_first h0 (Region.noSelect_spec hs) (fun j oj hj hm => tailWaits_spec ht j oj hj hm k (by omega)) n listed fs a hcl (Region.free_spec h0 hf) (by simpa using hr) ?_
    simp only [hs0, Option.getD_some]
    refine pOp_mono (fun fs' a' h' => ?_) h
    exact ih l L (k + 1) _ fs' a' (by simpa using hn) (by omega) (fun j hj => by have := hl (j + 1) (by omega); simpa [Nat.add_assoc, Nat.add_comm 1 j] using this)
      (fun j => by have := hL (j + 1); simpa [Nat.add_assoc, Nat.add_comm 1 j] using this) (hcl.set (by simpa using hr)) hB' hd h'

/-- **THE RULE, WITH A TAIL**: the first m operations by one walk; behind them the tail, from whatever world of the class. -/
theorem poised_tail {id : Nat} {l : List Oper} {Q : Exit → Act → World → Prop} {a : Act} {w : World} (m : Nat) (C : World → Prop) (R : World → World → Prop) (L : List (Leaves C R)) (hm : P.follows .mixedOrders = true) (hB : lexOk .any l.toArray m = true)
    (hCR : ∀ w w', C w → R w w' → C w') (hC : C w.drew)
    (h : walk P .any l.toArray C R (fun fs a' => ∀ w', C w' → (∀ k, fs k w') → wpAny P .any l.toArray Q (l.length - m) (listedTo m 0 (Array.replicate l.length false)) a' w') (l.take m) L 0 Facts.none a) : (Code.region id l.toArray true).wp P Q a w := by
  simp only [lexOk, Bool.and_eq_true, decide_eq_true_eq] at hB
  obtain ⟨⟨⟨hs, ht⟩, hle⟩, hx⟩ := hB
  have hle' : m ≤ l.length := by simpa using hle
  refine wp_region_any hm ?_
  have key := wpAnyP_lex (P := P) (md := .any) (ops := l.toArray) (m := m) (L0 := L) (dflt := Leaves.det undef) (listed0 := listedTo m 0 (Array.replicate l.length false)) hs ht m (l.take m) L 0 (Array.replicate l.length false) Facts.none a
    (by simp [hle']) (by omega) (fun j hj => by simp [hj]) (fun j => by simp) (closed_none _ _ _) (by simpa using hx) rfl h
  have := wpAny_of_P (m := m) (r := l.length - m) (Q' := Q) hCR (fun listed fs a w hw hf hq => by rw [hq.1]; exact hq.2 w hw hf) m (Array.replicate l.length false) Facts.none a w.drew hC (fun _ => trivial) (fun _ _ _ _ _ _ => trivial) key
  have hsz : l.toArray.size = m + (l.length - m) := by simp; omega
  rw [hsz]
  have hrep : Array.replicate (m + (l.length - m)) false = Array.replicate l.length false := by rw [Nat.add_sub_cancel' hle']
  rw [hrep]
  exact this

/-- **THE RULE**: the whole region by one walk. -/
theorem poised_region {id : Nat} {l : List Oper} {Q : Exit → Act → World → Prop} {a : Act} {w : World} (C : World → Prop) (R : World → World → Prop) (L : List (Leaves C R)) (hm : P.follows .mixedOrders = true) (hB : lexOk .any l.toArray l.length = true)
    (hE : (Region.ready .any l.toArray (listedTo l.length 0 (Array.replicate l.length false))) = [])
    (hCR : ∀ w w', C w → R w w' → C w') (hC : C w.drew)
    (h : walk P .any l.toArray C R (fun fs a' => ∀ w', C w' → (∀ k, fs k w') → Q .normal a' w') l L 0 Facts.none a) : (Code.region id l.toArray true).wp P Q a w := by
  refine poised_tail l.length C R L hm hB hCR hC ?_
  rw [List.take_length]
  have mono : ∀ (l' : List Oper) (L' : List (Leaves C R)) (k : Nat) (fs : Facts) (a : Act), walk P .any l.toArray C R (fun fs a' => ∀ w', C w' → (∀ k, fs k w') → Q .normal a' w') l' L' k fs a →
      walk P .any l.toArray C R (fun fs a' => ∀ w', C w' → (∀ k, fs k w') → wpAny P .any l.toArray Q (l.length - l.length) (listedTo l.length 0 (Array.replicate l.length false)) a' w') l' L' k fs a := by
    intro l'
    induction l' with
    | nil => intro L' k fs a hh w' hw hf; exact wpAny_done hE (hh w' hw hf) _
    | cons o l' ih =>
      intro L' k fs a hh
      cases L' with
      | nil => exact hh
      | cons s L' => exact pOp_mono (fun fs a h => ih L' _ fs a h) hh
  exact mono l L 0 Facts.none a h

/-! ### The steps -/
variable {Q : Facts → Act → Prop} {o : Oper} {rest : List Oper} {L : List (Leaves C R)} {k : Nat} {fs : Facts} {a : Act}

theorem walk_nil (h : Q fs a) : walk P md ops C R Q [] [] k fs a := h

theorem walk_skip (hw : Region.wanted o (yielded ops a.tmps) = false) (h : walk P md ops C R Q rest L (k + 1) fs (a.put o.dst undef)) : walk P md ops C R Q (o :: rest) (Leaves.det undef :: L) k fs a := by
  unfold walk pOp; simp only [hw, Bool.false_eq_true, if_false]; exact h

theorem walk_det (u : Value) (hw : Region.wanted o (yielded ops a.tmps) = true) (hp : ∀ w, C w → seen md fs o w → upon P R w (fun v _ => v = u) ((execOp a.eval o).run P w)) (h : walk P md ops C R Q rest L (k + 1) (Facts.put k (fun _ => True) fs) (a.put o.dst u)) :
    walk P md ops C R Q (o :: rest) (Leaves.det u :: L) k fs a := by
  unfold walk pOp; simp only [hw, if_true]
  refine ⟨fun w hh => ?_, fun v hv => ?_⟩
  · have := hp w hh.1 hh.2
    have e : (fun (v : Value) (w' : World) => (Leaves.det (C := C) (R := R) u).dom v ∧ (Leaves.det (C := C) (R := R) u).V v w') = fun v _ => v = u := by
      funext v w'; simp [Leaves.det]
    rw [e]; exact this
  · obtain rfl : v = u := hv
    exact h

theorem walk_free (V : Value → World → Prop) (hl : ∀ v w w', C w → R w w' → V v w → V v w') (hw : Region.wanted o (yielded ops a.tmps) = true) (hp : ∀ w, C w → seen md fs o w → upon P R w V ((execOp a.eval o).run P w))
    (h : ∀ v, walk P md ops C R Q rest L (k + 1) (Facts.put k (V v) fs) (a.put o.dst v)) :
    walk P md ops C R Q (o :: rest) (Leaves.free V hl :: L) k fs a := by
  unfold walk pOp; simp only [hw, if_true]
  refine ⟨fun w hh => ?_, fun v _ => h v⟩
  have := hp w hh.1 hh.2
  have e : (fun (v : Value) (w' : World) => (Leaves.free (C := C) (R := R) V hl).dom v ∧ (Leaves.free (C := C) (R := R) V hl).V v w') = V := by
    funext v w'; simp [Leaves.free]
  rw [e]; exact this

end
end Go.Poised

namespace Go.Poised
open Go
theorem put_lit (l : List Value) (d : List Deferred) (i : Nat) (v : Value) : Act.put ⟨l.toArray, d⟩ (some i) v = ⟨(l.set i v).toArray, d⟩ := by simp [Act.put]
theorem put_no (a : Act) (v : Value) : Act.put a none v = a := rfl
section
variable {P : Program}
/-- As 'poised_region', for a walk that finds what the operations leave. -/
theorem poised_whole {id : Nat} {l : List Oper} {Q : Exit → Act → World → Prop} {a : Act} {w : World} (C : World → Prop) (R : World → World → Prop) (hm : P.follows .mixedOrders = true) (hB : lexOk .any l.toArray l.length = true)
    (hE : (Region.ready .any l.toArray (listedTo l.length 0 (Array.replicate l.length false))) = [])
    (hCR : ∀ w w', C w → R w w' → C w') (hC : C w.drew)
    (h : ∃ L, walk P .any l.toArray C R (fun fs a' => ∀ w', C w' → (∀ k, fs k w') → Q .normal a' w') l L 0 Facts.none a) : (Code.region id l.toArray true).wp P Q a w :=
  let ⟨L, h⟩ := h
  poised_region C R L hm hB hE hCR hC h
theorem poised_ahead {id : Nat} {l : List Oper} {Q : Exit → Act → World → Prop} {a : Act} {w : World} (m : Nat) (C : World → Prop) (R : World → World → Prop) (hm : P.follows .mixedOrders = true) (hB : lexOk .any l.toArray m = true)
    (hCR : ∀ w w', C w → R w w' → C w') (hC : C w.drew)
    (h : ∃ L, walk P .any l.toArray C R (fun fs a' => ∀ w', C w' → (∀ k, fs k w') → wpAny P .any l.toArray Q (l.length - m) (listedTo m 0 (Array.replicate l.length false)) a' w') (l.take m) L 0 Facts.none a) : (Code.region id l.toArray true).wp P Q a w :=
  let ⟨L, h⟩ := h
  poised_tail m C R L hm hB hCR hC h

/-- From number k on only one operation may come up at a time, in the text's order. -/
def seqTail (md : Region.Mode) (ops : Array Oper) : Nat → Nat → Array Bool → Bool
  | 0, _, listed => (Region.ready md ops listed).isEmpty
  | n + 1, k, listed => (Region.ready md ops listed == [k]) && seqTail md ops n (k + 1) (listed.setIfInBounds k true)

theorem wpAny_seq {md : Region.Mode} {ops : Array Oper} {Q : Exit → Act → World → Prop} : ∀ (n : Nat) (l : List Oper) (k : Nat) (listed : Array Bool) (a : Act) (w : World), l.length = n → (∀ j, j < n → l[j]? = ops[k + j]?) → seqTail md ops n k listed = true →
    wpList P ops Q l a w → wpAny P md ops Q n listed a w := by
  intro n
  induction n with
  | zero =>
    intro l k listed a w hn _ hs h
    obtain rfl : l = [] := List.length_eq_zero_iff.1 hn
    exact ⟨by simpa [seqTail] using hs, h⟩
  | succ n ih =>
    intro l k listed a w hn hl hs h
    obtain ⟨o, l, rfl⟩ : ∃ o l', l = o :: l' := by
      cases l with
      | nil => cases hn
      | cons o l => exact ⟨o, l, rfl⟩
    simp only [seqTail, Bool.and_eq_true, beq_iff_eq] at hs
    obtain ⟨hr, hs⟩ := hs
    have h0 : ops[k]? = some o := by simpa using (hl 0 (by omega)).symm
    refine wpAny_all hr (by simp) (fun i hi => ?_)
    obtain rfl : i = k := by simpa using hi
    unfold wpOp
    simp only [h0]
    have step : ∀ a w, wpList P ops Q l a w → wpAny P md ops Q n (listed.setIfInBounds i true) a w := fun a w h' =>
      ih l (i + 1) _ a w (by simpa using hn) (fun j hj => by have := hl (j + 1) (by omega); simpa [Nat.add_assoc, Nat.add_comm 1 j] using this) hs h'
    unfold wpList at h
    split
    · rename_i hw; simp only [hw, if_true] at h
      rcases h with h | h
      · exact .inl (Oper.wp_mono step h)
      · exact .inr h
    · rename_i hw; simp only [hw] at h
      exact step _ _ h

/-- **The first m operations by one walk, what is left one after the other.** -/
theorem poised_then {id : Nat} {l : List Oper} {Q : Exit → Act → World → Prop} {a : Act} {w : World} (m : Nat) (C : World → Prop) (R : World → World → Prop) (hm : P.follows .mixedOrders = true) (hB : lexOk .any l.toArray m = true)
    (hT : seqTail .any l.toArray (l.length - m) m (listedTo m 0 (Array.replicate l.length false)) = true)
    (hCR : ∀ w w', C w → R w w' → C w') (hC : C w.drew)
    (h : ∃ L, walk P .any l.toArray C R (fun fs a' => ∀ w', C w' → (∀ k, fs k w') → wpList P l.toArray Q (l.drop m) a' w') (l.take m) L 0 Facts.none a) : (Code.region id l.toArray true).wp P Q a w := by
  obtain ⟨L, h⟩ := h
  refine poised_tail m C R L hm hB hCR hC ?_
  have mono : ∀ (l' : List Oper) (L' : List (Leaves C R)) (k : Nat) (fs : Facts) (a : Act), walk P .any l.toArray C R (fun fs a' => ∀ w', C w' → (∀ k, fs k w') → wpList P l.toArray Q (l.drop m) a' w') l' L' k fs a →
      walk P .any l.toArray C R (fun fs a' => ∀ w', C w' → (∀ k, fs k w') → wpAny P .any l.toArray Q (l.length - m) (listedTo m 0 (Array.replicate l.length false)) a' w') l' L' k fs a := by
    intro l'
    induction l' with
    | nil => intro L' k fs a hh w' hw hf; exact wpAny_seq _ (l.drop m) m _ a w' (by simp) (fun j _ => by simp) hT (hh w' hw hf)
    | cons o l' ih =>
      intro L' k fs a hh
      cases L' with
      | nil => exact hh
      | cons s L' => exact pOp_mono (fun fs a h => ih L' _ fs a h) hh
  exact mono _ L 0 Facts.none a h
end
end Go.Poised
