/-
  MAPS AS LISTS OF PAIRS, in the order of their making: look up, store, strike out, range over. Conditions: those of each theorem.
-/
import Derived.LaidEql
import Derived.Maps.RangeRun
import Derived.Maps.Range
import Derived.Tactics
import Derived.Below
namespace Go.MapL
open Go Go.MapKept Go.ChangeMaps
section
variable {P : Program} {α β : Type} [DecidableEq α]

/-! ### the plain lists -/
def look (a : α) : List (α × β) → Option β
  | [] => none
  | (k, v) :: r => if k = a then some v else look a r
def put (a : α) (b : β) : List (α × β) → List (α × β)
  | [] => [(a, b)]
  | (k, v) :: r => if k = a then (a, b) :: r else (k, v) :: put a b r
def del (a : α) : List (α × β) → List (α × β)
  | [] => []
  | (k, v) :: r => if k = a then r else (k, v) :: del a r
def fnd (a : α) : List (α × β) → Nat → Option (Nat × β)
  | [], _ => none
  | (k, v) :: r, i => if k = a then some (i, v) else fnd a r (i + 1)

theorem fnd_look (a : α) : ∀ (l : List (α × β)) (i : Nat), (fnd a l i).map (·.2) = look a l
  | [], _ => rfl
  | (k, v) :: r, i => by
    unfold fnd look
    split
    · rfl
    · exact fnd_look a r (i + 1)
theorem fnd_none (a : α) (b : β) : ∀ (l : List (α × β)) (i : Nat), fnd a l i = none → put a b l = l ++ [(a, b)] ∧ del a l = l
  | [], _, _ => ⟨rfl, rfl⟩
  | (k, v) :: r, i, h => by
    unfold fnd at h
    split at h
    · cases h
    · rename_i hk
      have := fnd_none a b r (i + 1) h
      simp [put, del, hk, this.1, this.2]
theorem fnd_some (a : α) (b : β) : ∀ (l : List (α × β)) (i j : Nat) (v : β), fnd a l i = some (j, v) → ∃ d, j = i + d ∧ l[d]? = some (a, v) ∧ put a b l = l.set d (a, b) ∧ del a l = l.eraseIdx d
  | [], _, _, _, h => by cases h
  | (k, v) :: r, i, j, u, h => by
    unfold fnd at h
    split at h
    · rename_i hk
      cases h
      exact ⟨0, rfl, by simp [hk], by simp [put, hk], by simp [del, hk]⟩
    · rename_i hk
      obtain ⟨d, rfl, h1, h2, h3⟩ := fnd_some a b r (i + 1) j u h
      exact ⟨d + 1, by omega, by simpa using h1, by simp [put, hk, h2], by simp [del, hk, h3]⟩

/-! ### the map's block -/
variable {mk : α → Value} {mv : β → Value} {w : World} {b : Nat} {l : List (α × β)}

def kv (mk : α → Value) (mv : β → Value) (p : α × β) : Value × Value := (mk p.1, mv p.2)

/-- Block b is a map that holds the pairs l. -/
def MapAt (mk : α → Value) (mv : β → Value) (w : World) (b : Nat) (l : List (α × β)) : Prop :=
  ∃ es clock, w.heap[b]? = some (.map es clock) ∧ es.toList.map (fun e => (e.key, e.val)) = l.map (kv mk mv) ∧ (es.toList.map (·.born)).Nodup ∧ ∀ x ∈ es.toList, x.born < clock

theorem MapAt.lt {α β : Type} {mk : α → Value} {mv : β → Value} {w : World} {b : Nat} {l : List (α × β)} (h : MapAt mk mv w b l) : b < w.heap.size := by
  obtain ⟨es, clock, hb, _⟩ := h
  exact (Array.getElem?_eq_some_iff.1 hb).1
theorem MapAt.same {α β : Type} {mk : α → Value} {mv : β → Value} {w : World} {b : Nat} {l : List (α × β)} {w' : World} (h : MapAt mk mv w b l) (hb : w'.heap[b]? = w.heap[b]?) : MapAt mk mv w' b l := by
  obtain ⟨es, clock, h1, h2⟩ := h
  exact ⟨es, clock, hb.trans h1, h2⟩
theorem MapAt.alloc {α β : Type} {mk : α → Value} {mv : β → Value} {w : World} {b : Nat} {l : List (α × β)} (h : MapAt mk mv w b l) (o : Obj) : MapAt mk mv (w.alloc o) b l := h.same ((MapKept.heap_alloc _ _).2 _ h.lt)
theorem MapAt.new {α β : Type} {mk : α → Value} {mv : β → Value} (w : World) : MapAt mk mv (w.alloc (.map #[] 0)) w.heap.size [] :=
  ⟨#[], 0, (MapKept.heap_alloc w _).1, by simp, by simp, by simp⟩

/-- What is asked of a key's type: that keys are told apart as 'mk' says, by those that are 'ok'. -/
structure Finds (P : Program) (k : TypeId) (mk : α → Value) (w : World) (ok : α → Prop) : Prop where
  check : ∀ e a, (Instr.checkKey e 10000 k (mk a)).run P w = .ok () w
  find : ∀ (β : Type) (mv : β → Value) (a : α) (es : List MapEntry) (l : List (α × β)), ok a → (∀ p ∈ l, ok p.1) → es.map (fun e => (e.key, e.val)) = l.map (kv mk mv) → (Instr.findKey k (mk a) es).run P w = .ok ((fnd a l 0).map fun x => (x.1, mv x.2)) w
  stays : ∀ a, (Instr.keyThatStays (mk a) (mk a)).run P w = .ok (mk a) w

variable {k e t : TypeId} {ok : α → Prop}

theorem MapAt.lookup (h : MapAt mk mv w b l) (F : Finds P k mk w ok) (ht : P.underlying t = some (.map k e)) {z : Value} (hz : (zeroValue e).run P w = .ok z w) (a : α) (ha : ok a) (hl : ∀ p ∈ l, ok p.1) :
    (Instr.lookup t (.map (some b)) (mk a) false).run P w = .ok (((look a l).map mv).getD z) w := by
  obtain ⟨es, clock, hb, he, _, _⟩ := h
  have hf := F.find β mv a es.toList l ha hl he
  have hk := fnd_look a l 0
  simp only [Instr.lookup, Sem.run_bind, run_underlying ht, Result.andThen, MapKept.run_getObj_map hb, F.check, Sem.run_pure, hf]
  cases hx : fnd a l 0 with
  | none => rw [hx] at hk; simp only [Option.map_none] at hk; rw [← hk]; simp [hz]
  | some y => rw [hx] at hk; simp only [Option.map_some] at hk; rw [← hk]; simp

theorem setBlock_heap {w : World} {b : Nat} {o o' : Obj} (hb : w.heap[b]? = some o) : (setBlock w b o').heap[b]? = some o' := (heap_set hb).1
theorem grownBy_setBlock (w : World) (b : Nat) (o : Obj) : w.grownBy (setBlock w b o) (some b) :=
  ⟨rfl, rfl, rfl, by simp [setBlock], fun i _ hi => by
    have : i ≠ b := fun e => hi (by rw [e])
    simp [setBlock, Ne.symm this]⟩

theorem MapAt.update (h : MapAt mk mv w b l) (F : Finds P k mk w ok) (ht : P.underlying t = some (.map k e)) (a : α) (x : β) (ha : ok a) (hl : ∀ p ∈ l, ok p.1) :
    ∃ w', (Instr.mapUpdate t (.map (some b)) (mk a) (mv x)).run P w = .ok () w' ∧ MapAt mk mv w' b (put a x l) ∧ w.grownBy w' (some b) ∧ w'.heap.size = w.heap.size := by
  obtain ⟨es, clock, hb, he, hn, hc⟩ := h
  have hf := F.find β mv a es.toList l ha hl he
  cases hx : fnd a l 0 with
  | none =>
    rw [hx] at hf
    obtain ⟨hp, _⟩ := fnd_none a x l 0 hx
    refine ⟨setBlock w b (.map (es.push { key := mk a, val := mv x, born := clock }) (clock + 1)), ?_, ?_, grownBy_setBlock _ _ _, by simp [setBlock]⟩
    · simp only [Instr.mapUpdate, Sem.run_bind, run_underlying ht, Result.andThen, MapKept.run_getObj_map hb, F.check, hf, Option.map_none, run_setObj_map _ hb]
      rfl
    · refine ⟨_, _, setBlock_heap hb, ?_, ?_, ?_⟩
      · rw [hp]; simp [he, kv]
      · simp only [Array.toList_push, List.map_append, List.map_cons, List.map_nil]
        rw [List.nodup_append]
        refine ⟨hn, by simp, ?_⟩
        intro y hy z hz e
        simp at hz; subst hz
        obtain ⟨q, hq, rfl⟩ := List.mem_map.1 hy
        have := hc q hq; omega
      · intro q hq
        simp only [Array.toList_push, List.mem_append, List.mem_singleton] at hq
        rcases hq with hq | rfl
        · have := hc q hq; omega
        · show clock < clock + 1; omega
  | some y =>
    obtain ⟨j, v⟩ := y
    rw [hx] at hf
    obtain ⟨d, hd, hld, hp, _⟩ := fnd_some a x l 0 j v hx
    obtain rfl : j = d := by omega
    have hlen : es.toList.length = l.length := by have := congrArg List.length he; simpa using this
    have hjl : j < es.size := by have := (List.getElem?_eq_some_iff.1 hld).1; simp at hlen; omega
    have hke : (es[j]'hjl).key = mk a := by
      have := congrArg (·[j]?) he
      simp only [List.getElem?_map, hld, Option.map_some, kv] at this
      rw [List.getElem?_eq_getElem (by simpa using hjl)] at this
      simp at this
      exact this.1
    refine ⟨setBlock w b (.map (es.modify j fun e => { e with key := mk a, val := mv x }) clock), ?_, ?_, grownBy_setBlock _ _ _, by simp [setBlock]⟩
    · simp only [Instr.mapUpdate, Sem.run_bind, run_underlying ht, Result.andThen, MapKept.run_getObj_map hb, F.check, hf, Option.map_some, Array.getElem?_eq_getElem hjl, Option.getD_some, hke, F.stays, run_setObj_map _ hb]
      rfl
    · refine ⟨_, _, setBlock_heap hb, ?_, ?_, ?_⟩
      · rw [hp]
        apply List.ext_getElem?
        intro i
        have hi := congrArg (·[i]?) he
        simp only [List.getElem?_map] at hi
        simp only [List.getElem?_map, Array.getElem?_toList, Array.getElem?_modify, List.getElem?_set]
        simp only [Array.getElem?_toList] at hi
        by_cases hij : j = i
        · subst hij
          have : j < l.length := by simp at hlen; omega
          simp [hjl, this, kv]
        · simp [hij, hi]
      · have : (es.modify j fun e => { e with key := mk a, val := mv x }).toList.map (·.born) = es.toList.map (·.born) := by
          apply List.ext_getElem?
          intro i
          simp only [List.getElem?_map, Array.getElem?_toList, Array.getElem?_modify]
          by_cases hij : j = i
          · subst hij; simp [hjl]
          · simp [hij]
        rw [this]; exact hn
      · intro q hq
        obtain ⟨i, hi, rfl⟩ := List.getElem_of_mem hq
        simp only [Array.getElem_toList, Array.getElem_modify]
        have hi' : i < es.size := by simpa using hi
        have := hc (es[i]'hi') (by simp)
        split <;> exact this

theorem MapAt.delete (h : MapAt mk mv w b l) (F : Finds P k mk w ok) (ht : P.underlying t = some (.map k e)) (a : α) (ha : ok a) (hl : ∀ p ∈ l, ok p.1) (ty : TypeId) :
    ∃ w', (Builtin.delete_ #[t, k] ty #[.map (some b), mk a]).run P w = .ok (.tuple #[]) w' ∧ MapAt mk mv w' b (del a l) ∧ w.grownBy w' (some b) ∧ w'.heap.size = w.heap.size := by
  obtain ⟨es, clock, hb, he, hn, hc⟩ := h
  have hf := F.find β mv a es.toList l ha hl he
  cases hx : fnd a l 0 with
  | none =>
    rw [hx] at hf
    have hp : del a l = l := by
      clear hf
      have : ∀ (l : List (α × β)) i, fnd a l i = none → del a l = l := by
        intro l
        induction l with
        | nil => intro i _; rfl
        | cons p r ih =>
          intro i h
          obtain ⟨k', v'⟩ := p
          unfold fnd at h
          split at h
          · cases h
          · rename_i hk; simp [del, hk, ih _ h]
      exact this l 0 hx
    refine ⟨setBlock w b (.map es clock), ?_, ⟨es, clock, setBlock_heap hb, by rw [hp]; exact he, hn, hc⟩, grownBy_setBlock _ _ _, by simp [setBlock]⟩
    simp [Builtin.delete_, run_underlying ht, Result.andThen, MapKept.run_getObj_map hb, F.check, hf, run_setObj_map _ hb, setBlock]
  | some y =>
    obtain ⟨j, v⟩ := y
    rw [hx] at hf
    obtain ⟨d, hd, hld, _, hp⟩ := fnd_some a v l 0 j v hx
    obtain rfl : j = d := by omega
    refine ⟨setBlock w b (.map (es.eraseIdxIfInBounds j) clock), ?_, ⟨_, _, setBlock_heap hb, ?_, ?_, ?_⟩, grownBy_setBlock _ _ _, by simp [setBlock]⟩
    · simp [Builtin.delete_, run_underlying ht, Result.andThen, MapKept.run_getObj_map hb, F.check, hf, run_setObj_map _ hb, setBlock]
    · rw [hp, map_eraseIdx, ← he, ← map_eraseIdx]; simp
    · have : (es.eraseIdxIfInBounds j).toList.map (·.born) = (es.toList.map (·.born)).eraseIdx j := by rw [← map_eraseIdx]; simp
      rw [this]
      exact hn.sublist (List.eraseIdx_sublist _ _)
    · intro q hq
      exact hc q ((List.eraseIdx_sublist es.toList j).subset (by simpa using hq))
end

/-! ### keys that are texts -/
def ofText (s : ByteArray) : Value := .string s
theorem finds_text {P : Program} {k : TypeId} (hk : P.underlying k = some .string) (w : World) : Finds P k ofText w (fun _ => True) := {
  check e a := MapKept.run_checkKey hk (by simp [ofText, IsKey]) e 9999
  find := by
    intro β mv a es l _ _ he
    have key : ∀ (es : List MapEntry) (l : List (ByteArray × β)) (i : Nat), es.map (fun e => (e.key, e.val)) = l.map (kv ofText mv) → Instr.findNow .string (ofText a) es i = some ((fnd a l i).map fun x => (x.1, mv x.2)) := by
      intro es
      induction es with
      | nil => intro l i h; cases l with
        | nil => rfl
        | cons p r => simp at h
      | cons x es ih =>
        intro l i h
        cases l with
        | nil => simp at h
        | cons p r =>
          obtain ⟨s, v⟩ := p
          simp only [List.map_cons, List.cons.injEq, kv, Prod.mk.injEq] at h
          obtain ⟨⟨h1, h2⟩, h3⟩ := h
          have hs : Instr.sameNow .string (ofText a) x.key = some (decide (s = a)) := by
            rw [h1]
            simp only [ofText, Instr.sameNow]
            congr 1
            rw [Bool.eq_iff_iff, bytes_beq, decide_eq_true_eq]
            exact eq_comm
          unfold Instr.findNow fnd
          rw [hs]
          by_cases hsa : s = a
          · simp [hsa, h2]
          · simp only [hsa, decide_false, if_false]
            exact ih r (i + 1) h3
    exact run_findKey hk (key es l 0 he)
  stays a := MapKept.run_keyThatStays (d := .string) (by simp [ofText, IsKey]) }

/-! ### keys that are pointers to blocks -/
def ofBlock (b : Nat) : Value := .pointer (some ⟨b, 0, none⟩)
/-- A block of cells of which none is frozen. -/
def Plain (w : World) (b : Nat) : Prop := ∃ c t, w.heap[b]? = some (.cells c t (0, 0))

theorem run_equal_blocks {P : Program} {k e : TypeId} {i : TypeInfo} (hk : P.underlying k = some (.pointer e)) (hi : P.info? e = some i) (hz : i.size ≠ 0) (w : World) {a b : Nat} (ha : Plain w a) (hb : Plain w b) :
    (Op.equal k (ofBlock a) (ofBlock b)).run P w = .ok (decide (b = a)) w := by
  obtain ⟨ca, ta, ha⟩ := ha
  obtain ⟨cb, tb, hb⟩ := hb
  have h : ∀ d : Nat, (Op.equalIn (d + 1) k (ofBlock a) (ofBlock b)).run P w = .ok (decide (b = a)) w := fun d => by
    by_cases hab : b = a
    · subst hab
      simp [Op.equalIn, ofBlock, run_underlying hk, sizeOf, typeInfo, hi, run_sameAddr_same]
    · have hne : (⟨a, 0, none⟩ : Addr) ≠ ⟨b, 0, none⟩ := fun e => hab (by injection e with e1; exact e1.symm)
      simp [Op.equalIn, ofBlock, run_underlying hk, sizeOf, typeInfo, hi, hz, run_sameAddr_other w hne ha hb, hab]
  exact h 9999

theorem finds_block {P : Program} {k e : TypeId} {i : TypeInfo} (hk : P.underlying k = some (.pointer e)) (hi : P.info? e = some i) (hz : i.size ≠ 0) (w : World) : Finds P k ofBlock w (Plain w) := {
  check e a := by
    show (Instr.checkKey e (9999 + 1) k (ofBlock a)).run P w = .ok () w
    unfold Instr.checkKey
    simp only [Sem.run_bind, run_underlying hk, Result.andThen, ofBlock]
    rfl
  find := by
    intro β mv a es l ha hl he
    have key : ∀ (es : List MapEntry) (l : List (Nat × β)) (i : Nat), (∀ p ∈ l, Plain w p.1) → es.map (fun e => (e.key, e.val)) = l.map (kv ofBlock mv) → (Instr.findAsking k (ofBlock a) es i).run P w = .ok ((fnd a l i).map fun x => (x.1, mv x.2)) w := by
      intro es
      induction es with
      | nil => intro l i _ h; cases l with
        | nil => rfl
        | cons p r => simp at h
      | cons x es ih =>
        intro l i hp h
        cases l with
        | nil => simp at h
        | cons p r =>
          obtain ⟨s, v⟩ := p
          simp only [List.map_cons, List.cons.injEq, kv, Prod.mk.injEq] at h
          obtain ⟨⟨h1, h2⟩, h3⟩ := h
          unfold Instr.findAsking fnd
          rw [h1]
          simp only [Sem.run_bind, run_equal_blocks hk hi hz w ha (hp _ (.head _)), Result.andThen]
          by_cases hsa : s = a
          · simp [hsa, h2]
          · simp only [hsa, decide_false, if_false, Bool.false_eq_true]
            exact ih r (i + 1) (fun p hq => hp p (.tail _ hq)) h3
    cases es with
    | nil => cases l with
      | nil => simp [Instr.findKey, Instr.findNow, run_underlying hk, fnd]
      | cons p r => simp at he
    | cons x es =>
      have hn : Instr.findNow (.pointer e) (ofBlock a) (x :: es) 0 = none := by
        unfold Instr.findNow
        simp [Instr.sameNow]
      simp only [Instr.findKey, Sem.run_bind, run_underlying hk, Result.andThen, hn]
      exact key (x :: es) l 0 hl he
  stays a := by simp [Instr.keyThatStays, Instr.sameBits, ofBlock] }

/-! ### to range over a map -/
theorem perm_eraseIdx {γ : Type} : ∀ (L : List γ) (i : Nat) (hi : i < L.length), L.Perm (L[i] :: L.eraseIdx i)
  | [], i, hi => by simp at hi
  | x :: L, 0, _ => by simp
  | x :: L, i + 1, hi => by
    have := perm_eraseIdx L i (by simpa using hi)
    simp only [List.getElem_cons_succ, List.eraseIdx_cons_succ]
    exact (this.cons x).trans (List.Perm.swap _ _ _)

section
variable {P : Program} {α β : Type} [DecidableEq α] {mk : α → Value} {mv : β → Value} {w : World} {b r : Nat} {l todo : List (α × β)} {k e t : TypeId}

/-- Block r is an iterator over the map at block b, which holds the pairs l; 'todo' are still to come. -/
def RangeAt (mk : α → Value) (mv : β → Value) (w : World) (r b : Nat) (l todo : List (α × β)) : Prop :=
  r ≠ b ∧ ∃ es clock since seen c0, w.heap[b]? = some (.map es clock) ∧ es.toList.map (fun e => (e.key, e.val)) = l.map (kv mk mv) ∧ (es.toList.map (·.born)).Nodup ∧ (∀ x ∈ es.toList, x.born < clock) ∧ (∀ x ∈ es.toList, x.born < since) ∧
    w.heap[r]? = some (.mapIter (some b) since seen c0) ∧ since ≤ c0 ∧ since ≤ clock ∧ (leftOf es seen).toList.map (fun e => (e.key, e.val)) = todo.map (kv mk mv)

theorem RangeAt.map {α β : Type} {mk : α → Value} {mv : β → Value} {w : World} {b r : Nat} {l todo : List (α × β)} (h : RangeAt mk mv w r b l todo) : MapAt mk mv w b l := by
  obtain ⟨_, es, clock, _, _, _, h1, h2, h3, h4, _⟩ := h
  exact ⟨es, clock, h1, h2, h3, h4⟩
theorem RangeAt.ne {α β : Type} {mk : α → Value} {mv : β → Value} {w : World} {b r : Nat} {l todo : List (α × β)} (h : RangeAt mk mv w r b l todo) : r ≠ b := h.1
theorem RangeAt.lt {α β : Type} {mk : α → Value} {mv : β → Value} {w : World} {b r : Nat} {l todo : List (α × β)} (h : RangeAt mk mv w r b l todo) : r < w.heap.size := by
  obtain ⟨_, es, clock, _, _, _, _, _, _, _, _, h, _⟩ := h
  exact (Array.getElem?_eq_some_iff.1 h).1
theorem RangeAt.same {α β : Type} {mk : α → Value} {mv : β → Value} {w : World} {b r : Nat} {l todo : List (α × β)} {w' : World} (h : RangeAt mk mv w r b l todo) (hr : w'.heap[r]? = w.heap[r]?) (hb : w'.heap[b]? = w.heap[b]?) : RangeAt mk mv w' r b l todo := by
  obtain ⟨h0, es, clock, since, seen, c0, h1, h2, h3, h4, h5, h6, h7⟩ := h
  exact ⟨h0, es, clock, since, seen, c0, hb.trans h1, h2, h3, h4, h5, hr.trans h6, h7⟩

theorem MapAt.range {α β : Type} {mk : α → Value} {mv : β → Value} {w : World} {b : Nat} {l : List (α × β)} (h : MapAt mk mv w b l) (ht : P.underlying t = some (.map k e)) :
    ∃ w', (Instr.range t (.map (some b))).run P w = .ok (.pointer (some ⟨w.heap.size, 0, none⟩)) w' ∧ RangeAt mk mv w' w.heap.size b l l ∧ w.grownBy w' none ∧ w'.heap.size = w.heap.size + 1 := by
  have hlt := h.lt
  obtain ⟨es, clock, hb, he, hn, hc⟩ := h
  refine ⟨_, run_range_map w t k e b es clock ht hb, ⟨by omega, es, clock, clock, #[], clock, ?_, he, hn, hc, hc, (MapKept.heap_alloc w _).1, Nat.le_refl _, Nat.le_refl _, ?_⟩, World.grownBy_alloc _ _ _, by simp⟩
  · exact ((MapKept.heap_alloc w _).2 _ hlt).trans hb
  · have : (leftOf es #[]) = es := by unfold leftOf; rw [Array.filter_eq_self]; simp
    rw [this]; exact he

theorem perm_filter_born {es : List MapEntry} {e : MapEntry} (hn : (es.map (·.born)).Nodup) (he : e ∈ es) : es.Perm (e :: es.filter fun x => !(x.born == e.born)) := by
  induction es with
  | nil => cases he
  | cons x es ih =>
    simp only [List.map_cons, List.nodup_cons] at hn
    by_cases hx : x.born = e.born
    · have hxe : x = e := by
        rcases List.mem_cons.1 he with h | h
        · exact h.symm
        · exact absurd (by rw [hx]; exact List.mem_map.2 ⟨e, h, rfl⟩) hn.1
      subst hxe
      have : es.filter (fun y => !(y.born == x.born)) = es := by
        rw [List.filter_eq_self]
        intro y hy
        have : y.born ≠ x.born := fun h => hn.1 (by rw [← h]; exact List.mem_map.2 ⟨y, hy, rfl⟩)
        simp [this]
      simp [this]
    · have he' : e ∈ es := by
        rcases List.mem_cons.1 he with h | h
        · exact absurd (by rw [h]) hx
        · exact h
      have h1 : (x :: es).filter (fun y => !(y.born == e.born)) = x :: es.filter (fun y => !(y.born == e.born)) := by simp [hx]
      rw [h1]
      exact ((ih hn.2 he').cons x).trans (List.Perm.swap _ _ _)

/-- THE STEP: nothing is left; or one of those that are to come, whichever the tape says. -/
theorem RangeAt.next {α β : Type} {mk : α → Value} {mv : β → Value} {w : World} {b r : Nat} {l todo : List (α × β)} (h : RangeAt mk mv w r b l todo) (ty : TypeId) :
    (todo = [] ∧ (Instr.next (.pointer (some ⟨r, 0, none⟩)) false ty).run P w = .ok (.tuple #[.bool false]) w) ∨
    ∃ x todo' w', todo.Perm (x :: todo') ∧ (Instr.next (.pointer (some ⟨r, 0, none⟩)) false ty).run P w = .ok (.tuple #[.bool true, mk x.1, mv x.2]) w' ∧ RangeAt mk mv w' r b l todo' ∧ w.grownBy w' (some r) ∧ w'.heap.size = w.heap.size ∧
      (Instr.entry (.pointer (some ⟨r, 0, none⟩))).run P w' = .ok (.tuple #[mk x.1, mv x.2]) w' := by
  obtain ⟨hne, es, clock, since, seen, c0, hb, he, hn, hc, hold, hr, hsc, hsk, hl⟩ := h
  rcases run_next_at (P := P) w ty r b since c0 seen es clock hr hb hold hsc with ⟨h0, hrun⟩ | ⟨e, hel, w1, hal, hrun⟩
  · refine Or.inl ⟨?_, hrun⟩
    have : (leftOf es seen) = #[] := Array.eq_empty_of_size_eq_zero h0
    rw [this] at hl
    cases todo with
    | nil => rfl
    | cons p q => simp at hl
  · obtain ⟨hem, hes⟩ := mem_left hel
    have hr1 : w1.heap[r]? = some (.mapIter (some b) since seen c0) := by rcases hal with rfl | rfl <;> exact hr
    have hb1 : w1.heap[b]? = some (.map es clock) := by rcases hal with rfl | rfl <;> exact hb
    have hset := heap_set (o' := .mapIter (some b) since (seen.push e.born) clock) hr1
    have hb' : (setBlock w1 r (.mapIter (some b) since (seen.push e.born) clock)).heap[b]? = some (.map es clock) := (hset.2 b (fun e1 => hne e1.symm)).trans hb1
    have hnl : ((leftOf es seen).toList.map (·.born)).Nodup := by
      have hsub : (leftOf es seen).toList.Sublist es.toList := by unfold leftOf; simp
      exact hn.sublist (hsub.map _)
    have hleft : (leftOf es (seen.push e.born)).toList = (leftOf es seen).toList.filter fun x => !(x.born == e.born) := by
      unfold leftOf
      simp only [Array.toList_filter, List.filter_filter]
      congr 1
      funext x
      rw [contains_push]
      cases seen.contains x.born <;> cases (x.born == e.born) <;> rfl
    have hp := perm_filter_born hnl hel
    have hpm := hp.map (fun e : MapEntry => (e.key, e.val))
    rw [hl, List.map_cons, ← hleft] at hpm
    -- the pairs behind the entries
    have hx : ∃ x todo', todo.Perm (x :: todo') ∧ (e.key, e.val) = kv mk mv x ∧ (leftOf es (seen.push e.born)).toList.map (fun e => (e.key, e.val)) = todo'.map (kv mk mv) := by
      have hlen : (leftOf es seen).toList.length = todo.length := by have := congrArg List.length hl; simpa using this
      obtain ⟨i, hi, hie⟩ := List.getElem_of_mem hel
      have hti : i < todo.length := by omega
      refine ⟨todo[i], todo.eraseIdx i, ?_, ?_, ?_⟩
      · exact perm_eraseIdx todo i hti
      · have := congrArg (·[i]?) hl
        simp only [List.getElem?_map, List.getElem?_eq_getElem hi, List.getElem?_eq_getElem hti, Option.map_some, Option.some.injEq] at this
        rw [hie] at this
        exact this
      · rw [hleft, map_eraseIdx, ← hl, ← map_eraseIdx]
        congr 1
        have : ∀ (L : List MapEntry) (i : Nat) (hi : i < L.length), (L.map (·.born)).Nodup → L.filter (fun x => !(x.born == L[i].born)) = L.eraseIdx i := by
          intro L
          induction L with
          | nil => intro i hi _; simp at hi
          | cons y L ih =>
            intro i hi hnd
            simp only [List.map_cons, List.nodup_cons] at hnd
            cases i with
            | zero =>
              simp only [List.getElem_cons_zero, List.eraseIdx_zero, List.tail_cons]
              have : L.filter (fun x => !(x.born == y.born)) = L := by
                rw [List.filter_eq_self]
                intro z hz
                have : z.born ≠ y.born := fun h => hnd.1 (by rw [← h]; exact List.mem_map.2 ⟨z, hz, rfl⟩)
                simp [this]
              simp [this]
            | succ i =>
              have hi' : i < L.length := by simpa using hi
              have hy : y.born ≠ L[i].born := fun h => hnd.1 (by rw [h]; exact List.mem_map.2 ⟨L[i], List.getElem_mem hi', rfl⟩)
              simp only [List.getElem_cons_succ, List.eraseIdx_cons_succ]
              rw [List.filter_cons]
              simp only [hy, Bool.not_eq_true', beq_eq_false_iff_ne, ne_eq, not_false_eq_true, if_true]
              rw [ih i hi' hnd.2]
        have h2 := this (leftOf es seen).toList i hi hnl
        rw [hie] at h2
        exact h2
    obtain ⟨x, todo', hperm, hxe, htodo⟩ := hx
    simp only [kv, Prod.mk.injEq] at hxe
    refine Or.inr ⟨x, todo', _, hperm, by rw [← hxe.1, ← hxe.2]; exact hrun, ⟨hne, es, clock, since, seen.push e.born, clock, hb', he, hn, hc, hold, hset.1, hsk, hsk, htodo⟩, ?_, ?_, ?_⟩
    · rcases hal with rfl | rfl <;> exact ⟨rfl, rfl, rfl, by simp [setBlock], fun i _ hi => hset.2 i (fun e1 => hi (by rw [e1]))⟩
    · rcases hal with rfl | rfl <;> simp [setBlock]
    · rw [← hxe.1, ← hxe.2]
      exact run_entry_at _ r b since seen es clock e hset.1 hb' hem hn
end
end Go.MapL
