/-
 THE DOCUMENT'S DISK, in plain Lean, and that it is alike to the program's, deed by deed. Conditions: those of each theorem.
 THE DOCUMENT'S DISK: its lists of names, walked. Conditions: those of each theorem.
 THE DOCUMENT'S DISK: a work on names, walked; how it lies in memory. Conditions: those of each theorem.
 THE DOCUMENT'S DISK: its small methods, walked. Conditions: those of each theorem.
 THE DOCUMENT'S DISK: names, the room that is, walked. Conditions: those of each theorem.
-/
import Derived.Test.YtmcmagplaflegaaGreatDoorX11

namespace Go.Proofs.YtmcmagplaflegaaGreatDoor
open Go Go.RowKit Go.MapL

/-! ### names, rising -/
def ltN (x y : ByteArray) : Bool := Op.bytesLess x.data.toList y.data.toList
theorem ltN_iff {x y : ByteArray} : ltN x y = true ↔ x.data.toList < y.data.toList := by unfold ltN; rw [Go.Proofs.bytesLess_eq]; exact decide_eq_true_iff
theorem ltN_trans {x y z : ByteArray} (h : ltN x y = true) (k : ltN y z = true) : ltN x z = true := by
 rw [ltN_iff] at *; exact List.lt_trans h k
theorem ltN_irrefl (x : ByteArray) : ltN x x = false := by
 rw [Bool.eq_false_iff]; intro h; rw [ltN_iff] at h; exact List.lt_irrefl _ h
theorem ba_ext {x y : ByteArray} (h : x.data.toList = y.data.toList) : x = y := by
 cases x; cases y; simp only [ByteArray.mk.injEq]; exact Array.toList_inj.1 h
theorem ltN_total {x y : ByteArray} (h : ltN x y = false) (hne : x ≠ y) : ltN y x = true := by
 rw [Bool.eq_false_iff] at h
 rw [ltN_iff]
 have h1 : ¬ x.data.toList < y.data.toList := fun k => h (ltN_iff.2 k)
 have h2 : y.data.toList ≤ x.data.toList := List.not_lt.1 h1
 rcases List.le_iff_lt_or_eq.1 h2 with h3 | h3
 ·exact h3
 ·exact absurd (ba_ext h3).symm hne
abbrev NL := List (ByteArray × Nat)
def without (x : ByteArray) (l : NL) : NL := l.filter fun q => decide (q.1 ≠ x)
def insN (x : ByteArray) (f : Nat) : NL → NL
 | [] => [(x, f)]
 | q :: t => if ltN x q.1 = true then (x, f) :: q :: t else q :: insN x f t
def withN (x : ByteArray) (f : Nat) (l : NL) : NL := insN x f (without x l)
/-- A work on names, as the document does it. -/
def doesR (l : NL) (q : ByteArray × ByteArray × Option Nat) : NL :=
 match q.2.2 with
 | none => if q.1 = ⟨#[]⟩ then l else without q.1 l
 | some f => withN q.2.1 f (if q.1 = ⟨#[]⟩ then l else without q.1 l)
abbrev Rising (m : NL) : Prop := m.Pairwise fun a b => ltN a.1 b.1 = true
theorem insN_perm (x : ByteArray) (f : Nat) : ∀ m : NL, (insN x f m).Perm ((x, f) :: m)
 | [] => .refl _
 | q :: t => by
  unfold insN; split
  ·exact .refl _
  ·exact ((insN_perm x f t).cons q).trans (.swap ..)
theorem insN_rising {x : ByteArray} {f : Nat} : ∀ {m : NL}, Rising m → (∀ q ∈ m, q.1 ≠ x) → Rising (insN x f m)
 | [], _, _ => by simp [insN]
 | q :: t, h, hne => by
  obtain ⟨h1, h2⟩ := List.pairwise_cons.1 h
  unfold insN; split
  ·rename_i hlt
   refine List.pairwise_cons.2 ⟨fun z hz => ?_, h⟩
   rcases List.mem_cons.1 hz with rfl | hz
   ·exact hlt
   ·exact ltN_trans hlt (h1 z hz)
  ·rename_i hlt
   refine List.pairwise_cons.2 ⟨fun z hz => ?_, insN_rising h2 (fun z hz => hne z (.tail _ hz))⟩
   rcases List.mem_cons.1 ((insN_perm x f t).mem_iff.1 hz) with rfl | hz
   ·exact ltN_total (Bool.eq_false_iff.2 hlt) (fun e => hne q (.head _) e.symm)
   ·exact h1 z hz
theorem without_rising {x : ByteArray} {m : NL} (h : Rising m) : Rising (without x m) := h.filter _
theorem without_mem {x : ByteArray} {m : NL} {q : ByteArray × Nat} : q ∈ without x m ↔ q ∈ m ∧ q.1 ≠ x := by unfold without; simp
theorem withN_rising {x : ByteArray} {f : Nat} {m : NL} (h : Rising m) : Rising (withN x f m) := insN_rising (without_rising h) (fun _ hq => (without_mem.1 hq).2)
theorem withN_mem {x : ByteArray} {f : Nat} {m : NL} {q : ByteArray × Nat} : q ∈ withN x f m ↔ q = (x, f) ∨ (q ∈ m ∧ q.1 ≠ x) := by
 unfold withN; rw [(insN_perm _ _ _).mem_iff, List.mem_cons, without_mem]
theorem rising_nodup {m : NL} (h : Rising m) : (m.map (·.1)).Nodup := by
 unfold List.Nodup
 rw [List.pairwise_map]
 exact h.imp (fun {a b} hab e => by rw [e, ltN_irrefl] at hab; cases hab)
/-- A map's pairs, in the order of their making, and the document's list: the same names, each of the same file. -/
structure Nms (B : Nat → Nat) (n : Nat) (l m : NL) : Prop where
 perm : l.Perm (m.map fun q => (q.1, B q.2))
 rising : Rising m
 low : ∀ q ∈ m, q.2 < n
 named : ∀ q ∈ m, 1 ≤ q.1.size
variable {B B' : Nat → Nat} {n n' : Nat} {l m : NL}
theorem del_filter {β : Type} (a : ByteArray) : ∀ (l : List (ByteArray × β)), (l.map (·.1)).Nodup → del a l = l.filter fun q => decide (q.1 ≠ a)
 | [], _ => rfl
 |(k, v) :: r, h => by
  obtain ⟨h1, h2⟩ := List.nodup_cons.1 h
  unfold del; split
  ·rename_i e; subst e
   rw [List.filter_cons_of_neg (by simp)]
   exact (List.filter_eq_self.2 (fun q hq => by simp; exact fun e => h1 (by show k ∈ r.map (·.1); rw [← e]; exact List.mem_map_of_mem hq))).symm
  ·rename_i e
   rw [List.filter_cons_of_pos (by simpa using e), del_filter a r h2]
theorem put_perm {β : Type} (a : ByteArray) (b : β) : ∀ (l : List (ByteArray × β)), (l.map (·.1)).Nodup → (put a b l).Perm ((a, b) :: l.filter fun q => decide (q.1 ≠ a))
 | [], _ => .refl _
 |(k, v) :: r, h => by
  obtain ⟨h1, h2⟩ := List.nodup_cons.1 h
  unfold put; split
  ·rename_i e; subst e
   rw [List.filter_cons_of_neg (by simp)]
   rw [List.filter_eq_self.2 (fun q hq => by simp; exact fun e => h1 (by show k ∈ r.map (·.1); rw [← e]; exact List.mem_map_of_mem hq))]
  ·rename_i e
   rw [List.filter_cons_of_pos (by simpa using e)]
   exact ((put_perm a b r h2).cons _).trans (.swap ..)
theorem Nms.nodup (h : Nms B n l m) : (l.map (·.1)).Nodup := by
 have := (h.perm.map (·.1))
 rw [List.map_map] at this
 exact this.nodup_iff.2 (rising_nodup h.rising)
theorem Nms.wider (h : Nms B n l m) (hn : n ≤ n') (hB : ∀ i, i < n → B' i = B i) : Nms B' n' l m :=
 ⟨by rw [List.map_congr_left (g := fun q => (q.1, B q.2)) (fun q hq => by rw [hB _ (h.low q hq)])]; exact h.perm, h.rising, fun q hq => Nat.lt_of_lt_of_le (h.low q hq) hn, h.named⟩
theorem Nms.without (h : Nms B n l m) (x : ByteArray) : Nms B n (del x l) (without x m) := by
 refine ⟨?_, without_rising h.rising, fun q hq => h.low q (without_mem.1 hq).1, fun q hq => h.named q (without_mem.1 hq).1⟩
 rw [del_filter x l h.nodup]
 have := h.perm.filter (fun q => decide (q.1 ≠ x))
 rw [List.filter_map] at this
 exact this
theorem Nms.put (h : Nms B n l m) (x : ByteArray) (f : Nat) (hf : f < n) (hx : 1 ≤ x.size) : Nms B n (put x (B f) l) (withN x f m) := by
 refine ⟨?_, withN_rising h.rising, fun q hq => ?_, fun q hq => ?_⟩
 ·refine (put_perm x (B f) l h.nodup).trans ?_
  have h1 := h.perm.filter (fun q => decide (q.1 ≠ x))
  rw [List.filter_map] at h1
  have h2 := (insN_perm x f (YtmcmagplaflegaaGreatDoor.without x m)).map (fun q => (q.1, B q.2))
  exact (h1.cons _).trans h2.symm
 ·rcases withN_mem.1 hq with rfl | ⟨hq, _⟩
  ·exact hf
  ·exact h.low q hq
 ·rcases withN_mem.1 hq with rfl | ⟨hq, _⟩
  ·exact hx
  ·exact h.named q hq
theorem del_none {β : Type} {x : ByteArray} : ∀ {l : List (ByteArray × β)}, (∀ q ∈ l, q.1 ≠ x) → del x l = l
 | [], _ => rfl
 |(k, v) :: r, h => by
  unfold del
  rw [if_neg (h (k, v) (.head _)), del_none (fun q hq => h q (.tail _ hq))]
theorem Nms.keyed (h : Nms B n l m) : ∀ q ∈ l, q.1 ≠ ⟨#[]⟩ := fun q hq e => by
 obtain ⟨q', h1, h2⟩ := List.mem_map.1 (h.perm.mem_iff.1 hq)
 have := h.named q' h1
 have e2 : q'.1 = q.1 := by rw [← h2]
 rw [e2, e] at this
 simp [ByteArray.size] at this
/-- A work of both. -/
theorem Nms.step (h : Nms B n l m) (a b : ByteArray) (f : Option Nat) (hf : ∀ i, f = some i → i < n ∧ 1 ≤ b.size) : Nms B n (step a b (f.map B) l) (doesR m (a, b, f)) := by
 have h1 : Nms B n (del a l) (if a = ⟨#[]⟩ then m else YtmcmagplaflegaaGreatDoor.without a m) := by
  split
  ·rename_i e; subst e
   rw [del_none h.keyed]; exact h
  ·exact h.without a
 cases f with
 | none => exact h1
 | some i => exact h1.put b i (hf i rfl).1 (hf i rfl).2
theorem look_perm {β : Type} {x : ByteArray} : ∀ {l : List (ByteArray × β)}, (l.map (·.1)).Nodup → ∀ v, MapL.look x l = some v ↔ (x, v) ∈ l
 | [], _, v => by simp [MapL.look]
 |(k, u) :: r, h, v => by
  obtain ⟨h1, h2⟩ := List.nodup_cons.1 h
  unfold MapL.look
  split
  ·rename_i e; subst e
   simp only [Option.some.injEq, List.mem_cons, Prod.mk.injEq, true_and]
   refine ⟨fun e => .inl e.symm, fun e => ?_⟩
   rcases e with e | e
   ·exact e.symm
   ·exact absurd (List.mem_map_of_mem (f := (·.1)) e) h1
  ·rename_i e
   rw [look_perm h2 v]
   simp only [List.mem_cons, Prod.mk.injEq]
   exact ⟨.inr, fun h3 => h3.resolve_left (fun h4 => e h4.1.symm)⟩
theorem Nms.look (h : Nms B n l m) (x : ByteArray) : MapL.look x l = (MapL.look x m).map B := by
 cases hm : MapL.look x m with
 | none =>
  cases hl : MapL.look x l with
  | none => rfl
  | some v =>
   have := (look_perm h.nodup v).1 hl
   obtain ⟨q, h1, h2⟩ := List.mem_map.1 (h.perm.mem_iff.1 this)
   have h3 : (x, q.2) ∈ m := by cases q; cases h2; exact h1
   rw [(look_perm (rising_nodup h.rising) q.2).2 h3] at hm
   cases hm
 | some i =>
  have h1 := (look_perm (rising_nodup h.rising) i).1 hm
  exact (look_perm h.nodup _).2 (h.perm.mem_iff.2 (List.mem_map.2 ⟨_, h1, rfl⟩))
/-- The names, in their order. -/
theorem Nms.names (h : Nms B n l m) : sortedN (l.map (·.1)) = m.map (·.1) := by
 unfold sortedN
 have hp : ((l.map (·.1)).map fun x => x.data.toList).Perm ((m.map (·.1)).map fun x => x.data.toList) := by
  have := (h.perm.map (·.1))
  rw [List.map_map] at this
  exact this.map _
 have e : ((l.map (·.1)).map fun x => x.data.toList).mergeSort leN = (m.map (·.1)).map fun x => x.data.toList := by
  refine List.Perm.eq_of_pairwise (le := fun a b => leN a b = true) (fun a b _ _ h1 h2 => ?_) (List.pairwise_mergeSort (fun a b c h1 h2 => ?_) (fun a b => ?_) _) ?_ ((List.mergeSort_perm _ _).trans hp)
  ·simp only [leN, decide_eq_true_eq] at h1 h2; exact List.le_antisymm h1 h2
  ·simp only [leN, decide_eq_true_eq] at *; exact List.le_trans h1 h2
  ·simp only [leN, Bool.or_eq_true, decide_eq_true_eq]; exact List.le_total a b
  ·rw [List.map_map, List.pairwise_map]
   exact h.rising.imp (fun {a b} hab => by simp only [leN, decide_eq_true_eq, Function.comp]; exact List.le_of_lt (ltN_iff.1 hab))
 rw [e, List.map_map]
 conv => rhs; rw [← List.map_id (m.map (·.1))]
 refine List.map_congr_left (fun x _ => ?_)
 cases x; simp
/-! ### the document's disk -/
structure RD where
 room : Nat
 files : List FileS
 now : NL
 kept : NL
 works : List (ByteArray × ByteArray × Option Nat)
 dead : Bool
 fails : Int
 keep : List Int
def RD.new (room : Nat) : RD := ⟨room, [], [], [], [], false, -1, []⟩
def fileD (d : RD) (i : Nat) : FileS := d.files.getD i ⟨[], 0⟩
def cutFile (keep : List Int) (k : Nat) (f : FileS) : FileS := ⟨f.b.take (f.mark + brought keep (1 + k) (f.b.length - f.mark)), f.mark + brought keep (1 + k) (f.b.length - f.mark)⟩
def heldIn (m : NL) (i : Nat) : Bool := m.any fun q => q.2 == i
def innerN (m : NL) (i k : Nat) (acc : NL) : NL := m.foldl (fun acc q => if q.2 = i then withN q.1 k acc else acc) acc
def crStep (keep : List Int) (m : NL) (old : List FileS) (st : List FileS × NL) (i : Nat) : List FileS × NL :=
 (if heldIn m i = true then st.1 ++ [cutFile keep st.1.length (old.getD i ⟨[], 0⟩)] else st.1, innerN m i st.1.length st.2)
def crAll (keep : List Int) (m : NL) (old : List FileS) (n : Nat) : List FileS × NL := (List.range n).foldl (crStep keep m old) ([], [])
def RD.aft (d : RD) (k : Nat) : NL := (d.works.take k).foldl doesR d.kept
def RD.crash (d : RD) (keep : List Int) : RD :=
 if d.dead then d else
  { d with files := (crAll keep (d.aft (brought keep 0 d.works.length)) d.files d.files.length).1, now := (crAll keep (d.aft (brought keep 0 d.works.length)) d.files d.files.length).2, kept := (crAll keep (d.aft (brought keep 0 d.works.length)) d.files d.files.length).2, works := [], dead := true, fails := -1 }
def RD.used (d : RD) : Nat := ((List.range d.files.length).map fun i => if heldIn d.now i || heldIn d.kept i then (fileD d i).b.length else 0).sum
/-- Where the i-th file goes: how many are held of those ahead of it. -/
def posIn (m : NL) (i : Nat) : Nat := ((List.range i).filter (heldIn m)).length
theorem innerN_mem (i k : Nat) (q : ByteArray × Nat) : ∀ (m acc : NL), q ∈ innerN m i k acc ↔ (q.2 = k ∧ (q.1, i) ∈ m) ∨ (q ∈ acc ∧ (q.1, i) ∉ m)
 | [], acc => by simp [innerN]
 | p :: m, acc => by
  have e : innerN (p :: m) i k acc = innerN m i k (if p.2 = i then withN p.1 k acc else acc) := rfl
  rw [e, innerN_mem i k q m]
  by_cases hp : p.2 = i
  ·rw [if_pos hp, withN_mem]
   have hpe : p = (p.1, i) := by rw [← hp]
   constructor
   ·rintro (⟨h1, h2⟩ | ⟨h1 | ⟨h1, h2⟩, h3⟩)
    ·exact .inl ⟨h1, .tail _ h2⟩
    ·left; subst h1; exact ⟨rfl, by rw [hpe]; exact .head _⟩
    ·right
     refine ⟨h1, fun h => ?_⟩
     rcases List.mem_cons.1 h with h | h
     ·exact h2 (by rw [← h])
     ·exact h3 h
   ·rintro (⟨h1, h2⟩ | ⟨h1, h2⟩)
    ·rcases List.mem_cons.1 h2 with h | h
     ·by_cases hm : (q.1, i) ∈ m
      ·exact .inl ⟨h1, hm⟩
      ·refine .inr ⟨.inl ?_, hm⟩
       rw [← h, ← h1]
     ·exact .inl ⟨h1, h⟩
    ·refine .inr ⟨.inr ⟨h1, fun e2 => h2 ?_⟩, fun h => h2 (.tail _ h)⟩
     rw [e2, ← hpe]; exact .head _
  ·rw [if_neg hp]
   have : (q.1, i) ≠ p := fun e2 => hp (by rw [← e2])
   constructor
   ·rintro (⟨h1, h2⟩ | ⟨h1, h2⟩)
    ·exact .inl ⟨h1, .tail _ h2⟩
    ·exact .inr ⟨h1, fun h => (List.mem_cons.1 h).elim this h2⟩
   ·rintro (⟨h1, h2⟩ | ⟨h1, h2⟩)
    ·exact .inl ⟨h1, (List.mem_cons.1 h2).resolve_left this⟩
    ·exact .inr ⟨h1, fun h => h2 (.tail _ h)⟩
theorem innerN_rising (i k : Nat) : ∀ (m acc : NL), Rising acc → Rising (innerN m i k acc)
 | [], acc, h => h
 | p :: m, acc, h => by
  show Rising (innerN m i k (if p.2 = i then withN p.1 k acc else acc))
  refine innerN_rising i k m _ ?_
  split
  ·exact withN_rising h
  ·exact h
theorem heldIn_iff {m : NL} {i : Nat} : heldIn m i = true ↔ ∃ x, (x, i) ∈ m := by
 unfold heldIn
 rw [List.any_eq_true]
 constructor
 ·rintro ⟨q, h1, h2⟩
  have : q.2 = i := by simpa using h2
  exact ⟨q.1, by rw [← this]; exact h1⟩
 ·rintro ⟨x, h⟩
  exact ⟨_, h, by simp⟩
theorem crAll_succ (keep : List Int) (m : NL) (old : List FileS) (n : Nat) : crAll keep m old (n + 1) = crStep keep m old (crAll keep m old n) n := by
 unfold crAll; rw [List.range_succ, List.foldl_append]; rfl
theorem crAll_files (keep : List Int) (m : NL) (old : List FileS) : ∀ n, (crAll keep m old n).1 = ((List.range n).filter (heldIn m)).mapIdx (fun k i => cutFile keep k (old.getD i ⟨[], 0⟩))
 | 0 => rfl
 | n + 1 => by
  rw [crAll_succ, List.range_succ, List.filter_append, List.mapIdx_append]
  show (if heldIn m n = true then (crAll keep m old n).1 ++ [cutFile keep (crAll keep m old n).1.length (old.getD n ⟨[], 0⟩)] else (crAll keep m old n).1) = _
  have hl : (crAll keep m old n).1.length = ((List.range n).filter (heldIn m)).length := by rw [crAll_files keep m old n, List.length_mapIdx]
  rw [hl, crAll_files keep m old n]
  by_cases h : heldIn m n = true <;> simp [h]
theorem crAll_len (keep : List Int) (m : NL) (old : List FileS) (n : Nat) : (crAll keep m old n).1.length = posIn m n := by rw [crAll_files, List.length_mapIdx]; rfl
theorem crAll_names (keep : List Int) (m : NL) (old : List FileS) (hm : (m.map (·.1)).Nodup) : ∀ n, Rising (crAll keep m old n).2 ∧ ∀ q, q ∈ (crAll keep m old n).2 ↔ ∃ i, i < n ∧ (q.1, i) ∈ m ∧ q.2 = posIn m i
 | 0 => ⟨List.Pairwise.nil, fun q => by simp [crAll]⟩
 | n + 1 => by
  obtain ⟨h1, h2⟩ := crAll_names keep m old hm n
  rw [crAll_succ]
  refine ⟨innerN_rising _ _ _ _ h1, fun q => ?_⟩
  show q ∈ innerN m n (crAll keep m old n).1.length (crAll keep m old n).2 ↔ _
  rw [innerN_mem, h2, crAll_len]
  constructor
  ·rintro (⟨h3, h4⟩ | ⟨⟨i, h3, h4, h5⟩, h6⟩)
   ·exact ⟨n, by omega, h4, h3⟩
   ·exact ⟨i, by omega, h4, h5⟩
  ·rintro ⟨i, h3, h4, h5⟩
   by_cases e : i = n
   ·subst e; exact .inl ⟨h5, h4⟩
   ·refine .inr ⟨⟨i, by omega, h4, h5⟩, fun h6 => e ?_⟩
    have h7 := (look_perm hm i).2 h4
    rw [(look_perm hm n).2 h6] at h7
    exact (Option.some.inj h7).symm
theorem posIn_at (m : NL) : ∀ (n i : Nat), i < n → heldIn m i = true → ((List.range n).filter (heldIn m))[posIn m i]? = some i
 | 0, i, h, _ => by omega
 | n + 1, i, h, hh => by
  rw [List.range_succ, List.filter_append]
  by_cases e : i = n
  ·subst e
   rw [List.getElem?_append_right (by exact Nat.le_refl _)]
   simp [posIn, hh]
  ·have := posIn_at m n i (by omega) hh
   rw [List.getElem?_append_left (List.getElem?_eq_some_iff.1 this).1]
   exact this
/-- The two disks are alike: L are the births of the document's files. -/
structure SimB (L : List Nat) (s : DS) (d : RD) : Prop where
 room : d.room = s.room
 dead : d.dead = s.dead
 fails : d.fails = s.fails
 keep : d.keep = s.keep
 births : ∀ b ∈ L, 1 ≤ b ∧ b ≤ s.births
 inc : L.Pairwise (· < ·)
 files : d.files = L.map s.file
 now : Nms (fun i => L.getD i 0) L.length s.names d.now
 kept : Nms (fun i => L.getD i 0) L.length s.kept d.kept
 works : s.works = d.works.map fun q => (q.1, q.2.1, q.2.2.map fun i => L.getD i 0)
 wlow : ∀ q ∈ d.works, ∀ i, q.2.2 = some i → i < L.length ∧ 1 ≤ q.2.1.size
 inj : ∀ k, ((after s k).map (·.2)).Nodup
 eq : s.names = after s s.works.length
variable {s : DS} {d : RD} {L : List Nat}
theorem Nms.fold {l m : NL} (h : Nms B n l m) : ∀ (W : List (ByteArray × ByteArray × Option Nat)), (∀ q ∈ W, ∀ i, q.2.2 = some i → i < n ∧ 1 ≤ q.2.1.size) → Nms B n ((W.map fun q => (q.1, q.2.1, q.2.2.map B)).foldl stepW l) (W.foldl doesR m)
 | [], _ => h
 | q :: W, hw => by
  have h1 := h.step q.1 q.2.1 q.2.2 (hw q (.head _))
  exact Nms.fold h1 W (fun q' hq' => hw q' (.tail _ hq'))
theorem SimB.aft (h : SimB L s d) (k : Nat) : Nms (fun i => L.getD i 0) L.length (after s k) (d.aft k) := by
 unfold after RD.aft
 rw [h.works, ← List.map_take]
 exact h.kept.fold _ (fun q hq => h.wlow q (List.mem_of_mem_take hq))
theorem getD_lt {L : List Nat} (h : L.Pairwise (· < ·)) {i j : Nat} (hij : i < j) (hj : j < L.length) : L.getD i 0 < L.getD j 0 := by
 rw [List.getD_eq_getElem?_getD, List.getD_eq_getElem?_getD, List.getElem?_eq_getElem hj, List.getElem?_eq_getElem (show i < L.length by omega)]
 exact List.pairwise_iff_getElem.1 h i j _ _ hij
theorem getD_inj {L : List Nat} (h : L.Pairwise (· < ·)) {i j : Nat} (hi : i < L.length) (hj : j < L.length) (e : L.getD i 0 = L.getD j 0) : i = j := by
 rcases Nat.lt_trichotomy i j with h1 | h1 | h1
 ·have := getD_lt h h1 hj; omega
 ·exact h1
 ·have := getD_lt h h1 hi; omega
theorem getD_mem {L : List Nat} {i : Nat} (hi : i < L.length) : L.getD i 0 ∈ L := by
 rw [List.getD_eq_getElem?_getD, List.getElem?_eq_getElem hi]; exact List.getElem_mem hi
theorem SimB.file (h : SimB L s d) {i : Nat} (hi : i < L.length) : fileD d i = s.file (L.getD i 0) := by
 unfold fileD
 rw [h.files]
 simp [List.getD_eq_getElem?_getD, hi]
theorem Nms.holds {l m : NL} (h : Nms B n l m) (b : Nat) : (l.any fun p => p.2 == b) = true ↔ ∃ i, B i = b ∧ heldIn m i = true := by
 rw [h.perm.any_eq, List.any_map, List.any_eq_true]
 constructor
 ·rintro ⟨q, h1, h2⟩
  exact ⟨q.2, by simpa using h2, heldIn_iff.2 ⟨q.1, h1⟩⟩
 ·rintro ⟨i, h1, h2⟩
  obtain ⟨x, hx⟩ := heldIn_iff.1 h2
  exact ⟨_, hx, by simpa using h1⟩
theorem Nms.lowH {l m : NL} (h : Nms B n l m) {i : Nat} (hh : heldIn m i = true) : i < n := by
 obtain ⟨x, hx⟩ := heldIn_iff.1 hh
 exact h.low _ hx
theorem sum_filter' {α : Type} (q : α → Bool) (f : α → Nat) : ∀ l : List α, ((l.filter q).map f).sum = (l.map fun x => if q x then f x else 0).sum
 | [] => rfl
 | x :: l => by
  by_cases h : q x = true <;> simp [h, sum_filter' q f l]
theorem SimB.used (h : SimB L s d) : usedOf s = d.used := by
 have hn : d.files.length = L.length := by rw [h.files, List.length_map]
 unfold usedOf RD.used
 rw [← sum_filter' (fun j => held s (j + 1)) (fun j => (s.file (j + 1)).b.length), ← sum_filter' (fun i => heldIn d.now i || heldIn d.kept i) (fun i => (fileD d i).b.length), hn]
 have e1 : ((List.range L.length).filter fun i => heldIn d.now i || heldIn d.kept i).map (fun i => (fileD d i).b.length) = ((((List.range L.length).filter fun i => heldIn d.now i || heldIn d.kept i).map fun i => L.getD i 0).map fun b => (s.file b).b.length) := by
  rw [List.map_map]
  refine List.map_congr_left (fun i hi => ?_)
  rw [h.file (List.mem_range.1 (List.mem_filter.1 hi).1)]; rfl
 have e2 : ((List.range s.births).filter fun j => held s (j + 1)).map (fun j => (s.file (j + 1)).b.length) = ((((List.range s.births).filter fun j => held s (j + 1)).map fun j => j + 1).map fun b => (s.file b).b.length) := by
  rw [List.map_map]; rfl
 rw [e1, e2]
 refine List.Perm.sum_nat (List.Perm.map _ ?_)
 have inj : ((List.range L.length).filter fun i => heldIn d.now i || heldIn d.kept i).Pairwise fun i j => L.getD i 0 ≠ L.getD j 0 := by
  refine (((List.pairwise_lt_range (n := L.length)).filter _).imp_of_mem ?_)
  intro i j hi hj hij e
  have := getD_lt h.inc hij (List.mem_range.1 (List.mem_filter.1 hj).1)
  omega
 refine (List.perm_ext_iff_of_nodup ?_ ?_).2 (fun b => ?_)
 ·exact (((List.pairwise_lt_range (n := s.births)).filter _).imp (fun {i j} hij e => by omega)).map _ (fun _ _ h => h)
 ·exact List.pairwise_map.2 inj
 ·simp only [List.mem_map, List.mem_filter, List.mem_range, Bool.or_eq_true]
  unfold held
  constructor
  ·rintro ⟨j, ⟨hj, hh⟩, rfl⟩
   rw [List.any_append, Bool.or_eq_true, h.now.holds, h.kept.holds] at hh
   rcases hh with ⟨i, h1, h2⟩ | ⟨i, h1, h2⟩
   ·exact ⟨i, ⟨h.now.lowH h2, .inl h2⟩, h1⟩
   ·exact ⟨i, ⟨h.kept.lowH h2, .inr h2⟩, h1⟩
  ·rintro ⟨i, ⟨hi, hh⟩, rfl⟩
   have hb := h.births _ (getD_mem hi)
   refine ⟨L.getD i 0 - 1, ⟨by omega, ?_⟩, by omega⟩
   rw [show L.getD i 0 - 1 + 1 = L.getD i 0 by omega, List.any_append, Bool.or_eq_true, h.now.holds, h.kept.holds]
   rcases hh with hh | hh
   ·exact .inl ⟨i, rfl, hh⟩
   ·exact .inr ⟨i, rfl, hh⟩
theorem crashFiles_out (keep : List Int) : ∀ (l : List Nat) (s : DS) (k j : Nat), j ∉ l → (crashFiles keep s k l).file j = s.file j
 | [], _, _, _, _ => rfl
 | i :: l, s, k, j, h => by
  show (crashFiles keep (crashFile keep s k i) (k + 1) l).file j = _
  rw [crashFiles_out keep l _ _ j (fun hm => h (.tail _ hm))]
  exact upd_other _ _ (fun e => h (e ▸ .head _))
theorem crashFiles_map (keep : List Int) : ∀ (l : List Nat) (s : DS) (k : Nat), l.Nodup → l.map (crashFiles keep s k l).file = l.mapIdx fun j b => cutFile keep (k + j) (s.file b)
 | [], _, _, _ => rfl
 | i :: l, s, k, h => by
  obtain ⟨h1, h2⟩ := List.nodup_cons.1 h
  rw [List.map_cons, List.mapIdx_cons]
  congr 1
  ·show (crashFiles keep (crashFile keep s k i) (k + 1) l).file i = _
   rw [crashFiles_out keep l _ _ i h1]
   exact upd_same _ _ _
  ·show l.map (crashFiles keep (crashFile keep s k i) (k + 1) l).file = _
   rw [crashFiles_map keep l _ _ h2]
   refine List.ext_getElem (by simp) (fun j hj _ => ?_)
   simp only [List.getElem_mapIdx]
   have : l[j]'(by simpa using hj) ≠ i := fun e => h1 (e ▸ List.getElem_mem _)
   show cutFile keep (k + 1 + j) (upd s.file i _ _) = _
   rw [upd_other _ _ this, show k + 1 + j = k + (j + 1) by omega]
theorem nodup_lt {l : List Nat} (h : l.Pairwise (· < ·)) : l.Nodup := h.imp (fun {a b} hab e => by omega)
theorem rising_lt {l m : List Nat} (hl : l.Pairwise (· < ·)) (h : m.Perm l) : rising m = l := by
 unfold rising
 refine List.Perm.eq_of_pairwise (le := fun a b => decide (a ≤ b) = true) (fun a b _ _ h1 h2 => ?_) (List.pairwise_mergeSort (fun a b c h1 h2 => ?_) (fun a b => ?_) _) ?_ ((List.mergeSort_perm _ _).trans h)
 ·simp at h1 h2; omega
 ·simp at *; omega
 ·simp; omega
 ·exact hl.imp (fun {a b} hab => by simp; omega)
/-- The births of those that are left. -/
def leftL (L : List Nat) (m : NL) : List Nat := ((List.range L.length).filter (heldIn m)).map fun i => L.getD i 0
theorem leftL_inc {m : NL} (h : L.Pairwise (· < ·)) : (leftL L m).Pairwise (· < ·) := by
 refine List.pairwise_map.2 ((((List.pairwise_lt_range (n := L.length)).filter _).imp_of_mem ?_))
 intro i j hi hj hij
 exact getD_lt h hij (List.mem_range.1 (List.mem_filter.1 hj).1)
theorem leftL_at {m : NL} {i : Nat} (hi : i < L.length) (hh : heldIn m i = true) : posIn m i < (leftL L m).length ∧ (leftL L m).getD (posIn m i) 0 = L.getD i 0 := by
 have h1 := posIn_at m L.length i hi hh
 have h2 := (List.getElem?_eq_some_iff.1 h1).1
 refine ⟨by unfold leftL; rw [List.length_map]; exact h2, ?_⟩
 unfold leftL
 rw [List.getD_eq_getElem?_getD, List.getElem?_map, h1]; rfl
theorem leftL_rising {l m : NL} (hL : L.Pairwise (· < ·)) (h : Nms (fun i => L.getD i 0) L.length l m) (hi : (l.map (·.2)).Nodup) : rising (l.map (·.2)) = leftL L m := by
 refine rising_lt (leftL_inc hL) ((List.perm_ext_iff_of_nodup hi (nodup_lt (leftL_inc hL))).2 (fun b => ?_))
 have := h.holds b
 rw [List.any_eq_true] at this
 simp only [List.mem_map]
 unfold leftL
 simp only [List.mem_map, List.mem_filter, List.mem_range]
 constructor
 ·rintro ⟨q, h1, h2⟩
  obtain ⟨i, h3, h4⟩ := this.1 ⟨q, h1, by simpa using h2⟩
  exact ⟨i, ⟨h.lowH h4, h4⟩, h3⟩
 ·rintro ⟨i, ⟨_, h4⟩, h3⟩
  obtain ⟨q, h1, h2⟩ := this.2 ⟨i, h3, h4⟩
  exact ⟨q, h1, by simpa using h2⟩
theorem crashFiles_keep (keep : List Int) : ∀ (l : List Nat) (s : DS) (k : Nat), (crashFiles keep s k l).keep = s.keep
 | [], _, _ => rfl
 | i :: l, s, k => crashFiles_keep keep l (crashFile keep s k i) (k + 1)
/-- A fall of both. -/
theorem SimB.crash (h : SimB L s d) (keep : List Int) : ∃ L', SimB L' (s.crash keep) (d.crash keep) := by
 unfold DS.crash RD.crash
 rw [h.dead]
 by_cases hd : s.dead = true
 ·rw [if_pos hd, if_pos hd]; exact ⟨L, h⟩
 rw [if_neg hd, if_neg hd]
 have hwl : d.works.length = s.works.length := by rw [h.works, List.length_map]
 rw [hwl]
 have hA := h.aft (brought keep 0 s.works.length)
 have hI := h.inj (brought keep 0 s.works.length)
 generalize after s (brought keep 0 s.works.length) = l at *
 generalize d.aft (brought keep 0 s.works.length) = m at *
 have hr := leftL_rising h.inc hA hI
 rw [hr]
 have hn : d.files.length = L.length := by rw [h.files, List.length_map]
 obtain ⟨c1, c2, _⟩ := crashFiles_same keep (leftL L m) s 0
 have c8 := crashFiles_keep keep (leftL L m) s 0
 have hnd := nodup_lt (leftL_inc (m := m) h.inc)
 have hm := crAll_names keep m d.files (rising_nodup hA.rising) d.files.length
 have hN : Nms (fun i => (leftL L m).getD i 0) (leftL L m).length l (crAll keep m d.files d.files.length).2 := by
  have each : ∀ q ∈ (crAll keep m d.files d.files.length).2, ∃ i, i < L.length ∧ (q.1, i) ∈ m ∧ q.2 = posIn m i := fun q hq => by
   obtain ⟨i, h1, h2, h3⟩ := (hm.2 q).1 hq
   exact ⟨i, by omega, h2, h3⟩
  refine ⟨(List.perm_ext_iff_of_nodup ?_ ?_).2 (fun q => ?_), hm.1, fun q hq => ?_, fun q hq => ?_⟩
  ·have := hA.nodup
   unfold List.Nodup at *
   rw [List.pairwise_map] at this
   exact this.imp (fun {a b} hab e => hab (by rw [e]))
  ·have := rising_nodup hm.1
   unfold List.Nodup at *
   rw [List.pairwise_map] at this ⊢
   exact this.imp (fun {a b} hab e => hab (by have := congrArg Prod.fst e; exact this))
  ·rw [hA.perm.mem_iff]
   simp only [List.mem_map]
   constructor
   ·rintro ⟨q', h1, rfl⟩
    have hh : heldIn m q'.2 = true := heldIn_iff.2 ⟨q'.1, h1⟩
    have hlow := hA.low q' h1
    exact ⟨(q'.1, posIn m q'.2), (hm.2 _).2 ⟨q'.2, by rw [hn]; exact hlow, h1, rfl⟩, by rw [(leftL_at hlow hh).2]⟩
   ·rintro ⟨q', h1, rfl⟩
    obtain ⟨i, h2, h3, h4⟩ := each q' h1
    exact ⟨(q'.1, i), h3, by rw [h4, (leftL_at h2 (heldIn_iff.2 ⟨_, h3⟩)).2]⟩
  ·obtain ⟨i, h2, h3, h4⟩ := each q hq
   rw [h4]; exact (leftL_at h2 (heldIn_iff.2 ⟨_, h3⟩)).1
  ·obtain ⟨i, h2, h3, h4⟩ := each q hq
   exact hA.named (q.1, i) h3
 refine ⟨leftL L m, ⟨h.room.trans c2.symm, rfl, rfl, h.keep.trans c8.symm, fun b hb => ?_, leftL_inc h.inc, ?_, hN, hN, rfl, fun q hq => (List.not_mem_nil hq).elim, fun k => ?_, ?_⟩⟩
 ·obtain ⟨i, hi, rfl⟩ := List.mem_map.1 hb
  show 1 ≤ _ ∧ _ ≤ (crashFiles keep s 0 (leftL L m)).births
  rw [c1]
  exact h.births _ (getD_mem (List.mem_range.1 (List.mem_filter.1 hi).1))
 ·show (crAll keep m d.files d.files.length).1 = (leftL L m).map (crashFiles keep s 0 (leftL L m)).file
  rw [crashFiles_map keep _ _ _ hnd, crAll_files, hn]
  unfold leftL
  refine List.ext_getElem (by simp) (fun j hj _ => ?_)
  simp only [List.getElem_mapIdx, Nat.zero_add, List.getElem_map]
  have hj' : ((List.range L.length).filter (heldIn m))[j]'(by simpa using hj) ∈ (List.range L.length).filter (heldIn m) := List.getElem_mem _
  have := h.file (List.mem_range.1 (List.mem_filter.1 hj').1)
  unfold fileD at this
  rw [this]
 ·have : after { crashFiles keep s 0 (leftL L m) with names := l, kept := l, works := [], dead := true, fails := -1 } k = l := by unfold after; simp
  rw [this]; exact hI
 ·unfold after; simp
/-! ### what is done to both -/
def RD.tick (d : RD) : RD := { d with fails := if 0 < d.fails then d.fails - 1 else d.fails }
def RD.setf (d : RD) (i : Nat) (f : FileS) : RD := { d with files := d.files.set i f }
def RD.renamed (d : RD) (a b : ByteArray) (f : Option Nat) : RD := { d with now := doesR d.now (a, b, f), works := d.works ++ [(a, b, f)] }
def RD.born (d : RD) : RD := { d with files := d.files ++ [⟨[], 0⟩] }
def fileR (d : RD) (x : ByteArray) : Option Nat := MapL.look x d.now
def RD.find (d : RD) (x : ByteArray) : RD × Nat :=
 match fileR d x with
 | some i => (d, i)
 | none => (d.born.renamed ⟨#[]⟩ x (some d.files.length), d.files.length)
def RD.grow (d : RD) (i : Nat) (l : List Nat) : RD := d.setf i ⟨(fileD d i).b ++ l, (fileD d i).mark⟩
def RD.append (d : RD) (x : ByteArray) (l : List Nat) : RD × Int :=
 if d.dead then (d, 51) else if (decide (1 ≤ x.size) && decide (x.size ≤ 40)) = false then (d, 50) else if d.room < d.used + l.length then (d, 52) else if d.fails = 0 then (d.crash d.keep, 51) else ((d.tick.find x).1.grow (d.tick.find x).2 l, 0)
def ofResR (d : RD) (x : ByteArray) (ok : Bool) : Option Nat × Int :=
 if d.dead then (none, 51) else match fileR d x with
  | none => (none, 50)
  | some i => if ok then (some i, 0) else (none, 50)
def RD.work (d : RD) (q : Option Nat × Int) (f : RD → Nat → RD) : RD × Int :=
 match q.1 with
 | none => (d, q.2)
 | some i => if d.fails = 0 then (d.crash d.keep, 51) else (f d.tick i, 0)
def RD.sync (d : RD) (x : ByteArray) : RD × Int := d.work (ofResR d x true) fun d i => d.setf i ⟨(fileD d i).b, (fileD d i).b.length⟩
def readR (d : RD) (x : ByteArray) : List Nat × Int :=
 if d.dead then ([], 51) else match fileR d x with
  | none => ([], 50)
  | some i => ((fileD d i).b, 0)
def RD.remove (d : RD) (x : ByteArray) : RD × Int := d.work (ofResR d x true) fun d _ => d.renamed x ⟨#[]⟩ none
def RD.rename (d : RD) (x y : ByteArray) : RD × Int := d.work (ofResR d x (okName y)) fun d i => if x = y then d else d.renamed x y (some i)
def RD.syncNames (d : RD) : RD × Int := if d.dead then (d, 51) else if d.fails = 0 then (d.crash d.keep, 51) else ({ d.tick with kept := d.now, works := [] }, 0)
def RD.boot (d : RD) : RD := { d with dead := false, fails := -1 }
def RD.fail (d : RD) (n : Int) (keep : List Int) : RD := if d.dead then d else { d with fails := max n (-1), keep := keep }
def RD.cut (d : RD) (x : ByteArray) (n : Int) : RD × Int :=
 if d.dead then (d, 51) else match fileR d x with
  | none => (d, 50)
  | some i => if n < 0 ∨ ((fileD d i).b.length : Int) < n then (d, 9) else if d.fails = 0 then (d.crash d.keep, 51) else (d.tick.setf i ⟨(fileD d i).b.take n.toNat, min (fileD d i).mark n.toNat⟩, 0)
def RD.turn (d : RD) (x : ByteArray) (k bit : Int) : RD × Int :=
 if d.dead then (d, 51) else match fileR d x with
  | none => (d, 50)
  | some i => if k < 0 ∨ ((fileD d i).b.length : Int) ≤ k ∨ bit < 0 ∨ 7 < bit then (d, 9) else (d.setf i ⟨(fileD d i).b.set k.toNat ((fileD d i).b.getD k.toNat 0 ^^^ 2 ^ bit.toNat), (fileD d i).mark⟩, 0)
def namesR (d : RD) : List ByteArray := if d.dead then [] else d.now.map (·.1)
theorem SimB.tick (h : SimB L s d) : SimB L s.tick d.tick := { h with fails := by unfold DS.tick RD.tick; simp only [h.fails] }
theorem SimB.fileR (h : SimB L s d) (x : ByteArray) : fileOf s x = (fileR d x).map fun i => L.getD i 0 := h.now.look x
theorem SimB.low (h : SimB L s d) {x : ByteArray} {i : Nat} (hf : YtmcmagplaflegaaGreatDoor.fileR d x = some i) : i < L.length := h.now.low _ ((look_perm (rising_nodup h.now.rising) i).1 hf)
theorem SimB.setf (h : SimB L s d) {i : Nat} (hi : i < L.length) (f : FileS) : SimB L (s.setf (L.getD i 0) f) (d.setf i f) := { h with
 files := by
  show d.files.set i f = L.map (upd s.file (L.getD i 0) f)
  rw [h.files]
  refine List.ext_getElem (by simp) (fun j hj _ => ?_)
  have hj' : j < L.length := by simpa using hj
  rw [List.getElem_set, List.getElem_map]
  have e : L[j] = L.getD j 0 := by simp [List.getD_eq_getElem?_getD, hj']
  split
  ·rename_i hij; subst hij; rw [List.getElem_map, e, upd_same]
  ·rename_i hij
   rw [List.getElem_map, upd_other _ _ (fun e2 => hij (getD_inj h.inc hi hj' (by rw [← e2, e])))] }
theorem after_fresh {a b : ByteArray} {f : Option Nat} {l : NL} (hk : (l.map (·.1)).Nodup) (hi : (l.map (·.2)).Nodup) (hf : ∀ v, f = some v → ∀ q ∈ l, q.1 ≠ a → q.2 ≠ v) : ((step a b f l).map (·.2)).Nodup := by
 have hd : ((del a l).map (·.2)).Nodup := by
  rw [del_filter a l hk]
  exact hi.sublist (List.filter_sublist.map _)
 cases f with
 | none => exact hd
 | some v =>
  show ((put b v (del a l)).map (·.2)).Nodup
  have hkd : ((del a l).map (·.1)).Nodup := by
   rw [del_filter a l hk]; exact hk.sublist (List.filter_sublist.map _)
  have := ((put_perm b v (del a l) hkd).map (·.2))
  rw [this.nodup_iff, List.map_cons, List.nodup_cons]
  refine ⟨fun hm => ?_, hd.sublist (List.filter_sublist.map _)⟩
  obtain ⟨q, h1, h2⟩ := List.mem_map.1 hm
  have h3 := (List.mem_filter.1 h1).1
  rw [del_filter a l hk] at h3
  have h4 := List.mem_filter.1 h3
  exact hf v rfl q h4.1 (by simpa using h4.2) h2
theorem SimB.renamed (h : SimB L s d) (a b : ByteArray) (f : Option Nat) (hf : ∀ i, f = some i → i < L.length ∧ 1 ≤ b.size) (hfr : ∀ i, f = some i → ∀ q ∈ s.names, q.1 ≠ a → q.2 ≠ L.getD i 0) :
  SimB L (s.renamed a b (f.map fun i => L.getD i 0)) (d.renamed a b f) := { h with
 now := h.now.step a b f hf
 works := by
  show s.works ++ _ = (d.works ++ _).map _
  rw [List.map_append, ← h.works]; rfl
 wlow := fun q hq => by
  rcases List.mem_append.1 hq with hq | hq
  ·exact h.wlow q hq
  ·rw [List.mem_singleton] at hq; subst hq; exact hf
 inj := fun k => by
  rw [after_renamed]
  split
  ·exact h.inj k
  ·rw [← h.eq]
   refine after_fresh h.now.nodup (by rw [h.eq]; exact h.inj _) (fun v hv q hq hne => ?_)
   cases f with
   | none => cases hv
   | some i => cases hv; exact hfr i rfl q hq hne
 eq := by
  rw [after_renamed, if_neg (by show ¬ (s.works ++ _).length ≤ _; rw [List.length_append]; simp), ← h.eq]; rfl }
theorem SimB.born (h : SimB L s d) : SimB (L ++ [s.births + 1]) s.born d.born := by
 have hB : ∀ i, i < L.length → (L ++ [s.births + 1]).getD i 0 = L.getD i 0 := fun i hi => by
  rw [List.getD_eq_getElem?_getD, List.getD_eq_getElem?_getD, List.getElem?_append_left hi]
 have hl : L.length ≤ (L ++ [s.births + 1]).length := by simp
 exact { h with
  births := fun b hb => by
   show 1 ≤ b ∧ b ≤ s.births + 1
   rcases List.mem_append.1 hb with hb | hb
   ·have := h.births b hb; omega
   ·rw [List.mem_singleton] at hb; omega
  inc := List.pairwise_append.2 ⟨h.inc, by simp, fun a ha b hb => by rw [List.mem_singleton] at hb; have := h.births a ha; omega⟩
  files := by
   show d.files ++ _ = (L ++ _).map (upd s.file (s.births + 1) _)
   rw [List.map_append, h.files, List.map_congr_left (g := s.file) (fun b hb => upd_other _ _ (by have := h.births b hb; omega))]
   simp [upd_same]
  now := h.now.wider hl hB
  kept := h.kept.wider hl hB
  works := by
   show s.works = _
   rw [h.works]
   refine List.map_congr_left (fun q hq => ?_)
   cases e : q.2.2 with
   | none => rfl
   | some i => simp only [Option.map_some]; rw [hB i (h.wlow q hq i e).1]
  wlow := fun q hq i hi => by
   have := h.wlow q hq i hi
   exact ⟨Nat.lt_of_lt_of_le this.1 hl, this.2⟩ }
theorem SimB.find (h : SimB L s d) (x : ByteArray) (hx : 1 ≤ x.size) (hlow : ∀ q ∈ s.names, q.2 ≤ s.births) : ∃ L', SimB L' (s.find x).1 (d.find x).1 ∧ (d.find x).2 < L'.length ∧ (s.find x).2 = L'.getD (d.find x).2 0 := by
 unfold DS.find RD.find
 have hf := h.fileR x
 cases hr : YtmcmagplaflegaaGreatDoor.fileR d x with
 | some i =>
  rw [hr] at hf
  rw [hf]
  exact ⟨L, h, h.low hr, rfl⟩
 | none =>
  rw [hr] at hf
  rw [hf]
  have hn : d.files.length = L.length := by rw [h.files, List.length_map]
  have e : (L ++ [s.births + 1]).getD L.length 0 = s.births + 1 := by simp [List.getD_eq_getElem?_getD]
  have h2 := h.born.renamed ⟨#[]⟩ x (some L.length) (fun i hi => by cases hi; exact ⟨by simp, hx⟩) (fun i hi q hq _ => by
   cases hi; rw [e]
   have := hlow q hq
   omega)
  simp only [Option.map_some, e] at h2
  refine ⟨L ++ [s.births + 1], ?_, ?_, ?_⟩
  ·show SimB _ (s.born.renamed ⟨#[]⟩ x (some (s.births + 1))) (d.born.renamed ⟨#[]⟩ x (some d.files.length))
   rw [hn]; exact h2
  ·show d.files.length < _
   simp [hn]
  ·show s.births + 1 = (L ++ [s.births + 1]).getD d.files.length 0
   rw [hn, e]
theorem SimB.append (h : SimB L s d) (x : ByteArray) (l : List Nat) (hlow : ∀ q ∈ s.names, q.2 ≤ s.births) : (s.append x l).2 = (d.append x l).2 ∧ ∃ L', SimB L' (s.append x l).1 (d.append x l).1 := by
 unfold DS.append RD.append
 rw [h.dead, h.room, h.fails, h.used, h.keep]
 split
 ·exact ⟨rfl, L, h⟩
 split
 ·exact ⟨rfl, L, h⟩
 rename_i hok
 split
 ·exact ⟨rfl, L, h⟩
 split
 ·exact ⟨rfl, h.crash _⟩
 refine ⟨rfl, ?_⟩
 obtain ⟨L', h1, h2, h3⟩ := h.tick.find x (by simp at hok; exact hok.1) hlow
 refine ⟨L', ?_⟩
 show SimB L' (DS.setf _ _ _) (RD.setf _ _ _)
 have := h1.file h2
 rw [this, h3]
 exact h1.setf h2 _
theorem SimB.ofRes (h : SimB L s d) (x : ByteArray) (ok : Bool) : ofRes s x ok = ((ofResR d x ok).1.map fun i => L.getD i 0, (ofResR d x ok).2) := by
 unfold YtmcmagplaflegaaGreatDoor.ofRes ofResR
 rw [h.dead, h.fileR x]
 split
 ·rfl
 ·cases YtmcmagplaflegaaGreatDoor.fileR d x with
  | none => rfl
  | some i => cases ok <;> rfl
theorem SimB.work (h : SimB L s d) (x : ByteArray) (ok : Bool) {f : DS → Nat → DS} {g : RD → Nat → RD} (hfg : ∀ i, YtmcmagplaflegaaGreatDoor.fileR d x = some i → ok = true → SimB L (f s.tick (L.getD i 0)) (g d.tick i)) :
  (s.work (YtmcmagplaflegaaGreatDoor.ofRes s x ok) f).2 = (d.work (ofResR d x ok) g).2 ∧ ∃ L', SimB L' (s.work (YtmcmagplaflegaaGreatDoor.ofRes s x ok) f).1 (d.work (ofResR d x ok) g).1 := by
 rw [h.ofRes]
 unfold DS.work RD.work
 cases hr : (ofResR d x ok).1 with
 | none => exact ⟨rfl, L, h⟩
 | some i =>
  simp only [Option.map_some]
  rw [h.fails, h.keep]
  have : YtmcmagplaflegaaGreatDoor.fileR d x = some i ∧ ok = true := by
   unfold ofResR at hr
   split at hr
   ·cases hr
   ·cases hf : YtmcmagplaflegaaGreatDoor.fileR d x with
    | none => rw [hf] at hr; cases hr
    | some j =>
     rw [hf] at hr
     cases ok with
     | false => cases hr
     | true => cases hr; exact ⟨rfl, rfl⟩
  split
  ·exact ⟨rfl, h.crash _⟩
  ·exact ⟨rfl, L, hfg i this.1 this.2⟩
theorem SimB.sync (h : SimB L s d) (x : ByteArray) : (s.sync x).2 = (d.sync x).2 ∧ ∃ L', SimB L' (s.sync x).1 (d.sync x).1 :=
 h.work x true (fun i hi _ => by
  have hl := h.low hi
  have := h.tick.file hl
  show SimB L (DS.setf s.tick _ _) (RD.setf d.tick i _)
  rw [this]
  exact h.tick.setf hl _)
theorem SimB.remove (h : SimB L s d) (x : ByteArray) : (s.remove x).2 = (d.remove x).2 ∧ ∃ L', SimB L' (s.remove x).1 (d.remove x).1 :=
 h.work x true (fun _ _ _ => h.tick.renamed x ⟨#[]⟩ none (fun i hi => by cases hi) (fun i hi => by cases hi))
theorem SimB.rename (h : SimB L s d) (x y : ByteArray) : (s.rename x y).2 = (d.rename x y).2 ∧ ∃ L', SimB L' (s.rename x y).1 (d.rename x y).1 :=
 h.work x (okName y) (fun i hi ho => by
  have hl := h.low hi
  show SimB L (if x = y then s.tick else s.tick.renamed x y (some (L.getD i 0))) (if x = y then d.tick else d.tick.renamed x y (some i))
  split
  ·exact h.tick
  ·refine h.tick.renamed x y (some i) (fun j hj => ?_) (fun j hj q hq hne => ?_)
   ·cases hj; unfold okName at ho; simp at ho; exact ⟨hl, ho.1⟩
   ·cases hj
    have h1 : fileOf s x = some (L.getD i 0) := by rw [h.fileR, hi]; rfl
    have h2 : (x, L.getD i 0) ∈ s.names := (look_perm h.now.nodup _).1 h1
    intro e
    have hinj : (s.names.map (·.2)).Nodup := by rw [h.eq]; exact h.inj _
    have h3 : q ∈ s.names := hq
    have : q = (x, L.getD i 0) := by
     unfold List.Nodup at hinj
     rw [List.pairwise_map] at hinj
     obtain ⟨a, ha, ea⟩ := List.mem_iff_getElem.1 h3
     obtain ⟨c, hc, ec⟩ := List.mem_iff_getElem.1 h2
     rcases Nat.lt_trichotomy a c with hac | hac | hac
     ·exact absurd (by rw [ea, ec]; exact e) (List.pairwise_iff_getElem.1 hinj a c ha hc hac)
     ·subst hac; rw [← ea, ec]
     ·exact absurd (by rw [ea, ec]; exact e.symm) (List.pairwise_iff_getElem.1 hinj c a hc ha hac)
    exact hne (by rw [this]))
theorem SimB.syncNames (h : SimB L s d) : s.syncNames.2 = d.syncNames.2 ∧ ∃ L', SimB L' s.syncNames.1 d.syncNames.1 := by
 unfold DS.syncNames RD.syncNames
 rw [h.dead, h.fails, h.keep]
 split
 ·exact ⟨rfl, L, h⟩
 split
 ·exact ⟨rfl, h.crash _⟩
 ·refine ⟨rfl, L, { h.tick with kept := h.tick.now, works := rfl, wlow := fun q hq => (List.not_mem_nil hq).elim, inj := fun k => ?_, eq := ?_ }⟩
  ·have : after { s.tick with kept := s.names, works := [] } k = s.names := by unfold after; simp
   rw [this, h.eq]; exact h.inj _
  ·unfold after; simp; rfl
theorem SimB.boot (h : SimB L s d) : SimB L s.boot d.boot := { h with dead := rfl, fails := rfl }
theorem SimB.fail (h : SimB L s d) (n : Int) (keep : List Int) : SimB L (s.fail n keep) (d.fail n keep) := by
 unfold DS.fail RD.fail
 rw [h.dead]
 split
 ·exact h
 ·exact { h with dead := rfl, fails := rfl, keep := rfl }
theorem SimB.cut (h : SimB L s d) (x : ByteArray) (n : Int) : (s.cut x n).2 = (d.cut x n).2 ∧ ∃ L', SimB L' (s.cut x n).1 (d.cut x n).1 := by
 unfold DS.cut RD.cut
 rw [h.dead, h.fileR x, h.fails, h.keep]
 split
 ·exact ⟨rfl, L, h⟩
 cases hr : YtmcmagplaflegaaGreatDoor.fileR d x with
 | none => exact ⟨rfl, L, h⟩
 | some i =>
  simp only [Option.map_some]
  have hl := h.low hr
  rw [h.file hl]
  split
  ·exact ⟨rfl, L, h⟩
  split
  ·exact ⟨rfl, h.crash _⟩
  ·exact ⟨rfl, L, h.tick.setf hl _⟩
theorem SimB.turn (h : SimB L s d) (x : ByteArray) (k bit : Int) : (s.turn x k bit).2 = (d.turn x k bit).2 ∧ ∃ L', SimB L' (s.turn x k bit).1 (d.turn x k bit).1 := by
 unfold DS.turn RD.turn
 rw [h.dead, h.fileR x]
 split
 ·exact ⟨rfl, L, h⟩
 cases hr : YtmcmagplaflegaaGreatDoor.fileR d x with
 | none => exact ⟨rfl, L, h⟩
 | some i =>
  simp only [Option.map_some]
  have hl := h.low hr
  rw [h.file hl]
  split
  ·exact ⟨rfl, L, h⟩
  ·exact ⟨rfl, L, h.setf hl _⟩
theorem SimB.read (h : SimB L s d) (x : ByteArray) : readRes s x = readR d x := by
 unfold readRes readR
 rw [h.dead, h.fileR x]
 split
 ·rfl
 cases hr : YtmcmagplaflegaaGreatDoor.fileR d x with
 | none => rfl
 | some i => simp only [Option.map_some]; rw [h.file (h.low hr)]
theorem SimB.names (h : SimB L s d) : namesOf s = namesR d := by
 unfold namesOf namesR
 rw [h.dead, h.now.names]
theorem sim_new (room : Nat) : SimB [] (DS.new room) (RD.new room) where
 room := rfl
 dead := rfl
 fails := rfl
 keep := rfl
 births := fun b hb => (List.not_mem_nil hb).elim
 inc := List.Pairwise.nil
 files := rfl
 now := ⟨.refl _, List.Pairwise.nil, fun q hq => (List.not_mem_nil hq).elim, fun q hq => (List.not_mem_nil hq).elim⟩
 kept := ⟨.refl _, List.Pairwise.nil, fun q hq => (List.not_mem_nil hq).elim, fun q hq => (List.not_mem_nil hq).elim⟩
 works := rfl
 wlow := fun q hq => (List.not_mem_nil hq).elim
 inj := fun k => by unfold after DS.new; simp
 eq := by unfold after DS.new; simp
end Go.Proofs.YtmcmagplaflegaaGreatDoor

namespace Go.Proofs.YtmcmagplaflegaaGreatDoor
open Go Go.RowKit Go.MapL Go.Poised

def encN (q : ByteArray × Nat) : List Value := [.string q.1, .int .i64 q.2]
/-- A list of names in memory. -/
def NamesAt (w : World) (n₀ : Nat) (v : Value) (m : NL) : Prop := w.ownsRow n₀ 159 2 v m.length (m.flatMap encN)
theorem NamesAt.below {w w' : World} {n₀ : Nat} {v : Value} {m : NL} (h : NamesAt w n₀ v m) (hb : Below w.heap.size w w') : NamesAt w' n₀ v m := own_kept h hb
theorem NamesAt.lower {w : World} {n₀ n₁ : Nat} {v : Value} {m : NL} (h : NamesAt w n₀ v m) (hn : n₁ ≤ n₀) : NamesAt w n₁ v m := own_base' h hn
theorem flat_get {α : Type} {enc : α → List Value} {z : Nat} (hz : ∀ x, (enc x).length = z) : ∀ (l : List α) (k : Nat) (hk : k < l.length) (j : Nat), j < z → (l.flatMap enc)[k * z + j]? = (enc l[k])[j]?
 | [], k, hk, _, _ => by simp at hk
 | x :: l, 0, _, j, hj => by
  rw [List.flatMap_cons, List.getElem?_append_left (by rw [hz]; omega)]; simp
 | x :: l, k + 1, hk, j, hj => by
  have : (k + 1) * z + j - z = k * z + j := by rw [Nat.succ_mul]; omega
  rw [List.flatMap_cons, List.getElem?_append_right (by rw [hz, Nat.succ_mul]; omega), hz, this]
  exact flat_get hz l k (by simpa using hk) j hj
/-- A row of structs: its cells. -/
theorem flat_cells {α : Type} {enc : α → List Value} {z : Nat} (hz : ∀ x, (enc x).length = z) {w : World} {n e : Nat} {v : Value} {l : List α} (h : w.ownsRow n e z v l.length (l.flatMap enc)) (k : Nat) (hk : k < l.length) :
  ∃ g cap, v = .slice (some ⟨g, 0, none⟩) l.length cap ∧ g < w.heap.size ∧ ∀ j, j < z → w.cell? ⟨g, k * z + j, none⟩ = (enc l[k])[j]? := by
 rcases h.2 with ⟨_, h0⟩ | ⟨g, cap, cur, hv, _, hg, hc, _, hsz, ht⟩
 ·omega
 ·refine ⟨g, cap, hv, (Array.getElem?_eq_some_iff.1 hg).1, fun j hj => ?_⟩
  rw [← flat_get hz l k hk j hj, ← ht]
  have : (k + 1) * z ≤ l.length * z := Nat.mul_le_mul_right _ (by omega)
  rw [Nat.succ_mul] at this
  simp only [World.cell?, hg, Option.isSome_none, Bool.false_eq_true, if_false]
  rw [List.getElem?_take, if_pos (by omega)]; simp
theorem NamesAt.cells {w : World} {n₀ : Nat} {v : Value} {m : NL} (h : NamesAt w n₀ v m) (k : Nat) (hk : k < m.length) :
  ∃ g cap, v = .slice (some ⟨g, 0, none⟩) m.length cap ∧ g < w.heap.size ∧ w.cell? ⟨g, k * 2, none⟩ = some (.string m[k].1) ∧ w.cell? ⟨g, k * 2 + 1, none⟩ = some (.int .i64 m[k].2) := by
 obtain ⟨g, cap, h1, h2, h3⟩ := flat_cells (enc := encN) (z := 2) (fun _ => rfl) h k hk
 exact ⟨g, cap, h1, h2, h3 0 (by omega), h3 1 (by omega)⟩
theorem text_eqD (x y : ByteArray) : (x.toList == y.toList) = decide (x = y) := text_eq x y
/-- Whose a name is, as a number. -/
def idxOf (m : NL) (x : ByteArray) : Int := match MapL.look x m with | none => -1 | some i => (i : Int)
theorem look_take_none {x : ByteArray} : ∀ {m : NL}, (∀ q ∈ m, q.1 ≠ x) → MapL.look x m = none
 | [], _ => rfl
 |(k, v) :: r, h => by
  unfold MapL.look
  rw [if_neg (h _ (.head _)), look_take_none (fun q hq => h q (.tail _ hq))]
theorem look_at_first {x : ByteArray} : ∀ {m : NL} {k : Nat} (hk : k < m.length), (∀ q ∈ m.take k, q.1 ≠ x) → m[k].1 = x → MapL.look x m = some m[k].2
 | [], k, hk, _, _ => by simp at hk
 |(y, v) :: r, 0, _, _, h2 => if_pos (show y = x from h2)
 |(y, v) :: r, k + 1, hk, h1, h2 => by
  unfold MapL.look
  rw [if_neg (h1 (y, v) (by simp)), look_at_first (k := k) (by simpa using hk) (fun q hq => h1 q (by simp [hq])) h2]; rfl
set_option maxRecDepth 100000 in
set_option maxHeartbeats 4000000 in
theorem find_any (v : Value) (m : NL) (x : ByteArray) (n₀ : Nat) (w : World) (h : NamesAt w n₀ v m) (hlen : m.length ≤ 1099511627776) :
  Calls Tryz.prog 120 #[v, .string x] w fun e w' => e = .returned (.int .i64 (idxOf m x)) ∧ w' = w := by
 obtain ⟨p, cap, rfl⟩ := own_shape h
 replace h : Hid (NamesAt w n₀ (.slice p m.length cap) m) := h
 go_enter Tryz.func120, Tryz.ntmps120
 go_wp2_with fail
 go_loopw [5] (fun i wr => ∃ k : Nat, k ≤ m.length ∧ i = .int .i64 k ∧ (∀ q ∈ m.take k, q.1 ≠ x) ∧ wr = w) (fun i _ => m.length - (intOf i).toNat)
 case atStart => exact ⟨0, by omega, rfl, by simp, rfl⟩
 case round =>
  obtain ⟨k, hk, rfl, hno, rfl⟩ := hrel
  by_cases hlt : k < m.length
  ·have hlt' : (k : Int) < (m.length : Int) := by omega
   obtain ⟨g, cap', e, hg, c0, c1⟩ := h.out.cells k hlt
   cases e
   generalize hq : m[k] = q at c0 c1
   obtain ⟨y, i⟩ := q
   simp only at c0 c1
   by_cases hx : y = x
   ·have hb : (y.toList == x.toList) = true := by rw [text_eqD, decide_eq_true hx]
    have hr : idxOf m x = (i : Int) := by unfold idxOf; rw [look_at_first hlt hno (by rw [hq]; exact hx), hq]
    replace hr : Hid _ := hr
    clear hx hno hq
    go_wp2_with fail
    go_returns
    exact ⟨by rw [hr.out]; rfl, rfl⟩
   ·have hb : (y.toList == x.toList) = false := by rw [text_eqD, decide_eq_false hx]
    have hno2 : Hid (∀ q ∈ m.take (k + 1), q.1 ≠ x) := fun q h2 => by
     rw [List.take_succ_eq_append_getElem hlt] at h2
     rcases List.mem_append.1 h2 with h2 | h2
     ·exact hno q h2
     ·rw [List.mem_singleton] at h2; rw [h2, hq]; exact hx
    clear hx hno hq
    go_wp2_with fail
    go_roundw
    case rel => exact ⟨k + 1, by omega, by go_num, hno2.out, by first | rfl | trivial⟩
    case measure => simp [intOf]; omega
  ·obtain rfl : k = m.length := by omega
   have hr : idxOf m x = -1 := by unfold idxOf; rw [look_take_none (by rw [List.take_of_length_le (Nat.le_refl _)] at hno; exact hno)]
   replace hr : Hid _ := hr
   clear hno
   have hlt' : ¬ ((m.length : Nat) : Int) < (m.length : Int) := by omega
   go_wp2_with fail
   go_returns
   exact ⟨by rw [hr.out]; rfl, rfl⟩

theorem info159 : (Tryz.prog.info? 159).map (fun i => (i.zero, i.size, i.bytes)) = some (some (.agg #[.string ⟨#[]⟩, .int .i64 0]), 2, 24) := by kernel_rfl
theorem cells_new2 (w : World) (x y : Value) (t : TypeId) : ∀ j u, [x, y][j]? = some u → (w.alloc (.cells #[x, y] t)).cell? ((⟨w.heap.size, 0, none⟩ : Addr).add j) = some u := by
 intro j u hj
 obtain ⟨c0, c1⟩ := getD_cell (heap_new w (.cells #[x, y] t))
 rw [Addr.add_lit, Nat.zero_add]
 match j, hj with
 | 0, hj => simp at hj; subst hj; exact c0
 | 1, hj => simp at hj; subst hj; exact c1
theorem NamesAt.nil (w : World) (n : Nat) : NamesAt w n (.slice none 0 0) [] := World.ownsRow_nil _ _ _ _
theorem NamesAt.push {w : World} {n : Nat} {v : Value} {m : NL} {q : ByteArray × Nat} (h : w.ownsRow n 159 2 v (m.length + 1) (m.flatMap encN ++ encN q)) : NamesAt w n v (m ++ [q]) := by
 unfold NamesAt
 rw [List.length_append, List.flatMap_append, List.flatMap_cons, List.flatMap_nil, List.append_nil]
 exact h
theorem without_succ {x : ByteArray} {m : NL} {k : Nat} (hk : k < m.length) : without x (m.take (k + 1)) = if m[k].1 = x then without x (m.take k) else without x (m.take k) ++ [m[k]] := by
 rw [List.take_succ_eq_append_getElem hk]
 unfold without
 rw [List.filter_append]
 split
 ·rename_i h; simp [h]
 ·rename_i h; simp [h]
theorem without_len (x : ByteArray) (m : NL) : (without x m).length ≤ m.length := List.length_filter_le _ _
theorem one2 (x : ByteArray) (i : Int) : ∀ u ∈ [Value.string x, .int .i64 i], u.oneCell' = true := by
 intro u hu
 rcases List.mem_cons.1 hu with rfl | hu
 ·rfl
 ·rw [List.mem_singleton] at hu; subst hu; rfl
set_option maxRecDepth 100000 in
set_option maxHeartbeats 4000000 in
theorem without_any (v : Value) (m : NL) (x : ByteArray) (n₀ : Nat) (w : World) (h : NamesAt w n₀ v m) (hlen : m.length ≤ 1099511627776) :
  Calls Tryz.prog 139 #[v, .string x] w fun e w' => ∃ v', e = .returned v' ∧ NamesAt w' w.heap.size v' (without x m) ∧ Below w.heap.size w w' := by
 obtain ⟨i0, hi, hz0, hz1, hz2⟩ := info_parts info159
 obtain ⟨p, cap, rfl⟩ := own_shape h
 replace h : Hid (NamesAt w n₀ (.slice p m.length cap) m) := h
 replace hz0 : Hid _ := hz0
 replace hz1 : Hid _ := hz1
 replace hz2 : Hid _ := hz2
 go_enter Tryz.func139, Tryz.ntmps139
 go_wp2_with fail
 go_loopw [6, 5] (fun i o wr => ∃ k : Nat, k ≤ m.length ∧ i = .int .i64 k ∧ NamesAt wr w.heap.size o (without x (m.take k)) ∧ Below w.heap.size w wr) (fun i _ _ => m.length - (intOf i).toNat)
 case atStart => exact ⟨0, by omega, rfl, NamesAt.nil _ _, Below.refl _ _⟩
 case round =>
  obtain ⟨k, hk, rfl, hout, hB⟩ := hrel
  obtain ⟨po, co, rfl⟩ := own_shape hout
  by_cases hlt : k < m.length
  ·have hlt' : (k : Int) < (m.length : Int) := by omega
   obtain ⟨g, cap', e, hg, c0', c1'⟩ := h.out.cells k hlt
   have c0 := (hB.cell (p := ⟨g, k * 2, none⟩) hg).trans c0'
   have c1 := (hB.cell (p := ⟨g, k * 2 + 1, none⟩) hg).trans c1'
   clear c0' c1'
   cases e
   have hw := without_succ (x := x) hlt
   have hol := without_len x (m.take k)
   rw [List.length_take] at hol
   generalize hq : m[k] = q at c0 c1 hw
   obtain ⟨y, i⟩ := q
   simp only at c0 c1 hw
   by_cases hx : y = x
   ·rw [if_pos hx] at hw
    have hb : (y.toList == x.toList) = true := by rw [text_eqD, decide_eq_true hx]
    have hb2 : (y.toList != x.toList) = false := by simp only [bne, hb]; rfl
    replace hw : Hid _ := hw
    replace hout : Hid (NamesAt wr w.heap.size (.slice po (without x (m.take k)).length co) (without x (m.take k))) := hout
    clear hx hq
    go_wp2_with fail
    go_roundw
    case rel => exact ⟨k + 1, by omega, by go_num, by rw [hw.out]; exact hout.out, hB⟩
    case measure => simp [intOf]; omega
   ·rw [if_neg hx] at hw
    have hb : (y.toList == x.toList) = false := by rw [text_eqD, decide_eq_false hx]
    have hb2 : (y.toList != x.toList) = true := by simp only [bne, hb]; rfl
    replace hw : Hid _ := hw
    replace hout : Hid (NamesAt wr w.heap.size (.slice po (without x (m.take k)).length co) (without x (m.take k))) := hout
    clear hx hq
    obtain ⟨M, hM⟩ : ∃ M, without x (m.take k) = M := ⟨_, rfl⟩
    rw [hM] at hw hout hol ⊢
    clear hM
    go_wp2_with (at_builtin; refine wpList_append_own _ rfl _ _ 104 rfl w.heap.size 159 i0 (.agg #[.string ⟨#[]⟩, .int .i64 0]) 2 24 Tryz.underlying104 hi hz0.out hz1.out hz2.out rfl (by decide) _ M.length _ rfl (own_kept hout.out ((Below.refl _ _).alloc (Nat.le_refl _) _)) ⟨wr.heap.size, 0, none⟩ 1 1 [.string y, .int .i64 i] rfl rfl (cells_new2 wr _ _ 159) (one2 y i) (by unfold maxLen; omega) (by omega) (by have := hB.size; simp; omega) ?_; intro v' w1 hown' hgrow _)
    go_roundw
    case rel => exact ⟨k + 1, by omega, by go_num, by rw [hw.out]; exact NamesAt.push hown', (hB.alloc hB.size _).grown hgrow (by simp; have := hB.size; omega) (fun k hk => (hout.out.lt k hk).1)⟩
    case measure => simp [intOf]; omega
  ·obtain rfl : k = m.length := by omega
   rw [List.take_of_length_le (Nat.le_refl _)] at hout
   replace hout : Hid (NamesAt wr w.heap.size (.slice po (without x m).length co) (without x m)) := hout
   have hlt' : ¬ ((m.length : Nat) : Int) < (m.length : Int) := by omega
   go_wp2_with fail
   go_returns
   exact ⟨_, rfl, hout.out, hB⟩
set_option maxHeartbeats 2000000 in
set_option maxRecDepth 100000 in
theorem broughtR_any (v : Value) (l : List Int) (i most : Nat) (_ : i ≤ 4611686018427387904) (hm : most ≤ 4611686018427387904) (w : World) (hl : IntsIn w v l) :
  Calls Tryz.prog 114 #[v, .int .i64 i, .int .i64 most] w fun e w' => e = .returned (.int .i64 (brought l i most)) ∧ w' = w := by
 obtain ⟨hb, hlen, hv⟩ := hl
 by_cases hlt : i < l.length
 ·obtain ⟨rfl, rfl⟩ | ⟨a, cap, rfl, rfl⟩ | ⟨b, off, cap, rfl, hc⟩ := hv
  ·simp at hlt
  ·simp at hlt
  ·have hci := hc i hlt
   obtain ⟨x, hx⟩ : ∃ x, l.getD i 0 = x := ⟨_, rfl⟩
   have hxb : -9223372036854775808 ≤ x ∧ x ≤ 9223372036854775807 := by
    rw [← hx, List.getD_eq_getElem?_getD, List.getElem?_eq_getElem hlt]; exact hb _ (List.getElem_mem hlt)
   rw [hx] at hci
   obtain ⟨y, hy⟩ : ∃ y : Nat, brought l i most = y := ⟨_, rfl⟩
   have hyx : Hid ((y : Int) = x % (most + 1)) := by
    show (y : Int) = x % (most + 1)
    rw [← hy, brought, if_pos hlt, hx]
    have := Int.emod_nonneg x (b := (most : Int) + 1) (by omega)
    omega
   rw [hy]
   have h1 : -((most : Int) + 1) < x.tmod (most + 1) := by have := Int.lt_tmod_of_pos x (show (0:Int) < most + 1 by omega); omega
   have h2 : x.tmod (most + 1) < most + 1 := Int.tmod_lt_of_pos x (by omega)
   have g1 : IntKind.i64.wrap ((most : Int) + 1) = (most : Int) + 1 := IntWalk.i64_in _ (by omega)
   have g3 : decide (l.length ≤ i) = false := by simp; omega
   clear hx hy hb hc
   obtain ⟨n, hn⟩ : ∃ n : Int, (most : Int) + 1 = n := ⟨_, rfl⟩
   rw [hn] at h1 h2 hyx
   have hn1 : 1 ≤ n ∧ n ≤ 4611686018427387905 := by omega
   rw [hn] at g1
   have hn0 : ¬ n ≤ 0 := by omega
   have g1' : IntKind.i64.wrap ((most : Int) + 1) = n := by rw [hn]; exact g1
   have hmn : Hid ((most : Int) = n - 1) := by show (most : Int) = n - 1; omega
   clear hn
   by_cases hneg : x.tmod n < 0
   ·have g4 : IntKind.i64.wrap (x.tmod n + (most : Int)) = x.tmod n + (most : Int) := IntWalk.i64_in _ (by omega)
    have g5 : IntKind.i64.wrap (x.tmod n + (most : Int) + 1) = x.tmod n + (most : Int) + 1 := IntWalk.i64_in _ (by omega)
    have hr : Hid (x.tmod n + (most : Int) + 1 = x % n) := by
     show x.tmod n + (most : Int) + 1 = x % n
     have hmn := hmn.out
     suffices x.tmod n + n = x % n by omega
     have e1 := Int.emod_add_mul_ediv x n
     have e2 := Int.tmod_add_mul_tdiv x n
     have e3 : (x.tmod n + n - x % n) = n * (x / n - x.tdiv n + 1) := by rw [Int.mul_add, Int.mul_sub]; omega
     have a1 := Int.emod_nonneg x (show n ≠ 0 by omega)
     have a2 := Int.emod_lt_of_pos x (show 0 < n by omega)
     have h5 : (x / n - x.tdiv n + 1) = 0 := by
      have b1 : n * (x / n - x.tdiv n + 1) < n * 1 := by omega
      have b2 : n * (-1) < n * (x / n - x.tdiv n + 1) := by omega
      have c1 := Int.lt_of_mul_lt_mul_left b1 (by omega)
      have c2 := Int.lt_of_mul_lt_mul_left b2 (by omega)
      omega
     rw [h5] at e3
     omega
    go_enter Tryz.func114, Tryz.ntmps114
    go_wp2
    go_returns
    exact ⟨ret_int (hr.out.trans hyx.out.symm), rfl⟩
   ·have hr : Hid (x.tmod n = x % n) := by
     show x.tmod n = x % n
     have e1 := Int.emod_add_mul_ediv x n
     have e2 := Int.tmod_add_mul_tdiv x n
     have e3 : (x.tmod n - x % n) = n * (x / n - x.tdiv n) := by rw [Int.mul_sub]; omega
     have a1 := Int.emod_nonneg x (show n ≠ 0 by omega)
     have a2 := Int.emod_lt_of_pos x (show 0 < n by omega)
     have h5 : (x / n - x.tdiv n) = 0 := by
      have b1 : n * (x / n - x.tdiv n) < n * 1 := by omega
      have b2 : n * (-1) < n * (x / n - x.tdiv n) := by omega
      have c1 := Int.lt_of_mul_lt_mul_left b1 (by omega)
      have c2 := Int.lt_of_mul_lt_mul_left b2 (by omega)
      omega
     rw [h5] at e3
     omega
    go_enter Tryz.func114, Tryz.ntmps114
    go_wp2
    go_returns
    exact ⟨ret_int (hr.out.trans hyx.out.symm), rfl⟩
 ·have hy : brought l i most = 0 := by rw [brought, if_neg hlt]
  rw [hy]
  have g3 : decide (l.length ≤ i) = true := by simp; omega
  obtain ⟨rfl, rfl⟩ | ⟨a, cap, rfl, rfl⟩ | ⟨b, off, cap, rfl, hc⟩ := hv
  all_goals
   go_enter Tryz.func114, Tryz.ntmps114
   go_wp2
   go_returns
   exact ⟨rfl, rfl⟩

theorem insN_no {x : ByteArray} {f : Nat} : ∀ {l : NL}, (l.any fun q => ltN x q.1) = false → insN x f l = l ++ [(x, f)]
 | [], _ => rfl
 | q :: t, h => by
  rw [List.any_cons, Bool.or_eq_false_iff] at h
  unfold insN
  rw [if_neg (by rw [h.1]; simp), insN_no h.2]; rfl
theorem insN_yes {x : ByteArray} {f : Nat} (r : NL) : ∀ {l : NL}, (l.any fun q => ltN x q.1) = true → insN x f (l ++ r) = insN x f l ++ r
 | [], h => by simp at h
 | q :: t, h => by
  rw [List.cons_append]
  unfold insN
  by_cases hq : ltN x q.1 = true
  ·rw [if_pos hq, if_pos hq]; rfl
  ·rw [if_neg hq, if_neg hq]
   rw [List.any_cons] at h
   rw [insN_yes r (by simpa [hq] using h)]; rfl
theorem insN_new {x : ByteArray} {f : Nat} {q : ByteArray × Nat} : ∀ {l : NL}, (l.any fun q => ltN x q.1) = false → ltN x q.1 = true → insN x f (l ++ [q]) = l ++ [(x, f)] ++ [q]
 | [], _, h => by show insN x f [q] = _; unfold insN; rw [if_pos h]; rfl
 | p :: t, h, hq => by
  rw [List.any_cons, Bool.or_eq_false_iff] at h
  rw [List.cons_append]
  unfold insN
  rw [if_neg (by rw [h.1]; simp), insN_new h.2 hq]; rfl
/-- What stands there behind k rounds. -/
def partN (x : ByteArray) (f : Nat) (R : NL) (k : Nat) : NL := if ((R.take k).any fun q => ltN x q.1) = true then insN x f (R.take k) else R.take k
theorem partN_len (x : ByteArray) (f : Nat) (R : NL) (k : Nat) : (partN x f R k).length ≤ R.length + 1 := by
 have : (R.take k).length ≤ R.length := by rw [List.length_take]; omega
 unfold partN; split
 ·rw [(insN_perm _ _ _).length_eq, List.length_cons]; omega
 ·omega
theorem any_succ {x : ByteArray} {R : NL} {k : Nat} (hk : k < R.length) : ((R.take (k + 1)).any fun q => ltN x q.1) = (((R.take k).any fun q => ltN x q.1) || ltN x R[k].1) := by
 rw [List.take_succ_eq_append_getElem hk, List.any_append]; simp
theorem partN_old {x : ByteArray} {f : Nat} {R : NL} {k : Nat} (hk : k < R.length) (h : ((R.take k).any fun q => ltN x q.1) = true ∨ ltN x R[k].1 = false) : partN x f R (k + 1) = partN x f R k ++ [R[k]] := by
 unfold partN
 rw [any_succ hk]
 by_cases h1 : ((R.take k).any fun q => ltN x q.1) = true
 ·rw [h1, Bool.true_or, if_pos rfl, if_pos rfl, List.take_succ_eq_append_getElem hk, insN_yes _ h1]
 ·rw [Bool.not_eq_true] at h1
  have h2 := h.resolve_left (by rw [h1]; simp)
  rw [h1, h2, Bool.or_false, if_neg (by simp), if_neg (by simp), List.take_succ_eq_append_getElem hk]
theorem partN_new {x : ByteArray} {f : Nat} {R : NL} {k : Nat} (hk : k < R.length) (h1 : ((R.take k).any fun q => ltN x q.1) = false) (h2 : ltN x R[k].1 = true) : partN x f R (k + 1) = partN x f R k ++ [(x, f)] ++ [R[k]] := by
 unfold partN
 rw [any_succ hk, h1, h2, Bool.or_true, if_pos rfl, if_neg (by simp), List.take_succ_eq_append_getElem hk, insN_new h1 h2]
theorem partN_end {x : ByteArray} {f : Nat} {R : NL} : insN x f R = if (R.any fun q => ltN x q.1) = true then partN x f R R.length else partN x f R R.length ++ [(x, f)] := by
 unfold partN
 rw [List.take_of_length_le (Nat.le_refl _)]
 split
 ·rfl
 ·rename_i h
  rw [Bool.not_eq_true] at h
  exact insN_no h
theorem ltN_list (x y : ByteArray) : Op.bytesLess x.toList y.toList = ltN x y := by unfold ltN; rw [Lib.toList_data, Lib.toList_data]
set_option maxRecDepth 100000 in
set_option maxHeartbeats 8000000 in
theorem with_any (v : Value) (m : NL) (x : ByteArray) (f n₀ : Nat) (w : World) (h : NamesAt w n₀ v m) (hlen : m.length ≤ 1099511627776) :
  Calls Tryz.prog 116 #[v, .string x, .int .i64 f] w fun e w' => ∃ v', e = .returned v' ∧ NamesAt w' w.heap.size v' (withN x f m) ∧ Below w.heap.size w w' := by
 obtain ⟨i0, hi, hz0, hz1, hz2⟩ := info_parts info159
 have hwo := without_any v m x n₀ w h hlen
 have hRl := without_len x m
 replace hz0 : Hid _ := hz0
 replace hz1 : Hid _ := hz1
 replace hz2 : Hid _ := hz2
 unfold withN
 generalize without x m = R at hwo hRl ⊢
 clear h
 go_enter Tryz.func116, Tryz.ntmps116
 go_wp2_with (go_at_call 139; refine hwo.mono ?_; clear hwo; rintro e wR ⟨vR, rfl, hR, hBR⟩; obtain ⟨pR, cR, rfl⟩ := own_shape hR; replace hR : Hid (NamesAt wR w.heap.size (.slice pR R.length cR) R) := hR)
 go_loopw [10, 7, 8] (fun i o pt wr => ∃ k : Nat, k ≤ R.length ∧ i = .int .i64 k ∧ pt = .bool ((R.take k).any fun q => ltN x q.1) ∧ NamesAt wr wR.heap.size o (partN x f R k) ∧ Below wR.heap.size wR wr) (fun i _ _ _ => R.length - (intOf i).toNat)
 case atStart => exact ⟨0, by omega, rfl, rfl, NamesAt.nil _ _, Below.refl _ _⟩
 case round =>
  obtain ⟨k, hk, rfl, rfl, hout, hB⟩ := hrel
  obtain ⟨po, co, rfl⟩ := own_shape hout
  have hBw := hBR.trans (hB.mono hBR.size)
  have hpl := partN_len x f R k
  by_cases hlt : k < R.length
  ·have hlt' : (k : Int) < (R.length : Int) := by omega
   obtain ⟨g, cap', e, hg, c0', c1'⟩ := hR.out.cells k hlt
   have c0 := (hB.cell (p := ⟨g, k * 2, none⟩) hg).trans c0'
   have c1 := (hB.cell (p := ⟨g, k * 2 + 1, none⟩) hg).trans c1'
   have hcs : ∀ W, Below wR.heap.size wR W → W.cell? ⟨g, k * 2, none⟩ = some (.string R[k].1) ∧ W.cell? ⟨g, k * 2 + 1, none⟩ = some (.int .i64 R[k].2) := fun W hW => ⟨(hW.cell (p := ⟨g, k * 2, none⟩) hg).trans c0', (hW.cell (p := ⟨g, k * 2 + 1, none⟩) hg).trans c1'⟩
   clear c0' c1'
   cases e
   have ho := partN_old (x := x) (f := f) hlt
   have hn := partN_new (x := x) (f := f) hlt
   have ha := any_succ (x := x) hlt
   generalize hq : R[k] = q at c0 c1 ho hn ha hcs
   obtain ⟨y, i⟩ := q
   simp only at c0 c1 ho hn ha hcs
   replace hcs : Hid _ := hcs
   obtain ⟨M, hM⟩ : ∃ M, partN x f R k = M := ⟨_, rfl⟩
   rw [hM] at ho hn hout hpl ⊢
   clear hM hq
   replace hout : Hid (NamesAt wr wR.heap.size (.slice po M.length co) M) := hout
   have hlty := ltN_list x y
   obtain ⟨pb, hpb⟩ : ∃ pb, ((R.take k).any fun q => ltN x q.1) = pb := ⟨_, rfl⟩
   rw [hpb] at ho hn ha ⊢
   clear hpb
   obtain ⟨lb, hlb⟩ : ∃ lb, ltN x y = lb := ⟨_, rfl⟩
   rw [hlb] at ho hn ha hlty
   clear hlb
   cases pb with
   | true =>
    have ho' := ho (.inl rfl)
    clear ho hn
    replace ho' : Hid _ := ho'
    replace ha : Hid _ := ha
    go_wp2_with (at_builtin; refine wpList_append_own _ rfl _ _ 104 rfl wR.heap.size 159 i0 (.agg #[.string ⟨#[]⟩, .int .i64 0]) 2 24 Tryz.underlying104 hi hz0.out hz1.out hz2.out rfl (by decide) _ M.length _ rfl (own_kept hout.out ((Below.refl _ _).alloc (Nat.le_refl _) _)) ⟨wr.heap.size, 0, none⟩ 1 1 [.string y, .int .i64 i] rfl rfl (cells_new2 wr _ _ 159) (one2 y i) (by unfold maxLen; omega) (by omega) (by have := hB.size; simp; omega) ?_; intro v' w1 hown' hgrow _)
    go_roundw
    case rel => exact ⟨k + 1, by omega, by go_num, by rw [ha.out]; rfl, by rw [ho'.out]; exact NamesAt.push hown', (hB.alloc hB.size _).grown hgrow (by simp; have := hB.size; omega) (fun k hk => (hout.out.lt k hk).1)⟩
    case measure => simp [intOf]; omega
   | false =>
    cases lb with
    | false =>
     have ho' := ho (.inr rfl)
     clear ho hn
     replace ho' : Hid _ := ho'
     replace ha : Hid _ := ha
     go_wp2_with (at_builtin; refine wpList_append_own _ rfl _ _ 104 rfl wR.heap.size 159 i0 (.agg #[.string ⟨#[]⟩, .int .i64 0]) 2 24 Tryz.underlying104 hi hz0.out hz1.out hz2.out rfl (by decide) _ M.length _ rfl (own_kept hout.out ((Below.refl _ _).alloc (Nat.le_refl _) _)) ⟨wr.heap.size, 0, none⟩ 1 1 [.string y, .int .i64 i] rfl rfl (cells_new2 wr _ _ 159) (one2 y i) (by unfold maxLen; omega) (by omega) (by have := hB.size; simp; omega) ?_; intro v' w1 hown' hgrow _)
     go_roundw
     case rel => exact ⟨k + 1, by omega, by go_num, by rw [ha.out]; rfl, by rw [ho'.out]; exact NamesAt.push hown', (hB.alloc hB.size _).grown hgrow (by simp; have := hB.size; omega) (fun k hk => (hout.out.lt k hk).1)⟩
     case measure => simp [intOf]; omega
    | true =>
     have hn' := hn rfl rfl
     clear ho hn
     replace hn' : Hid _ := hn'
     replace ha : Hid _ := ha
     have k1 : True := trivial
     go_wp2_with (first
      |(clear k1; at_builtin; refine wpList_append_own _ rfl _ _ 104 rfl wR.heap.size 159 i0 (.agg #[.string ⟨#[]⟩, .int .i64 0]) 2 24 Tryz.underlying104 hi hz0.out hz1.out hz2.out rfl (by decide) _ M.length _ rfl (own_kept hout.out ((Below.refl _ _).alloc (Nat.le_refl _) _)) ⟨wr.heap.size, 0, none⟩ 1 1 [.string x, .int .i64 f] rfl rfl (cells_new2 wr _ _ 159) (one2 x f) (by unfold maxLen; omega) (by omega) (by have := hB.size; simp; omega) ?_; intro v' w1 hown' hgrow _
        have hM1 := NamesAt.push (q := (x, f)) hown'
        have hB1 : Below wR.heap.size wR w1 := (hB.alloc hB.size _).grown hgrow (by simp; have := hB.size; omega) (fun k hk => (hout.out.lt k hk).1)
        obtain ⟨p1, c1', rfl⟩ := own_shape hM1
        obtain ⟨d0, d1⟩ := hcs.out w1 hB1
        have hMl : (M ++ [(x, f)]).length = M.length + 1 := by simp
        unfold NamesAt at hM1
        rw [hMl] at hM1 ⊢
        replace hM1 : Hid (w1.ownsRow wR.heap.size 159 2 (.slice p1 (M.length + 1) c1') (M.length + 1) ((M ++ [(x, f)]).flatMap encN)) := hM1
        clear hMl
        have k2 : True := trivial)
      |(clear k2; at_builtin; refine wpList_append_own _ rfl _ _ 104 rfl wR.heap.size 159 i0 (.agg #[.string ⟨#[]⟩, .int .i64 0]) 2 24 Tryz.underlying104 hi hz0.out hz1.out hz2.out rfl (by decide) _ (M.length + 1) _ rfl (own_kept hM1.out ((Below.refl _ _).alloc (Nat.le_refl _) _)) ⟨w1.heap.size, 0, none⟩ 1 1 [.string y, .int .i64 i] rfl rfl (cells_new2 w1 _ _ 159) (one2 y i) (by unfold maxLen; omega) (by omega) (by have := hB1.size; simp; omega) ?_; intro v'' w2 hown'' hgrow2 _))
     go_roundw
     case rel => exact ⟨k + 1, by omega, by go_num, by rw [ha.out]; rfl, by rw [hn'.out]; exact NamesAt.push (m := M ++ [(x, f)]) (q := (y, i)) (by rw [List.length_append]; exact hown''), (hB1.alloc hB1.size _).grown hgrow2 (by simp; have := hB1.size; omega) (fun k hk => (hM1.out.lt k hk).1)⟩
     case measure => simp [intOf]; omega
  ·obtain rfl : k = R.length := by omega
   have hlt' : ¬ ((R.length : Nat) : Int) < (R.length : Int) := by omega
   have he := partN_end (x := x) (f := f) (R := R)
   rw [List.take_of_length_le (Nat.le_refl _)]
   obtain ⟨pb, hpb⟩ : ∃ pb, (R.any fun q => ltN x q.1) = pb := ⟨_, rfl⟩
   rw [hpb] at he ⊢
   clear hpb
   cases pb with
   | true =>
    rw [if_pos rfl] at he
    replace he : Hid _ := he
    replace hout : Hid (NamesAt wr wR.heap.size (.slice po (partN x f R R.length).length co) (partN x f R R.length)) := hout
    go_wp2_with fail
    go_returns
    exact ⟨_, rfl, by rw [he.out]; exact hout.out.lower hBR.size, hBw⟩
   | false =>
    rw [if_neg (by simp)] at he
    replace he : Hid _ := he
    replace hout : Hid (NamesAt wr wR.heap.size (.slice po (partN x f R R.length).length co) (partN x f R R.length)) := hout
    go_wp2_with (at_builtin; refine wpList_append_own _ rfl _ _ 104 rfl wR.heap.size 159 i0 (.agg #[.string ⟨#[]⟩, .int .i64 0]) 2 24 Tryz.underlying104 hi hz0.out hz1.out hz2.out rfl (by decide) _ (partN x f R R.length).length _ rfl (own_kept hout.out ((Below.refl _ _).alloc (Nat.le_refl _) _)) ⟨wr.heap.size, 0, none⟩ 1 1 [.string x, .int .i64 f] rfl rfl (cells_new2 wr _ _ 159) (one2 x f) (by unfold maxLen; omega) (by omega) (by have := hB.size; simp; omega) ?_; intro v' w1 hown' hgrow _)
    go_returns
    exact ⟨_, rfl, by rw [he.out]; exact (NamesAt.push hown').lower hBR.size, hBR.trans (((hB.alloc hB.size _).grown hgrow (by simp; have := hB.size; omega) (fun k hk => (hout.out.lt k hk).1)).mono hBR.size)⟩
end Go.Proofs.YtmcmagplaflegaaGreatDoor

namespace Go.Proofs.YtmcmagplaflegaaGreatDoor
open Go Go.RowKit Go.MapL Go.Poised

def fInt : Option Nat → Int
 | none => -1
 | some i => (i : Int)
theorem text_nil (x : ByteArray) : (x.toList == []) = decide (x = ⟨#[]⟩) := by
 have := text_eq x ⟨#[]⟩
 have e : (⟨#[]⟩ : ByteArray).toList = [] := by rw [Lib.toList_data]
 rw [e] at this
 exact this
theorem doesR_len (m : NL) (q : ByteArray × ByteArray × Option Nat) : (doesR m q).length ≤ m.length + 1 := by
 have hw : ∀ (x : ByteArray) (l : NL), (without x l).length ≤ l.length := without_len
 have h1 : (if q.1 = ⟨#[]⟩ then m else without q.1 m).length ≤ m.length := by
  split
  ·exact Nat.le_refl _
  ·exact hw _ _
 unfold doesR
 split
 ·exact Nat.le_succ_of_le h1
 ·unfold withN
  rw [(insN_perm _ _ _).length_eq, List.length_cons]
  exact Nat.succ_le_succ (Nat.le_trans (hw _ _) h1)
set_option maxRecDepth 100000 in
set_option maxHeartbeats 4000000 in
theorem doesR_any (v : Value) (m : NL) (a b : ByteArray) (f : Option Nat) (n₀ : Nat) (w : World) (h : NamesAt w n₀ v m) (hn : n₀ ≤ w.heap.size) (hlen : m.length ≤ 1099511627776) :
  Calls Tryz.prog 115 #[v, .agg #[.string a, .string b, .int .i64 (fInt f)]] w fun e w' => ∃ v', e = .returned v' ∧ NamesAt w' n₀ v' (doesR m (a, b, f)) ∧ Below w.heap.size w w' ∧ ∀ g, v'.ownBlock = some g → v.ownBlock = some g ∨ w.heap.size ≤ g := by
 have hal := (Below.refl w.heap.size w).alloc (Nat.le_refl _) (.cells #[.string a, .string b, .int .i64 (fInt f)] 157)
 obtain ⟨z0, z1, z2⟩ := cells3 (heap_new w (.cells #[.string a, .string b, .int .i64 (fInt f)] 157))
 have hwo := without_any v m a n₀ _ (h.below hal) hlen
 by_cases ha : a = ⟨#[]⟩
 ·have hb : (a.toList == []) = true := by rw [text_nil, decide_eq_true ha]
  have hb2 : (a.toList != []) = false := by simp only [bne, hb]; rfl
  clear hwo
  cases f with
  | none =>
   have he : doesR m (a, b, none) = m := by unfold doesR; simp only; rw [if_pos ha]
   rw [he]
   clear he ha
   simp only [fInt] at *
   go_enter Tryz.func115, Tryz.ntmps115
   go_wp2_with fail
   go_returns
   exact ⟨_, rfl, h.below hal, hal, fun g hg => .inl hg⟩
  | some i =>
   have he : doesR m (a, b, some i) = withN b i m := by unfold doesR; simp only; rw [if_pos ha]
   rw [he]
   clear he ha
   simp only [fInt] at *
   have hwi := with_any v m b i n₀ _ (h.below hal) hlen
   replace h : Hid _ := h
   replace hal : Hid _ := hal
   go_enter Tryz.func115, Tryz.ntmps115
   go_wp2_with (go_at_call 116; refine hwi.mono ?_; clear hwi; rintro e w2 ⟨v2, rfl, h2, hb2⟩)
   go_returns
   exact ⟨_, rfl, h2.lower (by simp; omega), hal.out.trans (hb2.mono (by simp)), fun g hg => .inr (by have := (World.ownsRow.lt h2 g hg).1; simp at this; omega)⟩
 ·have hb : (a.toList == []) = false := by rw [text_nil, decide_eq_false ha]
  have hb2 : (a.toList != []) = true := by simp only [bne, hb]; rfl
  cases f with
  | none =>
   have he : doesR m (a, b, none) = without a m := by unfold doesR; simp only; rw [if_neg ha]
   rw [he]
   clear he ha
   simp only [fInt] at *
   replace h : Hid _ := h
   replace hal : Hid _ := hal
   go_enter Tryz.func115, Tryz.ntmps115
   go_wp2_with (go_at_call 139; refine hwo.mono ?_; clear hwo; rintro e w2 ⟨v2, rfl, h2, hb2⟩; have y2 := (hb2.cell (p := ⟨w.heap.size, 2, none⟩) (by simp)).trans z2)
   go_returns
   exact ⟨_, rfl, h2.lower (by simp; omega), hal.out.trans (hb2.mono (by simp)), fun g hg => .inr (by have := (World.ownsRow.lt h2 g hg).1; simp at this; omega)⟩
  | some i =>
   have he : doesR m (a, b, some i) = withN b i (without a m) := by unfold doesR; simp only; rw [if_neg ha]
   rw [he]
   clear he ha
   simp only [fInt] at *
   have hwl := without_len a m
   replace h : Hid _ := h
   replace hal : Hid _ := hal
   go_enter Tryz.func115, Tryz.ntmps115
   go_wp2_with (first
    |(go_at_call 139; refine hwo.mono ?_; clear hwo; rintro e w2 ⟨v2, rfl, h2, hb2⟩; have y1 := (hb2.cell (p := ⟨w.heap.size, 1, none⟩) (by simp)).trans z1; have y2 := (hb2.cell (p := ⟨w.heap.size, 2, none⟩) (by simp)).trans z2)
    |(go_at_call 116; refine (with_any _ _ b i _ _ h2 (by omega)).mono ?_; rintro e w3 ⟨v3, rfl, h3, hb3⟩))
   go_returns
   have := hb2.size
   exact ⟨_, rfl, h3.lower (by simp at this; omega), hal.out.trans ((hb2.trans (hb3.mono hb2.size)).mono (by simp)), fun g hg => .inr (by have h9 := (World.ownsRow.lt h3 g hg).1; simp at this; omega)⟩
/-! ### where it lies -/
structure RRep where
 fv : Value
 bv : Nat → Value
 nv : Value
 kv : Value
 wv : Value
 pv : Value
def encF1 (bv : Nat → Value) (l : List FileS) (i : Nat) : List Value := [bv i, .int .i64 ((l.getD i ⟨[], 0⟩).mark : Nat)]
def encF (bv : Nat → Value) (l : List FileS) : List Value := (List.range l.length).flatMap (encF1 bv l)
def encWR (q : ByteArray × ByteArray × Option Nat) : List Value := [.string q.1, .string q.2.1, .int .i64 (fInt q.2.2)]
def topR (d : RD) (r : RRep) : Obj := .cells #[.int .i64 d.room, r.fv, r.nv, r.kv, r.wv, .bool d.dead, .int .i64 d.fails, r.pv] 107
/-- The document's disk d lies at block p; all its blocks are n₀ or beyond. -/
structure RLies (w : World) (p n₀ : Nat) (r : RRep) (d : RD) : Prop where
 top : w.heap[p]? = some (topR d r)
 files : w.ownsRow n₀ 162 2 r.fv d.files.length (encF r.bv d.files)
 data : ∀ i, i < d.files.length → w.ownsRow n₀ 5 1 (r.bv i) (fileD d i).b.length (encB (fileD d i).b)
 rowInj : ∀ i j, i < d.files.length → j < d.files.length → i ≠ j → (r.bv i).ownBlock ≠ none → (r.bv i).ownBlock ≠ (r.bv j).ownBlock
 now : NamesAt w n₀ r.nv d.now
 kept : NamesAt w n₀ r.kv d.kept
 works : w.ownsRow n₀ 157 3 r.wv d.works.length (d.works.flatMap encWR)
 keep : w.ownsRow n₀ 3 1 r.pv d.keep.length (encI d.keep)
 base : n₀ ≤ p
/-- Its blocks. -/
def ownR (p : Nat) (r : RRep) (d : RD) (k : Nat) : Prop :=
 k = p ∨ r.fv.ownBlock = some k ∨ (∃ i, i < d.files.length ∧ (r.bv i).ownBlock = some k) ∨ r.nv.ownBlock = some k ∨ r.kv.ownBlock = some k ∨ r.wv.ownBlock = some k ∨ r.pv.ownBlock = some k
variable {w w' : World} {p n₀ : Nat} {r : RRep} {d : RD}
theorem RLies.same (h : RLies w p n₀ r d) (hb : ∀ k, ownR p r d k → w'.heap[k]? = w.heap[k]?) : RLies w' p n₀ r d where
 top := (hb _ (.inl rfl)).trans h.top
 files := row_same h.files (fun g hg => hb g (.inr (.inl hg)))
 data := fun i hi => row_same (h.data i hi) (fun g hg => hb g (.inr (.inr (.inl ⟨i, hi, hg⟩))))
 rowInj := h.rowInj
 now := row_same h.now (fun g hg => hb g (.inr (.inr (.inr (.inl hg)))))
 kept := row_same h.kept (fun g hg => hb g (.inr (.inr (.inr (.inr (.inl hg))))))
 works := row_same h.works (fun g hg => hb g (.inr (.inr (.inr (.inr (.inr (.inl hg)))))))
 keep := row_same h.keep (fun g hg => hb g (.inr (.inr (.inr (.inr (.inr (.inr hg)))))))
 base := h.base
theorem RLies.lt (h : RLies w p n₀ r d) : ∀ k, ownR p r d k → n₀ ≤ k ∧ k < w.heap.size := by
 rintro k (rfl | hk | ⟨i, hi, hk⟩ | hk | hk | hk | hk)
 ·exact ⟨h.base, (Array.getElem?_eq_some_iff.1 h.top).1⟩
 ·exact h.files.lt k hk
 ·exact (h.data i hi).lt k hk
 ·exact World.ownsRow.lt h.now k hk
 ·exact World.ownsRow.lt h.kept k hk
 ·exact h.works.lt k hk
 ·exact h.keep.lt k hk
theorem RLies.below (h : RLies w p n₀ r d) (hb : Below w.heap.size w w') : RLies w' p n₀ r d := h.same (fun k hk => hb.block k (h.lt k hk).2)
theorem cells8 {w : World} {B : Nat} {a b c d e f g h : Value} {t : TypeId} (hh : w.heap[B]? = some (.cells #[a, b, c, d, e, f, g, h] t)) : w.cell? ⟨B, 0, none⟩ = some a ∧ w.cell? ⟨B, 1, none⟩ = some b ∧ w.cell? ⟨B, 2, none⟩ = some c ∧ w.cell? ⟨B, 3, none⟩ = some d ∧ w.cell? ⟨B, 4, none⟩ = some e ∧ w.cell? ⟨B, 5, none⟩ = some f ∧ w.cell? ⟨B, 6, none⟩ = some g ∧ w.cell? ⟨B, 7, none⟩ = some h := by
 simp [World.cell?, hh]
/-- How great it may be. -/
structure RWF (d : RD) : Prop where
 room : d.room ≤ 16777216
 files : d.files.length ≤ 1073741824
 now : d.now.length ≤ 1073741824
 kept : d.kept.length ≤ 1073741824
 works : d.works.length ≤ 1073741824
 low : ∀ q ∈ d.works, ∀ i, q.2.2 = some i → i < d.files.length
 lowN : ∀ q ∈ d.now, q.2 < d.files.length
 lowK : ∀ q ∈ d.kept, q.2 < d.files.length
 bytes : ∀ f ∈ d.files, ∀ x ∈ f.b, x < 256
 len : ∀ f ∈ d.files, f.b.length ≤ 16777216
 mark : ∀ f ∈ d.files, f.mark ≤ f.b.length
 fails : -1 ≤ d.fails ∧ d.fails ≤ 9223372036854775807
 keepB : ∀ x ∈ d.keep, -9223372036854775808 ≤ x ∧ x ≤ 9223372036854775807
 keepL : d.keep.length ≤ 17592186044416
end Go.Proofs.YtmcmagplaflegaaGreatDoor

namespace Go.Proofs.YtmcmagplaflegaaGreatDoor
open Go Go.RowKit Go.MapL Go.Poised
variable {w w' : World} {p n₀ : Nat} {r : RRep} {d : RD}

theorem RLies.cells (h : RLies w p n₀ r d) : w.cell? ⟨p, 0, none⟩ = some (.int .i64 d.room) ∧ w.cell? ⟨p, 1, none⟩ = some r.fv ∧ w.cell? ⟨p, 2, none⟩ = some r.nv ∧ w.cell? ⟨p, 3, none⟩ = some r.kv ∧
  w.cell? ⟨p, 4, none⟩ = some r.wv ∧ w.cell? ⟨p, 5, none⟩ = some (.bool d.dead) ∧ w.cell? ⟨p, 6, none⟩ = some (.int .i64 d.fails) ∧ w.cell? ⟨p, 7, none⟩ = some r.pv := cells8 h.top
theorem RLies.free (h : RLies w p n₀ r d) (i : Nat) : w.frozen? ⟨p, i, none⟩ = false := free_of h.top i
theorem RLies.sP (h : RLies w p n₀ r d) : sort w p = 108 := sort_cells h.top
theorem RLies.sF (h : RLies w p n₀ r d) {k : Nat} (hk : r.fv.ownBlock = some k) : sort w k = 163 := sort_row h.files hk
theorem RLies.sB (h : RLies w p n₀ r d) {i : Nat} (hi : i < d.files.length) {k : Nat} (hk : (r.bv i).ownBlock = some k) : sort w k = 6 := sort_row (h.data i hi) hk
theorem RLies.sN (h : RLies w p n₀ r d) {k : Nat} (hk : r.nv.ownBlock = some k) : sort w k = 160 := sort_row h.now hk
theorem RLies.sK (h : RLies w p n₀ r d) {k : Nat} (hk : r.kv.ownBlock = some k) : sort w k = 160 := sort_row h.kept hk
theorem RLies.sW (h : RLies w p n₀ r d) {k : Nat} (hk : r.wv.ownBlock = some k) : sort w k = 158 := sort_row h.works hk
theorem RLies.sV (h : RLies w p n₀ r d) {k : Nat} (hk : r.pv.ownBlock = some k) : sort w k = 4 := sort_row h.keep hk
/-- Only the first block turned; the lists of names, the works and what is kept by may be others. -/
theorem RLies.setTop (h : RLies w p n₀ r d) {d' : RD} {nv kv wv pv : Value} (ht : w'.heap[p]? = some (topR d' { r with nv := nv, kv := kv, wv := wv, pv := pv })) (hs : ∀ k, k < w.heap.size → k ≠ p → w'.heap[k]? = w.heap[k]?)
  (hfi : d'.files = d.files) (hn : NamesAt w' n₀ nv d'.now) (hk : NamesAt w' n₀ kv d'.kept) (hw : w'.ownsRow n₀ 157 3 wv d'.works.length (d'.works.flatMap encWR)) (hp : w'.ownsRow n₀ 3 1 pv d'.keep.length (encI d'.keep)) :
  RLies w' p n₀ { r with nv := nv, kv := kv, wv := wv, pv := pv } d' where
 top := ht
 files := by
  rw [hfi]
  exact row_same h.files (fun g hg => hs g (h.files.lt g hg).2 (fun e => by have h1 := h.sF hg; have h2 := h.sP; rw [e] at h1; omega))
 data := fun i hi => by
  have hi' : i < d.files.length := by rw [← hfi]; exact hi
  have e : fileD d' i = fileD d i := by unfold fileD; rw [hfi]
  rw [e]
  exact row_same (h.data i hi') (fun g hg => hs g ((h.data i hi').lt g hg).2 (fun e => by have h1 := h.sB hi' hg; have h2 := h.sP; rw [e] at h1; omega))
 rowInj := by rw [hfi]; exact h.rowInj
 now := hn
 kept := hk
 works := hw
 keep := hp
 base := h.base
theorem RLies.nowTo (h : RLies w p n₀ r d) (hs : ∀ k, k < w.heap.size → k ≠ p → w'.heap[k]? = w.heap[k]?) : NamesAt w' n₀ r.nv d.now :=
 row_same h.now (fun g hg => hs g (World.ownsRow.lt h.now g hg).2 (fun e => by have h1 := h.sN hg; have h2 := h.sP; rw [e] at h1; omega))
theorem RLies.keptTo (h : RLies w p n₀ r d) (hs : ∀ k, k < w.heap.size → k ≠ p → w'.heap[k]? = w.heap[k]?) : NamesAt w' n₀ r.kv d.kept :=
 row_same h.kept (fun g hg => hs g (World.ownsRow.lt h.kept g hg).2 (fun e => by have h1 := h.sK hg; have h2 := h.sP; rw [e] at h1; omega))
theorem RLies.worksTo (h : RLies w p n₀ r d) (hs : ∀ k, k < w.heap.size → k ≠ p → w'.heap[k]? = w.heap[k]?) : w'.ownsRow n₀ 157 3 r.wv d.works.length (d.works.flatMap encWR) :=
 row_same h.works (fun g hg => hs g (h.works.lt g hg).2 (fun e => by have h1 := h.sW hg; have h2 := h.sP; rw [e] at h1; omega))
theorem RLies.keepTo (h : RLies w p n₀ r d) (hs : ∀ k, k < w.heap.size → k ≠ p → w'.heap[k]? = w.heap[k]?) : w'.ownsRow n₀ 3 1 r.pv d.keep.length (encI d.keep) :=
 row_same h.keep (fun g hg => hs g (h.keep.lt g hg).2 (fun e => by have h1 := h.sV hg; have h2 := h.sP; rw [e] at h1; omega))
/-- What a method leaves: the disk d', of its own blocks and new ones. -/
def RTurns (w w' : World) (p n₀ : Nat) (r : RRep) (d d' : RD) : Prop := ∃ r', RLies w' p n₀ r' d' ∧ Grown (ownR p r d) w w' ∧ ∀ k, ownR p r' d' k → ownR p r d k ∨ w.heap.size ≤ k
theorem RTurns.none (h : RLies w p n₀ r d) (hb : Below w.heap.size w w') : RTurns w w' p n₀ r d d := ⟨r, h.below hb, Grown.of_below hb, fun _ hk => .inl hk⟩
/-- One after the other. -/
theorem RTurns.step {w'' : World} {r' : RRep} {d' d'' : RD} (hG : Grown (ownR p r d) w w') (hF : ∀ k, ownR p r' d' k → ownR p r d k ∨ w.heap.size ≤ k) (h : RTurns w' w'' p n₀ r' d' d'') : RTurns w w'' p n₀ r d d'' := by
 obtain ⟨r'', h1, h2, h3⟩ := h
 refine ⟨r'', h1, hG.trans h2 hF, fun k hk => ?_⟩
 rcases h3 k hk with h4 | h4
 ·exact hF k h4
 ·exact .inr (Nat.le_trans hG.size h4)
theorem RLies.fileCells (h : RLies w p n₀ r d) {i : Nat} (hi : i < d.files.length) : ∃ g cap, r.fv = .slice (some ⟨g, 0, none⟩) d.files.length cap ∧ g < w.heap.size ∧ w.cell? ⟨g, i * 2, none⟩ = some (r.bv i) ∧ w.cell? ⟨g, i * 2 + 1, none⟩ = some (.int .i64 ((fileD d i).mark : Nat)) := by
 have hr : w.ownsRow n₀ 162 2 r.fv (List.range d.files.length).length ((List.range d.files.length).flatMap (encF1 r.bv d.files)) := by rw [List.length_range]; exact h.files
 obtain ⟨g, cap, h1, h2, h3⟩ := flat_cells (enc := encF1 r.bv d.files) (z := 2) (fun _ => rfl) hr i (by rw [List.length_range]; exact hi)
 rw [List.length_range] at h1
 refine ⟨g, cap, h1, h2, ?_, ?_⟩
 ·have := h3 0 (by omega); rw [List.getElem_range] at this; exact this
 ·have := h3 1 (by omega); rw [List.getElem_range] at this; exact this
set_option maxRecDepth 100000 in
set_option maxHeartbeats 2000000 in
theorem bootR_any (w : World) (h : RLies w p n₀ r d) : Calls Tryz.prog 66 #[ofBlock p] w fun e w' => e = .returned (.tuple #[]) ∧ RTurns w w' p n₀ r d d.boot := by
 obtain ⟨c0, c1, c2, c3, c4, c5, c6, c7⟩ := h.cells
 have f5 := h.free 5
 have f6 := h.free 6
 have hp := (Array.getElem?_eq_some_iff.1 h.top).1
 have ht1 := setCell_heap (i := 5) (v := .bool false) h.top
 have f6' := free_of ht1 6
 unfold ofBlock
 replace h : Hid _ := h
 replace ht1 : Hid _ := ht1
 go_enter Tryz.func66, Tryz.ntmps66
 go_wp2_with fail
 go_returns
 have ht2 := setCell_heap (i := 6) (v := .int .i64 (-1)) ht1.out
 have hs : ∀ k, k ≠ p → ((w.setCell ⟨p, 5, none⟩ (.bool false)).setCell ⟨p, 6, none⟩ (.int .i64 (-1))).heap[k]? = w.heap[k]? := fun k hk => (Below.heap_setCell _ _ _ _ hk).trans (Below.heap_setCell _ _ _ _ hk)
 refine ⟨rfl, r, h.out.setTop (d' := d.boot) (nv := r.nv) (kv := r.kv) (wv := r.wv) (pv := r.pv) ht2 (fun k _ hk => hs k hk) rfl (h.out.nowTo (fun k _ hk => hs k hk)) (h.out.keptTo (fun k _ hk => hs k hk)) (h.out.worksTo (fun k _ hk => hs k hk)) (h.out.keepTo (fun k _ hk => hs k hk)), ?_, fun k hk => .inl hk⟩
 exact ((Grown.refl _ w).setCell (p := ⟨p, 5, none⟩) (.inl (.inl rfl)) _).setCell (p := ⟨p, 6, none⟩) (.inl (.inl rfl)) _

set_option maxRecDepth 100000 in
set_option maxHeartbeats 4000000 in
theorem failR_any (n : Int) (v : Value) (keep : List Int) (w : World) (h : RLies w p n₀ r d) (hb : n₀ ≤ w.heap.size) (_ : -9223372036854775808 ≤ n) (_ : n ≤ 9223372036854775807) (hv : ∀ w', Grown (fun k => k = p) w w' → IntsIn w' v keep) (hl : keep.length ≤ 17592186044416) :
  Calls Tryz.prog 67 #[ofBlock p, .int .i64 n, v] w fun e w' => e = .returned (.tuple #[]) ∧ RTurns w w' p n₀ r d (d.fail n keep) := by
 obtain ⟨c0, c1, c2, c3, c4, c5, c6, c7⟩ := h.cells
 have f6 := h.free 6
 unfold ofBlock
 by_cases hd : d.dead = true
 ·have he : d.fail n keep = d := by unfold RD.fail; rw [if_pos hd]
  rw [he]
  rw [hd] at c5
  replace h : Hid _ := h
  clear he
  go_enter Tryz.func67, Tryz.ntmps67
  go_wp2_with fail
  go_returns
  exact ⟨rfl, .none h.out (Below.refl _ _)⟩
 ·have he : d.fail n keep = { d with fails := max n (-1), keep := keep } := by unfold RD.fail; rw [if_neg hd]
  rw [he]
  clear he
  have hd' : d.dead = false := by simpa using hd
  rw [hd'] at c5
  obtain ⟨mx, hmx⟩ : ∃ mx, max n (-1) = mx := ⟨_, rfl⟩
  have ht1 := setCell_heap (i := 6) (v := .int .i64 (max n (-1))) h.top
  have hs1 : ∀ k, k ≠ p → (w.setCell ⟨p, 6, none⟩ (.int .i64 (max n (-1)))).heap[k]? = w.heap[k]? := fun k hk => Below.heap_setCell _ _ _ _ hk
  have h1' := h.setTop (d' := { d with fails := max n (-1) }) (nv := r.nv) (kv := r.kv) (wv := r.wv) (pv := r.pv) ht1 (fun k _ hk => hs1 k hk) rfl (h.nowTo (fun k _ hk => hs1 k hk)) (h.keptTo (fun k _ hk => hs1 k hk)) (h.worksTo (fun k _ hk => hs1 k hk)) (h.keepTo (fun k _ hk => hs1 k hk))
  have hG1 : Grown (fun k => k = p) w (w.setCell ⟨p, 6, none⟩ (.int .i64 (max n (-1)))) := (Grown.refl (fun k => k = p) w).setCell (p := ⟨p, 6, none⟩) (.inl rfl) _
  have hv1 := hv _ hG1
  have hvs : ∃ q c, v = .slice q keep.length c := by
   rcases hv1.2.2 with ⟨rfl, e⟩ | ⟨a, c, rfl, e⟩ | ⟨b, off, c, rfl, _⟩
   ·exact ⟨none, 0, by rw [e]; rfl⟩
   ·exact ⟨some a, c, by rw [e]; rfl⟩
   ·exact ⟨_, c, rfl⟩
  obtain ⟨q, c, rfl⟩ := hvs
  rw [hmx] at ht1 hs1 h1' hG1 hv1 ⊢
  have hp := (Array.getElem?_eq_some_iff.1 h.top).1
  have hmx' : max n (-1) = mx := hmx
  replace hs1 : Hid _ := hs1
  replace hv : Hid _ := hv
  replace h : Hid _ := h
  replace h1' : Hid _ := h1'
  replace hv1 : Hid _ := hv1
  replace ht1 : Hid _ := ht1
  clear hd hd'
  go_enter Tryz.func67, Tryz.ntmps67
  go_wp2_with (at_builtin; refine wpList_append_ints _ rfl _ _ rfl w.heap.size (.slice none 0 0) (.slice q keep.length c) [] keep rfl rfl (World.ownsRow_nil _ _ _ _) hv1.out (by simpa using hl) (by simp) ?_; intro v' w1 hown' hgrow hwhere; obtain ⟨vq, vc, rfl⟩ := own_shape hown'; have htw := (hgrow.block p (by simpa using hp) (by simp [Value.ownBlock])).trans ht1.out; have f7 := free_of htw 7; obtain ⟨_, _, _, _, _, _, _, y7⟩ := cells8 htw; replace htw : Hid _ := htw)
  go_returns
  have ht2 := setCell_heap (i := 7) (v := .slice vq keep.length vc) htw.out
  have hp7 : (⟨p, 7, none⟩ : Addr).block = p := rfl
  have hG2 : Grown (fun k => k = p) w w1 := hG1.trans (T := fun k => k = p) (Grown.of_grownBy hgrow (fun k hk => by cases hk)) (fun _ hx => .inl hx)
  have hs2 : ∀ k, k < w.heap.size → k ≠ p → (w1.setCell ⟨p, 7, none⟩ (.slice vq keep.length vc)).heap[k]? = w.heap[k]? := fun k hk hkp => (Below.heap_setCell _ _ _ _ hkp).trans (hG2.block k hk hkp)
  have hvb : ∀ k, (Value.slice vq keep.length vc).ownBlock = some k → w.heap.size ≤ k := fun k hk => (hwhere k hk).elim (fun h => by cases h) (fun h => by simpa using h)
  have hkp : w1.ownsRow w.heap.size 3 1 (.slice vq keep.length vc) keep.length (encI keep) := by simpa using hown'
  have hkp2 : (w1.setCell ⟨p, 7, none⟩ (.slice vq keep.length vc)).ownsRow n₀ 3 1 (.slice vq keep.length vc) keep.length (encI keep) := own_base' (row_same hkp (fun g hg => Below.heap_setCell _ _ _ _ (fun e => by have := hvb g hg; have e2 : g = p := e; omega))) hb
  refine ⟨rfl, _, h.out.setTop (d' := { d with fails := mx, keep := keep }) (nv := r.nv) (kv := r.kv) (wv := r.wv) (pv := (.slice vq keep.length vc)) ht2 hs2 rfl (h.out.nowTo hs2) (h.out.keptTo hs2) (h.out.worksTo hs2) hkp2, ?_, fun k hk => ?_⟩
  ·exact (hG2.mono (fun k hk => .inl hk)).setCell (p := ⟨p, 7, none⟩) (.inl (.inl rfl)) _
  ·rcases hk with hk | hk | hk | hk | hk | hk | hk
   ·exact .inl (.inl hk)
   ·exact .inl (.inr (.inl hk))
   ·exact .inl (.inr (.inr (.inl hk)))
   ·exact .inl (.inr (.inr (.inr (.inl hk))))
   ·exact .inl (.inr (.inr (.inr (.inr (.inl hk)))))
   ·exact .inl (.inr (.inr (.inr (.inr (.inr (.inl hk))))))
   ·exact .inr (hvb k hk)
set_option maxRecDepth 100000 in
theorem isNameR_any (y : ByteArray) (hy : y.size ≤ 9223372036854775807) (w : World) : Calls Tryz.prog 117 #[.string y] w fun e w' => e = .returned (.bool (decide (1 ≤ y.size) && decide (y.size ≤ 40))) ∧ w' = w := by
 by_cases h1 : 1 ≤ y.size
 ·by_cases h2 : y.size ≤ 40
  ·have g1 : (1 : Int) ≤ (y.size : Int) := by omega
   have g2 : (y.size : Int) ≤ 40 := by omega
   rw [decide_eq_true h1, decide_eq_true h2]
   go_enter Tryz.func117, Tryz.ntmps117
   go_wp2_with fail
   go_returns
   exact ⟨rfl, rfl⟩
  ·have g1 : (1 : Int) ≤ (y.size : Int) := by omega
   have g2 : ¬ (y.size : Int) ≤ 40 := by omega
   rw [decide_eq_true h1, decide_eq_false h2]
   go_enter Tryz.func117, Tryz.ntmps117
   go_wp2_with fail
   go_returns
   exact ⟨rfl, rfl⟩
 ·have g1 : ¬ (1 : Int) ≤ (y.size : Int) := by omega
  rw [decide_eq_false h1]
  go_enter Tryz.func117, Tryz.ntmps117
  go_wp2_with fail
  go_returns
  exact ⟨rfl, rfl⟩
theorem idxOf_none {m : NL} {x : ByteArray} (h : MapL.look x m = none) : idxOf m x = -1 := by unfold idxOf; rw [h]
theorem idxOf_some {m : NL} {x : ByteArray} {i : Nat} (h : MapL.look x m = some i) : idxOf m x = (i : Int) := by unfold idxOf; rw [h]
theorem RWF.mem (_ : RWF d) {i : Nat} (hi : i < d.files.length) : fileD d i ∈ d.files := by
 unfold fileD
 rw [List.getD_eq_getElem?_getD, List.getElem?_eq_getElem hi]; exact List.getElem_mem hi
theorem RWF.look (hw : RWF d) {x : ByteArray} {i : Nat} (h : fileR d x = some i) : i < d.files.length := by
 have : ∀ {m : NL}, MapL.look x m = some i → (x, i) ∈ m := fun {m} => look_mem
 exact hw.lowN _ (this h)
theorem RLies.dataIn (h : RLies w p n₀ r d) (hw : RWF d) {i : Nat} (hi : i < d.files.length) : BytesIn w (r.bv i) (fileD d i).b :=
 bytesIn_of_own (h.data i hi) (hw.bytes _ (hw.mem hi)) (by have := hw.len _ (hw.mem hi); omega)
set_option maxRecDepth 100000 in
set_option maxHeartbeats 4000000 in
theorem readR_any (x : ByteArray) (w : World) (h : RLies w p n₀ r d) (hw : RWF d) :
  Calls Tryz.prog 77 #[ofBlock p, .string x] w fun e w' => ∃ v', e = .returned (.tuple #[v', .int .i64 (readR d x).2]) ∧ w'.ownsRow w.heap.size 5 1 v' (readR d x).1.length (encB (readR d x).1) ∧ Below w.heap.size w w' := by
 obtain ⟨c0, c1, c2, c3, c4, c5, c6, c7⟩ := h.cells
 unfold ofBlock
 by_cases hd : d.dead = true
 ·have he : readR d x = ([], 51) := by unfold readR; rw [if_pos hd]
  rw [he]
  rw [hd] at c5
  clear h hw he hd
  go_enter Tryz.func77, Tryz.ntmps77
  go_wp2_with fail
  go_returns
  exact ⟨_, rfl, World.ownsRow_nil _ _ _ _, Below.refl _ _⟩
 ·have hd' : d.dead = false := by simpa using hd
  have hfi := find_any r.nv d.now x n₀ w h.now (by have := hw.now; omega)
  rw [hd'] at c5
  cases hf : fileR d x with
  | none =>
   have he : readR d x = ([], 50) := by unfold readR; rw [if_neg hd, hf]
   rw [he]
   rw [idxOf_none hf] at hfi
   clear h hw he hd hd' hf
   go_enter Tryz.func77, Tryz.ntmps77
   go_wp2_with (go_at_call 120; refine hfi.mono ?_; clear hfi; rintro e w2 ⟨rfl, rfl⟩)
   go_returns
   exact ⟨_, rfl, World.ownsRow_nil _ _ _ _, Below.refl _ _⟩
  | some i =>
   have he : readR d x = ((fileD d i).b, 0) := by unfold readR; rw [if_neg hd, hf]
   rw [he]
   rw [idxOf_some hf] at hfi
   have hi := hw.look hf
   obtain ⟨g, cap, e, hg, b0, b1⟩ := h.fileCells hi
   have hda := h.dataIn hw hi
   have hlen := hw.len _ (hw.mem hi)
   have hilt : (i : Int) < (d.files.length : Int) := by omega
   rw [e] at c1
   obtain ⟨bq, bc, hbe⟩ := own_shape (h.data i hi)
   rw [hbe] at b0 hda
   clear h hw he hd hd' hf e hbe
   replace hda : Hid _ := hda
   go_enter Tryz.func77, Tryz.ntmps77
   go_wp2_with (first
    |(go_at_call 120; refine hfi.mono ?_; clear hfi; rintro e w2 ⟨rfl, rfl⟩)
    |(at_builtin; refine wpList_append_bytes _ rfl _ _ rfl w2.heap.size (.slice none 0 0) (.slice bq (fileD d i).b.length bc) [] (fileD d i).b rfl rfl (World.ownsRow_nil _ _ _ _) hda.out (by simpa using (by omega)) (Nat.le_refl _) ?_; intro v' w1 hown' hgrow hwhere))
   go_returns
   exact ⟨_, rfl, by simpa using hown', (Below.refl _ _).grown hgrow (Nat.le_refl _) (fun k hk => by simp [Value.ownBlock] at hk)⟩
end Go.Proofs.YtmcmagplaflegaaGreatDoor

namespace Go.Proofs.YtmcmagplaflegaaGreatDoor
open Go Go.RowKit Go.MapL Go.Poised
variable {w w' : World} {p n₀ : Nat} {r : RRep} {d : RD}

set_option maxRecDepth 100000 in
set_option maxHeartbeats 4000000 in
theorem sizeR_any (x : ByteArray) (w : World) (h : RLies w p n₀ r d) (hw : RWF d) :
  Calls Tryz.prog 69 #[ofBlock p, .string x] w fun e w' => e = .returned (.tuple #[.int .i64 ((readR d x).1.length : Nat), .int .i64 (readR d x).2]) ∧ Below w.heap.size w w' := by
 have hr := readR_any x w h hw
 unfold ofBlock at *
 generalize readR d x = q at *
 obtain ⟨l, c⟩ := q
 clear h hw
 go_enter Tryz.func69, Tryz.ntmps69
 go_wp2_with (go_at_call 77; refine hr.mono ?_; clear hr; rintro e w2 ⟨v', rfl, hv, hb⟩; obtain ⟨vq, vc, rfl⟩ := own_shape hv; replace hv : Hid _ := hv)
 go_returns
 exact ⟨rfl, hb⟩
theorem info9 : (Tryz.prog.info? 9).map (fun i => (i.zero, i.size, i.bytes)) = some (some (.string ⟨#[]⟩), 1, 16) := by kernel_rfl
set_option maxRecDepth 100000 in
set_option maxHeartbeats 4000000 in
theorem namesR_any (w : World) (h : RLies w p n₀ r d) (hw : RWF d) :
  Calls Tryz.prog 75 #[ofBlock p] w fun e w' => ∃ v', e = .returned v' ∧ w'.ownsRow w.heap.size 9 1 v' (namesR d).length ((namesR d).map Value.string) ∧ Below w.heap.size w w' := by
 obtain ⟨i0, hi, hz0, hz1, hz2⟩ := info_parts info9
 have hlen := hw.now
 have hcs := h.cells
 have hpl := (Array.getElem?_eq_some_iff.1 h.top).1
 obtain ⟨nq, nc, hne⟩ := own_shape h.now
 unfold ofBlock
 rw [hne] at hcs
 by_cases hd : d.dead = true
 ·have he : namesR d = [] := by unfold namesR; rw [if_pos hd]
  rw [he]
  rw [hd] at hcs
  obtain ⟨c0, c1, c2, c3, c4, c5, c6, c7⟩ := hcs
  clear h hw he hd hne
  go_enter Tryz.func75, Tryz.ntmps75
  go_wp2_with fail
  go_loopw [4, 3] (fun i o wr => i = .int .i64 0 ∧ o = .slice none 0 0 ∧ wr = w) (fun _ _ _ => 0)
  case atStart => exact ⟨rfl, rfl, rfl⟩
  case round =>
   obtain ⟨rfl, rfl, rfl⟩ := hrel
   by_cases hl0 : (0 : Int) < (d.now.length : Int)
   ·go_wp2_with fail
    go_returns
    exact ⟨_, rfl, World.ownsRow_nil _ _ _ _, Below.refl _ _⟩
   ·go_wp2_with fail
    go_returns
    exact ⟨_, rfl, World.ownsRow_nil _ _ _ _, Below.refl _ _⟩
 ·have he : namesR d = d.now.map (·.1) := by unfold namesR; rw [if_neg hd]
  rw [he]
  have hd' : d.dead = false := by simpa using hd
  rw [hd'] at hcs
  clear he hd hd'
  replace hz0 : Hid _ := hz0
  replace hz1 : Hid _ := hz1
  replace hz2 : Hid _ := hz2
  replace hne : Hid _ := hne
  replace h : Hid _ := h
  replace hcs : Hid _ := hcs
  replace hw : Hid _ := hw
  go_enter Tryz.func75, Tryz.ntmps75
  go_wp2_with fail
  go_loopw [4, 3] (fun i o wr => ∃ k : Nat, k ≤ d.now.length ∧ i = .int .i64 k ∧ wr.ownsRow w.heap.size 9 1 o k (((d.now.take k).map (·.1)).map Value.string) ∧ Below w.heap.size w wr) (fun i _ _ => d.now.length - (intOf i).toNat)
  case atStart => exact ⟨0, by omega, rfl, World.ownsRow_nil _ _ _ _, Below.refl _ _⟩
  case round =>
   obtain ⟨k, hk, rfl, hout, hB⟩ := hrel
   obtain ⟨po, co, rfl⟩ := own_shape hout
   obtain ⟨c0, c1, c2, c3, c4, c5, c6, c7⟩ := hcs.out
   have b2 := (hB.cell (p := ⟨p, 2, none⟩) hpl).trans c2
   have b5 := (hB.cell (p := ⟨p, 5, none⟩) hpl).trans c5
   clear c0 c1 c2 c3 c4 c5 c6 c7
   by_cases hlt : k < d.now.length
   ·have hlt' : (k : Int) < (d.now.length : Int) := by omega
    obtain ⟨g, cap', e, hg, c0', c1'⟩ := h.out.now.cells k hlt
    rw [hne.out] at e
    cases e
    have c0 := (hB.cell (p := ⟨g, k * 2, none⟩) hg).trans c0'
    clear c0' c1'
    have hn : Hid (((d.now.take (k + 1)).map (·.1)).map Value.string = ((d.now.take k).map (·.1)).map Value.string ++ [Value.string d.now[k].1]) := by
     show _ = _
     rw [List.take_succ_eq_append_getElem hlt, List.map_append, List.map_append]; rfl
    generalize d.now[k].1 = y at c0 hn
    replace hout : Hid (wr.ownsRow w.heap.size 9 1 (.slice po k co) k (((d.now.take k).map (·.1)).map Value.string)) := hout
    go_wp2_with (at_builtin; refine wpList_append_own _ rfl _ _ 75 rfl w.heap.size 9 i0 (.string ⟨#[]⟩) 1 16 Tryz.underlying75 hi hz0.out hz1.out hz2.out rfl (by decide) _ k _ rfl (own_kept hout.out ((Below.refl _ _).alloc (Nat.le_refl _) _)) ⟨wr.heap.size, 0, none⟩ 1 1 [.string y] rfl rfl (cell_one_new _ _ _) (by simp [Value.oneCell']) (by unfold maxLen; omega) (by omega) (by have := hB.size; simp; omega) ?_; intro v' w1 hown' hgrow _)
    go_roundw
    case rel => exact ⟨k + 1, by omega, by go_num, by rw [hn.out]; exact hown', (hB.alloc hB.size _).grown hgrow (by simp; have := hB.size; omega) (fun k hk => (hout.out.lt k hk).1)⟩
    case measure => simp [intOf]; omega
   ·obtain rfl : k = d.now.length := by omega
    have hlt' : ¬ ((d.now.length : Nat) : Int) < (d.now.length : Int) := by omega
    have hfin : wr.ownsRow w.heap.size 9 1 (.slice po d.now.length co) (d.now.map (·.1)).length ((d.now.map (·.1)).map Value.string) := by
     rw [List.take_of_length_le (Nat.le_refl _)] at hout
     rw [List.length_map]; exact hout
    replace hfin : Hid (wr.ownsRow w.heap.size 9 1 (.slice po d.now.length co) (d.now.map (·.1)).length ((d.now.map (·.1)).map Value.string)) := hfin
    clear hout
    go_wp2_with fail
    go_returns
    exact ⟨.slice po d.now.length co, rfl, by simpa using hfin.out, hB⟩
theorem any_take_succ {m : NL} {i k : Nat} (hk : k < m.length) : ((m.take (k + 1)).any fun q => q.2 == i) = (((m.take k).any fun q => q.2 == i) || m[k].2 == i) := by
 rw [List.take_succ_eq_append_getElem hk, List.any_append]; simp
def usedTo (d : RD) (i : Nat) : Nat := ((List.range i).map fun i => if heldIn d.now i || heldIn d.kept i then (fileD d i).b.length else 0).sum
theorem usedTo_succ (d : RD) (i : Nat) : usedTo d (i + 1) = usedTo d i + if heldIn d.now i || heldIn d.kept i then (fileD d i).b.length else 0 := by
 unfold usedTo; rw [List.range_succ, List.map_append, List.sum_append]; simp
theorem usedTo_most {C : Nat} (hC : ∀ i, i < d.files.length → (fileD d i).b.length ≤ C) : ∀ i, i ≤ d.files.length → usedTo d i ≤ i * C
 | 0, _ => by simp [usedTo]
 | i + 1, hi => by
  have := usedTo_most hC i (by omega)
  have h2 := hC i (by omega)
  rw [usedTo_succ, Nat.succ_mul]
  split <;> omega
theorem usedTo_le (hw : RWF d) (i : Nat) (hi : i ≤ d.files.length) : usedTo d i ≤ i * 16777216 := usedTo_most (fun _ hi => hw.len _ (hw.mem hi)) i hi
set_option maxRecDepth 100000 in
set_option maxHeartbeats 8000000 in
theorem usedR_any (w : World) (h : RLies w p n₀ r d) (hw : RWF d) :
  Calls Tryz.prog 118 #[ofBlock p] w fun e w' => e = .returned (.int .i64 (d.used : Nat)) ∧ w' = w := by
 obtain ⟨c0, c1, c2, c3, c4, c5, c6, c7⟩ := h.cells
 obtain ⟨nq, nc, hne⟩ := own_shape h.now
 obtain ⟨kq, kc, hke⟩ := own_shape h.kept
 obtain ⟨fq, fc, hfe⟩ := own_shape h.files
 have hl1 := hw.now
 have hl2 := hw.kept
 have hl3 := hw.files
 rw [hne] at c2
 rw [hke] at c3
 rw [hfe] at c1
 have hu : d.used = usedTo d d.files.length := rfl
 rw [hu]
 unfold ofBlock
 replace hne : Hid _ := hne
 replace hke : Hid _ := hke
 replace hfe : Hid _ := hfe
 replace h : Hid _ := h
 replace hw : Hid _ := hw
 clear hu c0 c4 c5 c6 c7
 go_enter Tryz.func118, Tryz.ntmps118
 go_wp2_with fail
 go_loopw [4, 3] (fun i n wr => ∃ k : Nat, k ≤ d.files.length ∧ i = .int .i64 k ∧ n = .int .i64 (usedTo d k : Nat) ∧ wr = w) (fun i _ _ => d.files.length - (intOf i).toNat)
 case atStart => exact ⟨0, by omega, rfl, rfl, rfl⟩
 case round =>
  obtain ⟨k, hk, rfl, rfl, rfl⟩ := hrel
  by_cases hlt : k < d.files.length
  ·have hlt' : (k : Int) < (d.files.length : Int) := by omega
   go_wp2_with fail
   go_loopw [6, 5] (fun j b wx => ∃ i : Nat, i ≤ d.now.length ∧ j = .int .i64 i ∧ b = .bool ((d.now.take i).any fun q => q.2 == k) ∧ wx = wr) (fun j _ _ => d.now.length - (intOf j).toNat)
   case atStart => exact ⟨0, by omega, rfl, rfl, rfl⟩
   case round =>
    rename World => w0
    obtain ⟨i, hi, rfl, rfl, rfl⟩ := hrel
    by_cases hlti : i < d.now.length
    ·have hlti' : (i : Int) < (d.now.length : Int) := by omega
     obtain ⟨g, cap', e, hg, a0, a1⟩ := h.out.now.cells i hlti
     rw [hne.out] at e
     cases e
     have hs := any_take_succ (i := k) hlti
     generalize d.now[i].2 = y at a1 hs
     obtain ⟨b, hb⟩ : ∃ b, ((d.now.take i).any fun q => q.2 == k) = b := ⟨_, rfl⟩
     rw [hb] at hs ⊢
     have hyk : ((y : Int) == (k : Int)) = (y == k) := by
      rw [Bool.eq_iff_iff]; simp; omega
     obtain ⟨c, hc⟩ : ∃ c, (y == k) = c := ⟨_, rfl⟩
     rw [hc] at hs hyk
     clear hb hc a0
     replace hs : Hid _ := hs
     cases b <;> cases c
     all_goals
      go_wp2_with fail
      go_roundw
      case rel => exact ⟨i + 1, by omega, by go_num, by first | rfl | (rw [hs.out]; done) | (rw [hs.out]; rfl), by first | rfl | trivial⟩
      case measure => simp [intOf]; omega
    ·obtain rfl : i = d.now.length := by omega
     have hlti' : ¬ ((d.now.length : Nat) : Int) < (d.now.length : Int) := by omega
     rw [List.take_of_length_le (Nat.le_refl _)]
     obtain ⟨b0, hb0⟩ : ∃ b0, (d.now.any fun q => q.2 == k) = b0 := ⟨_, rfl⟩
     have hb0' : heldIn d.now k = b0 := hb0
     rw [hb0]
     clear hb0
     replace hb0' : Hid _ := hb0'
     go_wp2_with fail
     go_loopw [7, 5] (fun j b wx => ∃ i : Nat, i ≤ d.kept.length ∧ j = .int .i64 i ∧ b = .bool (b0 || (d.kept.take i).any fun q => q.2 == k) ∧ wx = w0) (fun j _ _ => d.kept.length - (intOf j).toNat)
     case atStart => exact ⟨0, by omega, rfl, by simp, rfl⟩
     case round =>
      obtain ⟨i, hi, rfl, rfl, rfl⟩ := hrel
      by_cases hlti : i < d.kept.length
      ·have hlti' : (i : Int) < (d.kept.length : Int) := by omega
       obtain ⟨g, cap', e, hg, a0, a1⟩ := h.out.kept.cells i hlti
       rw [hke.out] at e
       cases e
       have hs := any_take_succ (i := k) hlti
       generalize d.kept[i].2 = y at a1 hs
       obtain ⟨b, hb⟩ : ∃ b, ((d.kept.take i).any fun q => q.2 == k) = b := ⟨_, rfl⟩
       rw [hb] at hs ⊢
       have hyk : ((y : Int) == (k : Int)) = (y == k) := by
        rw [Bool.eq_iff_iff]; simp; omega
       obtain ⟨c, hc⟩ : ∃ c, (y == k) = c := ⟨_, rfl⟩
       rw [hc] at hs hyk
       clear hb hc a0
       replace hs : Hid _ := hs
       cases b0 <;> cases b <;> cases c
       all_goals
        simp only [Bool.true_or, Bool.false_or, Bool.or_true, Bool.or_false] at *
        go_wp2_with fail
        go_roundw
        case rel => exact ⟨i + 1, by omega, by go_num, by first | rfl | (rw [hs.out]; done) | (rw [hs.out]; rfl), by first | rfl | trivial⟩
        case measure => simp [intOf]; omega
      ·obtain rfl : i = d.kept.length := by omega
       have hlti' : ¬ ((d.kept.length : Nat) : Int) < (d.kept.length : Int) := by omega
       rw [List.take_of_length_le (Nat.le_refl _)]
       have hus := usedTo_succ d k
       have hul := usedTo_le hw.out k (by omega)
       rw [hb0'.out] at hus
       obtain ⟨b1, hb1⟩ : ∃ b1, (b0 || d.kept.any fun q => q.2 == k) = b1 := ⟨_, rfl⟩
       have hb1' : (b0 || heldIn d.kept k) = b1 := hb1
       rw [hb1'] at hus
       rw [hb1]
       clear hb1 hb1'
       obtain ⟨g, cap', e, hg, a0, a1⟩ := h.out.fileCells hlt
       rw [hfe.out] at e
       cases e
       have hda := h.out.data k hlt
       have hll := hw.out.len _ (hw.out.mem hlt)
       obtain ⟨bq, bc, hbe⟩ := own_shape hda
       rw [hbe] at a0
       clear hda hbe a1
       cases b1 with
       | true =>
        rw [if_pos rfl] at hus
        replace hus : Hid _ := hus
        go_wp2_with fail
        go_roundw
        case rel => exact ⟨k + 1, by omega, by go_num, by rw [hus.out]; go_num, by first | rfl | trivial⟩
        case measure => simp [intOf]; omega
       | false =>
        rw [if_neg (by simp)] at hus
        replace hus : Hid _ := hus
        go_wp2_with fail
        go_roundw
        case rel => exact ⟨k + 1, by omega, by go_num, by rw [hus.out]; rfl, by first | rfl | trivial⟩
        case measure => simp [intOf]; omega
  ·obtain rfl : k = d.files.length := by omega
   have hlt' : ¬ ((d.files.length : Nat) : Int) < (d.files.length : Int) := by omega
   go_wp2_with fail
   go_returns
   exact ⟨rfl, rfl⟩
end Go.Proofs.YtmcmagplaflegaaGreatDoor
