/-
  THE DOCUMENT'S DISK, in plain Lean, and that it is alike to the program's, deed by deed. Conditions: those of each theorem.
-/
import Derived.Test.YtmcmagplaflegaaGreatX11
namespace Go.Proofs.YtmcmagplaflegaaGreat
open Go Go.RowKit Go.MapL

/-! ### names, rising -/
def ltN (x y : ByteArray) : Bool := Op.bytesLess x.data.toList y.data.toList
theorem ltN_iff {x y : ByteArray} : ltN x y = true ↔ x.data.toList < y.data.toList := by unfold ltN; rw [Go.Proofs.bytesLess_eq]; exact decide_eq_true_iff
theorem ltN_trans {x y z : ByteArray} (h : ltN x y = true) (k : ltN y z = true) : ltN x z = true := by
  rw [ltN_iff] at *; exact List.lt_trans h k
theorem ltN_irrefl (x : ByteArray) : ltN x x = false := by
  rw [Bool.eq_false_iff]; intro h; rw [ltN_iff] at h; exact List.lt_irrefl _ h
theorem ba_ext {x y : ByteArray} (h : x.data.toList = y.data.toList) : x = y := by
  cases x; cases y; simp only [ByteArray.mk.injEq]; exact Array.toList_inj.1 h
theorem ltN_total {x y : ByteArray} (h : ltN x y = false) (hne : x ≠ y) : ltN y x = true := by
  rw [Bool.eq_false_iff] at h
  rw [ltN_iff]
  have h1 : ¬ x.data.toList < y.data.toList := fun k => h (ltN_iff.2 k)
  have h2 : y.data.toList ≤ x.data.toList := List.not_lt.1 h1
  rcases List.le_iff_lt_or_eq.1 h2 with h3 | h3
  · exact h3
  · exact absurd (ba_ext h3).symm hne
abbrev NL := List (ByteArray × Nat)
def without (x : ByteArray) (l : NL) : NL := l.filter fun q => decide (q.1 ≠ x)
def insN (x : ByteArray) (f : Nat) : NL → NL
  | [] => [(x, f)]
  | q :: t => if ltN x q.1 = true then (x, f) :: q :: t else q :: insN x f t
def withN (x : ByteArray) (f : Nat) (l : NL) : NL := insN x f (without x l)
/-- A work on names, as the document does it. -/
def doesR (l : NL) (q : ByteArray × ByteArray × Option Nat) : NL :=
  match q.2.2 with
  | none => if q.1 = ⟨#[]⟩ then l else without q.1 l
  | some f => withN q.2.1 f (if q.1 = ⟨#[]⟩ then l else without q.1 l)
abbrev Rising (m : NL) : Prop := m.Pairwise fun a b => ltN a.1 b.1 = true
theorem insN_perm (x : ByteArray) (f : Nat) : ∀ m : NL, (insN x f m).Perm ((x, f) :: m)
  | [] => .refl _
  | q :: t => by
    unfold insN; split
    · exact .refl _
    · exact ((insN_perm x f t).cons q).trans (.swap ..)
theorem insN_rising {x : ByteArray} {f : Nat} : ∀ {m : NL}, Rising m → (∀ q ∈ m, q.1 ≠ x) → Rising (insN x f m)
  | [], _, _ => by simp [insN]
  | q :: t, h, hne => by
    obtain ⟨h1, h2⟩ := List.pairwise_cons.1 h
    unfold insN; split
    · rename_i hlt
      refine List.pairwise_cons.2 ⟨fun z hz => ?_, h⟩
      rcases List.mem_cons.1 hz with rfl | hz
      · exact hlt
      · exact ltN_trans hlt (h1 z hz)
    · rename_i hlt
      refine List.pairwise_cons.2 ⟨fun z hz => ?_, insN_rising h2 (fun z hz => hne z (.tail _ hz))⟩
      rcases List.mem_cons.1 ((insN_perm x f t).mem_iff.1 hz) with rfl | hz
      · exact ltN_total (Bool.eq_false_iff.2 hlt) (fun e => hne q (.head _) e.symm)
      · exact h1 z hz
theorem without_rising {x : ByteArray} {m : NL} (h : Rising m) : Rising (without x m) := h.filter _
theorem without_mem {x : ByteArray} {m : NL} {q : ByteArray × Nat} : q ∈ without x m ↔ q ∈ m ∧ q.1 ≠ x := by unfold without; simp
theorem withN_rising {x : ByteArray} {f : Nat} {m : NL} (h : Rising m) : Rising (withN x f m) := insN_rising (without_rising h) (fun _ hq => (without_mem.1 hq).2)
theorem withN_mem {x : ByteArray} {f : Nat} {m : NL} {q : ByteArray × Nat} : q ∈ withN x f m ↔ q = (x, f) ∨ (q ∈ m ∧ q.1 ≠ x) := by
  unfold withN; rw [(insN_perm _ _ _).mem_iff, List.mem_cons, without_mem]
theorem doesR_rising {m : NL} {q : ByteArray × ByteArray × Option Nat} (h : Rising m) : Rising (doesR m q) := by
  unfold doesR
  split
  · split
    · exact h
    · exact without_rising h
  · refine withN_rising ?_
    split
    · exact h
    · exact without_rising h
theorem rising_nodup {m : NL} (h : Rising m) : (m.map (·.1)).Nodup := by
  unfold List.Nodup
  rw [List.pairwise_map]
  exact h.imp (fun {a b} hab e => by rw [e, ltN_irrefl] at hab; cases hab)
/-- A map's pairs, in the order of their making, and the document's list: the same names, each of the same file. -/
structure Nms (B : Nat → Nat) (n : Nat) (l m : NL) : Prop where
  perm : l.Perm (m.map fun q => (q.1, B q.2))
  rising : Rising m
  low : ∀ q ∈ m, q.2 < n
  named : ∀ q ∈ m, 1 ≤ q.1.size
variable {B B' : Nat → Nat} {n n' : Nat} {l m : NL}
theorem del_filter {β : Type} (a : ByteArray) : ∀ (l : List (ByteArray × β)), (l.map (·.1)).Nodup → del a l = l.filter fun q => decide (q.1 ≠ a)
  | [], _ => rfl
  | (k, v) :: r, h => by
    obtain ⟨h1, h2⟩ := List.nodup_cons.1 h
    unfold del; split
    · rename_i e; subst e
      rw [List.filter_cons_of_neg (by simp)]
      exact (List.filter_eq_self.2 (fun q hq => by simp; exact fun e => h1 (by show k ∈ r.map (·.1); rw [← e]; exact List.mem_map_of_mem hq))).symm
    · rename_i e
      rw [List.filter_cons_of_pos (by simpa using e), del_filter a r h2]
theorem put_perm {β : Type} (a : ByteArray) (b : β) : ∀ (l : List (ByteArray × β)), (l.map (·.1)).Nodup → (put a b l).Perm ((a, b) :: l.filter fun q => decide (q.1 ≠ a))
  | [], _ => .refl _
  | (k, v) :: r, h => by
    obtain ⟨h1, h2⟩ := List.nodup_cons.1 h
    unfold put; split
    · rename_i e; subst e
      rw [List.filter_cons_of_neg (by simp)]
      rw [List.filter_eq_self.2 (fun q hq => by simp; exact fun e => h1 (by show k ∈ r.map (·.1); rw [← e]; exact List.mem_map_of_mem hq))]
    · rename_i e
      rw [List.filter_cons_of_pos (by simpa using e)]
      exact ((put_perm a b r h2).cons _).trans (.swap ..)
theorem Nms.nodup (h : Nms B n l m) : (l.map (·.1)).Nodup := by
  have := (h.perm.map (·.1))
  rw [List.map_map] at this
  exact this.nodup_iff.2 (rising_nodup h.rising)
theorem Nms.wider (h : Nms B n l m) (hn : n ≤ n') (hB : ∀ i, i < n → B' i = B i) : Nms B' n' l m :=
  ⟨by rw [List.map_congr_left (g := fun q => (q.1, B q.2)) (fun q hq => by rw [hB _ (h.low q hq)])]; exact h.perm, h.rising, fun q hq => Nat.lt_of_lt_of_le (h.low q hq) hn, h.named⟩
theorem Nms.without (h : Nms B n l m) (x : ByteArray) : Nms B n (del x l) (without x m) := by
  refine ⟨?_, without_rising h.rising, fun q hq => h.low q (without_mem.1 hq).1, fun q hq => h.named q (without_mem.1 hq).1⟩
  rw [del_filter x l h.nodup]
  have := h.perm.filter (fun q => decide (q.1 ≠ x))
  rw [List.filter_map] at this
  exact this
theorem Nms.put (h : Nms B n l m) (x : ByteArray) (f : Nat) (hf : f < n) (hx : 1 ≤ x.size) : Nms B n (put x (B f) l) (withN x f m) := by
  refine ⟨?_, withN_rising h.rising, fun q hq => ?_, fun q hq => ?_⟩
  · refine (put_perm x (B f) l h.nodup).trans ?_
    have h1 := h.perm.filter (fun q => decide (q.1 ≠ x))
    rw [List.filter_map] at h1
    have h2 := (insN_perm x f (YtmcmagplaflegaaGreat.without x m)).map (fun q => (q.1, B q.2))
    exact (h1.cons _).trans h2.symm
  · rcases withN_mem.1 hq with rfl | ⟨hq, _⟩
    · exact hf
    · exact h.low q hq
  · rcases withN_mem.1 hq with rfl | ⟨hq, _⟩
    · exact hx
    · exact h.named q hq
theorem del_none {β : Type} {x : ByteArray} : ∀ {l : List (ByteArray × β)}, (∀ q ∈ l, q.1 ≠ x) → del x l = l
  | [], _ => rfl
  | (k, v) :: r, h => by
    unfold del
    rw [if_neg (h (k, v) (.head _)), del_none (fun q hq => h q (.tail _ hq))]
theorem Nms.keyed (h : Nms B n l m) : ∀ q ∈ l, q.1 ≠ ⟨#[]⟩ := fun q hq e => by
  obtain ⟨q', h1, h2⟩ := List.mem_map.1 (h.perm.mem_iff.1 hq)
  have := h.named q' h1
  have e2 : q'.1 = q.1 := by rw [← h2]
  rw [e2, e] at this
  simp [ByteArray.size] at this
/-- A work of both. -/
theorem Nms.step (h : Nms B n l m) (a b : ByteArray) (f : Option Nat) (hf : ∀ i, f = some i → i < n ∧ 1 ≤ b.size) : Nms B n (step a b (f.map B) l) (doesR m (a, b, f)) := by
  have h1 : Nms B n (del a l) (if a = ⟨#[]⟩ then m else YtmcmagplaflegaaGreat.without a m) := by
    split
    · rename_i e; subst e
      rw [del_none h.keyed]; exact h
    · exact h.without a
  cases f with
  | none => exact h1
  | some i => exact h1.put b i (hf i rfl).1 (hf i rfl).2
theorem look_perm {β : Type} {x : ByteArray} : ∀ {l : List (ByteArray × β)}, (l.map (·.1)).Nodup → ∀ v, MapL.look x l = some v ↔ (x, v) ∈ l
  | [], _, v => by simp [MapL.look]
  | (k, u) :: r, h, v => by
    obtain ⟨h1, h2⟩ := List.nodup_cons.1 h
    unfold MapL.look
    split
    · rename_i e; subst e
      simp only [Option.some.injEq, List.mem_cons, Prod.mk.injEq, true_and]
      refine ⟨fun e => .inl e.symm, fun e => ?_⟩
      rcases e with e | e
      · exact e.symm
      · exact absurd (List.mem_map_of_mem (f := (·.1)) e) h1
    · rename_i e
      rw [look_perm h2 v]
      simp only [List.mem_cons, Prod.mk.injEq]
      exact ⟨.inr, fun h3 => h3.resolve_left (fun h4 => e h4.1.symm)⟩
theorem Nms.look (h : Nms B n l m) (x : ByteArray) : MapL.look x l = (MapL.look x m).map B := by
  cases hm : MapL.look x m with
  | none =>
    cases hl : MapL.look x l with
    | none => rfl
    | some v =>
      have := (look_perm h.nodup v).1 hl
      obtain ⟨q, h1, h2⟩ := List.mem_map.1 (h.perm.mem_iff.1 this)
      have h3 : (x, q.2) ∈ m := by cases q; cases h2; exact h1
      rw [(look_perm (rising_nodup h.rising) q.2).2 h3] at hm
      cases hm
  | some i =>
    have h1 := (look_perm (rising_nodup h.rising) i).1 hm
    exact (look_perm h.nodup _).2 (h.perm.mem_iff.2 (List.mem_map.2 ⟨_, h1, rfl⟩))
/-- The names, in their order. -/
theorem Nms.names (h : Nms B n l m) : sortedN (l.map (·.1)) = m.map (·.1) := by
  unfold sortedN
  have hp : ((l.map (·.1)).map fun x => x.data.toList).Perm ((m.map (·.1)).map fun x => x.data.toList) := by
    have := (h.perm.map (·.1))
    rw [List.map_map] at this
    exact this.map _
  have e : ((l.map (·.1)).map fun x => x.data.toList).mergeSort leN = (m.map (·.1)).map fun x => x.data.toList := by
    refine List.Perm.eq_of_pairwise (le := fun a b => leN a b = true) (fun a b _ _ h1 h2 => ?_) (List.pairwise_mergeSort (fun a b c h1 h2 => ?_) (fun a b => ?_) _) ?_ ((List.mergeSort_perm _ _).trans hp)
    · simp only [leN, decide_eq_true_eq] at h1 h2; exact List.le_antisymm h1 h2
    · simp only [leN, decide_eq_true_eq] at *; exact List.le_trans h1 h2
    · simp only [leN, Bool.or_eq_true, decide_eq_true_eq]; exact List.le_total a b
    · rw [List.map_map, List.pairwise_map]
      exact h.rising.imp (fun {a b} hab => by simp only [leN, decide_eq_true_eq, Function.comp]; exact List.le_of_lt (ltN_iff.1 hab))
  rw [e, List.map_map]
  conv => rhs; rw [← List.map_id (m.map (·.1))]
  refine List.map_congr_left (fun x _ => ?_)
  cases x; simp
/-! ### the document's disk -/
structure RD where
  room : Nat
  files : List FileS
  now : NL
  kept : NL
  works : List (ByteArray × ByteArray × Option Nat)
  dead : Bool
  fails : Int
  keep : List Int
def RD.new (room : Nat) : RD := ⟨room, [], [], [], [], false, -1, []⟩
def fileD (d : RD) (i : Nat) : FileS := d.files.getD i ⟨[], 0⟩
def cutFile (keep : List Int) (k : Nat) (f : FileS) : FileS := ⟨f.b.take (f.mark + brought keep (1 + k) (f.b.length - f.mark)), f.mark + brought keep (1 + k) (f.b.length - f.mark)⟩
def heldIn (m : NL) (i : Nat) : Bool := m.any fun q => q.2 == i
def innerN (m : NL) (i k : Nat) (acc : NL) : NL := m.foldl (fun acc q => if q.2 = i then withN q.1 k acc else acc) acc
def crStep (keep : List Int) (m : NL) (old : List FileS) (st : List FileS × NL) (i : Nat) : List FileS × NL :=
  (if heldIn m i = true then st.1 ++ [cutFile keep st.1.length (old.getD i ⟨[], 0⟩)] else st.1, innerN m i st.1.length st.2)
def crAll (keep : List Int) (m : NL) (old : List FileS) (n : Nat) : List FileS × NL := (List.range n).foldl (crStep keep m old) ([], [])
def RD.aft (d : RD) (k : Nat) : NL := (d.works.take k).foldl doesR d.kept
def RD.crash (d : RD) (keep : List Int) : RD :=
  if d.dead then d else
    { d with files := (crAll keep (d.aft (brought keep 0 d.works.length)) d.files d.files.length).1, now := (crAll keep (d.aft (brought keep 0 d.works.length)) d.files d.files.length).2,
             kept := (crAll keep (d.aft (brought keep 0 d.works.length)) d.files d.files.length).2, works := [], dead := true, fails := -1 }
def RD.used (d : RD) : Nat := ((List.range d.files.length).map fun i => if heldIn d.now i || heldIn d.kept i then (fileD d i).b.length else 0).sum
/-- Where the i-th file goes: how many are held of those ahead of it. -/
def posIn (m : NL) (i : Nat) : Nat := ((List.range i).filter (heldIn m)).length
theorem posIn_succ (m : NL) (i : Nat) : posIn m (i + 1) = posIn m i + if heldIn m i = true then 1 else 0 := by
  unfold posIn
  rw [List.range_succ, List.filter_append, List.length_append]
  congr 1
  by_cases h : heldIn m i = true <;> simp [h]
theorem innerN_mem (i k : Nat) (q : ByteArray × Nat) : ∀ (m acc : NL), q ∈ innerN m i k acc ↔ (q.2 = k ∧ (q.1, i) ∈ m) ∨ (q ∈ acc ∧ (q.1, i) ∉ m)
  | [], acc => by simp [innerN]
  | p :: m, acc => by
    have e : innerN (p :: m) i k acc = innerN m i k (if p.2 = i then withN p.1 k acc else acc) := rfl
    rw [e, innerN_mem i k q m]
    by_cases hp : p.2 = i
    · rw [if_pos hp, withN_mem]
      have hpe : p = (p.1, i) := by rw [← hp]
      constructor
      · rintro (⟨h1, h2⟩ | ⟨h1 | ⟨h1, h2⟩, h3⟩)
        · exact .inl ⟨h1, .tail _ h2⟩
        · left; subst h1; exact ⟨rfl, by rw [hpe]; exact .head _⟩
        · right
          refine ⟨h1, fun h => ?_⟩
          rcases List.mem_cons.1 h with h | h
          · exact h2 (by rw [← h])
          · exact h3 h
      · rintro (⟨h1, h2⟩ | ⟨h1, h2⟩)
        · rcases List.mem_cons.1 h2 with h | h
          · by_cases hm : (q.1, i) ∈ m
            · exact .inl ⟨h1, hm⟩
            · refine .inr ⟨.inl ?_, hm⟩
              rw [← h, ← h1]
          · exact .inl ⟨h1, h⟩
        · refine .inr ⟨.inr ⟨h1, fun e2 => h2 ?_⟩, fun h => h2 (.tail _ h)⟩
          rw [e2, ← hpe]; exact .head _
    · rw [if_neg hp]
      have : (q.1, i) ≠ p := fun e2 => hp (by rw [← e2])
      constructor
      · rintro (⟨h1, h2⟩ | ⟨h1, h2⟩)
        · exact .inl ⟨h1, .tail _ h2⟩
        · exact .inr ⟨h1, fun h => (List.mem_cons.1 h).elim this h2⟩
      · rintro (⟨h1, h2⟩ | ⟨h1, h2⟩)
        · exact .inl ⟨h1, (List.mem_cons.1 h2).resolve_left this⟩
        · exact .inr ⟨h1, fun h => h2 (.tail _ h)⟩
theorem innerN_rising (i k : Nat) : ∀ (m acc : NL), Rising acc → Rising (innerN m i k acc)
  | [], acc, h => h
  | p :: m, acc, h => by
    show Rising (innerN m i k (if p.2 = i then withN p.1 k acc else acc))
    refine innerN_rising i k m _ ?_
    split
    · exact withN_rising h
    · exact h
theorem heldIn_iff {m : NL} {i : Nat} : heldIn m i = true ↔ ∃ x, (x, i) ∈ m := by
  unfold heldIn
  rw [List.any_eq_true]
  constructor
  · rintro ⟨q, h1, h2⟩
    have : q.2 = i := by simpa using h2
    exact ⟨q.1, by rw [← this]; exact h1⟩
  · rintro ⟨x, h⟩
    exact ⟨_, h, by simp⟩
theorem crAll_succ (keep : List Int) (m : NL) (old : List FileS) (n : Nat) : crAll keep m old (n + 1) = crStep keep m old (crAll keep m old n) n := by
  unfold crAll; rw [List.range_succ, List.foldl_append]; rfl
theorem crAll_files (keep : List Int) (m : NL) (old : List FileS) : ∀ n, (crAll keep m old n).1 = ((List.range n).filter (heldIn m)).mapIdx (fun k i => cutFile keep k (old.getD i ⟨[], 0⟩))
  | 0 => rfl
  | n + 1 => by
    rw [crAll_succ, List.range_succ, List.filter_append, List.mapIdx_append]
    show (if heldIn m n = true then (crAll keep m old n).1 ++ [cutFile keep (crAll keep m old n).1.length (old.getD n ⟨[], 0⟩)] else (crAll keep m old n).1) = _
    have hl : (crAll keep m old n).1.length = ((List.range n).filter (heldIn m)).length := by rw [crAll_files keep m old n, List.length_mapIdx]
    rw [hl, crAll_files keep m old n]
    by_cases h : heldIn m n = true <;> simp [h]
theorem crAll_len (keep : List Int) (m : NL) (old : List FileS) (n : Nat) : (crAll keep m old n).1.length = posIn m n := by rw [crAll_files, List.length_mapIdx]; rfl
theorem crAll_names (keep : List Int) (m : NL) (old : List FileS) (hm : (m.map (·.1)).Nodup) : ∀ n, Rising (crAll keep m old n).2 ∧ ∀ q, q ∈ (crAll keep m old n).2 ↔ ∃ i, i < n ∧ (q.1, i) ∈ m ∧ q.2 = posIn m i
  | 0 => ⟨List.Pairwise.nil, fun q => by simp [crAll]⟩
  | n + 1 => by
    obtain ⟨h1, h2⟩ := crAll_names keep m old hm n
    rw [crAll_succ]
    refine ⟨innerN_rising _ _ _ _ h1, fun q => ?_⟩
    show q ∈ innerN m n (crAll keep m old n).1.length (crAll keep m old n).2 ↔ _
    rw [innerN_mem, h2, crAll_len]
    constructor
    · rintro (⟨h3, h4⟩ | ⟨⟨i, h3, h4, h5⟩, h6⟩)
      · exact ⟨n, by omega, h4, h3⟩
      · exact ⟨i, by omega, h4, h5⟩
    · rintro ⟨i, h3, h4, h5⟩
      by_cases e : i = n
      · subst e; exact .inl ⟨h5, h4⟩
      · refine .inr ⟨⟨i, by omega, h4, h5⟩, fun h6 => e ?_⟩
        have h7 := (look_perm hm i).2 h4
        rw [(look_perm hm n).2 h6] at h7
        exact (Option.some.inj h7).symm
theorem posIn_at (m : NL) : ∀ (n i : Nat), i < n → heldIn m i = true → ((List.range n).filter (heldIn m))[posIn m i]? = some i
  | 0, i, h, _ => by omega
  | n + 1, i, h, hh => by
    rw [List.range_succ, List.filter_append]
    by_cases e : i = n
    · subst e
      rw [List.getElem?_append_right (by exact Nat.le_refl _)]
      simp [posIn, hh]
    · have := posIn_at m n i (by omega) hh
      rw [List.getElem?_append_left (List.getElem?_eq_some_iff.1 this).1]
      exact this
/-- The two disks are alike: L are the births of the document's files. -/
structure SimB (L : List Nat) (s : DS) (d : RD) : Prop where
  room : d.room = s.room
  dead : d.dead = s.dead
  fails : d.fails = s.fails
  keep : d.keep = s.keep
  births : ∀ b ∈ L, 1 ≤ b ∧ b ≤ s.births
  inc : L.Pairwise (· < ·)
  files : d.files = L.map s.file
  now : Nms (fun i => L.getD i 0) L.length s.names d.now
  kept : Nms (fun i => L.getD i 0) L.length s.kept d.kept
  works : s.works = d.works.map fun q => (q.1, q.2.1, q.2.2.map fun i => L.getD i 0)
  wlow : ∀ q ∈ d.works, ∀ i, q.2.2 = some i → i < L.length ∧ 1 ≤ q.2.1.size
  inj : ∀ k, ((after s k).map (·.2)).Nodup
  eq : s.names = after s s.works.length
variable {s : DS} {d : RD} {L : List Nat}
theorem Nms.fold {l m : NL} (h : Nms B n l m) : ∀ (W : List (ByteArray × ByteArray × Option Nat)), (∀ q ∈ W, ∀ i, q.2.2 = some i → i < n ∧ 1 ≤ q.2.1.size) → Nms B n ((W.map fun q => (q.1, q.2.1, q.2.2.map B)).foldl stepW l) (W.foldl doesR m)
  | [], _ => h
  | q :: W, hw => by
    have h1 := h.step q.1 q.2.1 q.2.2 (hw q (.head _))
    exact Nms.fold h1 W (fun q' hq' => hw q' (.tail _ hq'))
theorem SimB.aft (h : SimB L s d) (k : Nat) : Nms (fun i => L.getD i 0) L.length (after s k) (d.aft k) := by
  unfold after RD.aft
  rw [h.works, ← List.map_take]
  exact h.kept.fold _ (fun q hq => h.wlow q (List.mem_of_mem_take hq))
theorem getD_lt {L : List Nat} (h : L.Pairwise (· < ·)) {i j : Nat} (hij : i < j) (hj : j < L.length) : L.getD i 0 < L.getD j 0 := by
  rw [List.getD_eq_getElem?_getD, List.getD_eq_getElem?_getD, List.getElem?_eq_getElem hj, List.getElem?_eq_getElem (show i < L.length by omega)]
  exact List.pairwise_iff_getElem.1 h i j _ _ hij
theorem getD_inj {L : List Nat} (h : L.Pairwise (· < ·)) {i j : Nat} (hi : i < L.length) (hj : j < L.length) (e : L.getD i 0 = L.getD j 0) : i = j := by
  rcases Nat.lt_trichotomy i j with h1 | h1 | h1
  · have := getD_lt h h1 hj; omega
  · exact h1
  · have := getD_lt h h1 hi; omega
theorem getD_mem {L : List Nat} {i : Nat} (hi : i < L.length) : L.getD i 0 ∈ L := by
  rw [List.getD_eq_getElem?_getD, List.getElem?_eq_getElem hi]; exact List.getElem_mem hi
theorem SimB.file (h : SimB L s d) {i : Nat} (hi : i < L.length) : fileD d i = s.file (L.getD i 0) := by
  unfold fileD
  rw [h.files]
  simp [List.getD_eq_getElem?_getD, hi]
theorem Nms.holds {l m : NL} (h : Nms B n l m) (b : Nat) : (l.any fun p => p.2 == b) = true ↔ ∃ i, B i = b ∧ heldIn m i = true := by
  rw [h.perm.any_eq, List.any_map, List.any_eq_true]
  constructor
  · rintro ⟨q, h1, h2⟩
    exact ⟨q.2, by simpa using h2, heldIn_iff.2 ⟨q.1, h1⟩⟩
  · rintro ⟨i, h1, h2⟩
    obtain ⟨x, hx⟩ := heldIn_iff.1 h2
    exact ⟨_, hx, by simpa using h1⟩
theorem Nms.lowH {l m : NL} (h : Nms B n l m) {i : Nat} (hh : heldIn m i = true) : i < n := by
  obtain ⟨x, hx⟩ := heldIn_iff.1 hh
  exact h.low _ hx
theorem sum_filter' {α : Type} (q : α → Bool) (f : α → Nat) : ∀ l : List α, ((l.filter q).map f).sum = (l.map fun x => if q x then f x else 0).sum
  | [] => rfl
  | x :: l => by
    by_cases h : q x = true <;> simp [h, sum_filter' q f l]
theorem SimB.used (h : SimB L s d) : usedOf s = d.used := by
  have hn : d.files.length = L.length := by rw [h.files, List.length_map]
  unfold usedOf RD.used
  rw [← sum_filter' (fun j => held s (j + 1)) (fun j => (s.file (j + 1)).b.length), ← sum_filter' (fun i => heldIn d.now i || heldIn d.kept i) (fun i => (fileD d i).b.length), hn]
  have e1 : ((List.range L.length).filter fun i => heldIn d.now i || heldIn d.kept i).map (fun i => (fileD d i).b.length) = ((((List.range L.length).filter fun i => heldIn d.now i || heldIn d.kept i).map fun i => L.getD i 0).map fun b => (s.file b).b.length) := by
    rw [List.map_map]
    refine List.map_congr_left (fun i hi => ?_)
    rw [h.file (List.mem_range.1 (List.mem_filter.1 hi).1)]; rfl
  have e2 : ((List.range s.births).filter fun j => held s (j + 1)).map (fun j => (s.file (j + 1)).b.length) = ((((List.range s.births).filter fun j => held s (j + 1)).map fun j => j + 1).map fun b => (s.file b).b.length) := by
    rw [List.map_map]; rfl
  rw [e1, e2]
  refine List.Perm.sum_nat (List.Perm.map _ ?_)
  have inj : ((List.range L.length).filter fun i => heldIn d.now i || heldIn d.kept i).Pairwise fun i j => L.getD i 0 ≠ L.getD j 0 := by
    refine (((List.pairwise_lt_range (n := L.length)).filter _).imp_of_mem ?_)
    intro i j hi hj hij e
    have := getD_lt h.inc hij (List.mem_range.1 (List.mem_filter.1 hj).1)
    omega
  refine (List.perm_ext_iff_of_nodup ?_ ?_).2 (fun b => ?_)
  · exact (((List.pairwise_lt_range (n := s.births)).filter _).imp (fun {i j} hij e => by omega)).map _ (fun _ _ h => h)
  · exact List.pairwise_map.2 inj
  · simp only [List.mem_map, List.mem_filter, List.mem_range, Bool.or_eq_true]
    unfold held
    constructor
    · rintro ⟨j, ⟨hj, hh⟩, rfl⟩
      rw [List.any_append, Bool.or_eq_true, h.now.holds, h.kept.holds] at hh
      rcases hh with ⟨i, h1, h2⟩ | ⟨i, h1, h2⟩
      · exact ⟨i, ⟨h.now.lowH h2, .inl h2⟩, h1⟩
      · exact ⟨i, ⟨h.kept.lowH h2, .inr h2⟩, h1⟩
    · rintro ⟨i, ⟨hi, hh⟩, rfl⟩
      have hb := h.births _ (getD_mem hi)
      refine ⟨L.getD i 0 - 1, ⟨by omega, ?_⟩, by omega⟩
      rw [show L.getD i 0 - 1 + 1 = L.getD i 0 by omega, List.any_append, Bool.or_eq_true, h.now.holds, h.kept.holds]
      rcases hh with hh | hh
      · exact .inl ⟨i, rfl, hh⟩
      · exact .inr ⟨i, rfl, hh⟩
theorem crashFiles_out (keep : List Int) : ∀ (l : List Nat) (s : DS) (k j : Nat), j ∉ l → (crashFiles keep s k l).file j = s.file j
  | [], _, _, _, _ => rfl
  | i :: l, s, k, j, h => by
    show (crashFiles keep (crashFile keep s k i) (k + 1) l).file j = _
    rw [crashFiles_out keep l _ _ j (fun hm => h (.tail _ hm))]
    exact upd_other _ _ (fun e => h (e ▸ .head _))
theorem crashFiles_map (keep : List Int) : ∀ (l : List Nat) (s : DS) (k : Nat), l.Nodup → l.map (crashFiles keep s k l).file = l.mapIdx fun j b => cutFile keep (k + j) (s.file b)
  | [], _, _, _ => rfl
  | i :: l, s, k, h => by
    obtain ⟨h1, h2⟩ := List.nodup_cons.1 h
    rw [List.map_cons, List.mapIdx_cons]
    congr 1
    · show (crashFiles keep (crashFile keep s k i) (k + 1) l).file i = _
      rw [crashFiles_out keep l _ _ i h1]
      exact upd_same _ _ _
    · show l.map (crashFiles keep (crashFile keep s k i) (k + 1) l).file = _
      rw [crashFiles_map keep l _ _ h2]
      refine List.ext_getElem (by simp) (fun j hj _ => ?_)
      simp only [List.getElem_mapIdx]
      have : l[j]'(by simpa using hj) ≠ i := fun e => h1 (e ▸ List.getElem_mem _)
      show cutFile keep (k + 1 + j) (upd s.file i _ _) = _
      rw [upd_other _ _ this, show k + 1 + j = k + (j + 1) by omega]
theorem nodup_lt {l : List Nat} (h : l.Pairwise (· < ·)) : l.Nodup := h.imp (fun {a b} hab e => by omega)
theorem rising_lt {l m : List Nat} (hl : l.Pairwise (· < ·)) (h : m.Perm l) : rising m = l := by
  unfold rising
  refine List.Perm.eq_of_pairwise (le := fun a b => decide (a ≤ b) = true) (fun a b _ _ h1 h2 => ?_) (List.pairwise_mergeSort (fun a b c h1 h2 => ?_) (fun a b => ?_) _) ?_ ((List.mergeSort_perm _ _).trans h)
  · simp at h1 h2; omega
  · simp at *; omega
  · simp; omega
  · exact hl.imp (fun {a b} hab => by simp; omega)
/-- The births of those that are left. -/
def leftL (L : List Nat) (m : NL) : List Nat := ((List.range L.length).filter (heldIn m)).map fun i => L.getD i 0
theorem leftL_inc {m : NL} (h : L.Pairwise (· < ·)) : (leftL L m).Pairwise (· < ·) := by
  refine List.pairwise_map.2 ((((List.pairwise_lt_range (n := L.length)).filter _).imp_of_mem ?_))
  intro i j hi hj hij
  exact getD_lt h hij (List.mem_range.1 (List.mem_filter.1 hj).1)
theorem leftL_at {m : NL} {i : Nat} (hi : i < L.length) (hh : heldIn m i = true) : posIn m i < (leftL L m).length ∧ (leftL L m).getD (posIn m i) 0 = L.getD i 0 := by
  have h1 := posIn_at m L.length i hi hh
  have h2 := (List.getElem?_eq_some_iff.1 h1).1
  refine ⟨by unfold leftL; rw [List.length_map]; exact h2, ?_⟩
  unfold leftL
  rw [List.getD_eq_getElem?_getD, List.getElem?_map, h1]; rfl
theorem leftL_rising {l m : NL} (hL : L.Pairwise (· < ·)) (h : Nms (fun i => L.getD i 0) L.length l m) (hi : (l.map (·.2)).Nodup) : rising (l.map (·.2)) = leftL L m := by
  refine rising_lt (leftL_inc hL) ((List.perm_ext_iff_of_nodup hi (nodup_lt (leftL_inc hL))).2 (fun b => ?_))
  have := h.holds b
  rw [List.any_eq_true] at this
  simp only [List.mem_map]
  unfold leftL
  simp only [List.mem_map, List.mem_filter, List.mem_range]
  constructor
  · rintro ⟨q, h1, h2⟩
    obtain ⟨i, h3, h4⟩ := this.1 ⟨q, h1, by simpa using h2⟩
    exact ⟨i, ⟨h.lowH h4, h4⟩, h3⟩
  · rintro ⟨i, ⟨_, h4⟩, h3⟩
    obtain ⟨q, h1, h2⟩ := this.2 ⟨i, h3, h4⟩
    exact ⟨q, h1, by simpa using h2⟩
theorem crashFiles_keep (keep : List Int) : ∀ (l : List Nat) (s : DS) (k : Nat), (crashFiles keep s k l).keep = s.keep
  | [], _, _ => rfl
  | i :: l, s, k => crashFiles_keep keep l (crashFile keep s k i) (k + 1)
/-- A fall of both. -/
theorem SimB.crash (h : SimB L s d) (keep : List Int) : ∃ L', SimB L' (s.crash keep) (d.crash keep) := by
  unfold DS.crash RD.crash
  rw [h.dead]
  by_cases hd : s.dead = true
  · rw [if_pos hd, if_pos hd]; exact ⟨L, h⟩
  rw [if_neg hd, if_neg hd]
  have hwl : d.works.length = s.works.length := by rw [h.works, List.length_map]
  rw [hwl]
  have hA := h.aft (brought keep 0 s.works.length)
  have hI := h.inj (brought keep 0 s.works.length)
  generalize after s (brought keep 0 s.works.length) = l at *
  generalize d.aft (brought keep 0 s.works.length) = m at *
  have hr := leftL_rising h.inc hA hI
  rw [hr]
  have hn : d.files.length = L.length := by rw [h.files, List.length_map]
  obtain ⟨c1, c2, _⟩ := crashFiles_same keep (leftL L m) s 0
  have c8 := crashFiles_keep keep (leftL L m) s 0
  have hnd := nodup_lt (leftL_inc (m := m) h.inc)
  have hm := crAll_names keep m d.files (rising_nodup hA.rising) d.files.length
  have hN : Nms (fun i => (leftL L m).getD i 0) (leftL L m).length l (crAll keep m d.files d.files.length).2 := by
    have each : ∀ q ∈ (crAll keep m d.files d.files.length).2, ∃ i, i < L.length ∧ (q.1, i) ∈ m ∧ q.2 = posIn m i := fun q hq => by
      obtain ⟨i, h1, h2, h3⟩ := (hm.2 q).1 hq
      exact ⟨i, by omega, h2, h3⟩
    refine ⟨(List.perm_ext_iff_of_nodup ?_ ?_).2 (fun q => ?_), hm.1, fun q hq => ?_, fun q hq => ?_⟩
    · have := hA.nodup
      unfold List.Nodup at *
      rw [List.pairwise_map] at this
      exact this.imp (fun {a b} hab e => hab (by rw [e]))
    · have := rising_nodup hm.1
      unfold List.Nodup at *
      rw [List.pairwise_map] at this ⊢
      exact this.imp (fun {a b} hab e => hab (by have := congrArg Prod.fst e; exact this))
    · rw [hA.perm.mem_iff]
      simp only [List.mem_map]
      constructor
      · rintro ⟨q', h1, rfl⟩
        have hh : heldIn m q'.2 = true := heldIn_iff.2 ⟨q'.1, h1⟩
        have hlow := hA.low q' h1
        exact ⟨(q'.1, posIn m q'.2), (hm.2 _).2 ⟨q'.2, by rw [hn]; exact hlow, h1, rfl⟩, by rw [(leftL_at hlow hh).2]⟩
      · rintro ⟨q', h1, rfl⟩
        obtain ⟨i, h2, h3, h4⟩ := each q' h1
        exact ⟨(q'.1, i), h3, by rw [h4, (leftL_at h2 (heldIn_iff.2 ⟨_, h3⟩)).2]⟩
    · obtain ⟨i, h2, h3, h4⟩ := each q hq
      rw [h4]; exact (leftL_at h2 (heldIn_iff.2 ⟨_, h3⟩)).1
    · obtain ⟨i, h2, h3, h4⟩ := each q hq
      exact hA.named (q.1, i) h3
  refine ⟨leftL L m, ⟨h.room.trans c2.symm, rfl, rfl, h.keep.trans c8.symm, fun b hb => ?_, leftL_inc h.inc, ?_, hN, hN, rfl, fun q hq => (List.not_mem_nil hq).elim, fun k => ?_, ?_⟩⟩
  · obtain ⟨i, hi, rfl⟩ := List.mem_map.1 hb
    show 1 ≤ _ ∧ _ ≤ (crashFiles keep s 0 (leftL L m)).births
    rw [c1]
    exact h.births _ (getD_mem (List.mem_range.1 (List.mem_filter.1 hi).1))
  · show (crAll keep m d.files d.files.length).1 = (leftL L m).map (crashFiles keep s 0 (leftL L m)).file
    rw [crashFiles_map keep _ _ _ hnd, crAll_files, hn]
    unfold leftL
    refine List.ext_getElem (by simp) (fun j hj _ => ?_)
    simp only [List.getElem_mapIdx, Nat.zero_add, List.getElem_map]
    have hj' : ((List.range L.length).filter (heldIn m))[j]'(by simpa using hj) ∈ (List.range L.length).filter (heldIn m) := List.getElem_mem _
    have := h.file (List.mem_range.1 (List.mem_filter.1 hj').1)
    unfold fileD at this
    rw [this]
  · have : after { crashFiles keep s 0 (leftL L m) with names := l, kept := l, works := [], dead := true, fails := -1 } k = l := by unfold after; simp
    rw [this]; exact hI
  · unfold after; simp
/-! ### what is done to both -/
def RD.tick (d : RD) : RD := { d with fails := if 0 < d.fails then d.fails - 1 else d.fails }
def RD.setf (d : RD) (i : Nat) (f : FileS) : RD := { d with files := d.files.set i f }
def RD.renamed (d : RD) (a b : ByteArray) (f : Option Nat) : RD := { d with now := doesR d.now (a, b, f), works := d.works ++ [(a, b, f)] }
def RD.born (d : RD) : RD := { d with files := d.files ++ [⟨[], 0⟩] }
def fileR (d : RD) (x : ByteArray) : Option Nat := MapL.look x d.now
def RD.find (d : RD) (x : ByteArray) : RD × Nat :=
  match fileR d x with
  | some i => (d, i)
  | none => (d.born.renamed ⟨#[]⟩ x (some d.files.length), d.files.length)
def RD.grow (d : RD) (i : Nat) (l : List Nat) : RD := d.setf i ⟨(fileD d i).b ++ l, (fileD d i).mark⟩
def RD.append (d : RD) (x : ByteArray) (l : List Nat) : RD × Int :=
  if d.dead then (d, 51) else if (decide (1 ≤ x.size) && decide (x.size ≤ 40)) = false then (d, 50) else if d.room < d.used + l.length then (d, 52) else if d.fails = 0 then (d.crash d.keep, 51) else ((d.tick.find x).1.grow (d.tick.find x).2 l, 0)
def ofResR (d : RD) (x : ByteArray) (ok : Bool) : Option Nat × Int :=
  if d.dead then (none, 51) else match fileR d x with
    | none => (none, 50)
    | some i => if ok then (some i, 0) else (none, 50)
def RD.work (d : RD) (q : Option Nat × Int) (f : RD → Nat → RD) : RD × Int :=
  match q.1 with
  | none => (d, q.2)
  | some i => if d.fails = 0 then (d.crash d.keep, 51) else (f d.tick i, 0)
def RD.sync (d : RD) (x : ByteArray) : RD × Int := d.work (ofResR d x true) fun d i => d.setf i ⟨(fileD d i).b, (fileD d i).b.length⟩
def readR (d : RD) (x : ByteArray) : List Nat × Int :=
  if d.dead then ([], 51) else match fileR d x with
    | none => ([], 50)
    | some i => ((fileD d i).b, 0)
def RD.remove (d : RD) (x : ByteArray) : RD × Int := d.work (ofResR d x true) fun d _ => d.renamed x ⟨#[]⟩ none
def RD.rename (d : RD) (x y : ByteArray) : RD × Int := d.work (ofResR d x (okName y)) fun d i => if x = y then d else d.renamed x y (some i)
def RD.syncNames (d : RD) : RD × Int := if d.dead then (d, 51) else if d.fails = 0 then (d.crash d.keep, 51) else ({ d.tick with kept := d.now, works := [] }, 0)
def RD.boot (d : RD) : RD := { d with dead := false, fails := -1 }
def RD.fail (d : RD) (n : Int) (keep : List Int) : RD := if d.dead then d else { d with fails := max n (-1), keep := keep }
def RD.cut (d : RD) (x : ByteArray) (n : Int) : RD × Int :=
  if d.dead then (d, 51) else match fileR d x with
    | none => (d, 50)
    | some i => if n < 0 ∨ ((fileD d i).b.length : Int) < n then (d, 9) else if d.fails = 0 then (d.crash d.keep, 51) else (d.tick.setf i ⟨(fileD d i).b.take n.toNat, min (fileD d i).mark n.toNat⟩, 0)
def RD.turn (d : RD) (x : ByteArray) (k bit : Int) : RD × Int :=
  if d.dead then (d, 51) else match fileR d x with
    | none => (d, 50)
    | some i => if k < 0 ∨ ((fileD d i).b.length : Int) ≤ k ∨ bit < 0 ∨ 7 < bit then (d, 9) else (d.setf i ⟨(fileD d i).b.set k.toNat ((fileD d i).b.getD k.toNat 0 ^^^ 2 ^ bit.toNat), (fileD d i).mark⟩, 0)
def namesR (d : RD) : List ByteArray := if d.dead then [] else d.now.map (·.1)
theorem SimB.tick (h : SimB L s d) : SimB L s.tick d.tick := { h with fails := by unfold DS.tick RD.tick; simp only [h.fails] }
theorem SimB.fileR (h : SimB L s d) (x : ByteArray) : fileOf s x = (fileR d x).map fun i => L.getD i 0 := h.now.look x
theorem SimB.low (h : SimB L s d) {x : ByteArray} {i : Nat} (hf : YtmcmagplaflegaaGreat.fileR d x = some i) : i < L.length := h.now.low _ ((look_perm (rising_nodup h.now.rising) i).1 hf)
theorem SimB.setf (h : SimB L s d) {i : Nat} (hi : i < L.length) (f : FileS) : SimB L (s.setf (L.getD i 0) f) (d.setf i f) := { h with
  files := by
    show d.files.set i f = L.map (upd s.file (L.getD i 0) f)
    rw [h.files]
    refine List.ext_getElem (by simp) (fun j hj _ => ?_)
    have hj' : j < L.length := by simpa using hj
    rw [List.getElem_set, List.getElem_map]
    have e : L[j] = L.getD j 0 := by simp [List.getD_eq_getElem?_getD, hj']
    split
    · rename_i hij; subst hij; rw [List.getElem_map, e, upd_same]
    · rename_i hij
      rw [List.getElem_map, upd_other _ _ (fun e2 => hij (getD_inj h.inc hi hj' (by rw [← e2, e])))] }
theorem after_fresh {a b : ByteArray} {f : Option Nat} {l : NL} (hk : (l.map (·.1)).Nodup) (hi : (l.map (·.2)).Nodup) (hf : ∀ v, f = some v → ∀ q ∈ l, q.1 ≠ a → q.2 ≠ v) : ((step a b f l).map (·.2)).Nodup := by
  have hd : ((del a l).map (·.2)).Nodup := by
    rw [del_filter a l hk]
    exact hi.sublist (List.filter_sublist.map _)
  cases f with
  | none => exact hd
  | some v =>
    show ((put b v (del a l)).map (·.2)).Nodup
    have hkd : ((del a l).map (·.1)).Nodup := by
      rw [del_filter a l hk]; exact hk.sublist (List.filter_sublist.map _)
    have := ((put_perm b v (del a l) hkd).map (·.2))
    rw [this.nodup_iff, List.map_cons, List.nodup_cons]
    refine ⟨fun hm => ?_, hd.sublist (List.filter_sublist.map _)⟩
    obtain ⟨q, h1, h2⟩ := List.mem_map.1 hm
    have h3 := (List.mem_filter.1 h1).1
    rw [del_filter a l hk] at h3
    have h4 := List.mem_filter.1 h3
    exact hf v rfl q h4.1 (by simpa using h4.2) h2
theorem SimB.renamed (h : SimB L s d) (a b : ByteArray) (f : Option Nat) (hf : ∀ i, f = some i → i < L.length ∧ 1 ≤ b.size) (hfr : ∀ i, f = some i → ∀ q ∈ s.names, q.1 ≠ a → q.2 ≠ L.getD i 0) :
    SimB L (s.renamed a b (f.map fun i => L.getD i 0)) (d.renamed a b f) := { h with
  now := h.now.step a b f hf
  works := by
    show s.works ++ _ = (d.works ++ _).map _
    rw [List.map_append, ← h.works]; rfl
  wlow := fun q hq => by
    rcases List.mem_append.1 hq with hq | hq
    · exact h.wlow q hq
    · rw [List.mem_singleton] at hq; subst hq; exact hf
  inj := fun k => by
    rw [after_renamed]
    split
    · exact h.inj k
    · rw [← h.eq]
      refine after_fresh h.now.nodup (by rw [h.eq]; exact h.inj _) (fun v hv q hq hne => ?_)
      cases f with
      | none => cases hv
      | some i => cases hv; exact hfr i rfl q hq hne
  eq := by
    rw [after_renamed, if_neg (by show ¬ (s.works ++ _).length ≤ _; rw [List.length_append]; simp), ← h.eq]; rfl }
theorem SimB.born (h : SimB L s d) : SimB (L ++ [s.births + 1]) s.born d.born := by
  have hB : ∀ i, i < L.length → (L ++ [s.births + 1]).getD i 0 = L.getD i 0 := fun i hi => by
    rw [List.getD_eq_getElem?_getD, List.getD_eq_getElem?_getD, List.getElem?_append_left hi]
  have hl : L.length ≤ (L ++ [s.births + 1]).length := by simp
  exact { h with
    births := fun b hb => by
      show 1 ≤ b ∧ b ≤ s.births + 1
      rcases List.mem_append.1 hb with hb | hb
      · have := h.births b hb; omega
      · rw [List.mem_singleton] at hb; omega
    inc := List.pairwise_append.2 ⟨h.inc, by simp, fun a ha b hb => by rw [List.mem_singleton] at hb; have := h.births a ha; omega⟩
    files := by
      show d.files ++ _ = (L ++ _).map (upd s.file (s.births + 1) _)
      rw [List.map_append, h.files, List.map_congr_left (g := s.file) (fun b hb => upd_other _ _ (by have := h.births b hb; omega))]
      simp [upd_same]
    now := h.now.wider hl hB
    kept := h.kept.wider hl hB
    works := by
      show s.works = _
      rw [h.works]
      refine List.map_congr_left (fun q hq => ?_)
      cases e : q.2.2 with
      | none => rfl
      | some i => simp only [Option.map_some]; rw [hB i (h.wlow q hq i e).1]
    wlow := fun q hq i hi => by
      have := h.wlow q hq i hi
      exact ⟨Nat.lt_of_lt_of_le this.1 hl, this.2⟩ }
theorem SimB.find (h : SimB L s d) (x : ByteArray) (hx : 1 ≤ x.size) (hlow : ∀ q ∈ s.names, q.2 ≤ s.births) : ∃ L', SimB L' (s.find x).1 (d.find x).1 ∧ (d.find x).2 < L'.length ∧ (s.find x).2 = L'.getD (d.find x).2 0 := by
  unfold DS.find RD.find
  have hf := h.fileR x
  cases hr : YtmcmagplaflegaaGreat.fileR d x with
  | some i =>
    rw [hr] at hf
    rw [hf]
    exact ⟨L, h, h.low hr, rfl⟩
  | none =>
    rw [hr] at hf
    rw [hf]
    have hn : d.files.length = L.length := by rw [h.files, List.length_map]
    have e : (L ++ [s.births + 1]).getD L.length 0 = s.births + 1 := by simp [List.getD_eq_getElem?_getD]
    have h2 := h.born.renamed ⟨#[]⟩ x (some L.length) (fun i hi => by cases hi; exact ⟨by simp, hx⟩) (fun i hi q hq _ => by
      cases hi; rw [e]
      have := hlow q hq
      omega)
    simp only [Option.map_some, e] at h2
    refine ⟨L ++ [s.births + 1], ?_, ?_, ?_⟩
    · show SimB _ (s.born.renamed ⟨#[]⟩ x (some (s.births + 1))) (d.born.renamed ⟨#[]⟩ x (some d.files.length))
      rw [hn]; exact h2
    · show d.files.length < _
      simp [hn]
    · show s.births + 1 = (L ++ [s.births + 1]).getD d.files.length 0
      rw [hn, e]
theorem SimB.append (h : SimB L s d) (x : ByteArray) (l : List Nat) (hlow : ∀ q ∈ s.names, q.2 ≤ s.births) : (s.append x l).2 = (d.append x l).2 ∧ ∃ L', SimB L' (s.append x l).1 (d.append x l).1 := by
  unfold DS.append RD.append
  rw [h.dead, h.room, h.fails, h.used, h.keep]
  split
  · exact ⟨rfl, L, h⟩
  split
  · exact ⟨rfl, L, h⟩
  rename_i hok
  split
  · exact ⟨rfl, L, h⟩
  split
  · exact ⟨rfl, h.crash _⟩
  refine ⟨rfl, ?_⟩
  obtain ⟨L', h1, h2, h3⟩ := h.tick.find x (by simp at hok; exact hok.1) hlow
  refine ⟨L', ?_⟩
  show SimB L' (DS.setf _ _ _) (RD.setf _ _ _)
  have := h1.file h2
  rw [this, h3]
  exact h1.setf h2 _
theorem SimB.ofRes (h : SimB L s d) (x : ByteArray) (ok : Bool) : ofRes s x ok = ((ofResR d x ok).1.map fun i => L.getD i 0, (ofResR d x ok).2) := by
  unfold YtmcmagplaflegaaGreat.ofRes ofResR
  rw [h.dead, h.fileR x]
  split
  · rfl
  · cases YtmcmagplaflegaaGreat.fileR d x with
    | none => rfl
    | some i => cases ok <;> rfl
theorem SimB.work (h : SimB L s d) (x : ByteArray) (ok : Bool) {f : DS → Nat → DS} {g : RD → Nat → RD} (hfg : ∀ i, YtmcmagplaflegaaGreat.fileR d x = some i → ok = true → SimB L (f s.tick (L.getD i 0)) (g d.tick i)) :
    (s.work (YtmcmagplaflegaaGreat.ofRes s x ok) f).2 = (d.work (ofResR d x ok) g).2 ∧ ∃ L', SimB L' (s.work (YtmcmagplaflegaaGreat.ofRes s x ok) f).1 (d.work (ofResR d x ok) g).1 := by
  rw [h.ofRes]
  unfold DS.work RD.work
  cases hr : (ofResR d x ok).1 with
  | none => exact ⟨rfl, L, h⟩
  | some i =>
    simp only [Option.map_some]
    rw [h.fails, h.keep]
    have : YtmcmagplaflegaaGreat.fileR d x = some i ∧ ok = true := by
      unfold ofResR at hr
      split at hr
      · cases hr
      · cases hf : YtmcmagplaflegaaGreat.fileR d x with
        | none => rw [hf] at hr; cases hr
        | some j =>
          rw [hf] at hr
          cases ok with
          | false => cases hr
          | true => cases hr; exact ⟨rfl, rfl⟩
    split
    · exact ⟨rfl, h.crash _⟩
    · exact ⟨rfl, L, hfg i this.1 this.2⟩
theorem SimB.sync (h : SimB L s d) (x : ByteArray) : (s.sync x).2 = (d.sync x).2 ∧ ∃ L', SimB L' (s.sync x).1 (d.sync x).1 :=
  h.work x true (fun i hi _ => by
    have hl := h.low hi
    have := h.tick.file hl
    show SimB L (DS.setf s.tick _ _) (RD.setf d.tick i _)
    rw [this]
    exact h.tick.setf hl _)
theorem SimB.remove (h : SimB L s d) (x : ByteArray) : (s.remove x).2 = (d.remove x).2 ∧ ∃ L', SimB L' (s.remove x).1 (d.remove x).1 :=
  h.work x true (fun _ _ _ => h.tick.renamed x ⟨#[]⟩ none (fun i hi => by cases hi) (fun i hi => by cases hi))
theorem SimB.rename (h : SimB L s d) (x y : ByteArray) : (s.rename x y).2 = (d.rename x y).2 ∧ ∃ L', SimB L' (s.rename x y).1 (d.rename x y).1 :=
  h.work x (okName y) (fun i hi ho => by
    have hl := h.low hi
    show SimB L (if x = y then s.tick else s.tick.renamed x y (some (L.getD i 0))) (if x = y then d.tick else d.tick.renamed x y (some i))
    split
    · exact h.tick
    · refine h.tick.renamed x y (some i) (fun j hj => ?_) (fun j hj q hq hne => ?_)
      · cases hj; unfold okName at ho; simp at ho; exact ⟨hl, ho.1⟩
      · cases hj
        have h1 : fileOf s x = some (L.getD i 0) := by rw [h.fileR, hi]; rfl
        have h2 : (x, L.getD i 0) ∈ s.names := (look_perm h.now.nodup _).1 h1
        intro e
        have hinj : (s.names.map (·.2)).Nodup := by rw [h.eq]; exact h.inj _
        have h3 : q ∈ s.names := hq
        have : q = (x, L.getD i 0) := by
          unfold List.Nodup at hinj
          rw [List.pairwise_map] at hinj
          obtain ⟨a, ha, ea⟩ := List.mem_iff_getElem.1 h3
          obtain ⟨c, hc, ec⟩ := List.mem_iff_getElem.1 h2
          rcases Nat.lt_trichotomy a c with hac | hac | hac
          · exact absurd (by rw [ea, ec]; exact e) (List.pairwise_iff_getElem.1 hinj a c ha hc hac)
          · subst hac; rw [← ea, ec]
          · exact absurd (by rw [ea, ec]; exact e.symm) (List.pairwise_iff_getElem.1 hinj c a hc ha hac)
        exact hne (by rw [this]))
theorem SimB.syncNames (h : SimB L s d) : s.syncNames.2 = d.syncNames.2 ∧ ∃ L', SimB L' s.syncNames.1 d.syncNames.1 := by
  unfold DS.syncNames RD.syncNames
  rw [h.dead, h.fails, h.keep]
  split
  · exact ⟨rfl, L, h⟩
  split
  · exact ⟨rfl, h.crash _⟩
  · refine ⟨rfl, L, { h.tick with kept := h.tick.now, works := rfl, wlow := fun q hq => (List.not_mem_nil hq).elim, inj := fun k => ?_, eq := ?_ }⟩
    · have : after { s.tick with kept := s.names, works := [] } k = s.names := by unfold after; simp
      rw [this, h.eq]; exact h.inj _
    · unfold after; simp; rfl
theorem SimB.boot (h : SimB L s d) : SimB L s.boot d.boot := { h with dead := rfl, fails := rfl }
theorem SimB.fail (h : SimB L s d) (n : Int) (keep : List Int) : SimB L (s.fail n keep) (d.fail n keep) := by
  unfold DS.fail RD.fail
  rw [h.dead]
  split
  · exact h
  · exact { h with dead := rfl, fails := rfl, keep := rfl }
theorem SimB.cut (h : SimB L s d) (x : ByteArray) (n : Int) : (s.cut x n).2 = (d.cut x n).2 ∧ ∃ L', SimB L' (s.cut x n).1 (d.cut x n).1 := by
  unfold DS.cut RD.cut
  rw [h.dead, h.fileR x, h.fails, h.keep]
  split
  · exact ⟨rfl, L, h⟩
  cases hr : YtmcmagplaflegaaGreat.fileR d x with
  | none => exact ⟨rfl, L, h⟩
  | some i =>
    simp only [Option.map_some]
    have hl := h.low hr
    rw [h.file hl]
    split
    · exact ⟨rfl, L, h⟩
    split
    · exact ⟨rfl, h.crash _⟩
    · exact ⟨rfl, L, h.tick.setf hl _⟩
theorem SimB.turn (h : SimB L s d) (x : ByteArray) (k bit : Int) : (s.turn x k bit).2 = (d.turn x k bit).2 ∧ ∃ L', SimB L' (s.turn x k bit).1 (d.turn x k bit).1 := by
  unfold DS.turn RD.turn
  rw [h.dead, h.fileR x]
  split
  · exact ⟨rfl, L, h⟩
  cases hr : YtmcmagplaflegaaGreat.fileR d x with
  | none => exact ⟨rfl, L, h⟩
  | some i =>
    simp only [Option.map_some]
    have hl := h.low hr
    rw [h.file hl]
    split
    · exact ⟨rfl, L, h⟩
    · exact ⟨rfl, L, h.setf hl _⟩
theorem SimB.read (h : SimB L s d) (x : ByteArray) : readRes s x = readR d x := by
  unfold readRes readR
  rw [h.dead, h.fileR x]
  split
  · rfl
  cases hr : YtmcmagplaflegaaGreat.fileR d x with
  | none => rfl
  | some i => simp only [Option.map_some]; rw [h.file (h.low hr)]
theorem SimB.names (h : SimB L s d) : namesOf s = namesR d := by
  unfold namesOf namesR
  rw [h.dead, h.now.names]
theorem sim_new (room : Nat) : SimB [] (DS.new room) (RD.new room) where
  room := rfl
  dead := rfl
  fails := rfl
  keep := rfl
  births := fun b hb => (List.not_mem_nil hb).elim
  inc := List.Pairwise.nil
  files := rfl
  now := ⟨.refl _, List.Pairwise.nil, fun q hq => (List.not_mem_nil hq).elim, fun q hq => (List.not_mem_nil hq).elim⟩
  kept := ⟨.refl _, List.Pairwise.nil, fun q hq => (List.not_mem_nil hq).elim, fun q hq => (List.not_mem_nil hq).elim⟩
  works := rfl
  wlow := fun q hq => (List.not_mem_nil hq).elim
  inj := fun k => by unfold after DS.new; simp
  eq := by unfold after DS.new; simp
end Go.Proofs.YtmcmagplaflegaaGreat
