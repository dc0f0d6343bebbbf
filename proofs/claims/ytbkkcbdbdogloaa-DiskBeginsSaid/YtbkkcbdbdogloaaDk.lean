/-
  THE DISK IN MEMORY: what its blocks hold, which blocks are its own, and what is left alone. Conditions: those of each theorem.
-/
import Derived.Test.YtbkkcbdbdogloaaProg
import Derived.Test.YtbkkcbdbdogloaaMapW
import Derived.Test.YtbkkcbdbdogloaaPoised
import Derived.Handy
import Derived.ProofKit
import Derived.IntWalk
import Derived.Laws.AppendOwn
namespace Go.Proofs.Ytbkkcbdbdogloaa
open Go Go.RowKit Go.MapL

/-! ### which blocks may have turned -/
/-- Of what there was only the blocks of S may have turned. -/
structure Grown (S : Nat → Prop) (w w' : World) : Prop where
  os : w'.os = w.os
  tape : w'.tape = w.tape
  output : w'.output = w.output
  size : w.heap.size ≤ w'.heap.size
  block : ∀ k, k < w.heap.size → ¬ S k → w'.heap[k]? = w.heap[k]?
theorem Grown.refl (S : Nat → Prop) (w : World) : Grown S w w := ⟨rfl, rfl, rfl, Nat.le_refl _, fun _ _ _ => rfl⟩
theorem Grown.trans {S T : Nat → Prop} {a b c : World} (h : Grown S a b) (k : Grown T b c) (hT : ∀ x, T x → S x ∨ a.heap.size ≤ x) : Grown S a c :=
  ⟨k.os.trans h.os, k.tape.trans h.tape, k.output.trans h.output, Nat.le_trans h.size k.size, fun i hi hs => (k.block i (Nat.lt_of_lt_of_le hi h.size) (fun ht => (hT i ht).elim hs (by omega))).trans (h.block i hi hs)⟩
theorem Grown.mono {S T : Nat → Prop} {a b : World} (h : Grown S a b) (hT : ∀ x, S x → T x) : Grown T a b := ⟨h.os, h.tape, h.output, h.size, fun i hi hs => h.block i hi (fun k => hs (hT i k))⟩
theorem Grown.of_below {S : Nat → Prop} {a b : World} (h : Below a.heap.size a b) : Grown S a b := ⟨h.os, h.tape, h.output, h.size, fun i hi _ => h.block i hi⟩
theorem Grown.of_grownBy {S : Nat → Prop} {a b : World} {row : Option Nat} (h : a.grownBy b row) (hr : ∀ k, row = some k → S k ∨ a.heap.size ≤ k) : Grown S a b :=
  ⟨h.os, h.tape, h.output, h.size, fun i hi hs => h.block i hi (fun e => (hr i e.symm).elim hs (by omega))⟩
theorem Grown.below {S : Nat → Prop} {a b : World} {n : Nat} (h : Grown S a b) (hn : n ≤ a.heap.size) (hS : ∀ k, S k → n ≤ k) : Below n a b :=
  ⟨h.os, h.tape, h.output, h.size, fun i hi => h.block i (by omega) (fun hs => by have := hS i hs; omega)⟩
theorem Grown.alloc {S : Nat → Prop} {a b : World} (h : Grown S a b) (o : Obj) : Grown S a (b.alloc o) := h.trans (T := S) (Grown.of_below ((Below.refl _ _).alloc (Nat.le_refl _) o)) (fun _ hx => .inl hx)
theorem Grown.setCell {S : Nat → Prop} {a b : World} (h : Grown S a b) {p : Addr} (hp : S p.block ∨ a.heap.size ≤ p.block) (u : Value) : Grown S a (b.setCell p u) :=
  h.trans (T := fun x => x = p.block) ⟨rfl, rfl, rfl, by simp [World.setCell], fun k _ hk => Below.heap_setCell _ _ _ _ hk⟩ (fun x e => by subst e; exact hp)
theorem Grown.step {S : Nat → Prop} {a b c : World} (h : Grown S a b) (k : Below b.heap.size b c) : Grown S a c := h.trans (T := S) (Grown.of_below k) (fun _ hx => .inl hx)
theorem Grown.drew {S : Nat → Prop} {a b : World} (h : Grown S a b) : Grown S a b.drew := ⟨h.os, h.tape, h.output, h.size, h.block⟩

/-! ### the disk, plainly -/
structure FileS where
  b : List Nat
  mark : Nat
/-- A disk: its files go by their birth. -/
structure DS where
  room : Nat
  births : Nat
  file : Nat → FileS
  names : List (ByteArray × Nat)
  kept : List (ByteArray × Nat)
  works : List (ByteArray × ByteArray × Option Nat)
  dead : Bool

/-- What holds of every disk that is made by its package, as long as no more than 2^30 works are done. -/
structure WF (s : DS) : Prop where
  room : s.room ≤ 16777216
  births : s.births ≤ 1073741824
  names : ∀ p ∈ s.names, 1 ≤ p.2 ∧ p.2 ≤ s.births
  kept : ∀ p ∈ s.kept, 1 ≤ p.2 ∧ p.2 ≤ s.births
  works : ∀ p ∈ s.works, ∀ i, p.2.2 = some i → 1 ≤ i ∧ i ≤ s.births
  count : s.works.length ≤ 1073741824
  bytes : ∀ i, ∀ x ∈ (s.file i).b, x < 256
  len : ∀ i, (s.file i).b.length ≤ 16777216
  mark : ∀ i, (s.file i).mark ≤ (s.file i).b.length

/-- Where a disk's parts lie. -/
structure Rep where
  bn : Nat
  bk : Nat
  ad : Nat → Nat
  wv : Value
  bv : Nat → Value

def encB (l : List Nat) : List Value := l.map fun (x : Nat) => Value.int .u8 (x : Int)
def ptrOf (ad : Nat → Nat) : Option Nat → Value
  | none => .pointer none
  | some i => .pointer (some ⟨ad i, 0, none⟩)
def encW (ad : Nat → Nat) (p : ByteArray × ByteArray × Option Nat) : List Value := [.string p.1, .string p.2.1, ptrOf ad p.2.2]
def at_ (ad : Nat → Nat) (l : List (ByteArray × Nat)) : List (ByteArray × Nat) := l.map fun p => (p.1, ad p.2)

def top (s : DS) (r : Rep) : Obj := .cells #[.int .i64 s.room, .int .i64 s.births, .map (some r.bn), .map (some r.bk), r.wv, .bool s.dead, .int .i64 (-1), .slice none 0 0] 58
def fileAt (i : Nat) (bv : Value) (mark : Nat) : Obj := .cells #[.int .i64 i, bv, .int .i64 mark] 67

/-- The disk s lies at block p; all its blocks are n₀ or beyond. -/
structure Lies (w : World) (p n₀ : Nat) (r : Rep) (s : DS) : Prop where
  top : w.heap[p]? = some (top s r)
  names : MapAt ofText ofBlock w r.bn (at_ r.ad s.names)
  kept : MapAt ofText ofBlock w r.bk (at_ r.ad s.kept)
  works : w.ownsRow n₀ 70 3 r.wv s.works.length (s.works.flatMap (encW r.ad))
  file : ∀ i, 1 ≤ i → i ≤ s.births → w.heap[r.ad i]? = some (fileAt i (r.bv i) (s.file i).mark)
  data : ∀ i, 1 ≤ i → i ≤ s.births → w.ownsRow n₀ 5 1 (r.bv i) (s.file i).b.length (encB (s.file i).b)
  apart : r.bn ≠ r.bk
  adInj : ∀ i j, 1 ≤ i → i ≤ s.births → 1 ≤ j → j ≤ s.births → r.ad i = r.ad j → i = j
  rowInj : ∀ i j, 1 ≤ i → i ≤ s.births → 1 ≤ j → j ≤ s.births → i ≠ j → (r.bv i).ownBlock ≠ none → (r.bv i).ownBlock ≠ (r.bv j).ownBlock
  baseP : n₀ ≤ p
  baseN : n₀ ≤ r.bn
  baseK : n₀ ≤ r.bk
  baseF : ∀ i, 1 ≤ i → i ≤ s.births → n₀ ≤ r.ad i

/-- The blocks that are the disk's own. -/
def foot (p : Nat) (r : Rep) (s : DS) (k : Nat) : Prop :=
  k = p ∨ k = r.bn ∨ k = r.bk ∨ r.wv.ownBlock = some k ∨ ∃ i, 1 ≤ i ∧ i ≤ s.births ∧ (k = r.ad i ∨ (r.bv i).ownBlock = some k)

variable {w w' : World} {p n₀ : Nat} {r : Rep} {s : DS}

theorem row_same {n e size k : Nat} {v : Value} {xs : List Value} (h : w.ownsRow n e size v k xs) (hb : ∀ g, v.ownBlock = some g → w'.heap[g]? = w.heap[g]?) : w'.ownsRow n e size v k xs := by
  refine ⟨h.1, ?_⟩
  rcases h.2 with h2 | ⟨g, cap, cur, rfl, h3, h4, h5⟩
  · exact .inl h2
  · exact .inr ⟨g, cap, cur, rfl, h3, (hb g rfl).trans h4, h5⟩

theorem Lies.foot_lt (h : Lies w p n₀ r s) : ∀ k, foot p r s k → k < w.heap.size ∧ n₀ ≤ k := by
  rintro k (rfl | rfl | rfl | hk | ⟨i, h1, h2, rfl | hk⟩)
  · exact ⟨(Array.getElem?_eq_some_iff.1 h.top).1, h.baseP⟩
  · exact ⟨h.names.lt, h.baseN⟩
  · exact ⟨h.kept.lt, h.baseK⟩
  · exact ⟨(h.works.lt k hk).2, (h.works.lt k hk).1⟩
  · exact ⟨(Array.getElem?_eq_some_iff.1 (h.file i h1 h2)).1, h.baseF i h1 h2⟩
  · exact ⟨((h.data i h1 h2).lt k hk).2, ((h.data i h1 h2).lt k hk).1⟩

theorem Lies.same (h : Lies w p n₀ r s) (hb : ∀ k, foot p r s k → w'.heap[k]? = w.heap[k]?) : Lies w' p n₀ r s where
  top := (hb _ (.inl rfl)).trans h.top
  names := h.names.same (hb _ (.inr (.inl rfl)))
  kept := h.kept.same (hb _ (.inr (.inr (.inl rfl))))
  works := row_same h.works (fun _ hg => hb _ (.inr (.inr (.inr (.inl hg)))))
  file := fun i h1 h2 => (hb _ (.inr (.inr (.inr (.inr ⟨i, h1, h2, .inl rfl⟩))))).trans (h.file i h1 h2)
  data := fun i h1 h2 => row_same (h.data i h1 h2) (fun _ hg => hb _ (.inr (.inr (.inr (.inr ⟨i, h1, h2, .inr hg⟩)))))
  apart := h.apart
  adInj := h.adInj
  rowInj := h.rowInj
  baseP := h.baseP
  baseN := h.baseN
  baseK := h.baseK
  baseF := h.baseF

theorem Lies.below (h : Lies w p n₀ r s) (hb : Below w.heap.size w w') : Lies w' p n₀ r s := h.same (fun k hk => hb.block k (h.foot_lt k hk).1)
theorem Lies.alloc (h : Lies w p n₀ r s) (o : Obj) : Lies (w.alloc o) p n₀ r s := h.below ((Below.refl _ _).alloc (Nat.le_refl _) o)
theorem Lies.drew (h : Lies w p n₀ r s) : Lies w.drew p n₀ r s := h.same (fun _ _ => rfl)

/-- What is said of a disk outside its package: it lies at p, its blocks are F's. -/
def DiskAt (w : World) (p n₀ : Nat) (F : Nat → Prop) (s : DS) : Prop := ∃ r, Lies w p n₀ r s ∧ WF s ∧ F = foot p r s

theorem Lies.cells (h : Lies w p n₀ r s) : w.cell? ⟨p, 0, none⟩ = some (.int .i64 s.room) ∧ w.cell? ⟨p, 1, none⟩ = some (.int .i64 s.births) ∧ w.cell? ⟨p, 2, none⟩ = some (.map (some r.bn)) ∧ w.cell? ⟨p, 3, none⟩ = some (.map (some r.bk)) ∧
    w.cell? ⟨p, 4, none⟩ = some r.wv ∧ w.cell? ⟨p, 5, none⟩ = some (.bool s.dead) ∧ w.cell? ⟨p, 6, none⟩ = some (.int .i64 (-1)) ∧ w.cell? ⟨p, 7, none⟩ = some (.slice none 0 0) := by
  simp [World.cell?, h.top, Ytbkkcbdbdogloaa.top]
theorem Lies.free (h : Lies w p n₀ r s) (i : Nat) : w.frozen? ⟨p, i, none⟩ = false := by
  simp [World.frozen?, h.top, Ytbkkcbdbdogloaa.top]
end Go.Proofs.Ytbkkcbdbdogloaa
