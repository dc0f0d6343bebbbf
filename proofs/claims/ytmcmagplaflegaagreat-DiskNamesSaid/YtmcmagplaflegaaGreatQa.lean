/-
  TWO DISKS THAT ARE ALIKE; a deed, plainly, and done by each. Conditions: those of each theorem.
-/
import Derived.Test.YtmcmagplaflegaaGreatPr
namespace Go.Proofs.YtmcmagplaflegaaGreat
open Go Go.RowKit Go.MapL Go.Poised

/-- The two disks are alike, and the program's is sound. -/
structure Alike (m : Nat) (s : DS) (d : RD) : Prop where
  ex : ∃ L, SimB L s d
  sound : Sound m s
structure AlikeQ (m : Nat) (q : DS × Int) (r : RD × Int) : Prop where
  code : q.2 = r.2
  al : Alike m q.1 r.1
variable {m k : Nat} {s : DS} {d : RD} {q : DS × Int} {r : RD × Int}
theorem Alike.mono (h : Alike m s d) (hk : m ≤ k) : Alike k s d := ⟨h.ex, h.sound.mono hk⟩
theorem AlikeQ.mono (h : AlikeQ m q r) (hk : m ≤ k) : AlikeQ k q r := ⟨h.code, h.al.mono hk⟩
theorem Alike.dead (h : Alike m s d) : d.dead = s.dead := by obtain ⟨L, h1⟩ := h.ex; exact h1.dead
theorem Alike.read (h : Alike m s d) (x : ByteArray) : readRes s x = readR d x := by obtain ⟨L, h1⟩ := h.ex; exact h1.read x
theorem Alike.names (h : Alike m s d) : namesOf s = namesR d := by obtain ⟨L, h1⟩ := h.ex; exact h1.names
theorem Alike.crash (h : Alike m s d) (keep : List Int) : Alike m (s.crash keep) (d.crash keep) := by
  obtain ⟨L, h1⟩ := h.ex
  exact ⟨h1.crash keep, sound_crash h.sound keep⟩
theorem Alike.boot (h : Alike m s d) : Alike m s.boot d.boot := by
  obtain ⟨L, h1⟩ := h.ex
  exact ⟨⟨L, h1.boot⟩, sound_boot h.sound⟩
theorem Alike.fail (h : Alike m s d) (n : Int) (keep : List Int) (hn : n ≤ 9223372036854775807) (h1 : ∀ x ∈ keep, -9223372036854775808 ≤ x ∧ x ≤ 9223372036854775807) (h2 : keep.length ≤ 17592186044416) : Alike m (s.fail n keep) (d.fail n keep) := by
  obtain ⟨L, h3⟩ := h.ex
  exact ⟨⟨L, h3.fail n keep⟩, sound_fail h.sound n keep hn h1 h2⟩
theorem Alike.append (h : Alike m s d) (hm : m < 536870912) (x : ByteArray) (l : List Nat) (hl : ∀ x ∈ l, x < 256) : AlikeQ (m + 2) (s.append x l) (d.append x l) := by
  obtain ⟨L, h1⟩ := h.ex
  obtain ⟨h2, h3⟩ := h1.append x l (fun q hq => (h.sound.wf.names q hq).2)
  exact ⟨h2, h3, sound_append h.sound hm x l hl⟩
theorem Alike.sync (h : Alike m s d) (x : ByteArray) : AlikeQ m (s.sync x) (d.sync x) := by
  obtain ⟨L, h1⟩ := h.ex
  obtain ⟨h2, h3⟩ := h1.sync x
  exact ⟨h2, h3, sound_sync h.sound x⟩
theorem Alike.remove (h : Alike m s d) (hm : m < 536870912) (x : ByteArray) : AlikeQ (m + 1) (s.remove x) (d.remove x) := by
  obtain ⟨L, h1⟩ := h.ex
  obtain ⟨h2, h3⟩ := h1.remove x
  exact ⟨h2, h3, sound_remove h.sound hm x⟩
theorem Alike.rename (h : Alike m s d) (hm : m < 536870912) (x y : ByteArray) : AlikeQ (m + 1) (s.rename x y) (d.rename x y) := by
  obtain ⟨L, h1⟩ := h.ex
  obtain ⟨h2, h3⟩ := h1.rename x y
  exact ⟨h2, h3, sound_rename h.sound hm x y⟩
theorem Alike.syncNames (h : Alike m s d) : AlikeQ m s.syncNames d.syncNames := by
  obtain ⟨L, h1⟩ := h.ex
  obtain ⟨h2, h3⟩ := h1.syncNames
  exact ⟨h2, h3, sound_syncNames h.sound⟩
theorem Alike.cut (h : Alike m s d) (x : ByteArray) (n : Int) : AlikeQ m (s.cut x n) (d.cut x n) := by
  obtain ⟨L, h1⟩ := h.ex
  obtain ⟨h2, h3⟩ := h1.cut x n
  exact ⟨h2, h3, sound_cut h.sound x n⟩
theorem Alike.turn (h : Alike m s d) (x : ByteArray) (n bit : Int) : AlikeQ m (s.turn x n bit) (d.turn x n bit) := by
  obtain ⟨L, h1⟩ := h.ex
  obtain ⟨h2, h3⟩ := h1.turn x n bit
  exact ⟨h2, h3, sound_turn h.sound x n bit⟩
theorem alike_new {room : Nat} (h : room ≤ 16777216) : Alike 0 (DS.new room) (RD.new room) := ⟨⟨[], sim_new room⟩, sound_new h⟩
theorem Alike.left (h : Alike m s d) : (if s.dead then 0 else (s.room : Int) - usedOf s) = if d.dead then 0 else (d.room : Int) - d.used := by
  obtain ⟨L, h1⟩ := h.ex
  rw [h1.used, h1.room, h1.dead]

variable {pd pu n₀ m' : Nat} {s' : DS} {d' : RD} {w w' : World} {K : Nat → Prop} {f : FuncId} {args : Array Value} {X : Ending}
theorem Both.callL (h : Both w pd pu n₀ m s d K) (hm : m ≤ m') (hc : ∀ F : Nat → Prop, Live w pd n₀ m s (fun g => K g ∨ F g) → Calls Tryz.prog f args w fun e w' => e = X ∧ Live w' pd n₀ m' s' (fun g => K g ∨ F g) ∧ Kept (fun g => K g ∨ F g) n₀ w w') :
    Calls Tryz.prog f args w fun e w' => e = X ∧ Both w' pd pu n₀ m' s' d K ∧ Kept K n₀ w w' := by
  obtain ⟨F, hL, hF, _, hback⟩ := h.left
  refine (hc F hL).mono ?_
  rintro e w' ⟨rfl, hL', hK'⟩
  exact ⟨rfl, hback w' s' m' K hL' (fun g hg => hK'.same g (.inr hg)) (fun g hg => .inl hg) hm, hK'.sub (fun g hg => .inl hg)⟩
theorem Both.callR (h : Both w pd pu n₀ m s d K) (hm : m ≤ m') (hc : ∀ F : Nat → Prop, RLive w pu n₀ m d (fun g => K g ∨ F g) → Calls Tryz.prog f args w fun e w' => e = X ∧ RLive w' pu n₀ m' d' (fun g => K g ∨ F g) ∧ Kept (fun g => K g ∨ F g) n₀ w w') :
    Calls Tryz.prog f args w fun e w' => e = X ∧ Both w' pd pu n₀ m' s d' K ∧ Kept K n₀ w w' := by
  obtain ⟨F, hL, hF, _, hback⟩ := h.right
  refine (hc F hL).mono ?_
  rintro e w' ⟨rfl, hL', hK'⟩
  exact ⟨rfl, hback w' d' m' K hL' (fun g hg => hK'.same g (.inr hg)) (fun g hg => .inl hg) hm, hK'.sub (fun g hg => .inl hg)⟩

/-- A deed, plainly. -/
structure Dd where
  kind : Int
  name : ByteArray
  to : ByteArray
  b : List Nat
  n : Int
  bit : Int
  keep : List Int
/-- Its value: where its bytes lie, and what is kept. -/
def ddV (x : Dd) (bv kv : Value) : Value := .agg #[.int .i64 x.kind, .string x.name, .string x.to, bv, .int .i64 x.n, .int .i64 x.bit, kv]
/-- What comes of a deed on the program's disk. -/
def actS (s : DS) (k : Nat) (x : Dd) : DS × Int :=
  match k with
  | 0 => s.append x.name x.b
  | 1 => s.sync x.name
  | 2 => s.rename x.name x.to
  | 3 => s.remove x.name
  | 4 => s.syncNames
  | 5 => (s.crash x.keep, 1000)
  | 6 => (s.fail x.n x.keep, 1000)
  | 7 => (s.boot, 1000)
  | 8 => s.turn x.name x.n x.bit
  | _ => s.cut x.name x.n
/-- .. and on the document's. -/
def actR (d : RD) (k : Nat) (x : Dd) : RD × Int :=
  match k with
  | 0 => d.append x.name x.b
  | 1 => d.sync x.name
  | 2 => d.rename x.name x.to
  | 3 => d.remove x.name
  | 4 => d.syncNames
  | 5 => (d.crash x.keep, 1000)
  | 6 => (d.fail x.n x.keep, 1000)
  | 7 => (d.boot, 1000)
  | 8 => d.turn x.name x.n x.bit
  | _ => d.cut x.name x.n
/-- A deed's numbers are 64-bit ones, its bytes are bytes. -/
structure DdOk (x : Dd) : Prop where
  kind : -9223372036854775808 ≤ x.kind ∧ x.kind ≤ 9223372036854775807
  n : -9223372036854775808 ≤ x.n ∧ x.n ≤ 9223372036854775807
  bit : -9223372036854775808 ≤ x.bit ∧ x.bit ≤ 9223372036854775807
  name : x.name.size ≤ 9223372036854775807
  to : x.to.size ≤ 9223372036854775807
  b : (∀ y ∈ x.b, y < 256) ∧ x.b.length ≤ 1000000
  keep : (∀ y ∈ x.keep, -9223372036854775808 ≤ y ∧ y ≤ 9223372036854775807) ∧ x.keep.length ≤ 1000000
theorem Alike.act (h : Alike m s d) (hm : m < 536870912) (x : Dd) (hx : DdOk x) (k : Nat) : AlikeQ (m + 2) (actS s k x) (actR d k x) := by
  unfold actS actR
  split
  · exact h.append hm _ _ hx.b.1
  · exact (h.sync _).mono (by omega)
  · exact (h.rename hm _ _).mono (by omega)
  · exact (h.remove hm _).mono (by omega)
  · exact h.syncNames.mono (by omega)
  · exact ⟨rfl, (h.crash _).mono (by omega)⟩
  · exact ⟨rfl, (h.fail _ _ hx.n.2 hx.keep.1 (by have := hx.keep.2; omega)).mono (by omega)⟩
  · exact ⟨rfl, h.boot.mono (by omega)⟩
  · exact (h.turn _ _ _).mono (by omega)
  · exact (h.cut _ _).mono (by omega)
end Go.Proofs.YtmcmagplaflegaaGreat
