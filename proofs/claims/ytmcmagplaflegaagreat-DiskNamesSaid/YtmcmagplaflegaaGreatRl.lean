/-
  THE DOCUMENT'S DISK, AND WHAT LIES BESIDE IT. Conditions: those of each theorem.
-/
import Derived.Test.YtmcmagplaflegaaGreatRq
import Derived.Test.YtmcmagplaflegaaGreatRr
namespace Go.Proofs.YtmcmagplaflegaaGreat
open Go Go.RowKit Go.MapL Go.Poised

/-- A disk of the document's that is alike to a sound one of the program's. -/
structure RSound (m : Nat) (d : RD) : Prop where
  ex : ∃ L s, SimB L s d ∧ Sound m s
variable {p n₀ m k : Nat} {d : RD} {s : DS} {L : List Nat} {w w' w'' : World} {K K' : Nat → Prop}
theorem SimB.sound (h : SimB L s d) (hs : Sound m s) : RSound m d := ⟨L, s, h, hs⟩
theorem RSound.mono (h : RSound m d) (hk : m ≤ k) : RSound k d := by
  obtain ⟨L, s, h1, h2⟩ := h.ex
  exact ⟨L, s, h1, h2.mono hk⟩
theorem inc_len : ∀ (L : List Nat) (a b : Nat), L.Pairwise (· < ·) → (∀ x ∈ L, a < x ∧ x ≤ b) → a ≤ b → L.length ≤ b - a
  | [], a, b, _, _, _ => Nat.zero_le _
  | x :: L, a, b, h, hb, hab => by
    obtain ⟨h1, h2⟩ := List.pairwise_cons.1 h
    have hx := hb x (.head _)
    have := inc_len L x b h2 (fun y hy => ⟨h1 y hy, (hb y (.tail _ hy)).2⟩) hx.2
    rw [List.length_cons]
    omega
theorem Nms.len {B : Nat → Nat} {n : Nat} {l m : NL} (h : Nms B n l m) : m.length = l.length := by rw [h.perm.length_eq, List.length_map]
theorem SimB.fewL (h : SimB L s d) : L.length ≤ s.births := by
  have := inc_len L 0 s.births h.inc (fun x hx => by have := h.births x hx; omega) (Nat.zero_le _)
  omega
theorem RSound.wf (h : RSound m d) (hm : m ≤ 1073741824) : RWF d := by
  obtain ⟨L, s, h1, h2⟩ := h.ex
  have hn : d.files.length = L.length := by rw [h1.files, List.length_map]
  have hL := h1.fewL
  have hnb := h2.nb
  have hnn := h2.nn
  have hnk := h2.nk
  have hnw := h2.nw
  have e1 := h1.now.len
  have e2 := h1.kept.len
  have e3 : d.works.length = s.works.length := by rw [h1.works, List.length_map]
  refine ⟨by rw [h1.room]; exact h2.wf.room, by omega, by omega, by omega, by omega, fun q hq i hi => by rw [hn]; exact (h1.wlow q hq i hi).1, fun q hq => by rw [hn]; exact h1.now.low q hq, fun q hq => by rw [hn]; exact h1.kept.low q hq, fun f hf => ?_, fun f hf => ?_, fun f hf => ?_, by rw [h1.fails]; exact h2.wf.fails, by rw [h1.keep]; exact h2.wf.keepB, by rw [h1.keep]; exact h2.wf.keepL⟩
  · rw [h1.files] at hf
    obtain ⟨b, _, rfl⟩ := List.mem_map.1 hf
    exact h2.wf.bytes b
  · rw [h1.files] at hf
    obtain ⟨b, _, rfl⟩ := List.mem_map.1 hf
    exact h2.wf.len b
  · rw [h1.files] at hf
    obtain ⟨b, _, rfl⟩ := List.mem_map.1 hf
    exact h2.wf.mark b
theorem RSound.crash (h : RSound m d) (keep : List Int) : RSound m (d.crash keep) := by
  obtain ⟨L, s, h1, h2⟩ := h.ex
  obtain ⟨L', h3⟩ := h1.crash keep
  exact h3.sound (sound_crash h2 keep)
theorem RSound.append (h : RSound m d) (hm : m < 536870912) (x : ByteArray) (l : List Nat) (hl : ∀ x ∈ l, x < 256) : RSound (m + 2) (d.append x l).1 := by
  obtain ⟨L, s, h1, h2⟩ := h.ex
  obtain ⟨_, L', h3⟩ := h1.append x l (fun q hq => (h2.wf.names q hq).2)
  exact h3.sound (sound_append h2 hm x l hl)
theorem RSound.sync (h : RSound m d) (x : ByteArray) : RSound m (d.sync x).1 := by
  obtain ⟨L, s, h1, h2⟩ := h.ex
  obtain ⟨_, L', h3⟩ := h1.sync x
  exact h3.sound (sound_sync h2 x)
theorem RSound.remove (h : RSound m d) (hm : m < 536870912) (x : ByteArray) : RSound (m + 1) (d.remove x).1 := by
  obtain ⟨L, s, h1, h2⟩ := h.ex
  obtain ⟨_, L', h3⟩ := h1.remove x
  exact h3.sound (sound_remove h2 hm x)
theorem RSound.rename (h : RSound m d) (hm : m < 536870912) (x y : ByteArray) : RSound (m + 1) (d.rename x y).1 := by
  obtain ⟨L, s, h1, h2⟩ := h.ex
  obtain ⟨_, L', h3⟩ := h1.rename x y
  exact h3.sound (sound_rename h2 hm x y)
theorem RSound.syncNames (h : RSound m d) : RSound m d.syncNames.1 := by
  obtain ⟨L, s, h1, h2⟩ := h.ex
  obtain ⟨_, L', h3⟩ := h1.syncNames
  exact h3.sound (sound_syncNames h2)
theorem RSound.boot (h : RSound m d) : RSound m d.boot := by
  obtain ⟨L, s, h1, h2⟩ := h.ex
  exact h1.boot.sound (sound_boot h2)
theorem RSound.fail (h : RSound m d) (n : Int) (keep : List Int) (hn : n ≤ 9223372036854775807) (h1 : ∀ x ∈ keep, -9223372036854775808 ≤ x ∧ x ≤ 9223372036854775807) (h2 : keep.length ≤ 17592186044416) : RSound m (d.fail n keep) := by
  obtain ⟨L, s, h3, h4⟩ := h.ex
  exact (h3.fail n keep).sound (sound_fail h4 n keep hn h1 h2)
theorem RSound.cut (h : RSound m d) (x : ByteArray) (n : Int) : RSound m (d.cut x n).1 := by
  obtain ⟨L, s, h1, h2⟩ := h.ex
  obtain ⟨_, L', h3⟩ := h1.cut x n
  exact h3.sound (sound_cut h2 x n)
theorem RSound.turn (h : RSound m d) (x : ByteArray) (i bit : Int) : RSound m (d.turn x i bit).1 := by
  obtain ⟨L, s, h1, h2⟩ := h.ex
  obtain ⟨_, L', h3⟩ := h1.turn x i bit
  exact h3.sound (sound_turn h2 x i bit)

/-- The document's disk d lies at p, none of its blocks is below n₀, no more than m works were done, and it has none of the blocks K. -/
structure RLive (w : World) (p n₀ m : Nat) (d : RD) (K : Nat → Prop) : Prop where
  ex : ∃ r, RLies w p n₀ r d ∧ ∀ g, K g → g < w.heap.size ∧ ¬ ownR p r d g
  sound : RSound m d
  base : n₀ ≤ w.heap.size
theorem RLive.lt (h : RLive w p n₀ m d K) : ∀ g, K g → g < w.heap.size := fun g hg => by
  obtain ⟨r, _, hK⟩ := h.ex
  exact (hK g hg).1
theorem RLive.mono (h : RLive w p n₀ m d K) (hm : m ≤ k) : RLive w p n₀ k d K := ⟨h.ex, h.sound.mono hm, h.base⟩
theorem RLive.sub (h : RLive w p n₀ m d K) (hK : ∀ g, K' g → K g) : RLive w p n₀ m d K' := by
  obtain ⟨r, hL, h1⟩ := h.ex
  exact ⟨⟨r, hL, fun g hg => h1 g (hK g hg)⟩, h.sound, h.base⟩
theorem RLive.more (h : RLive w p n₀ m d K) (hb : Below w.heap.size w w') (hK : ∀ g, K' g → K g ∨ (w.heap.size ≤ g ∧ g < w'.heap.size)) : RLive w' p n₀ m d K' := by
  obtain ⟨r, hL, h1⟩ := h.ex
  refine ⟨⟨r, hL.below hb, fun g hg => ?_⟩, h.sound, Nat.le_trans h.base hb.size⟩
  rcases hK g hg with h2 | h2
  · exact ⟨Nat.lt_of_lt_of_le (h1 g h2).1 hb.size, (h1 g h2).2⟩
  · exact ⟨h2.2, fun ho => by have := (hL.lt g ho).2; omega⟩
theorem RLive.below (h : RLive w p n₀ m d K) (hb : Below w.heap.size w w') : RLive w' p n₀ m d K := h.more hb (fun _ hg => .inl hg)
theorem RLive.set (h : RLive w p n₀ m d K) (hs : ∀ g, g < w.heap.size → ¬ K g → w'.heap[g]? = w.heap[g]?) (hz : w.heap.size ≤ w'.heap.size) : RLive w' p n₀ m d K := by
  obtain ⟨r, hL, h1⟩ := h.ex
  refine ⟨⟨r, hL.same (fun k hk => hs k (hL.lt k hk).2 (fun hg => (h1 k hg).2 hk)), fun g hg => ⟨Nat.lt_of_lt_of_le (h1 g hg).1 hz, (h1 g hg).2⟩⟩, h.sound, Nat.le_trans h.base hz⟩
theorem RLive.drew (h : RLive w p n₀ m d K) : RLive w.drew p n₀ m d K := h.below ⟨rfl, rfl, rfl, Nat.le_refl _, fun _ _ => rfl⟩
theorem RLive.kept (h : RLive w p n₀ m d K) (hb : Below w.heap.size w w') : Kept K n₀ w w' := .of_below hb h.base h.lt
/-- The disk's blocks. -/
theorem RLive.top (h : RLive w p n₀ m d K) : p < w.heap.size ∧ n₀ ≤ p ∧ ¬ K p ∧ w.cell? ⟨p, 5, none⟩ = some (.bool d.dead) := by
  obtain ⟨r, hL, h1⟩ := h.ex
  exact ⟨(hL.lt p (.inl rfl)).2, hL.base, fun hp => (h1 p hp).2 (.inl rfl), (cells8 hL.top).2.2.2.2.2.1⟩

theorem rlive_call {P : Program} {f : FuncId} {args : Array Value} {X : Ending} {m' : Nat} {d' : RD} (h : RLive w p n₀ m d K) (hs : RSound m' d')
    (hc : ∀ r, RLies w p n₀ r d → (∀ w', Grown (ownR p r d) w w' → Kept K n₀ w w') → Calls P f args w fun e w' => e = X ∧ RTurns w w' p n₀ r d d') :
    Calls P f args w fun e w' => e = X ∧ RLive w' p n₀ m' d' K ∧ Kept K n₀ w w' := by
  obtain ⟨r, hL, hK⟩ := h.ex
  have hk : ∀ w', Grown (ownR p r d) w w' → Kept K n₀ w w' := fun w' hg => ⟨hg.below h.base (fun k hk => (hL.lt k hk).1), fun g hg' => hg.block g (hK g hg').1 (fun hf => (hK g hg').2 hf)⟩
  refine (hc r hL hk).mono ?_
  rintro e w' ⟨rfl, r', h1, h2, h3⟩
  exact ⟨rfl, ⟨⟨r', h1, fun g hg => ⟨Nat.lt_of_lt_of_le (hK g hg).1 h2.size, fun ho => (h3 g ho).elim (hK g hg).2 (fun h4 => by have := (hK g hg).1; omega)⟩⟩, hs, Nat.le_trans h.base h2.size⟩, hk w' h2⟩
theorem rlive_append (x : ByteArray) (v : Value) (l : List Nat) (h : RLive w p n₀ m d K) (hm : m < 536870912) (hx : x.size ≤ 9223372036854775807) (hl : ∀ x ∈ l, x < 256) (hlen : l.length ≤ 4611686018427387904) (hv : ∀ w', Kept K n₀ w w' → BytesIn w' v l) :
    Calls Tryz.prog 104 #[ofBlock p, .string x, v] w fun e w' => e = .returned (.int .i64 (d.append x l).2) ∧ RLive w' p n₀ (m + 2) (d.append x l).1 K ∧ Kept K n₀ w w' :=
  rlive_call h (h.sound.append hm x l hl) fun _ hL hk => appendR_any x v l w hL (h.sound.wf (by omega)) h.base hx hlen (fun w' hg => hv w' (hk w' hg))
theorem rlive_sync (x : ByteArray) (h : RLive w p n₀ m d K) (hm : m < 536870912) :
    Calls Tryz.prog 105 #[ofBlock p, .string x] w fun e w' => e = .returned (.int .i64 (d.sync x).2) ∧ RLive w' p n₀ m (d.sync x).1 K ∧ Kept K n₀ w w' :=
  rlive_call h (h.sound.sync x) fun _ hL _ => syncR_any x w hL (h.sound.wf (by omega)) h.base
theorem rlive_remove (x : ByteArray) (h : RLive w p n₀ m d K) (hm : m < 536870912) :
    Calls Tryz.prog 107 #[ofBlock p, .string x] w fun e w' => e = .returned (.int .i64 (d.remove x).2) ∧ RLive w' p n₀ (m + 1) (d.remove x).1 K ∧ Kept K n₀ w w' :=
  rlive_call h (h.sound.remove hm x) fun _ hL _ => removeR_any x w hL (h.sound.wf (by omega)) h.base
theorem rlive_rename (x y : ByteArray) (h : RLive w p n₀ m d K) (hm : m < 536870912) (hy : y.size ≤ 9223372036854775807) :
    Calls Tryz.prog 106 #[ofBlock p, .string x, .string y] w fun e w' => e = .returned (.int .i64 (d.rename x y).2) ∧ RLive w' p n₀ (m + 1) (d.rename x y).1 K ∧ Kept K n₀ w w' :=
  rlive_call h (h.sound.rename hm x y) fun _ hL _ => renameR_any x y hy w hL (h.sound.wf (by omega)) h.base
theorem rlive_syncNames (h : RLive w p n₀ m d K) (hm : m < 536870912) :
    Calls Tryz.prog 108 #[ofBlock p] w fun e w' => e = .returned (.int .i64 d.syncNames.2) ∧ RLive w' p n₀ m d.syncNames.1 K ∧ Kept K n₀ w w' :=
  rlive_call h h.sound.syncNames fun _ hL _ => syncNamesR_any w hL (h.sound.wf (by omega)) h.base
theorem rlive_cut (x : ByteArray) (n : Int) (h : RLive w p n₀ m d K) (hm : m < 536870912) (h1 : -9223372036854775808 ≤ n) (h2 : n ≤ 9223372036854775807) :
    Calls Tryz.prog 113 #[ofBlock p, .string x, .int .i64 n] w fun e w' => e = .returned (.int .i64 (d.cut x n).2) ∧ RLive w' p n₀ m (d.cut x n).1 K ∧ Kept K n₀ w w' :=
  rlive_call h (h.sound.cut x n) fun _ hL _ => cutR_any x n h1 h2 w hL (h.sound.wf (by omega)) h.base
theorem rlive_turn (x : ByteArray) (i bit : Int) (h : RLive w p n₀ m d K) (hm : m < 536870912) (h1 : -9223372036854775808 ≤ i) (h2 : i ≤ 9223372036854775807) (h3 : -9223372036854775808 ≤ bit) (h4 : bit ≤ 9223372036854775807) :
    Calls Tryz.prog 112 #[ofBlock p, .string x, .int .i64 i, .int .i64 bit] w fun e w' => e = .returned (.int .i64 (d.turn x i bit).2) ∧ RLive w' p n₀ m (d.turn x i bit).1 K ∧ Kept K n₀ w w' :=
  rlive_call h (h.sound.turn x i bit) fun _ hL _ => turnR_any x i bit h1 h2 h3 h4 w hL (h.sound.wf (by omega)) h.base
theorem rlive_fail (n : Int) (v : Value) (keep : List Int) (h : RLive w p n₀ m d K) (h1 : -9223372036854775808 ≤ n) (h2 : n ≤ 9223372036854775807) (hv : ∀ w', Kept K n₀ w w' → IntsIn w' v keep) (hl : keep.length ≤ 17592186044416) :
    Calls Tryz.prog 110 #[ofBlock p, .int .i64 n, v] w fun e w' => e = .returned (.tuple #[]) ∧ RLive w' p n₀ m (d.fail n keep) K ∧ Kept K n₀ w w' :=
  rlive_call h (h.sound.fail n keep h2 (hv w (Kept.refl _ _ _)).1 hl) fun _ hL hk => failR_any n v keep w hL h.base h1 h2 (fun w' hg => hv w' (hk w' ⟨hg.os, hg.tape, hg.output, hg.size, fun g hl hn => hg.block g hl (fun e => hn (.inl e))⟩)) hl
theorem rlive_crash (v : Value) (keep : List Int) (h : RLive w p n₀ m d K) (hm : m < 536870912) (hv : IntsIn w v keep) :
    Calls Tryz.prog 109 #[ofBlock p, v] w fun e w' => e = .returned (.tuple #[]) ∧ RLive w' p n₀ m (d.crash keep) K ∧ Kept K n₀ w w' :=
  rlive_call h (h.sound.crash keep) fun _ hL _ => crashR_any v keep w hL (h.sound.wf (by omega)) h.base hv
theorem rlive_boot (h : RLive w p n₀ m d K) :
    Calls Tryz.prog 111 #[ofBlock p] w fun e w' => e = .returned (.tuple #[]) ∧ RLive w' p n₀ m d.boot K ∧ Kept K n₀ w w' :=
  rlive_call h h.sound.boot fun _ hL _ => bootR_any w hL
theorem rlive_read (x : ByteArray) (h : RLive w p n₀ m d K) (hm : m < 536870912) :
    Calls Tryz.prog 117 #[ofBlock p, .string x] w fun e w' => ∃ v, e = .returned (.tuple #[v, .int .i64 (readR d x).2]) ∧ w'.ownsRow w.heap.size 5 1 v (readR d x).1.length (encB (readR d x).1) ∧ Below w.heap.size w w' := by
  obtain ⟨r, hL, _⟩ := h.ex
  exact readR_any x w hL (h.sound.wf (by omega))
theorem rlive_size (x : ByteArray) (h : RLive w p n₀ m d K) (hm : m < 536870912) :
    Calls Tryz.prog 118 #[ofBlock p, .string x] w fun e w' => e = .returned (.tuple #[.int .i64 ((readR d x).1.length : Nat), .int .i64 (readR d x).2]) ∧ Below w.heap.size w w' := by
  obtain ⟨r, hL, _⟩ := h.ex
  exact sizeR_any x w hL (h.sound.wf (by omega))
theorem rlive_names (h : RLive w p n₀ m d K) (hm : m < 536870912) :
    Calls Tryz.prog 114 #[ofBlock p] w fun e w' => ∃ v, e = .returned v ∧ w'.ownsRow w.heap.size 9 1 v (namesR d).length ((namesR d).map Value.string) ∧ Below w.heap.size w w' := by
  obtain ⟨r, hL, _⟩ := h.ex
  exact namesR_any w hL (h.sound.wf (by omega))
theorem rlive_new (room : Nat) (hroom : room ≤ 16777216) (w : World) :
    Calls Tryz.prog 63 #[.int .i64 room] w fun e w' => e = .returned (.tuple #[ofBlock w.heap.size, .int .i64 0]) ∧ Below w.heap.size w w' ∧ RLive w' w.heap.size w.heap.size 0 (RD.new room) (fun _ => False) :=
  (newR_any room hroom w).mono fun _ _ hh => ⟨hh.1, hh.2.1, ⟨⟨_, hh.2.2, fun _ hf => hf.elim⟩, (sim_new room).sound (sound_new hroom), hh.2.1.size⟩⟩
theorem readR_bytes (h : RSound m d) (x : ByteArray) : (∀ y ∈ (readR d x).1, y < 256) ∧ (readR d x).1.length ≤ 16777216 := by
  obtain ⟨L, s, h1, h2⟩ := h.ex
  rw [← h1.read x]
  unfold readRes
  split
  · exact ⟨fun y hy => (List.not_mem_nil hy).elim, by simp⟩
  · split
    · exact ⟨fun y hy => (List.not_mem_nil hy).elim, by simp⟩
    · exact ⟨h2.wf.bytes _, h2.wf.len _⟩
end Go.Proofs.YtmcmagplaflegaaGreat
