/-
 JOURNALS THAT ARE NONE, and disks that are none. Conditions: those of each theorem.
 DEEDS THAT ARE WRITTEN OUT. Conditions: those of each theorem.
 BYTES OF ONE'S OWN, WHATEVER THEY ARE: an append lasts. Conditions: those of each theorem.
 THE DEEDS OF THE CHAPTER's EXAMPLES, where they lie. Conditions: those of each theorem.
-/
import Derived.Test.YtmcmagplaflegaaGreatDoorX12
import Derived.Test.YtmcmagplaflegaaGreatDoorX16
import Derived.Test.YtmcmagplaflegaaGreatDoorX22

namespace Go.Proofs.YtmcmagplaflegaaGreatDoor
open Go Go.RowKit Go.MapL Go.Poised

variable {w w' : World}
/-- No journal: none at all, or one that was never opened. -/
def NoJ (v : Value) (w : World) : Prop := v = .pointer none ∨ ∃ J, v = .pointer (some ⟨J, 0, none⟩) ∧ w.heap[J]? = some (.cells #[.pointer none, .int .i64 0, .int .i64 0, .bool false] 63)
set_option maxRecDepth 100000 in
set_option maxHeartbeats 2000000 in
theorem shut_none (v : Value) (w : World) (h : NoJ v w) : Calls Tryz.prog 44 #[v] w fun e w' => e = .returned (.int .i64 1) ∧ w' = w := by
 rcases h with rfl | ⟨J, rfl, h⟩
 ·go_enter Tryz.func44, Tryz.ntmps44
  go_wp2_with fail
  go_returns
  exact ⟨rfl, rfl⟩
 ·obtain ⟨x0, x1, x2, x3⟩ := cells4 h
  clear h
  go_enter Tryz.func44, Tryz.ntmps44
  go_wp2_with fail
  go_returns
  exact ⟨rfl, rfl⟩
set_option maxRecDepth 100000 in
set_option maxHeartbeats 2000000 in
theorem jappend_none (v : Value) (w : World) (h : NoJ v w) : Calls Tryz.prog 11 #[v, .slice none 0 0] w fun e w' => e = .returned (.int .i64 1) ∧ w' = w := by
 have hs := shut_none v w h
 clear h
 go_enter Tryz.func11, Tryz.ntmps11
 go_wp2_with (go_at_call 44; refine hs.mono ?_; clear hs; rintro e w1 ⟨rfl, hw1⟩; obtain rfl := hw1.symm)
 go_returns
 exact ⟨rfl, rfl⟩
set_option maxRecDepth 100000 in
set_option maxHeartbeats 2000000 in
theorem jsync_none (v : Value) (w : World) (h : NoJ v w) : Calls Tryz.prog 29 #[v] w fun e w' => e = .returned (.int .i64 1) ∧ w' = w := by
 have hs := shut_none v w h
 clear h
 go_enter Tryz.func29, Tryz.ntmps29
 go_wp2_with (go_at_call 44; refine hs.mono ?_; clear hs; rintro e w1 ⟨rfl, hw1⟩; obtain rfl := hw1.symm)
 go_returns
 exact ⟨rfl, rfl⟩
set_option maxRecDepth 100000 in
set_option maxHeartbeats 2000000 in
theorem jcheckpoint_none (v : Value) (w : World) (h : NoJ v w) : Calls Tryz.prog 12 #[v, .slice none 0 0] w fun e w' => e = .returned (.int .i64 1) ∧ w' = w := by
 have hs := shut_none v w h
 clear h
 go_enter Tryz.func12, Tryz.ntmps12
 go_wp2_with (go_at_call 44; refine hs.mono ?_; clear hs; rintro e w1 ⟨rfl, hw1⟩; obtain rfl := hw1.symm)
 go_returns
 exact ⟨rfl, rfl⟩
set_option maxRecDepth 100000 in
set_option maxHeartbeats 2000000 in
theorem jlen_none (v : Value) (w : World) (h : NoJ v w) : Calls Tryz.prog 13 #[v] w fun e w' => e = .returned (.int .i64 0) ∧ w' = w := by
 have hs := shut_none v w h
 clear h
 go_enter Tryz.func13, Tryz.ntmps13
 go_wp2_with (go_at_call 44; refine hs.mono ?_; clear hs; rintro e w1 ⟨rfl, hw1⟩; obtain rfl := hw1.symm)
 go_returns
 exact ⟨rfl, rfl⟩
set_option maxRecDepth 100000 in
set_option maxHeartbeats 2000000 in
theorem jkept_none (v : Value) (w : World) (h : NoJ v w) : Calls Tryz.prog 14 #[v] w fun e w' => e = .returned (.int .i64 0) ∧ w' = w := by
 have hs := shut_none v w h
 clear h
 go_enter Tryz.func14, Tryz.ntmps14
 go_wp2_with (go_at_call 44; refine hs.mono ?_; clear hs; rintro e w1 ⟨rfl, hw1⟩; obtain rfl := hw1.symm)
 go_returns
 exact ⟨rfl, rfl⟩
set_option maxRecDepth 100000 in
set_option maxHeartbeats 2000000 in
theorem jbroken_none (v : Value) (w : World) (h : NoJ v w) : Calls Tryz.prog 18 #[v] w fun e w' => e = .returned (.bool false) ∧ w' = w := by
 have hs := shut_none v w h
 clear h
 go_enter Tryz.func18, Tryz.ntmps18
 go_wp2_with (go_at_call 44; refine hs.mono ?_; clear hs; rintro e w1 ⟨rfl, hw1⟩; obtain rfl := hw1.symm)
 go_returns
 exact ⟨rfl, rfl⟩
/-- No disk: none at all, or one that was never made. -/
def NoD (v : Value) (w : World) : Prop := v = .pointer none ∨ ∃ p, v = .pointer (some ⟨p, 0, none⟩) ∧ p < w.heap.size ∧ w.cell? ⟨p, 2, none⟩ = some (.map none)
theorem NoD.below {v : Value} (h : NoD v w) (hb : Below w.heap.size w w') : NoD v w' := by
 rcases h with h | ⟨J, h1, h2, h3⟩
 ·exact .inl h
 ·exact .inr ⟨J, h1, Nat.lt_of_lt_of_le h2 hb.size, (hb.cell (p := ⟨J, 2, none⟩) h2).trans h3⟩
set_option maxRecDepth 100000 in
set_option maxHeartbeats 2000000 in
theorem none_none (v : Value) (w : World) (h : NoD v w) : Calls Tryz.prog 63 #[v] w fun e w' => e = .returned (.bool true) ∧ w' = w := by
 rcases h with rfl | ⟨J, rfl, h1, h⟩
 ·go_enter Tryz.func63, Tryz.ntmps63
  go_wp2_with fail
  go_returns
  exact ⟨rfl, rfl⟩
 ·have hq := fun w => run_eql_map_nil (P := Tryz.prog) w 64 9 88 none Tryz.underlying64
  go_enter Tryz.func63, Tryz.ntmps63
  go_wp2_with fail
  go_returns
  exact ⟨rfl, rfl⟩
set_option maxRecDepth 100000 in
set_option maxHeartbeats 2000000 in
theorem away_none (v : Value) (w : World) (h : NoD v w) : Calls Tryz.prog 52 #[v] w fun e w' => e = .returned (.int .i64 1) ∧ w' = w := by
 have hs := none_none v w h
 clear h
 go_enter Tryz.func52, Tryz.ntmps52
 go_wp2_with (go_at_call 63; refine hs.mono ?_; clear hs; rintro e w1 ⟨rfl, hw1⟩; obtain rfl := hw1.symm)
 go_returns
 exact ⟨rfl, rfl⟩
set_option maxRecDepth 100000 in
set_option maxHeartbeats 2000000 in
theorem read_none (v : Value) (x : ByteArray) (w : World) (h : NoD v w) : Calls Tryz.prog 33 #[v, .string x] w fun e w' => e = .returned (.tuple #[.slice none 0 0, .int .i64 1]) ∧ w' = w := by
 have hs := away_none v w h
 clear h
 go_enter Tryz.func33, Tryz.ntmps33
 go_wp2_with (go_at_call 52; refine hs.mono ?_; clear hs; rintro e w1 ⟨rfl, hw1⟩; obtain rfl := hw1.symm)
 go_returns
 exact ⟨rfl, rfl⟩
set_option maxRecDepth 100000 in
set_option maxHeartbeats 2000000 in
theorem open_none (v : Value) (w : World) (h : NoD v w) : Calls Tryz.prog 10 #[v] w fun e w' => e = .returned (.tuple #[.pointer none, .slice none 0 0, .int .i64 1]) ∧ Below w.heap.size w w' := by
 have hb := (Below.refl w.heap.size w).alloc (Nat.le_refl _) (.cells #[v] 24)
 have hs := read_none v jN _ (h.below hb)
 unfold jN at hs
 rcases h with rfl | ⟨p, rfl, _⟩
 all_goals
  go_enter Tryz.func10, Tryz.ntmps10
  go_wp2_with (go_at_call 33; refine hs.mono ?_; clear hs; rintro e w1 ⟨rfl, hw1⟩; subst hw1)
  go_returns
  exact ⟨rfl, hb⟩
end Go.Proofs.YtmcmagplaflegaaGreatDoor

namespace Go.Proofs.YtmcmagplaflegaaGreatDoor
open Go Go.RowKit Go.MapL Go.Poised

variable {W : World}
def OkB (W : World) (v : Value) : Prop := ∃ b, ArgB W v b ∧ b.length ≤ 140737488355328
def OkL (W : World) (v : Value) : Prop := ∃ l, ArgR W v l ∧ ∀ q ∈ l, q.2.length ≤ 140737488355328
def OkK (W : World) (v : Value) : Prop := ∃ l, IntsIn W v l ∧ l.length ≤ 17592186044416
theorem okB_nil : OkB W (.slice none 0 0) := ⟨[], ⟨bytes_nilS W, none, 0, rfl, Nat.le_refl _⟩, by simp⟩
theorem okL_nil : OkL W (.slice none 0 0) := ⟨[], ⟨by simp, ⟨none, 0, rfl, Nat.le_refl _, fun k hk => by simp at hk⟩, by simp⟩, by simp⟩
theorem okK_nil : OkK W (.slice none 0 0) := ⟨[], ⟨by simp, by simp, .inl ⟨rfl, rfl⟩⟩, by simp⟩
theorem bytes_at {B : Nat} {fz : Nat × Nat} (l : List Nat) (hl : ∀ x ∈ l, x < 256) (hn : l.length ≤ 1000000) (h : W.heap[B]? = some (.cells (encB l).toArray 5 fz)) : BytesIn W (.slice (some ⟨B, 0, none⟩) l.length l.length) l := by
 refine ⟨hl, by omega, .inr (.inr ⟨B, 0, l.length, rfl, fun k hk => ?_⟩)⟩
 simp only [World.cell?, h, Option.isSome_none, Bool.false_eq_true, if_false]
 simp [encB, hk]
theorem okB_at {B : Nat} {fz : Nat × Nat} (l : List Nat) (hl : ∀ x ∈ l, x < 256) (hn : l.length ≤ 1000000) (h : W.heap[B]? = some (.cells (encB l).toArray 5 fz)) : OkB W (.slice (some ⟨B, 0, none⟩) l.length l.length) :=
 ⟨l, ⟨bytes_at l hl hn h, _, _, rfl, Nat.le_refl _⟩, by omega⟩
theorem okK_at {B : Nat} {fz : Nat × Nat} (l : List Int) (hl : ∀ x ∈ l, -9223372036854775808 ≤ x ∧ x ≤ 9223372036854775807) (hn : l.length ≤ 1000000) (h : W.heap[B]? = some (.cells (encI l).toArray 3 fz)) : OkK W (.slice (some ⟨B, 0, none⟩) l.length l.length) := by
 refine ⟨l, ⟨hl, by omega, .inr (.inr ⟨B, 0, l.length, rfl, fun k hk => ?_⟩)⟩, by omega⟩
 simp only [World.cell?, h, Option.isSome_none, Bool.false_eq_true, if_false]
 simp [encI, hk]
theorem okL_at {B : Nat} {fz : Nat × Nat} (L : List Value) (hL : ∀ v ∈ L, OkB W v) (hn : L.length ≤ 1000000) (h : W.heap[B]? = some (.cells L.toArray 32 fz)) : OkL W (.slice (some ⟨B, 0, none⟩) L.length L.length) := by
 have : ∀ L' : List Value, (∀ v ∈ L', OkB W v) → ∃ M : List (Value × List Nat), M.map (·.1) = L' ∧ ∀ q ∈ M, ArgB W q.1 q.2 ∧ q.2.length ≤ 140737488355328 := by
  intro L'
  induction L' with
  | nil => exact fun _ => ⟨[], rfl, by simp⟩
  | cons v L' ih =>
   intro hv
   obtain ⟨M, h1, h2⟩ := ih (fun v' hv' => hv v' (.tail _ hv'))
   obtain ⟨b, hb1, hb2⟩ := hv v (.head _)
   refine ⟨(v, b) :: M, by simp [h1], fun q hq => ?_⟩
   rcases List.mem_cons.1 hq with rfl | hq
   ·exact ⟨hb1, hb2⟩
   ·exact h2 q hq
 obtain ⟨M, h1, h2⟩ := this L hL
 have hlen : M.length = L.length := by rw [← h1, List.length_map]
 refine ⟨M, ⟨by omega, ⟨_, L.length, by rw [hlen], by omega, fun k hk => ⟨B, 0, rfl, ?_⟩⟩, fun q hq => (h2 q hq).1⟩, fun q hq => (h2 q hq).2⟩
 simp only [World.cell?, h, Option.isSome_none, Bool.false_eq_true, if_false]
 have e : L[k]? = some M[k].1 := by rw [← h1]; simp [hk]
 simp [e]
/-- A deed, as it is written out. -/
structure Wd where
 kind : Int
 n : Int
 bv : Value
 lv : Value
 kv : Value
structure WdOk (W : World) (x : Wd) : Prop where
 k1 : -9223372036854775808 ≤ x.kind ∧ x.kind ≤ 9223372036854775807
 n1 : -9223372036854775808 ≤ x.n ∧ x.n ≤ 9223372036854775807
 b : OkB W x.bv
 l : OkL W x.lv
 k : OkK W x.kv
def encWd (x : Wd) : List Value := [.int .i64 x.kind, .int .i64 x.n, x.bv, x.lv, x.kv]
theorem flat5 : ∀ (l : List Wd) (k i : Nat) (x : Wd), l[k]? = some x → i < 5 → (l.flatMap encWd)[k * 5 + i]? = (encWd x)[i]?
 | [], k, i, x, h, _ => by simp at h
 | y :: l, 0, i, x, h, hi => by
  simp at h; subst h
  rw [List.flatMap_cons, Nat.zero_mul, Nat.zero_add, List.getElem?_append_left (by show i < 5; exact hi)]
 | y :: l, k + 1, i, x, h, hi => by
  rw [List.flatMap_cons, List.getElem?_append_right (by show 5 ≤ _; omega)]
  have e : (k + 1) * 5 + i - (encWd y).length = k * 5 + i := by show _ - 5 = _; omega
  rw [e]
  exact flat5 l k i x (by simpa using h) hi
theorem deeds_at {B : Nat} {fz : Nat × Nat} (l : List Wd) (hl : ∀ x ∈ l, WdOk W x) (hn : l.length ≤ 1000000) (h : W.heap[B]? = some (.cells (l.flatMap encWd).toArray 46 fz)) :
  (∃ D, DesIn W (.slice (some ⟨B, 0, none⟩) l.length l.length) D) ∧ ∃ D, JdsIn W (.slice (some ⟨B, 0, none⟩) l.length l.length) D := by
 have cell : ∀ k (hk : k < l.length) (i : Nat) (v : Value), i < 5 → (encWd l[k])[i]? = some v → W.cell? ⟨B, 0 + k * 5 + i, none⟩ = some v := by
  intro k hk i v hi he
  have := flat5 l k i l[k] (List.getElem?_eq_getElem hk) hi
  simp only [World.cell?, h, Option.isSome_none, Bool.false_eq_true, if_false, Nat.zero_add]
  rw [List.getElem?_toArray, this, he]
 have each : ∀ k, k < l.length → ∃ x : De, ∃ y : Jd, ∃ bv lv kv, DeIn W x bv lv kv ∧ JdIn W y bv lv kv ∧ y.kind = x.kind ∧ y.n = x.n ∧ W.cell? ⟨B, 0 + k * 5, none⟩ = some (.int .i64 x.kind) ∧ W.cell? ⟨B, 0 + k * 5 + 1, none⟩ = some (.int .i64 x.n) ∧
   W.cell? ⟨B, 0 + k * 5 + 2, none⟩ = some bv ∧ W.cell? ⟨B, 0 + k * 5 + 3, none⟩ = some lv ∧ W.cell? ⟨B, 0 + k * 5 + 4, none⟩ = some kv := by
  intro k hk
  obtain ⟨h1, h2, ⟨b, hb1, hb2⟩, ⟨m, hm1, hm2⟩, ⟨kp, hk1, hk2⟩⟩ := hl l[k] (List.getElem_mem hk)
  exact ⟨⟨l[k].kind, l[k].n, b, m, kp⟩, ⟨l[k].kind, l[k].n, b, m, kp⟩, l[k].bv, l[k].lv, l[k].kv, ⟨hb1, hm1, hk1, hk2, hb2, hm2, h1.1, h1.2, h2.1, h2.2⟩, ⟨hb1, hm1, hk1, hk2, h1.1, h1.2, h2.1, h2.2⟩, rfl, rfl, cell k hk 0 _ (by omega) rfl, cell k hk 1 _ (by omega) rfl, cell k hk 2 _ (by omega) rfl, cell k hk 3 _ (by omega) rfl, cell k hk 4 _ (by omega) rfl⟩
 constructor
 ·obtain ⟨D, hD, hp⟩ := list_of l.length (P := fun k (x : De) => ∃ bv lv kv, DeIn W x bv lv kv ∧ W.cell? ⟨B, 0 + k * 5, none⟩ = some (.int .i64 x.kind) ∧ W.cell? ⟨B, 0 + k * 5 + 1, none⟩ = some (.int .i64 x.n) ∧ W.cell? ⟨B, 0 + k * 5 + 2, none⟩ = some bv ∧ W.cell? ⟨B, 0 + k * 5 + 3, none⟩ = some lv ∧ W.cell? ⟨B, 0 + k * 5 + 4, none⟩ = some kv) (fun k hk => by
   obtain ⟨x, y, bv, lv, kv, h1, _, _, _, h2⟩ := each k hk
   exact ⟨x, bv, lv, kv, h1, h2⟩)
  refine ⟨D, by omega, _, _, by rw [hD], fun k hk => ?_⟩
  obtain ⟨bv, lv, kv, h1, h2⟩ := hp k hk
  exact ⟨B, 0, bv, lv, kv, rfl, h1, h2⟩
 ·obtain ⟨D, hD, hp⟩ := list_of l.length (P := fun k (x : Jd) => ∃ bv lv kv, JdIn W x bv lv kv ∧ W.cell? ⟨B, 0 + k * 5, none⟩ = some (.int .i64 x.kind) ∧ W.cell? ⟨B, 0 + k * 5 + 1, none⟩ = some (.int .i64 x.n) ∧ W.cell? ⟨B, 0 + k * 5 + 2, none⟩ = some bv ∧ W.cell? ⟨B, 0 + k * 5 + 3, none⟩ = some lv ∧ W.cell? ⟨B, 0 + k * 5 + 4, none⟩ = some kv) (fun k hk => by
   obtain ⟨x, y, bv, lv, kv, _, h1, e1, e2, h2⟩ := each k hk
   rw [← e1, ← e2] at h2
   exact ⟨y, bv, lv, kv, h1, h2⟩)
  refine ⟨D, by omega, _, _, by rw [hD], fun k hk => ?_⟩
  obtain ⟨bv, lv, kv, h1, h2⟩ := hp k hk
  exact ⟨B, 0, bv, lv, kv, rfl, h1, h2⟩
end Go.Proofs.YtmcmagplaflegaaGreatDoor

namespace Go.Proofs.YtmcmagplaflegaaGreatDoor
open Go Go.RowKit Go.MapL Go.Poised

variable {w w' : World} {N n m : Nat} {v u : Value}
/-- Some n bytes of one's own. -/
def Sb (N : Nat) (v : Value) (n : Nat) (w : World) : Prop := ∃ l : List Nat, l.length = n ∧ (∀ x ∈ l, x < 256) ∧ w.ownsRow N 5 1 v n (encB l)
theorem Sb.below (h : Sb N v n w) (hb : Below w.heap.size w w') : Sb N v n w' := by
 obtain ⟨l, h1, h2, h3⟩ := h
 exact ⟨l, h1, h2, own_kept h3 hb⟩
theorem Sb.ok (h : Sb N v n w) (hn : n ≤ 1000000) : OkB w v := by
 obtain ⟨l, rfl, h2, h3⟩ := h
 obtain ⟨q, cap, rfl, hc⟩ := own_copy h3
 exact ⟨l, ⟨bytesIn_of_own h3 h2 (by omega), q, cap, rfl, hc⟩, by omega⟩
theorem encB_of : ∀ (L : List Value), (∀ v ∈ L, ∃ x : Nat, x < 256 ∧ v = .int .u8 (x : Int)) → ∃ l : List Nat, encB l = L ∧ l.length = L.length ∧ ∀ x ∈ l, x < 256
 | [], _ => ⟨[], rfl, rfl, fun x hx => (List.not_mem_nil hx).elim⟩
 | v :: L, h => by
  obtain ⟨x, hx, rfl⟩ := h v (.head _)
  obtain ⟨l, h1, h2, h3⟩ := encB_of L (fun v' hv' => h v' (.tail _ hv'))
  refine ⟨x :: l, by rw [← h1]; rfl, by simp [h2], fun y hy => ?_⟩
  rcases List.mem_cons.1 hy with rfl | hy
  ·exact hx
  ·exact h3 y hy
theorem byte_in {l : List Nat} (h : ∀ x ∈ l, x < 256) {L : List Value} {n : Nat} (e : L.take n = encB l) {j : Nat} (hj : j < l.length) : ∃ x : Nat, x < 256 ∧ L[j]? = some (.int .u8 (x : Int)) := by
 have h1 : (L.take n)[j]? = some (.int .u8 (l[j] : Nat)) := by rw [e]; simp [encB, hj]
 rw [List.getElem?_take] at h1
 split at h1
 ·exact ⟨l[j], h _ (List.getElem_mem hj), h1⟩
 ·cases h1
/-- A row that was turned in place is still bytes. -/
theorem Sb.set {g : Nat} {cur : Array Value} {l b : List Nat} (hg : w.heap[g]? = some (.cells cur 5 (0, 0))) (hl : ∀ x ∈ l, x < 256) (hb : ∀ x ∈ b, x < 256) (ht : cur.toList.take l.length = encB l) (hfit : l.length + b.length ≤ cur.size) (hx : Sb N u m w) :
  Sb N u m (w.setRow g (cur.toList.take l.length ++ encB b ++ cur.toList.drop (l.length + (encB b).length)).toArray) := by
 obtain ⟨lx, h1, h2, h3⟩ := hx
 rcases h3.2 with ⟨rfl, h0⟩ | ⟨gx, cap, curx, rfl, hb1, hgx, hc, hcm, hsz, htx⟩
 ·exact ⟨lx, h1, h2, h3.1, .inl ⟨rfl, h0⟩⟩
 ·by_cases e : gx = g
  ·subst e
   rw [hg] at hgx
   simp only [Option.some.injEq, Obj.cells.injEq, and_true] at hgx
   obtain rfl := hgx
   have hlen : (cur.toList.take l.length ++ encB b ++ cur.toList.drop (l.length + (encB b).length)).length = cur.size := by
    rw [encB_len]; simp; rw [encB_len]; omega
   have each : ∀ v ∈ (cur.toList.take l.length ++ encB b ++ cur.toList.drop (l.length + (encB b).length)).take (m * 1), ∃ x : Nat, x < 256 ∧ v = .int .u8 (x : Int) := by
    intro v hv
    obtain ⟨j, hj, rfl⟩ := List.mem_iff_getElem.1 hv
    rw [List.length_take] at hj
    have hjm : j < lx.length := by omega
    have hjc : j < cur.size := by omega
    have key : ∃ x : Nat, x < 256 ∧ (cur.toList.take l.length ++ encB b ++ cur.toList.drop (l.length + (encB b).length))[j]? = some (.int .u8 (x : Int)) := by
     by_cases j1 : j < l.length
     ·rw [List.append_assoc, List.getElem?_append_left (by simp; omega), ht]
      exact ⟨l[j], hl _ (List.getElem_mem j1), by simp [encB, j1]⟩
     ·by_cases j2 : j < l.length + b.length
      ·rw [List.append_assoc, List.getElem?_append_right (by simp; omega), List.getElem?_append_left (by rw [encB_len]; simp; omega)]
       have e3 : j - (List.take l.length cur.toList).length = j - l.length := by simp; omega
       rw [e3]
       exact ⟨b[j - l.length]'(by omega), hb _ (List.getElem_mem _), by rw [encB, List.getElem?_map, List.getElem?_eq_getElem (by omega)]; rfl⟩
      ·rw [List.getElem?_append_right (by rw [List.length_append, encB_len]; simp; omega), List.getElem?_drop]
       have e3 : l.length + (encB b).length + (j - (List.take l.length cur.toList ++ encB b).length) = j := by rw [List.length_append, encB_len]; simp; omega
       rw [e3]
       exact byte_in h2 htx hjm
    obtain ⟨x, hx, hx2⟩ := key
    refine ⟨x, hx, ?_⟩
    rw [List.getElem_take]
    have h9 : j < (cur.toList.take l.length ++ encB b ++ cur.toList.drop (l.length + (encB b).length)).length := by omega
    rw [List.getElem?_eq_getElem h9] at hx2
    exact Option.some.inj hx2
   obtain ⟨l', e1, e2, e3⟩ := encB_of _ each
   have hl' : l'.length = m := by rw [e2, List.length_take, hlen]; omega
   refine ⟨l', hl', e3, by rw [encB_len, hl']; omega, .inr ⟨gx, cap, _, rfl, hb1, setRow_heap w gx cur _ 5 (0, 0) hg, hc, hcm, by rw [List.size_toArray, hlen]; exact hsz, by rw [e1]⟩⟩
  ·exact ⟨lx, h1, h2, h3.1, .inr ⟨gx, cap, curx, rfl, hb1, (setRow_other w g gx _ e).trans hgx, hc, hcm, hsz, htx⟩⟩
/-- Bytes put behind others, in place or not: all that were some are some. -/
theorem append_sb {b : List Nat} (hN : N ≤ w.heap.size) (h : Sb N v n w) (hu : BytesIn w u b) (hn : n ≤ 1000000) (hbl : b.length ≤ 1000000) : ∃ v' w', (Builtin.append_ #[32, 32] 32 #[v, u]).run Tryz.prog w = .ok v' w' ∧ Below N w w' ∧ Sb N v' (n + b.length) w' ∧ ∀ x k, Sb N x k w → Sb N x k w' := by
 obtain ⟨l, rfl, h2, h3⟩ := h
 obtain ⟨v', w', hr, hown, hgr, _⟩ := run_append_bytes w N 32 v u l b h3 hu (by omega) hN
 have hsb : Sb N v' (l.length + b.length) w' := ⟨l ++ b, by rw [List.length_append], fun x hx => (List.mem_append.1 hx).elim (h2 x) (hu.1 x), by rw [List.length_append] at hown; exact hown⟩
 refine ⟨v', w', hr, below_grown h3 hN hgr, hsb, ?_⟩
 obtain ⟨i0, hi, hz0, hz1, hz2⟩ := info_parts info5
 have fresh : Below w.heap.size w w' → ∀ x k, Sb N x k w → Sb N x k w' := fun hb x k hx => hx.below hb
 have key : ∀ (ad : Addr) (c : Nat) (hc : ∀ j x, (encB b)[j]? = some x → w.cell? (ad.add j) = some x), u = .slice (some ad) b.length c → ∀ x k, Sb N x k w → Sb N x k w' := by
  rintro ad c hc rfl
  have ho : ∀ y ∈ encB b, y.oneCell' = true := by intro y hy; obtain ⟨z, _, rfl⟩ := List.mem_map.1 hy; rfl
  rcases h3.2 with ⟨rfl, h0⟩ | ⟨g, cap, cur, rfl, hbg, hg, hnc, hcm, hcs, htake⟩
  ·exact fresh ⟨hgr.os, hgr.tape, hgr.output, hgr.size, fun i hi2 => hgr.block i hi2 (by simp [Value.ownBlock])⟩
  ·by_cases hroom : l.length + b.length ≤ cap
   ·have hr' := run_append_room (P := Tryz.prog) w 32 32 5 i0 Tryz.underlying32 hi g l.length cap cur hg ad b.length c (encB b) (by rw [encB_len, hz1, Nat.mul_one]) hc ho hroom (by rw [encB_len, hz1]; omega)
    rw [hr] at hr'
    simp only [Result.ok.injEq] at hr'
    obtain ⟨_, rfl⟩ := hr'
    intro x k hx
    have := Sb.set hg h2 hu.1 (by rw [Nat.mul_one] at htake; exact htake) (by omega) hx
    rw [hz1, Nat.mul_one]
    exact this
   ·have holds : ∀ j y, (encB l)[j]? = some y → w.cell? ((⟨g, 0, none⟩ : Addr).add j) = some y := h3.cells (g := g) rfl
    have hr' := run_append_grow (P := Tryz.prog) w 32 32 5 i0 (.int .u8 0) Tryz.underlying32 hi hz0 ⟨g, 0, none⟩ l.length cap (encB l) (by rw [encB_len, hz1, Nat.mul_one]) holds ad b.length c (encB b) (by rw [encB_len, hz1, Nat.mul_one]) hc (by omega) (by omega) (growslice_fits (by omega) (by rw [hz2]; omega))
    rw [hr] at hr'
    simp only [Result.ok.injEq] at hr'
    obtain ⟨_, rfl⟩ := hr'
    exact fresh (((Below.refl _ _).drew).alloc (Nat.le_refl _) _)
 rcases hu.2.2 with ⟨rfl, rfl⟩ | ⟨a, cap, rfl, rfl⟩ | ⟨bb, off, cap, rfl, hc⟩
 ·have hr' : (Builtin.append_ #[32, 32] 32 #[v, .slice none 0 0]).run Tryz.prog w = .ok v w := by
   rcases h3.2 with ⟨rfl, h0⟩ | ⟨g, cap, cur, rfl, _, hg, hcc, _, hsz, ht⟩
   ·simp [Builtin.append_, run_underlying Tryz.underlying32, sizeOf, typeInfo, hi, Builtin.lenOf, Builtin.firstCells]
   ·simp [Builtin.append_, run_underlying Tryz.underlying32, sizeOf, typeInfo, hi, Builtin.lenOf, Builtin.firstCells, hcc, storeCells]
  rw [hr] at hr'
  simp only [Result.ok.injEq] at hr'
  obtain ⟨_, rfl⟩ := hr'
  exact fun x k hx => hx
 ·exact key a cap (by intro j x hx; simp [encB] at hx) (by simp)
 ·refine key ⟨bb, off, none⟩ cap ?_ rfl
  intro j x hx
  have hj : j < b.length := by
   have := (List.getElem?_eq_some_iff.1 hx).1
   simpa [encB_len] using this
  rw [encB_get b j hj] at hx
  cases hx
  rw [Addr.add_lit]
  exact hc j hj
/-- What may happen beside. -/
structure RS (N : Nat) (w w' : World) : Prop where
 below : Below N w w'
 sb : ∀ x k, Sb N x k w → Sb N x k w'
theorem RS.refl (N : Nat) (w : World) : RS N w w := ⟨Below.refl _ _, fun _ _ h => h⟩
theorem RS.of (hb : Below w.heap.size w w') (hN : N ≤ w.heap.size) : RS N w w' := ⟨hb.mono hN, fun _ _ h => h.below hb⟩
theorem copy_sb {l : List Nat} (hN : N ≤ w.heap.size) (hv : BytesIn w v l) (hl : l.length ≤ 1000000) : Calls Tryz.prog 32 #[v] w fun e w' => ∃ v', e = .returned v' ∧ RS N w w' ∧ Sb N v' l.length w' :=
 (copyBytes_any v l w hv (by omega)).mono fun e w' ⟨v', h1, h2, h3⟩ => ⟨v', h1, RS.of h3 hN, l, rfl, hv.1, own_base' h2 hN⟩
end Go.Proofs.YtmcmagplaflegaaGreatDoor

namespace Go.Proofs.YtmcmagplaflegaaGreatDoor
open Go Go.RowKit Go.MapL Go.Poised

def allocs : World → List Obj → World
 | w, [] => w
 | w, o :: l => allocs (w.alloc o) l
theorem allocs_old : ∀ (l : List Obj) (w : World), Below w.heap.size w (allocs w l)
 | [], w => Below.refl _ _
 | o :: l, w => ((Below.refl w.heap.size w).alloc (Nat.le_refl _) o).trans ((allocs_old l (w.alloc o)).mono (by simp))
theorem allocs_at : ∀ (l : List Obj) (w : World) (i : Nat) (o : Obj), l[i]? = some o → (allocs w l).heap[w.heap.size + i]? = some o
 | [], w, i, o, h => by simp at h
 | x :: l, w, 0, o, h => by
  simp at h; subst h
  exact ((allocs_old l (w.alloc x)).block w.heap.size (by simp)).trans (heap_new _ _)
 | x :: l, w, i + 1, o, h => by
  have := allocs_at l (w.alloc x) i o (by simpa using h)
  rw [World.size_alloc] at this
  have e : w.heap.size + (i + 1) = w.heap.size + 1 + i := by omega
  rw [e]
  exact this
def nameObjs (k : Nat) (w : World) : List Obj := [.cells #[.int .u8 97] 5 (1, 2), .cells #[.int .i64 k, .int .i64 (3 * (k : Int)), .int .i64 k] 3, .cells #[.int .u8 98, .int .u8 99] 5 (2, 3), .cells #[.int .u8 120] 5 (1, 2), .cells #[.slice (some ⟨w.heap.size + 1 + 1 + 1, 0, none⟩) 1 1, .slice none 0 0] 32, .cells #[.int .u8 100] 5 (1, 2), .cells #[.int .u8 101] 5 (1, 2), .cells #[.int .i64 k, .int .i64 (2 * (k : Int))] 3, .cells #[.int .u8 116, .int .u8 111, .int .u8 114, .int .u8 110] 5 (4, 5), .cells #[.int .u8 102] 5 (1, 2), .cells #[.int .u8 103] 5 (1, 2), .cells #[.int .i64 0, .int .i64 0, .slice (some ⟨w.heap.size, 0, none⟩) 1 1, .slice none 0 0, .slice none 0 0, .int .i64 1, .int .i64 0, .slice none 0 0, .slice none 0 0, .slice none 0 0, .int .i64 4, .int .i64 k, .slice none 0 0, .slice none 0 0, .slice (some ⟨w.heap.size + 1, 0, none⟩) 3 3, .int .i64 0, .int .i64 0, .slice (some ⟨w.heap.size + 1 + 1, 0, none⟩) 2 2, .slice none 0 0, .slice none 0 0, .int .i64 2, .int .i64 0, .slice none 0 0, .slice (some ⟨w.heap.size + 1 + 1 + 1 + 1, 0, none⟩) 2 2, .slice none 0 0, .int .i64 0, .int .i64 0, .slice (some ⟨w.heap.size + 1 + 1 + 1 + 1 + 1, 0, none⟩) 1 1, .slice none 0 0, .slice none 0 0, .int .i64 1, .int .i64 0, .slice none 0 0, .slice none 0 0, .slice none 0 0, .int .i64 2, .int .i64 0, .slice none 0 0, .slice none 0 0, .slice none 0 0, .int .i64 0, .int .i64 0, .slice (some ⟨w.heap.size + 1 + 1 + 1 + 1 + 1 + 1, 0, none⟩) 1 1, .slice none 0 0, .slice none 0 0, .int .i64 3, .int .i64 0, .slice none 0 0, .slice none 0 0, .slice (some ⟨w.heap.size + 1 + 1 + 1 + 1 + 1 + 1 + 1, 0, none⟩) 2 2, .int .i64 6, .int .i64 k, .slice (some ⟨w.heap.size + 1 + 1 + 1 + 1 + 1 + 1 + 1 + 1, 0, none⟩) 4 4, .slice none 0 0, .slice none 0 0, .int .i64 5, .int .i64 0, .slice none 0 0, .slice none 0 0, .slice none 0 0, .int .i64 0, .int .i64 0, .slice (some ⟨w.heap.size + 1 + 1 + 1 + 1 + 1 + 1 + 1 + 1 + 1, 0, none⟩) 1 1, .slice none 0 0, .slice none 0 0, .int .i64 7, .int .i64 (9 * (k : Int)), .slice none 0 0, .slice none 0 0, .slice none 0 0, .int .i64 5, .int .i64 0, .slice none 0 0, .slice none 0 0, .slice none 0 0, .int .i64 0, .int .i64 0, .slice (some ⟨w.heap.size + 1 + 1 + 1 + 1 + 1 + 1 + 1 + 1 + 1 + 1, 0, none⟩) 1 1, .slice none 0 0, .slice none 0 0] 46]
def namesW (k : Nat) (w : World) : World := (((((((((((w.alloc (.cells #[.int .u8 97] 5 (1, 2))).alloc (.cells #[.int .i64 k, .int .i64 (3 * (k : Int)), .int .i64 k] 3)).alloc (.cells #[.int .u8 98, .int .u8 99] 5 (2, 3))).alloc (.cells #[.int .u8 120] 5 (1, 2))).alloc (.cells #[.slice (some ⟨w.heap.size + 1 + 1 + 1, 0, none⟩) 1 1, .slice none 0 0] 32)).alloc (.cells #[.int .u8 100] 5 (1, 2))).alloc (.cells #[.int .u8 101] 5 (1, 2))).alloc (.cells #[.int .i64 k, .int .i64 (2 * (k : Int))] 3)).alloc (.cells #[.int .u8 116, .int .u8 111, .int .u8 114, .int .u8 110] 5 (4, 5))).alloc (.cells #[.int .u8 102] 5 (1, 2))).alloc (.cells #[.int .u8 103] 5 (1, 2))).alloc (.cells #[.int .i64 0, .int .i64 0, .slice (some ⟨w.heap.size, 0, none⟩) 1 1, .slice none 0 0, .slice none 0 0, .int .i64 1, .int .i64 0, .slice none 0 0, .slice none 0 0, .slice none 0 0, .int .i64 4, .int .i64 k, .slice none 0 0, .slice none 0 0, .slice (some ⟨w.heap.size + 1, 0, none⟩) 3 3, .int .i64 0, .int .i64 0, .slice (some ⟨w.heap.size + 1 + 1, 0, none⟩) 2 2, .slice none 0 0, .slice none 0 0, .int .i64 2, .int .i64 0, .slice none 0 0, .slice (some ⟨w.heap.size + 1 + 1 + 1 + 1, 0, none⟩) 2 2, .slice none 0 0, .int .i64 0, .int .i64 0, .slice (some ⟨w.heap.size + 1 + 1 + 1 + 1 + 1, 0, none⟩) 1 1, .slice none 0 0, .slice none 0 0, .int .i64 1, .int .i64 0, .slice none 0 0, .slice none 0 0, .slice none 0 0, .int .i64 2, .int .i64 0, .slice none 0 0, .slice none 0 0, .slice none 0 0, .int .i64 0, .int .i64 0, .slice (some ⟨w.heap.size + 1 + 1 + 1 + 1 + 1 + 1, 0, none⟩) 1 1, .slice none 0 0, .slice none 0 0, .int .i64 3, .int .i64 0, .slice none 0 0, .slice none 0 0, .slice (some ⟨w.heap.size + 1 + 1 + 1 + 1 + 1 + 1 + 1, 0, none⟩) 2 2, .int .i64 6, .int .i64 k, .slice (some ⟨w.heap.size + 1 + 1 + 1 + 1 + 1 + 1 + 1 + 1, 0, none⟩) 4 4, .slice none 0 0, .slice none 0 0, .int .i64 5, .int .i64 0, .slice none 0 0, .slice none 0 0, .slice none 0 0, .int .i64 0, .int .i64 0, .slice (some ⟨w.heap.size + 1 + 1 + 1 + 1 + 1 + 1 + 1 + 1 + 1, 0, none⟩) 1 1, .slice none 0 0, .slice none 0 0, .int .i64 7, .int .i64 (9 * (k : Int)), .slice none 0 0, .slice none 0 0, .slice none 0 0, .int .i64 5, .int .i64 0, .slice none 0 0, .slice none 0 0, .slice none 0 0, .int .i64 0, .int .i64 0, .slice (some ⟨w.heap.size + 1 + 1 + 1 + 1 + 1 + 1 + 1 + 1 + 1 + 1, 0, none⟩) 1 1, .slice none 0 0, .slice none 0 0] 46)
theorem namesW_eq (k : Nat) (w : World) : namesW k w = allocs w (nameObjs k w) := rfl
theorem namesW_below (k : Nat) (w : World) : Below w.heap.size w (namesW k w) := by rw [namesW_eq]; exact allocs_old _ _
def nameWds (k : Nat) (w : World) : List Wd := [⟨0, 0, .slice (some ⟨w.heap.size, 0, none⟩) 1 1, .slice none 0 0, .slice none 0 0⟩, ⟨1, 0, .slice none 0 0, .slice none 0 0, .slice none 0 0⟩, ⟨4, k, .slice none 0 0, .slice none 0 0, .slice (some ⟨w.heap.size + 1, 0, none⟩) 3 3⟩, ⟨0, 0, .slice (some ⟨w.heap.size + 1 + 1, 0, none⟩) 2 2, .slice none 0 0, .slice none 0 0⟩, ⟨2, 0, .slice none 0 0, .slice (some ⟨w.heap.size + 1 + 1 + 1 + 1, 0, none⟩) 2 2, .slice none 0 0⟩, ⟨0, 0, .slice (some ⟨w.heap.size + 1 + 1 + 1 + 1 + 1, 0, none⟩) 1 1, .slice none 0 0, .slice none 0 0⟩, ⟨1, 0, .slice none 0 0, .slice none 0 0, .slice none 0 0⟩, ⟨2, 0, .slice none 0 0, .slice none 0 0, .slice none 0 0⟩, ⟨0, 0, .slice (some ⟨w.heap.size + 1 + 1 + 1 + 1 + 1 + 1, 0, none⟩) 1 1, .slice none 0 0, .slice none 0 0⟩, ⟨3, 0, .slice none 0 0, .slice none 0 0, .slice (some ⟨w.heap.size + 1 + 1 + 1 + 1 + 1 + 1 + 1, 0, none⟩) 2 2⟩, ⟨6, k, .slice (some ⟨w.heap.size + 1 + 1 + 1 + 1 + 1 + 1 + 1 + 1, 0, none⟩) 4 4, .slice none 0 0, .slice none 0 0⟩, ⟨5, 0, .slice none 0 0, .slice none 0 0, .slice none 0 0⟩, ⟨0, 0, .slice (some ⟨w.heap.size + 1 + 1 + 1 + 1 + 1 + 1 + 1 + 1 + 1, 0, none⟩) 1 1, .slice none 0 0, .slice none 0 0⟩, ⟨7, 9 * (k : Int), .slice none 0 0, .slice none 0 0, .slice none 0 0⟩, ⟨5, 0, .slice none 0 0, .slice none 0 0, .slice none 0 0⟩, ⟨0, 0, .slice (some ⟨w.heap.size + 1 + 1 + 1 + 1 + 1 + 1 + 1 + 1 + 1 + 1, 0, none⟩) 1 1, .slice none 0 0, .slice none 0 0⟩]
theorem names_deeds (k : Nat) (hk : k < 14) {w W : World} (hb : Below (namesW k w).heap.size (namesW k w) W) : (∃ D, DesIn W (.slice (some ⟨w.heap.size + 1 + 1 + 1 + 1 + 1 + 1 + 1 + 1 + 1 + 1 + 1, 0, none⟩) 16 16) D) ∧ ∃ D, JdsIn W (.slice (some ⟨w.heap.size + 1 + 1 + 1 + 1 + 1 + 1 + 1 + 1 + 1 + 1 + 1, 0, none⟩) 16 16) D := by
 have at_ : ∀ (i : Nat) (o : Obj), (nameObjs k w)[i]? = some o → W.heap[w.heap.size + i]? = some o := fun i o h => by
  have h1 := allocs_at (nameObjs k w) w i o h
  rw [← namesW_eq] at h1
  exact (hb.block _ (Array.getElem?_eq_some_iff.1 h1).1).trans h1
 have b0 : OkB W (.slice (some ⟨w.heap.size, 0, none⟩) 1 1) := okB_at (fz := (1, 2)) [97] (by decide) (by decide) (at_ 0 _ rfl)
 have b2 : OkB W (.slice (some ⟨w.heap.size + 1 + 1, 0, none⟩) 2 2) := okB_at (fz := (2, 3)) [98, 99] (by decide) (by decide) (at_ 2 _ rfl)
 have b3 : OkB W (.slice (some ⟨w.heap.size + 1 + 1 + 1, 0, none⟩) 1 1) := okB_at (fz := (1, 2)) [120] (by decide) (by decide) (at_ 3 _ rfl)
 have b5 : OkB W (.slice (some ⟨w.heap.size + 1 + 1 + 1 + 1 + 1, 0, none⟩) 1 1) := okB_at (fz := (1, 2)) [100] (by decide) (by decide) (at_ 5 _ rfl)
 have b6 : OkB W (.slice (some ⟨w.heap.size + 1 + 1 + 1 + 1 + 1 + 1, 0, none⟩) 1 1) := okB_at (fz := (1, 2)) [101] (by decide) (by decide) (at_ 6 _ rfl)
 have b8 : OkB W (.slice (some ⟨w.heap.size + 1 + 1 + 1 + 1 + 1 + 1 + 1 + 1, 0, none⟩) 4 4) := okB_at (fz := (4, 5)) [116, 111, 114, 110] (by decide) (by decide) (at_ 8 _ rfl)
 have b9 : OkB W (.slice (some ⟨w.heap.size + 1 + 1 + 1 + 1 + 1 + 1 + 1 + 1 + 1, 0, none⟩) 1 1) := okB_at (fz := (1, 2)) [102] (by decide) (by decide) (at_ 9 _ rfl)
 have b10 : OkB W (.slice (some ⟨w.heap.size + 1 + 1 + 1 + 1 + 1 + 1 + 1 + 1 + 1 + 1, 0, none⟩) 1 1) := okB_at (fz := (1, 2)) [103] (by decide) (by decide) (at_ 10 _ rfl)
 have k1 : OkK W (.slice (some ⟨w.heap.size + 1, 0, none⟩) 3 3) := okK_at (fz := (0, 0)) [(k : Int), 3 * (k : Int), (k : Int)] (fun x hx => by simp only [List.mem_cons, List.not_mem_nil, or_false] at hx; omega) (by simp) (at_ 1 _ rfl)
 have k7 : OkK W (.slice (some ⟨w.heap.size + 1 + 1 + 1 + 1 + 1 + 1 + 1, 0, none⟩) 2 2) := okK_at (fz := (0, 0)) [(k : Int), 2 * (k : Int)] (fun x hx => by simp only [List.mem_cons, List.not_mem_nil, or_false] at hx; omega) (by simp) (at_ 7 _ rfl)
 have l4 : OkL W (.slice (some ⟨w.heap.size + 1 + 1 + 1 + 1, 0, none⟩) 2 2) := okL_at (fz := (0, 0)) [.slice (some ⟨w.heap.size + 1 + 1 + 1, 0, none⟩) 1 1, .slice none 0 0] (fun v hv => by
  rcases List.mem_cons.1 hv with rfl | hv
  ·exact b3
  ·rcases List.mem_cons.1 hv with rfl | hv
   ·exact okB_nil
   ·cases hv) (by simp) (at_ 4 _ rfl)
 have nb : OkB W (.slice none 0 0) := okB_nil
 have nl : OkL W (.slice none 0 0) := okL_nil
 have nk : OkK W (.slice none 0 0) := okK_nil
 refine deeds_at (fz := (0, 0)) (nameWds k w) (fun x hx => ?_) (by show 16 ≤ _; omega) (at_ 11 _ rfl)
 simp only [nameWds, List.mem_cons, List.not_mem_nil, or_false] at hx
 rcases hx with rfl | rfl | rfl | rfl | rfl | rfl | rfl | rfl | rfl | rfl | rfl | rfl | rfl | rfl | rfl | rfl
 ·exact ⟨by simp only; omega, by simp only; omega, b0, nl, nk⟩
 ·exact ⟨by simp only; omega, by simp only; omega, nb, nl, nk⟩
 ·exact ⟨by simp only; omega, by simp only; omega, nb, nl, k1⟩
 ·exact ⟨by simp only; omega, by simp only; omega, b2, nl, nk⟩
 ·exact ⟨by simp only; omega, by simp only; omega, nb, l4, nk⟩
 ·exact ⟨by simp only; omega, by simp only; omega, b5, nl, nk⟩
 ·exact ⟨by simp only; omega, by simp only; omega, nb, nl, nk⟩
 ·exact ⟨by simp only; omega, by simp only; omega, nb, nl, nk⟩
 ·exact ⟨by simp only; omega, by simp only; omega, b6, nl, nk⟩
 ·exact ⟨by simp only; omega, by simp only; omega, nb, nl, k7⟩
 ·exact ⟨by simp only; omega, by simp only; omega, b8, nl, nk⟩
 ·exact ⟨by simp only; omega, by simp only; omega, nb, nl, nk⟩
 ·exact ⟨by simp only; omega, by simp only; omega, b9, nl, nk⟩
 ·exact ⟨by simp only; omega, by simp only; omega, nb, nl, nk⟩
 ·exact ⟨by simp only; omega, by simp only; omega, nb, nl, nk⟩
 ·exact ⟨by simp only; omega, by simp only; omega, b10, nl, nk⟩
end Go.Proofs.YtmcmagplaflegaaGreatDoor
