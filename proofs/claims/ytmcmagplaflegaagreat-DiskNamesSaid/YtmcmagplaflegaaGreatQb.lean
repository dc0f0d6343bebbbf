/-
  A DEED DONE: does, should. Conditions: those of each theorem.
-/
import Derived.Test.YtmcmagplaflegaaGreatQa
namespace Go.Proofs.YtmcmagplaflegaaGreat
open Go Go.RowKit Go.MapL Go.Poised

variable {p n₀ m : Nat} {s : DS} {d : RD} {w : World} {K : Nat → Prop}
set_option maxRecDepth 100000 in
set_option maxHeartbeats 8000000 in
theorem does0 (x : Dd) (bv kv : Value) (hx : DdOk x) (hkind : x.kind % 10 = 0) (h : Live w p n₀ m s K) (hm : m < 536870000) (hv : ∀ w', Kept K n₀ w w' → BytesIn w' bv x.b ∧ IntsIn w' kv x.keep) :
    Calls Tryz.prog 65 #[ddV x bv kv, ofBlock p] w fun e w' => e = .returned (.int .i64 (s.append x.name x.b).2) ∧ Live w' p n₀ (m + 2) (s.append x.name x.b).1 K ∧ Kept K n₀ w w' := by
  have hbr := fun W => bring_any x.kind 10 (by omega) (by omega) hx.kind.1 hx.kind.2 W
  rw [hkind] at hbr
  have hB : Below w.heap.size w (w.alloc (.cells #[.int .i64 x.kind, .string x.name, .string x.to, bv, .int .i64 x.n, .int .i64 x.bit, kv] 48)) := (Below.refl _ _).alloc (Nat.le_refl _) _
  have hK1 := h.kept hB
  have h1 := h.below hB
  have hv1 := fun w' (hk : Kept K n₀ (w.alloc (.cells #[.int .i64 x.kind, .string x.name, .string x.to, bv, .int .i64 x.n, .int .i64 x.bit, kv] 48)) w') => hv w' (hK1.trans hk)
  have hc := live_append x.name bv x.b h1 (by omega) hx.b.1 (by have := hx.b.2; omega) (fun w' hk => (hv1 w' hk).1)
  replace hx : Hid _ := hx
  replace hv : Hid _ := hv
  replace hv1 : Hid _ := hv1
  replace hK1 : Hid (Kept K n₀ w _) := hK1
  replace h1 : Hid (Live _ p n₀ m s K) := h1
  replace h : Hid (Live w p n₀ m s K) := h
  clear hB
  obtain ⟨kind, x1, x2, l, nn, bit, keep⟩ := x
  simp only [ddV] at *
  replace hkind : Hid _ := hkind
  unfold ofBlock at *
  go_enter Tryz.func65, Tryz.ntmps65
  go_wp2_with (first | (go_at_call 34; refine (hbr _).mono ?_; rintro e w1 ⟨rfl, hw1⟩; obtain rfl := hw1.symm) | (go_at_call 12; refine hc.mono ?_; clear hc; rintro e w5 ⟨rfl, hL5, hK5⟩))
  go_returns
  exact ⟨rfl, hL5.mono (by omega), hK1.out.trans hK5⟩
set_option maxRecDepth 100000 in
set_option maxHeartbeats 8000000 in
theorem does1 (x : Dd) (bv kv : Value) (hx : DdOk x) (hkind : x.kind % 10 = 1) (h : Live w p n₀ m s K) (hm : m < 536870000) (hv : ∀ w', Kept K n₀ w w' → BytesIn w' bv x.b ∧ IntsIn w' kv x.keep) :
    Calls Tryz.prog 65 #[ddV x bv kv, ofBlock p] w fun e w' => e = .returned (.int .i64 (s.sync x.name).2) ∧ Live w' p n₀ (m + 2) (s.sync x.name).1 K ∧ Kept K n₀ w w' := by
  have hbr := fun W => bring_any x.kind 10 (by omega) (by omega) hx.kind.1 hx.kind.2 W
  rw [hkind] at hbr
  have hB : Below w.heap.size w (w.alloc (.cells #[.int .i64 x.kind, .string x.name, .string x.to, bv, .int .i64 x.n, .int .i64 x.bit, kv] 48)) := (Below.refl _ _).alloc (Nat.le_refl _) _
  have hK1 := h.kept hB
  have h1 := h.below hB
  have hv1 := fun w' (hk : Kept K n₀ (w.alloc (.cells #[.int .i64 x.kind, .string x.name, .string x.to, bv, .int .i64 x.n, .int .i64 x.bit, kv] 48)) w') => hv w' (hK1.trans hk)
  have hc := live_sync x.name h1 (by omega)
  replace hx : Hid _ := hx
  replace hv : Hid _ := hv
  replace hv1 : Hid _ := hv1
  replace hK1 : Hid (Kept K n₀ w _) := hK1
  replace h1 : Hid (Live _ p n₀ m s K) := h1
  replace h : Hid (Live w p n₀ m s K) := h
  clear hB
  obtain ⟨kind, x1, x2, l, nn, bit, keep⟩ := x
  simp only [ddV] at *
  replace hkind : Hid _ := hkind
  unfold ofBlock at *
  go_enter Tryz.func65, Tryz.ntmps65
  go_wp2_with (first | (go_at_call 34; refine (hbr _).mono ?_; rintro e w1 ⟨rfl, hw1⟩; obtain rfl := hw1.symm) | (go_at_call 13; refine hc.mono ?_; clear hc; rintro e w5 ⟨rfl, hL5, hK5⟩))
  go_returns
  exact ⟨rfl, hL5.mono (by omega), hK1.out.trans hK5⟩
set_option maxRecDepth 100000 in
set_option maxHeartbeats 8000000 in
theorem does2 (x : Dd) (bv kv : Value) (hx : DdOk x) (hkind : x.kind % 10 = 2) (h : Live w p n₀ m s K) (hm : m < 536870000) (hv : ∀ w', Kept K n₀ w w' → BytesIn w' bv x.b ∧ IntsIn w' kv x.keep) :
    Calls Tryz.prog 65 #[ddV x bv kv, ofBlock p] w fun e w' => e = .returned (.int .i64 (s.rename x.name x.to).2) ∧ Live w' p n₀ (m + 2) (s.rename x.name x.to).1 K ∧ Kept K n₀ w w' := by
  have hbr := fun W => bring_any x.kind 10 (by omega) (by omega) hx.kind.1 hx.kind.2 W
  rw [hkind] at hbr
  have hB : Below w.heap.size w (w.alloc (.cells #[.int .i64 x.kind, .string x.name, .string x.to, bv, .int .i64 x.n, .int .i64 x.bit, kv] 48)) := (Below.refl _ _).alloc (Nat.le_refl _) _
  have hK1 := h.kept hB
  have h1 := h.below hB
  have hv1 := fun w' (hk : Kept K n₀ (w.alloc (.cells #[.int .i64 x.kind, .string x.name, .string x.to, bv, .int .i64 x.n, .int .i64 x.bit, kv] 48)) w') => hv w' (hK1.trans hk)
  have hc := live_rename x.name x.to h1 (by omega)
  replace hx : Hid _ := hx
  replace hv : Hid _ := hv
  replace hv1 : Hid _ := hv1
  replace hK1 : Hid (Kept K n₀ w _) := hK1
  replace h1 : Hid (Live _ p n₀ m s K) := h1
  replace h : Hid (Live w p n₀ m s K) := h
  clear hB
  obtain ⟨kind, x1, x2, l, nn, bit, keep⟩ := x
  simp only [ddV] at *
  replace hkind : Hid _ := hkind
  unfold ofBlock at *
  go_enter Tryz.func65, Tryz.ntmps65
  go_wp2_with (first | (go_at_call 34; refine (hbr _).mono ?_; rintro e w1 ⟨rfl, hw1⟩; obtain rfl := hw1.symm) | (go_at_call 14; refine hc.mono ?_; clear hc; rintro e w5 ⟨rfl, hL5, hK5⟩))
  go_returns
  exact ⟨rfl, hL5.mono (by omega), hK1.out.trans hK5⟩
set_option maxRecDepth 100000 in
set_option maxHeartbeats 8000000 in
theorem does3 (x : Dd) (bv kv : Value) (hx : DdOk x) (hkind : x.kind % 10 = 3) (h : Live w p n₀ m s K) (hm : m < 536870000) (hv : ∀ w', Kept K n₀ w w' → BytesIn w' bv x.b ∧ IntsIn w' kv x.keep) :
    Calls Tryz.prog 65 #[ddV x bv kv, ofBlock p] w fun e w' => e = .returned (.int .i64 (s.remove x.name).2) ∧ Live w' p n₀ (m + 2) (s.remove x.name).1 K ∧ Kept K n₀ w w' := by
  have hbr := fun W => bring_any x.kind 10 (by omega) (by omega) hx.kind.1 hx.kind.2 W
  rw [hkind] at hbr
  have hB : Below w.heap.size w (w.alloc (.cells #[.int .i64 x.kind, .string x.name, .string x.to, bv, .int .i64 x.n, .int .i64 x.bit, kv] 48)) := (Below.refl _ _).alloc (Nat.le_refl _) _
  have hK1 := h.kept hB
  have h1 := h.below hB
  have hv1 := fun w' (hk : Kept K n₀ (w.alloc (.cells #[.int .i64 x.kind, .string x.name, .string x.to, bv, .int .i64 x.n, .int .i64 x.bit, kv] 48)) w') => hv w' (hK1.trans hk)
  have hc := live_remove x.name h1 (by omega)
  replace hx : Hid _ := hx
  replace hv : Hid _ := hv
  replace hv1 : Hid _ := hv1
  replace hK1 : Hid (Kept K n₀ w _) := hK1
  replace h1 : Hid (Live _ p n₀ m s K) := h1
  replace h : Hid (Live w p n₀ m s K) := h
  clear hB
  obtain ⟨kind, x1, x2, l, nn, bit, keep⟩ := x
  simp only [ddV] at *
  replace hkind : Hid _ := hkind
  unfold ofBlock at *
  go_enter Tryz.func65, Tryz.ntmps65
  go_wp2_with (first | (go_at_call 34; refine (hbr _).mono ?_; rintro e w1 ⟨rfl, hw1⟩; obtain rfl := hw1.symm) | (go_at_call 15; refine hc.mono ?_; clear hc; rintro e w5 ⟨rfl, hL5, hK5⟩))
  go_returns
  exact ⟨rfl, hL5.mono (by omega), hK1.out.trans hK5⟩
set_option maxRecDepth 100000 in
set_option maxHeartbeats 8000000 in
theorem does4 (x : Dd) (bv kv : Value) (hx : DdOk x) (hkind : x.kind % 10 = 4) (h : Live w p n₀ m s K) (hm : m < 536870000) (hv : ∀ w', Kept K n₀ w w' → BytesIn w' bv x.b ∧ IntsIn w' kv x.keep) :
    Calls Tryz.prog 65 #[ddV x bv kv, ofBlock p] w fun e w' => e = .returned (.int .i64 (s.syncNames).2) ∧ Live w' p n₀ (m + 2) (s.syncNames).1 K ∧ Kept K n₀ w w' := by
  have hbr := fun W => bring_any x.kind 10 (by omega) (by omega) hx.kind.1 hx.kind.2 W
  rw [hkind] at hbr
  have hB : Below w.heap.size w (w.alloc (.cells #[.int .i64 x.kind, .string x.name, .string x.to, bv, .int .i64 x.n, .int .i64 x.bit, kv] 48)) := (Below.refl _ _).alloc (Nat.le_refl _) _
  have hK1 := h.kept hB
  have h1 := h.below hB
  have hv1 := fun w' (hk : Kept K n₀ (w.alloc (.cells #[.int .i64 x.kind, .string x.name, .string x.to, bv, .int .i64 x.n, .int .i64 x.bit, kv] 48)) w') => hv w' (hK1.trans hk)
  have hc := live_syncNames h1 (by omega)
  replace hx : Hid _ := hx
  replace hv : Hid _ := hv
  replace hv1 : Hid _ := hv1
  replace hK1 : Hid (Kept K n₀ w _) := hK1
  replace h1 : Hid (Live _ p n₀ m s K) := h1
  replace h : Hid (Live w p n₀ m s K) := h
  clear hB
  obtain ⟨kind, x1, x2, l, nn, bit, keep⟩ := x
  simp only [ddV] at *
  replace hkind : Hid _ := hkind
  unfold ofBlock at *
  go_enter Tryz.func65, Tryz.ntmps65
  go_wp2_with (first | (go_at_call 34; refine (hbr _).mono ?_; rintro e w1 ⟨rfl, hw1⟩; obtain rfl := hw1.symm) | (go_at_call 16; refine hc.mono ?_; clear hc; rintro e w5 ⟨rfl, hL5, hK5⟩))
  go_returns
  exact ⟨rfl, hL5.mono (by omega), hK1.out.trans hK5⟩
set_option maxRecDepth 100000 in
set_option maxHeartbeats 8000000 in
theorem does5 (x : Dd) (bv kv : Value) (hx : DdOk x) (hkind : x.kind % 10 = 5) (h : Live w p n₀ m s K) (hm : m < 536870000) (hv : ∀ w', Kept K n₀ w w' → BytesIn w' bv x.b ∧ IntsIn w' kv x.keep) :
    Calls Tryz.prog 65 #[ddV x bv kv, ofBlock p] w fun e w' => e = .returned (.int .i64 ((s.crash x.keep, (1000 : Int))).2) ∧ Live w' p n₀ (m + 2) ((s.crash x.keep, (1000 : Int))).1 K ∧ Kept K n₀ w w' := by
  have hbr := fun W => bring_any x.kind 10 (by omega) (by omega) hx.kind.1 hx.kind.2 W
  rw [hkind] at hbr
  have hB : Below w.heap.size w (w.alloc (.cells #[.int .i64 x.kind, .string x.name, .string x.to, bv, .int .i64 x.n, .int .i64 x.bit, kv] 48)) := (Below.refl _ _).alloc (Nat.le_refl _) _
  have hK1 := h.kept hB
  have h1 := h.below hB
  have hv1 := fun w' (hk : Kept K n₀ (w.alloc (.cells #[.int .i64 x.kind, .string x.name, .string x.to, bv, .int .i64 x.n, .int .i64 x.bit, kv] 48)) w') => hv w' (hK1.trans hk)
  have hc := live_crash kv x.keep h1 (by omega) (fun w' hk => (hv1 w' hk).2)
  replace hx : Hid _ := hx
  replace hv : Hid _ := hv
  replace hv1 : Hid _ := hv1
  replace hK1 : Hid (Kept K n₀ w _) := hK1
  replace h1 : Hid (Live _ p n₀ m s K) := h1
  replace h : Hid (Live w p n₀ m s K) := h
  clear hB
  obtain ⟨kind, x1, x2, l, nn, bit, keep⟩ := x
  simp only [ddV] at *
  replace hkind : Hid _ := hkind
  unfold ofBlock at *
  go_enter Tryz.func65, Tryz.ntmps65
  go_wp2_with (first | (go_at_call 34; refine (hbr _).mono ?_; rintro e w1 ⟨rfl, hw1⟩; obtain rfl := hw1.symm) | (go_at_call 9; refine hc.mono ?_; clear hc; rintro e w5 ⟨rfl, hL5, hK5⟩))
  go_returns
  exact ⟨rfl, hL5.mono (by omega), hK1.out.trans hK5⟩
set_option maxRecDepth 100000 in
set_option maxHeartbeats 8000000 in
theorem does6 (x : Dd) (bv kv : Value) (hx : DdOk x) (hkind : x.kind % 10 = 6) (h : Live w p n₀ m s K) (_ : m < 536870000) (hv : ∀ w', Kept K n₀ w w' → BytesIn w' bv x.b ∧ IntsIn w' kv x.keep) :
    Calls Tryz.prog 65 #[ddV x bv kv, ofBlock p] w fun e w' => e = .returned (.int .i64 ((s.fail x.n x.keep, (1000 : Int))).2) ∧ Live w' p n₀ (m + 2) ((s.fail x.n x.keep, (1000 : Int))).1 K ∧ Kept K n₀ w w' := by
  have hbr := fun W => bring_any x.kind 10 (by omega) (by omega) hx.kind.1 hx.kind.2 W
  rw [hkind] at hbr
  have hB : Below w.heap.size w (w.alloc (.cells #[.int .i64 x.kind, .string x.name, .string x.to, bv, .int .i64 x.n, .int .i64 x.bit, kv] 48)) := (Below.refl _ _).alloc (Nat.le_refl _) _
  have hK1 := h.kept hB
  have h1 := h.below hB
  have hv1 := fun w' (hk : Kept K n₀ (w.alloc (.cells #[.int .i64 x.kind, .string x.name, .string x.to, bv, .int .i64 x.n, .int .i64 x.bit, kv] 48)) w') => hv w' (hK1.trans hk)
  have hc := live_fail x.n kv x.keep h1 hx.n.1 hx.n.2 (hv1 _ (Kept.refl _ _ _)).2 (by have := hx.keep.2; omega)
  replace hx : Hid _ := hx
  replace hv : Hid _ := hv
  replace hv1 : Hid _ := hv1
  replace hK1 : Hid (Kept K n₀ w _) := hK1
  replace h1 : Hid (Live _ p n₀ m s K) := h1
  replace h : Hid (Live w p n₀ m s K) := h
  clear hB
  obtain ⟨kind, x1, x2, l, nn, bit, keep⟩ := x
  simp only [ddV] at *
  replace hkind : Hid _ := hkind
  unfold ofBlock at *
  go_enter Tryz.func65, Tryz.ntmps65
  go_wp2_with (first | (go_at_call 34; refine (hbr _).mono ?_; rintro e w1 ⟨rfl, hw1⟩; obtain rfl := hw1.symm) | (go_at_call 10; refine hc.mono ?_; clear hc; rintro e w5 ⟨rfl, hL5, hK5⟩))
  go_returns
  exact ⟨rfl, hL5.mono (by omega), hK1.out.trans hK5⟩
set_option maxRecDepth 100000 in
set_option maxHeartbeats 8000000 in
theorem does7 (x : Dd) (bv kv : Value) (hx : DdOk x) (hkind : x.kind % 10 = 7) (h : Live w p n₀ m s K) (_ : m < 536870000) (hv : ∀ w', Kept K n₀ w w' → BytesIn w' bv x.b ∧ IntsIn w' kv x.keep) :
    Calls Tryz.prog 65 #[ddV x bv kv, ofBlock p] w fun e w' => e = .returned (.int .i64 ((s.boot, (1000 : Int))).2) ∧ Live w' p n₀ (m + 2) ((s.boot, (1000 : Int))).1 K ∧ Kept K n₀ w w' := by
  have hbr := fun W => bring_any x.kind 10 (by omega) (by omega) hx.kind.1 hx.kind.2 W
  rw [hkind] at hbr
  have hB : Below w.heap.size w (w.alloc (.cells #[.int .i64 x.kind, .string x.name, .string x.to, bv, .int .i64 x.n, .int .i64 x.bit, kv] 48)) := (Below.refl _ _).alloc (Nat.le_refl _) _
  have hK1 := h.kept hB
  have h1 := h.below hB
  have hv1 := fun w' (hk : Kept K n₀ (w.alloc (.cells #[.int .i64 x.kind, .string x.name, .string x.to, bv, .int .i64 x.n, .int .i64 x.bit, kv] 48)) w') => hv w' (hK1.trans hk)
  have hc := live_boot h1
  replace hx : Hid _ := hx
  replace hv : Hid _ := hv
  replace hv1 : Hid _ := hv1
  replace hK1 : Hid (Kept K n₀ w _) := hK1
  replace h1 : Hid (Live _ p n₀ m s K) := h1
  replace h : Hid (Live w p n₀ m s K) := h
  clear hB
  obtain ⟨kind, x1, x2, l, nn, bit, keep⟩ := x
  simp only [ddV] at *
  replace hkind : Hid _ := hkind
  unfold ofBlock at *
  go_enter Tryz.func65, Tryz.ntmps65
  go_wp2_with (first | (go_at_call 34; refine (hbr _).mono ?_; rintro e w1 ⟨rfl, hw1⟩; obtain rfl := hw1.symm) | (go_at_call 11; refine hc.mono ?_; clear hc; rintro e w5 ⟨rfl, hL5, hK5⟩))
  go_returns
  exact ⟨rfl, hL5.mono (by omega), hK1.out.trans hK5⟩
set_option maxRecDepth 100000 in
set_option maxHeartbeats 8000000 in
theorem does8 (x : Dd) (bv kv : Value) (hx : DdOk x) (hkind : x.kind % 10 = 8) (h : Live w p n₀ m s K) (_ : m < 536870000) (hv : ∀ w', Kept K n₀ w w' → BytesIn w' bv x.b ∧ IntsIn w' kv x.keep) :
    Calls Tryz.prog 65 #[ddV x bv kv, ofBlock p] w fun e w' => e = .returned (.int .i64 (s.turn x.name x.n x.bit).2) ∧ Live w' p n₀ (m + 2) (s.turn x.name x.n x.bit).1 K ∧ Kept K n₀ w w' := by
  have hbr := fun W => bring_any x.kind 10 (by omega) (by omega) hx.kind.1 hx.kind.2 W
  rw [hkind] at hbr
  have hB : Below w.heap.size w (w.alloc (.cells #[.int .i64 x.kind, .string x.name, .string x.to, bv, .int .i64 x.n, .int .i64 x.bit, kv] 48)) := (Below.refl _ _).alloc (Nat.le_refl _) _
  have hK1 := h.kept hB
  have h1 := h.below hB
  have hv1 := fun w' (hk : Kept K n₀ (w.alloc (.cells #[.int .i64 x.kind, .string x.name, .string x.to, bv, .int .i64 x.n, .int .i64 x.bit, kv] 48)) w') => hv w' (hK1.trans hk)
  have hc := live_turn x.name x.n x.bit h1 hx.n.1 hx.n.2 hx.bit.1 hx.bit.2
  replace hx : Hid _ := hx
  replace hv : Hid _ := hv
  replace hv1 : Hid _ := hv1
  replace hK1 : Hid (Kept K n₀ w _) := hK1
  replace h1 : Hid (Live _ p n₀ m s K) := h1
  replace h : Hid (Live w p n₀ m s K) := h
  clear hB
  obtain ⟨kind, x1, x2, l, nn, bit, keep⟩ := x
  simp only [ddV] at *
  replace hkind : Hid _ := hkind
  unfold ofBlock at *
  go_enter Tryz.func65, Tryz.ntmps65
  go_wp2_with (first | (go_at_call 34; refine (hbr _).mono ?_; rintro e w1 ⟨rfl, hw1⟩; obtain rfl := hw1.symm) | (go_at_call 18; refine hc.mono ?_; clear hc; rintro e w5 ⟨rfl, hL5, hK5⟩))
  go_returns
  exact ⟨rfl, hL5.mono (by omega), hK1.out.trans hK5⟩
set_option maxRecDepth 100000 in
set_option maxHeartbeats 8000000 in
theorem does9 (x : Dd) (bv kv : Value) (hx : DdOk x) (hkind : x.kind % 10 = 9) (h : Live w p n₀ m s K) (hm : m < 536870000) (hv : ∀ w', Kept K n₀ w w' → BytesIn w' bv x.b ∧ IntsIn w' kv x.keep) :
    Calls Tryz.prog 65 #[ddV x bv kv, ofBlock p] w fun e w' => e = .returned (.int .i64 (s.cut x.name x.n).2) ∧ Live w' p n₀ (m + 2) (s.cut x.name x.n).1 K ∧ Kept K n₀ w w' := by
  have hbr := fun W => bring_any x.kind 10 (by omega) (by omega) hx.kind.1 hx.kind.2 W
  rw [hkind] at hbr
  have hB : Below w.heap.size w (w.alloc (.cells #[.int .i64 x.kind, .string x.name, .string x.to, bv, .int .i64 x.n, .int .i64 x.bit, kv] 48)) := (Below.refl _ _).alloc (Nat.le_refl _) _
  have hK1 := h.kept hB
  have h1 := h.below hB
  have hv1 := fun w' (hk : Kept K n₀ (w.alloc (.cells #[.int .i64 x.kind, .string x.name, .string x.to, bv, .int .i64 x.n, .int .i64 x.bit, kv] 48)) w') => hv w' (hK1.trans hk)
  have hc := live_cut x.name x.n h1 (by omega) hx.n.1 hx.n.2
  replace hx : Hid _ := hx
  replace hv : Hid _ := hv
  replace hv1 : Hid _ := hv1
  replace hK1 : Hid (Kept K n₀ w _) := hK1
  replace h1 : Hid (Live _ p n₀ m s K) := h1
  replace h : Hid (Live w p n₀ m s K) := h
  clear hB
  obtain ⟨kind, x1, x2, l, nn, bit, keep⟩ := x
  simp only [ddV] at *
  replace hkind : Hid _ := hkind
  unfold ofBlock at *
  go_enter Tryz.func65, Tryz.ntmps65
  go_wp2_with (first | (go_at_call 34; refine (hbr _).mono ?_; rintro e w1 ⟨rfl, hw1⟩; obtain rfl := hw1.symm) | (go_at_call 17; refine hc.mono ?_; clear hc; rintro e w5 ⟨rfl, hL5, hK5⟩))
  go_returns
  exact ⟨rfl, hL5.mono (by omega), hK1.out.trans hK5⟩
theorem deed_any (x : Dd) (bv kv : Value) (hx : DdOk x) (h : Live w p n₀ m s K) (hm : m < 536870000) (hv : ∀ w', Kept K n₀ w w' → BytesIn w' bv x.b ∧ IntsIn w' kv x.keep) :
    Calls Tryz.prog 65 #[ddV x bv kv, ofBlock p] w fun e w' => e = .returned (.int .i64 (actS s (x.kind % 10).toNat x).2) ∧ Live w' p n₀ (m + 2) (actS s (x.kind % 10).toNat x).1 K ∧ Kept K n₀ w w' := by
  have h1 := Int.emod_nonneg x.kind (b := 10) (by omega)
  have h2 := Int.emod_lt_of_pos x.kind (b := 10) (by omega)
  rcases (show x.kind % 10 = 0 ∨ x.kind % 10 = 1 ∨ x.kind % 10 = 2 ∨ x.kind % 10 = 3 ∨ x.kind % 10 = 4 ∨ x.kind % 10 = 5 ∨ x.kind % 10 = 6 ∨ x.kind % 10 = 7 ∨ x.kind % 10 = 8 ∨ x.kind % 10 = 9 by omega) with hk | hk | hk | hk | hk | hk | hk | hk | hk | hk
  · rw [hk]; exact does0 x bv kv hx hk h hm hv
  · rw [hk]; exact does1 x bv kv hx hk h hm hv
  · rw [hk]; exact does2 x bv kv hx hk h hm hv
  · rw [hk]; exact does3 x bv kv hx hk h hm hv
  · rw [hk]; exact does4 x bv kv hx hk h hm hv
  · rw [hk]; exact does5 x bv kv hx hk h hm hv
  · rw [hk]; exact does6 x bv kv hx hk h hm hv
  · rw [hk]; exact does7 x bv kv hx hk h hm hv
  · rw [hk]; exact does8 x bv kv hx hk h hm hv
  · rw [hk]; exact does9 x bv kv hx hk h hm hv
set_option maxRecDepth 100000 in
set_option maxHeartbeats 8000000 in
theorem should0 (x : Dd) (bv kv : Value) (hx : DdOk x) (hkind : x.kind % 10 = 0) (h : RLive w p n₀ m d K) (hm : m < 536870000) (hv : ∀ w', Kept K n₀ w w' → BytesIn w' bv x.b ∧ IntsIn w' kv x.keep) :
    Calls Tryz.prog 66 #[ddV x bv kv, ofBlock p] w fun e w' => e = .returned (.int .i64 (d.append x.name x.b).2) ∧ RLive w' p n₀ (m + 2) (d.append x.name x.b).1 K ∧ Kept K n₀ w w' := by
  have hbr := fun W => bring_any x.kind 10 (by omega) (by omega) hx.kind.1 hx.kind.2 W
  rw [hkind] at hbr
  have hB : Below w.heap.size w (w.alloc (.cells #[.int .i64 x.kind, .string x.name, .string x.to, bv, .int .i64 x.n, .int .i64 x.bit, kv] 48)) := (Below.refl _ _).alloc (Nat.le_refl _) _
  have hK1 := h.kept hB
  have h1 := h.below hB
  have hv1 := fun w' (hk : Kept K n₀ (w.alloc (.cells #[.int .i64 x.kind, .string x.name, .string x.to, bv, .int .i64 x.n, .int .i64 x.bit, kv] 48)) w') => hv w' (hK1.trans hk)
  have hc := rlive_append x.name bv x.b h1 (by omega) hx.name hx.b.1 (by have := hx.b.2; omega) (fun w' hk => (hv1 w' hk).1)
  replace hx : Hid _ := hx
  replace hv : Hid _ := hv
  replace hv1 : Hid _ := hv1
  replace hK1 : Hid (Kept K n₀ w _) := hK1
  replace h1 : Hid (RLive _ p n₀ m d K) := h1
  replace h : Hid (RLive w p n₀ m d K) := h
  clear hB
  obtain ⟨kind, x1, x2, l, nn, bit, keep⟩ := x
  simp only [ddV] at *
  replace hkind : Hid _ := hkind
  unfold ofBlock at *
  go_enter Tryz.func66, Tryz.ntmps66
  go_wp2_with (first | (go_at_call 34; refine (hbr _).mono ?_; rintro e w1 ⟨rfl, hw1⟩; obtain rfl := hw1.symm) | (go_at_call 104; refine hc.mono ?_; clear hc; rintro e w5 ⟨rfl, hL5, hK5⟩))
  go_returns
  exact ⟨rfl, hL5.mono (by omega), hK1.out.trans hK5⟩
set_option maxRecDepth 100000 in
set_option maxHeartbeats 8000000 in
theorem should1 (x : Dd) (bv kv : Value) (hx : DdOk x) (hkind : x.kind % 10 = 1) (h : RLive w p n₀ m d K) (hm : m < 536870000) (hv : ∀ w', Kept K n₀ w w' → BytesIn w' bv x.b ∧ IntsIn w' kv x.keep) :
    Calls Tryz.prog 66 #[ddV x bv kv, ofBlock p] w fun e w' => e = .returned (.int .i64 (d.sync x.name).2) ∧ RLive w' p n₀ (m + 2) (d.sync x.name).1 K ∧ Kept K n₀ w w' := by
  have hbr := fun W => bring_any x.kind 10 (by omega) (by omega) hx.kind.1 hx.kind.2 W
  rw [hkind] at hbr
  have hB : Below w.heap.size w (w.alloc (.cells #[.int .i64 x.kind, .string x.name, .string x.to, bv, .int .i64 x.n, .int .i64 x.bit, kv] 48)) := (Below.refl _ _).alloc (Nat.le_refl _) _
  have hK1 := h.kept hB
  have h1 := h.below hB
  have hv1 := fun w' (hk : Kept K n₀ (w.alloc (.cells #[.int .i64 x.kind, .string x.name, .string x.to, bv, .int .i64 x.n, .int .i64 x.bit, kv] 48)) w') => hv w' (hK1.trans hk)
  have hc := rlive_sync x.name h1 (by omega)
  replace hx : Hid _ := hx
  replace hv : Hid _ := hv
  replace hv1 : Hid _ := hv1
  replace hK1 : Hid (Kept K n₀ w _) := hK1
  replace h1 : Hid (RLive _ p n₀ m d K) := h1
  replace h : Hid (RLive w p n₀ m d K) := h
  clear hB
  obtain ⟨kind, x1, x2, l, nn, bit, keep⟩ := x
  simp only [ddV] at *
  replace hkind : Hid _ := hkind
  unfold ofBlock at *
  go_enter Tryz.func66, Tryz.ntmps66
  go_wp2_with (first | (go_at_call 34; refine (hbr _).mono ?_; rintro e w1 ⟨rfl, hw1⟩; obtain rfl := hw1.symm) | (go_at_call 105; refine hc.mono ?_; clear hc; rintro e w5 ⟨rfl, hL5, hK5⟩))
  go_returns
  exact ⟨rfl, hL5.mono (by omega), hK1.out.trans hK5⟩
set_option maxRecDepth 100000 in
set_option maxHeartbeats 8000000 in
theorem should2 (x : Dd) (bv kv : Value) (hx : DdOk x) (hkind : x.kind % 10 = 2) (h : RLive w p n₀ m d K) (hm : m < 536870000) (hv : ∀ w', Kept K n₀ w w' → BytesIn w' bv x.b ∧ IntsIn w' kv x.keep) :
    Calls Tryz.prog 66 #[ddV x bv kv, ofBlock p] w fun e w' => e = .returned (.int .i64 (d.rename x.name x.to).2) ∧ RLive w' p n₀ (m + 2) (d.rename x.name x.to).1 K ∧ Kept K n₀ w w' := by
  have hbr := fun W => bring_any x.kind 10 (by omega) (by omega) hx.kind.1 hx.kind.2 W
  rw [hkind] at hbr
  have hB : Below w.heap.size w (w.alloc (.cells #[.int .i64 x.kind, .string x.name, .string x.to, bv, .int .i64 x.n, .int .i64 x.bit, kv] 48)) := (Below.refl _ _).alloc (Nat.le_refl _) _
  have hK1 := h.kept hB
  have h1 := h.below hB
  have hv1 := fun w' (hk : Kept K n₀ (w.alloc (.cells #[.int .i64 x.kind, .string x.name, .string x.to, bv, .int .i64 x.n, .int .i64 x.bit, kv] 48)) w') => hv w' (hK1.trans hk)
  have hc := rlive_rename x.name x.to h1 (by omega) hx.to
  replace hx : Hid _ := hx
  replace hv : Hid _ := hv
  replace hv1 : Hid _ := hv1
  replace hK1 : Hid (Kept K n₀ w _) := hK1
  replace h1 : Hid (RLive _ p n₀ m d K) := h1
  replace h : Hid (RLive w p n₀ m d K) := h
  clear hB
  obtain ⟨kind, x1, x2, l, nn, bit, keep⟩ := x
  simp only [ddV] at *
  replace hkind : Hid _ := hkind
  unfold ofBlock at *
  go_enter Tryz.func66, Tryz.ntmps66
  go_wp2_with (first | (go_at_call 34; refine (hbr _).mono ?_; rintro e w1 ⟨rfl, hw1⟩; obtain rfl := hw1.symm) | (go_at_call 106; refine hc.mono ?_; clear hc; rintro e w5 ⟨rfl, hL5, hK5⟩))
  go_returns
  exact ⟨rfl, hL5.mono (by omega), hK1.out.trans hK5⟩
set_option maxRecDepth 100000 in
set_option maxHeartbeats 8000000 in
theorem should3 (x : Dd) (bv kv : Value) (hx : DdOk x) (hkind : x.kind % 10 = 3) (h : RLive w p n₀ m d K) (hm : m < 536870000) (hv : ∀ w', Kept K n₀ w w' → BytesIn w' bv x.b ∧ IntsIn w' kv x.keep) :
    Calls Tryz.prog 66 #[ddV x bv kv, ofBlock p] w fun e w' => e = .returned (.int .i64 (d.remove x.name).2) ∧ RLive w' p n₀ (m + 2) (d.remove x.name).1 K ∧ Kept K n₀ w w' := by
  have hbr := fun W => bring_any x.kind 10 (by omega) (by omega) hx.kind.1 hx.kind.2 W
  rw [hkind] at hbr
  have hB : Below w.heap.size w (w.alloc (.cells #[.int .i64 x.kind, .string x.name, .string x.to, bv, .int .i64 x.n, .int .i64 x.bit, kv] 48)) := (Below.refl _ _).alloc (Nat.le_refl _) _
  have hK1 := h.kept hB
  have h1 := h.below hB
  have hv1 := fun w' (hk : Kept K n₀ (w.alloc (.cells #[.int .i64 x.kind, .string x.name, .string x.to, bv, .int .i64 x.n, .int .i64 x.bit, kv] 48)) w') => hv w' (hK1.trans hk)
  have hc := rlive_remove x.name h1 (by omega)
  replace hx : Hid _ := hx
  replace hv : Hid _ := hv
  replace hv1 : Hid _ := hv1
  replace hK1 : Hid (Kept K n₀ w _) := hK1
  replace h1 : Hid (RLive _ p n₀ m d K) := h1
  replace h : Hid (RLive w p n₀ m d K) := h
  clear hB
  obtain ⟨kind, x1, x2, l, nn, bit, keep⟩ := x
  simp only [ddV] at *
  replace hkind : Hid _ := hkind
  unfold ofBlock at *
  go_enter Tryz.func66, Tryz.ntmps66
  go_wp2_with (first | (go_at_call 34; refine (hbr _).mono ?_; rintro e w1 ⟨rfl, hw1⟩; obtain rfl := hw1.symm) | (go_at_call 107; refine hc.mono ?_; clear hc; rintro e w5 ⟨rfl, hL5, hK5⟩))
  go_returns
  exact ⟨rfl, hL5.mono (by omega), hK1.out.trans hK5⟩
set_option maxRecDepth 100000 in
set_option maxHeartbeats 8000000 in
theorem should4 (x : Dd) (bv kv : Value) (hx : DdOk x) (hkind : x.kind % 10 = 4) (h : RLive w p n₀ m d K) (hm : m < 536870000) (hv : ∀ w', Kept K n₀ w w' → BytesIn w' bv x.b ∧ IntsIn w' kv x.keep) :
    Calls Tryz.prog 66 #[ddV x bv kv, ofBlock p] w fun e w' => e = .returned (.int .i64 (d.syncNames).2) ∧ RLive w' p n₀ (m + 2) (d.syncNames).1 K ∧ Kept K n₀ w w' := by
  have hbr := fun W => bring_any x.kind 10 (by omega) (by omega) hx.kind.1 hx.kind.2 W
  rw [hkind] at hbr
  have hB : Below w.heap.size w (w.alloc (.cells #[.int .i64 x.kind, .string x.name, .string x.to, bv, .int .i64 x.n, .int .i64 x.bit, kv] 48)) := (Below.refl _ _).alloc (Nat.le_refl _) _
  have hK1 := h.kept hB
  have h1 := h.below hB
  have hv1 := fun w' (hk : Kept K n₀ (w.alloc (.cells #[.int .i64 x.kind, .string x.name, .string x.to, bv, .int .i64 x.n, .int .i64 x.bit, kv] 48)) w') => hv w' (hK1.trans hk)
  have hc := rlive_syncNames h1 (by omega)
  replace hx : Hid _ := hx
  replace hv : Hid _ := hv
  replace hv1 : Hid _ := hv1
  replace hK1 : Hid (Kept K n₀ w _) := hK1
  replace h1 : Hid (RLive _ p n₀ m d K) := h1
  replace h : Hid (RLive w p n₀ m d K) := h
  clear hB
  obtain ⟨kind, x1, x2, l, nn, bit, keep⟩ := x
  simp only [ddV] at *
  replace hkind : Hid _ := hkind
  unfold ofBlock at *
  go_enter Tryz.func66, Tryz.ntmps66
  go_wp2_with (first | (go_at_call 34; refine (hbr _).mono ?_; rintro e w1 ⟨rfl, hw1⟩; obtain rfl := hw1.symm) | (go_at_call 108; refine hc.mono ?_; clear hc; rintro e w5 ⟨rfl, hL5, hK5⟩))
  go_returns
  exact ⟨rfl, hL5.mono (by omega), hK1.out.trans hK5⟩
set_option maxRecDepth 100000 in
set_option maxHeartbeats 8000000 in
theorem should5 (x : Dd) (bv kv : Value) (hx : DdOk x) (hkind : x.kind % 10 = 5) (h : RLive w p n₀ m d K) (hm : m < 536870000) (hv : ∀ w', Kept K n₀ w w' → BytesIn w' bv x.b ∧ IntsIn w' kv x.keep) :
    Calls Tryz.prog 66 #[ddV x bv kv, ofBlock p] w fun e w' => e = .returned (.int .i64 ((d.crash x.keep, (1000 : Int))).2) ∧ RLive w' p n₀ (m + 2) ((d.crash x.keep, (1000 : Int))).1 K ∧ Kept K n₀ w w' := by
  have hbr := fun W => bring_any x.kind 10 (by omega) (by omega) hx.kind.1 hx.kind.2 W
  rw [hkind] at hbr
  have hB : Below w.heap.size w (w.alloc (.cells #[.int .i64 x.kind, .string x.name, .string x.to, bv, .int .i64 x.n, .int .i64 x.bit, kv] 48)) := (Below.refl _ _).alloc (Nat.le_refl _) _
  have hK1 := h.kept hB
  have h1 := h.below hB
  have hv1 := fun w' (hk : Kept K n₀ (w.alloc (.cells #[.int .i64 x.kind, .string x.name, .string x.to, bv, .int .i64 x.n, .int .i64 x.bit, kv] 48)) w') => hv w' (hK1.trans hk)
  have hc := rlive_crash kv x.keep h1 (by omega) (hv1 _ (Kept.refl _ _ _)).2
  replace hx : Hid _ := hx
  replace hv : Hid _ := hv
  replace hv1 : Hid _ := hv1
  replace hK1 : Hid (Kept K n₀ w _) := hK1
  replace h1 : Hid (RLive _ p n₀ m d K) := h1
  replace h : Hid (RLive w p n₀ m d K) := h
  clear hB
  obtain ⟨kind, x1, x2, l, nn, bit, keep⟩ := x
  simp only [ddV] at *
  replace hkind : Hid _ := hkind
  unfold ofBlock at *
  go_enter Tryz.func66, Tryz.ntmps66
  go_wp2_with (first | (go_at_call 34; refine (hbr _).mono ?_; rintro e w1 ⟨rfl, hw1⟩; obtain rfl := hw1.symm) | (go_at_call 109; refine hc.mono ?_; clear hc; rintro e w5 ⟨rfl, hL5, hK5⟩))
  go_returns
  exact ⟨rfl, hL5.mono (by omega), hK1.out.trans hK5⟩
set_option maxRecDepth 100000 in
set_option maxHeartbeats 8000000 in
theorem should6 (x : Dd) (bv kv : Value) (hx : DdOk x) (hkind : x.kind % 10 = 6) (h : RLive w p n₀ m d K) (_ : m < 536870000) (hv : ∀ w', Kept K n₀ w w' → BytesIn w' bv x.b ∧ IntsIn w' kv x.keep) :
    Calls Tryz.prog 66 #[ddV x bv kv, ofBlock p] w fun e w' => e = .returned (.int .i64 ((d.fail x.n x.keep, (1000 : Int))).2) ∧ RLive w' p n₀ (m + 2) ((d.fail x.n x.keep, (1000 : Int))).1 K ∧ Kept K n₀ w w' := by
  have hbr := fun W => bring_any x.kind 10 (by omega) (by omega) hx.kind.1 hx.kind.2 W
  rw [hkind] at hbr
  have hB : Below w.heap.size w (w.alloc (.cells #[.int .i64 x.kind, .string x.name, .string x.to, bv, .int .i64 x.n, .int .i64 x.bit, kv] 48)) := (Below.refl _ _).alloc (Nat.le_refl _) _
  have hK1 := h.kept hB
  have h1 := h.below hB
  have hv1 := fun w' (hk : Kept K n₀ (w.alloc (.cells #[.int .i64 x.kind, .string x.name, .string x.to, bv, .int .i64 x.n, .int .i64 x.bit, kv] 48)) w') => hv w' (hK1.trans hk)
  have hc := rlive_fail x.n kv x.keep h1 hx.n.1 hx.n.2 (fun w' hk => (hv1 w' hk).2) (by have := hx.keep.2; omega)
  replace hx : Hid _ := hx
  replace hv : Hid _ := hv
  replace hv1 : Hid _ := hv1
  replace hK1 : Hid (Kept K n₀ w _) := hK1
  replace h1 : Hid (RLive _ p n₀ m d K) := h1
  replace h : Hid (RLive w p n₀ m d K) := h
  clear hB
  obtain ⟨kind, x1, x2, l, nn, bit, keep⟩ := x
  simp only [ddV] at *
  replace hkind : Hid _ := hkind
  unfold ofBlock at *
  go_enter Tryz.func66, Tryz.ntmps66
  go_wp2_with (first | (go_at_call 34; refine (hbr _).mono ?_; rintro e w1 ⟨rfl, hw1⟩; obtain rfl := hw1.symm) | (go_at_call 110; refine hc.mono ?_; clear hc; rintro e w5 ⟨rfl, hL5, hK5⟩))
  go_returns
  exact ⟨rfl, hL5.mono (by omega), hK1.out.trans hK5⟩
set_option maxRecDepth 100000 in
set_option maxHeartbeats 8000000 in
theorem should7 (x : Dd) (bv kv : Value) (hx : DdOk x) (hkind : x.kind % 10 = 7) (h : RLive w p n₀ m d K) (_ : m < 536870000) (hv : ∀ w', Kept K n₀ w w' → BytesIn w' bv x.b ∧ IntsIn w' kv x.keep) :
    Calls Tryz.prog 66 #[ddV x bv kv, ofBlock p] w fun e w' => e = .returned (.int .i64 ((d.boot, (1000 : Int))).2) ∧ RLive w' p n₀ (m + 2) ((d.boot, (1000 : Int))).1 K ∧ Kept K n₀ w w' := by
  have hbr := fun W => bring_any x.kind 10 (by omega) (by omega) hx.kind.1 hx.kind.2 W
  rw [hkind] at hbr
  have hB : Below w.heap.size w (w.alloc (.cells #[.int .i64 x.kind, .string x.name, .string x.to, bv, .int .i64 x.n, .int .i64 x.bit, kv] 48)) := (Below.refl _ _).alloc (Nat.le_refl _) _
  have hK1 := h.kept hB
  have h1 := h.below hB
  have hv1 := fun w' (hk : Kept K n₀ (w.alloc (.cells #[.int .i64 x.kind, .string x.name, .string x.to, bv, .int .i64 x.n, .int .i64 x.bit, kv] 48)) w') => hv w' (hK1.trans hk)
  have hc := rlive_boot h1
  replace hx : Hid _ := hx
  replace hv : Hid _ := hv
  replace hv1 : Hid _ := hv1
  replace hK1 : Hid (Kept K n₀ w _) := hK1
  replace h1 : Hid (RLive _ p n₀ m d K) := h1
  replace h : Hid (RLive w p n₀ m d K) := h
  clear hB
  obtain ⟨kind, x1, x2, l, nn, bit, keep⟩ := x
  simp only [ddV] at *
  replace hkind : Hid _ := hkind
  unfold ofBlock at *
  go_enter Tryz.func66, Tryz.ntmps66
  go_wp2_with (first | (go_at_call 34; refine (hbr _).mono ?_; rintro e w1 ⟨rfl, hw1⟩; obtain rfl := hw1.symm) | (go_at_call 111; refine hc.mono ?_; clear hc; rintro e w5 ⟨rfl, hL5, hK5⟩))
  go_returns
  exact ⟨rfl, hL5.mono (by omega), hK1.out.trans hK5⟩
set_option maxRecDepth 100000 in
set_option maxHeartbeats 8000000 in
theorem should8 (x : Dd) (bv kv : Value) (hx : DdOk x) (hkind : x.kind % 10 = 8) (h : RLive w p n₀ m d K) (hm : m < 536870000) (hv : ∀ w', Kept K n₀ w w' → BytesIn w' bv x.b ∧ IntsIn w' kv x.keep) :
    Calls Tryz.prog 66 #[ddV x bv kv, ofBlock p] w fun e w' => e = .returned (.int .i64 (d.turn x.name x.n x.bit).2) ∧ RLive w' p n₀ (m + 2) (d.turn x.name x.n x.bit).1 K ∧ Kept K n₀ w w' := by
  have hbr := fun W => bring_any x.kind 10 (by omega) (by omega) hx.kind.1 hx.kind.2 W
  rw [hkind] at hbr
  have hB : Below w.heap.size w (w.alloc (.cells #[.int .i64 x.kind, .string x.name, .string x.to, bv, .int .i64 x.n, .int .i64 x.bit, kv] 48)) := (Below.refl _ _).alloc (Nat.le_refl _) _
  have hK1 := h.kept hB
  have h1 := h.below hB
  have hv1 := fun w' (hk : Kept K n₀ (w.alloc (.cells #[.int .i64 x.kind, .string x.name, .string x.to, bv, .int .i64 x.n, .int .i64 x.bit, kv] 48)) w') => hv w' (hK1.trans hk)
  have hc := rlive_turn x.name x.n x.bit h1 (by omega) hx.n.1 hx.n.2 hx.bit.1 hx.bit.2
  replace hx : Hid _ := hx
  replace hv : Hid _ := hv
  replace hv1 : Hid _ := hv1
  replace hK1 : Hid (Kept K n₀ w _) := hK1
  replace h1 : Hid (RLive _ p n₀ m d K) := h1
  replace h : Hid (RLive w p n₀ m d K) := h
  clear hB
  obtain ⟨kind, x1, x2, l, nn, bit, keep⟩ := x
  simp only [ddV] at *
  replace hkind : Hid _ := hkind
  unfold ofBlock at *
  go_enter Tryz.func66, Tryz.ntmps66
  go_wp2_with (first | (go_at_call 34; refine (hbr _).mono ?_; rintro e w1 ⟨rfl, hw1⟩; obtain rfl := hw1.symm) | (go_at_call 112; refine hc.mono ?_; clear hc; rintro e w5 ⟨rfl, hL5, hK5⟩))
  go_returns
  exact ⟨rfl, hL5.mono (by omega), hK1.out.trans hK5⟩
set_option maxRecDepth 100000 in
set_option maxHeartbeats 8000000 in
theorem should9 (x : Dd) (bv kv : Value) (hx : DdOk x) (hkind : x.kind % 10 = 9) (h : RLive w p n₀ m d K) (hm : m < 536870000) (hv : ∀ w', Kept K n₀ w w' → BytesIn w' bv x.b ∧ IntsIn w' kv x.keep) :
    Calls Tryz.prog 66 #[ddV x bv kv, ofBlock p] w fun e w' => e = .returned (.int .i64 (d.cut x.name x.n).2) ∧ RLive w' p n₀ (m + 2) (d.cut x.name x.n).1 K ∧ Kept K n₀ w w' := by
  have hbr := fun W => bring_any x.kind 10 (by omega) (by omega) hx.kind.1 hx.kind.2 W
  rw [hkind] at hbr
  have hB : Below w.heap.size w (w.alloc (.cells #[.int .i64 x.kind, .string x.name, .string x.to, bv, .int .i64 x.n, .int .i64 x.bit, kv] 48)) := (Below.refl _ _).alloc (Nat.le_refl _) _
  have hK1 := h.kept hB
  have h1 := h.below hB
  have hv1 := fun w' (hk : Kept K n₀ (w.alloc (.cells #[.int .i64 x.kind, .string x.name, .string x.to, bv, .int .i64 x.n, .int .i64 x.bit, kv] 48)) w') => hv w' (hK1.trans hk)
  have hc := rlive_cut x.name x.n h1 (by omega) hx.n.1 hx.n.2
  replace hx : Hid _ := hx
  replace hv : Hid _ := hv
  replace hv1 : Hid _ := hv1
  replace hK1 : Hid (Kept K n₀ w _) := hK1
  replace h1 : Hid (RLive _ p n₀ m d K) := h1
  replace h : Hid (RLive w p n₀ m d K) := h
  clear hB
  obtain ⟨kind, x1, x2, l, nn, bit, keep⟩ := x
  simp only [ddV] at *
  replace hkind : Hid _ := hkind
  unfold ofBlock at *
  go_enter Tryz.func66, Tryz.ntmps66
  go_wp2_with (first | (go_at_call 34; refine (hbr _).mono ?_; rintro e w1 ⟨rfl, hw1⟩; obtain rfl := hw1.symm) | (go_at_call 113; refine hc.mono ?_; clear hc; rintro e w5 ⟨rfl, hL5, hK5⟩))
  go_returns
  exact ⟨rfl, hL5.mono (by omega), hK1.out.trans hK5⟩
theorem should_any (x : Dd) (bv kv : Value) (hx : DdOk x) (h : RLive w p n₀ m d K) (hm : m < 536870000) (hv : ∀ w', Kept K n₀ w w' → BytesIn w' bv x.b ∧ IntsIn w' kv x.keep) :
    Calls Tryz.prog 66 #[ddV x bv kv, ofBlock p] w fun e w' => e = .returned (.int .i64 (actR d (x.kind % 10).toNat x).2) ∧ RLive w' p n₀ (m + 2) (actR d (x.kind % 10).toNat x).1 K ∧ Kept K n₀ w w' := by
  have h1 := Int.emod_nonneg x.kind (b := 10) (by omega)
  have h2 := Int.emod_lt_of_pos x.kind (b := 10) (by omega)
  rcases (show x.kind % 10 = 0 ∨ x.kind % 10 = 1 ∨ x.kind % 10 = 2 ∨ x.kind % 10 = 3 ∨ x.kind % 10 = 4 ∨ x.kind % 10 = 5 ∨ x.kind % 10 = 6 ∨ x.kind % 10 = 7 ∨ x.kind % 10 = 8 ∨ x.kind % 10 = 9 by omega) with hk | hk | hk | hk | hk | hk | hk | hk | hk | hk
  · rw [hk]; exact should0 x bv kv hx hk h hm hv
  · rw [hk]; exact should1 x bv kv hx hk h hm hv
  · rw [hk]; exact should2 x bv kv hx hk h hm hv
  · rw [hk]; exact should3 x bv kv hx hk h hm hv
  · rw [hk]; exact should4 x bv kv hx hk h hm hv
  · rw [hk]; exact should5 x bv kv hx hk h hm hv
  · rw [hk]; exact should6 x bv kv hx hk h hm hv
  · rw [hk]; exact should7 x bv kv hx hk h hm hv
  · rw [hk]; exact should8 x bv kv hx hk h hm hv
  · rw [hk]; exact should9 x bv kv hx hk h hm hv
end Go.Proofs.YtmcmagplaflegaaGreat
