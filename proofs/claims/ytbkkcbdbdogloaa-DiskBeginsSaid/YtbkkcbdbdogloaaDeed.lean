/-
  A deed done. Conditions: those of each theorem.
-/
import Derived.Test.YtbkkcbdbdogloaaNa
namespace Go.Proofs.Ytbkkcbdbdogloaa
open Go Go.RowKit Go.MapL Go.Poised
variable {p n₀ : Nat} {r : Rep} {s : DS}

/-- A deed, plainly. -/
structure Dd where
  kind : Int
  name : ByteArray
  to : ByteArray
  b : List Nat
  n : Int
  bit : Int
  keep : List Int
/-- Its value: where its bytes lie, and what is kept. -/
def ddV (d : Dd) (bv kv : Value) : Value := .agg #[.int .i64 d.kind, .string d.name, .string d.to, bv, .int .i64 d.n, .int .i64 d.bit, kv]
def okName (y : ByteArray) : Bool := decide (1 ≤ y.size) && decide (y.size ≤ 40)
/-- What comes of a deed of the first five kinds. -/
def act (s : DS) (k : Nat) (x y : ByteArray) (l : List Nat) : DS × Int :=
  match k with
  | 0 => s.append x l
  | 1 => (s.sync x, (ofRes s x true).2)
  | 2 => (s.rename x y, (ofRes s x (okName y)).2)
  | 3 => (s.remove x, (ofRes s x true).2)
  | _ => (s.syncNames, if s.dead then 51 else 0)

theorem Turns.first {w w1 w' : World} {s' : DS} (_ : Lies w p n₀ r s) (hb : Below w.heap.size w w1) (h : Turns w1 w' p n₀ r s s') : Turns w w' p n₀ r s s' :=
  Turns.step (Grown.of_below hb) (fun _ hk => .inl hk) h
set_option maxRecDepth 100000 in
set_option maxHeartbeats 8000000 in
theorem deed_at (d : Dd) (bv kv : Value) (k : Nat) (hk : k < 5) (hkind : d.kind % 10 = k) (h1 : -9223372036854775808 ≤ d.kind) (h2 : d.kind ≤ 9223372036854775807) (w : World) (h : Lies w p n₀ r s) (hwf : WF s) (hbirths : s.births < 1073741824) (hworks : s.works.length < 1073741824) (hlen : d.b.length ≤ 4611686018427387904) (hn : n₀ ≤ w.heap.size)
    (hsep : ∀ w', Grown (foot p r s) w w' → BytesIn w' bv d.b) :
    Calls Try.prog 10 #[ddV d bv kv, ofBlock p] w fun e w' => e = .returned (.int .i64 (act s k d.name d.to d.b).2) ∧ Turns w w' p n₀ r s (act s k d.name d.to d.b).1 := by
  obtain ⟨kind, x, y, l, nn, bit, keep⟩ := d
  have hL0 := h
  have hbr := fun W => bring_any kind 10 (by omega) (by omega) h1 h2 W
  simp only at hkind hlen hsep
  rw [hkind] at hbr
  have hB : Below w.heap.size w (w.alloc (.cells #[.int .i64 kind, .string x, .string y, bv, .int .i64 nn, .int .i64 bit, kv] 30)) := (Below.refl _ _).alloc (Nat.le_refl _) _
  have hL1 := h.below hB
  have hn1 : n₀ ≤ (w.alloc (.cells #[.int .i64 kind, .string x, .string y, bv, .int .i64 nn, .int .i64 bit, kv] 30)).heap.size := Nat.le_trans hn hB.size
  have hsep1 : ∀ w', Grown (foot p r s) (w.alloc (.cells #[.int .i64 kind, .string x, .string y, bv, .int .i64 nn, .int .i64 bit, kv] 30)) w' → BytesIn w' bv l := fun w' hw' => hsep w' ((Grown.of_below hB).trans hw' (fun _ hx => .inl hx))
  unfold ddV
  simp only
  unfold act
  match k, hk with
  | 0, _ =>
    have hc := append_at x bv l _ hL1 hwf hbirths hworks hlen hn1 hsep1
    clear hsep hsep1 hkind
    unfold ofBlock at *
    go_enter Try.func10, Try.ntmps10
    go_wp2_with (first | (go_at_call 20; refine (hbr _).mono ?_; rintro e w' ⟨rfl, hw'⟩; obtain rfl := hw'.symm) | (go_at_call 11; refine hc.mono ?_; rintro e w5 ⟨rfl, ht⟩))
    go_returns
    exact ⟨rfl, Turns.first hL0 hB ht⟩
  | 1, _ =>
    have hc := sync_at x _ hL1 hwf
    clear hsep hsep1 hkind
    unfold ofBlock at *
    go_enter Try.func10, Try.ntmps10
    go_wp2_with (first | (go_at_call 20; refine (hbr _).mono ?_; rintro e w' ⟨rfl, hw'⟩; obtain rfl := hw'.symm) | (go_at_call 12; refine hc.mono ?_; rintro e w5 ⟨rfl, ht⟩))
    go_returns
    exact ⟨rfl, Turns.first hL0 hB ht⟩
  | 2, _ =>
    have hc := rename_at x y _ hL1 hworks hn1
    clear hsep hsep1 hkind
    unfold ofBlock at *
    go_enter Try.func10, Try.ntmps10
    go_wp2_with (first | (go_at_call 20; refine (hbr _).mono ?_; rintro e w' ⟨rfl, hw'⟩; obtain rfl := hw'.symm) | (go_at_call 26; refine hc.mono ?_; rintro e w5 ⟨rfl, ht⟩))
    go_returns
    exact ⟨rfl, Turns.first hL0 hB ht⟩
  | 3, _ =>
    have hc := remove_at x _ hL1 hworks hn1
    clear hsep hsep1 hkind
    unfold ofBlock at *
    go_enter Try.func10, Try.ntmps10
    go_wp2_with (first | (go_at_call 20; refine (hbr _).mono ?_; rintro e w' ⟨rfl, hw'⟩; obtain rfl := hw'.symm) | (go_at_call 22; refine hc.mono ?_; rintro e w5 ⟨rfl, ht⟩))
    go_returns
    exact ⟨rfl, Turns.first hL0 hB ht⟩
  | 4, _ =>
    have hc := syncNames_at _ hL1
    simp only
    generalize (if s.dead = true then (51 : Int) else 0) = c51 at hc ⊢
    clear hsep hsep1 hkind
    unfold ofBlock at *
    go_enter Try.func10, Try.ntmps10
    go_wp2_with (first | (go_at_call 20; refine (hbr _).mono ?_; rintro e w' ⟨rfl, hw'⟩; obtain rfl := hw'.symm) | (go_at_call 13; refine hc.mono ?_; rintro e w5 ⟨rfl, ht⟩))
    go_returns
    exact ⟨rfl, Turns.first hL0 hB ht⟩
end Go.Proofs.Ytbkkcbdbdogloaa
