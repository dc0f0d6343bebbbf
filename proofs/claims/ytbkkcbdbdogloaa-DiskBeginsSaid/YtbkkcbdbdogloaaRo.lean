/-
  DiskRoom. Conditions: those of each theorem.
-/
import Derived.Test.YtbkkcbdbdogloaaAw
import Derived.Laws.MakeOwn
namespace Go.Proofs.Ytbkkcbdbdogloaa
open Go Go.RowKit Go.MapL Go.Poised
variable {p n₀ : Nat} {r : Rep} {s : DS} {m : Nat}

def zer (k : Nat) : List Nat := List.replicate k 0
theorem zer_len (k : Nat) : (zer k).length = k := by simp [zer]
theorem zer_byte (k : Nat) : ∀ x ∈ zer k, x < 256 := fun x hx => by have := List.eq_of_mem_replicate hx; omega
theorem Turns.here {w w' : World} {s' : DS} (hL : Lies w p n₀ r s) (hn : n₀ ≤ w.heap.size) (h : Turns w w' p n₀ r s s') : (∃ r', Lies w' p n₀ r' s') ∧ Below n₀ w w' := by
  have hb := h.below hL hn
  obtain ⟨r', h1, _⟩ := h
  exact ⟨⟨r', h1⟩, hb⟩
theorem bytes_row {W : World} {B n : Nat} {fz : Nat × Nat} (l : List Nat) (hB : W.heap[B]? = some (.cells (encB l).toArray 5 fz)) (h1 : ∀ x ∈ l, x < 256) (h2 : l.length ≤ 1000000) : BytesIn W (.slice (some ⟨B, 0, none⟩) l.length n) l := by
  refine ⟨h1, by omega, .inr (.inr ⟨B, 0, n, rfl, fun k hk => ?_⟩)⟩
  have := encB_get l k hk
  simp only [World.cell?, hB, Option.isSome_none, Bool.false_eq_true, if_false, Nat.zero_add]
  rw [← this]; simp
theorem append_new {w : World} (x : ByteArray) (k : Nat) (hk : k ≤ 1000) (hL : Lies w p n₀ r s) (hs : Sound m s) (hm : m < 536870912) (hn : n₀ ≤ w.heap.size) :
    Calls Try.prog 11 #[ofBlock p, .string x, .slice (some ⟨w.heap.size, 0, none⟩) k k] (w.alloc (.cells (encB (zer k)).toArray 5)) fun e w' => e = .returned (.int .i64 (s.append x (zer k)).2) ∧ (∃ r', Lies w' p n₀ r' (s.append x (zer k)).1) ∧ Below n₀ w w' := by
  have hB : Below w.heap.size w (w.alloc (.cells (encB (zer k)).toArray 5)) := (Below.refl _ _).alloc (Nat.le_refl _) _
  have hL1 := hL.below hB
  have hn1 : n₀ ≤ (w.alloc (.cells (encB (zer k)).toArray 5)).heap.size := Nat.le_trans hn hB.size
  refine (append_at x _ (zer k) _ hL1 hs.wf (by have := hs.nb; omega) (by have := hs.nw; omega) (by rw [zer_len]; omega) hn1 ?_).mono ?_
  · intro w' hg
    have := bytes_row (W := w') (B := w.heap.size) (n := k) (fz := (0, 0)) (zer k) ?_ (zer_byte k) (by rw [zer_len]; omega)
    · rw [zer_len] at this; exact this
    · refine (hg.block _ (by simp) (fun hf => ?_)).trans (heap_new _ _)
      have := (hL.foot_lt _ hf).1
      omega
  · rintro e w' ⟨rfl, ht⟩
    obtain ⟨h1, h2⟩ := ht.here hL1 hn1
    exact ⟨rfl, h1, (hB.mono hn).trans h2⟩
theorem run_make_bytes (k : Nat) (hk : k ≤ 1000) (w : World) : (Instr.makeSlice 28 (.int .i64 k) (.int .i64 k)).run Try.prog w = .ok (.slice (some ⟨w.heap.size, 0, none⟩) k k) (w.alloc (.cells (encB (zer k)).toArray 5)) := by
  obtain ⟨i, hi, hi2⟩ := Option.map_eq_some_iff.1 info5
  simp only [Prod.mk.injEq] at hi2
  obtain ⟨hz, hs, hb⟩ := hi2
  have := run_make (P := Try.prog) w 28 5 i (.int .u8 0) Try.underlying28 hi hz .i64 .i64 k k (by omega) (by omega) (by rw [hb]; omega) (by omega)
  rw [this, hs]
  have e : madeCells (Value.cells (.int .u8 0)) ((k : Int).toNat * 1) = (encB (zer k)).toArray := by
    simp only [Int.toNat_natCast, Nat.mul_one]
    unfold encB zer
    rw [List.map_replicate]
    apply Array.ext'
    simp [madeCells, Value.cells]
    have : (fun x : Nat => [Value.int .u8 0][x % 1]?.getD default) = fun _ => Value.int .u8 0 := by funext x; simp [Nat.mod_one]
    rw [this, List.map_const']; simp
  rw [e]
  simp

/-! ### the states -/
theorem ta_ne_tb : ta ≠ tb := by decide
theorem e_ne_ta : (⟨#[]⟩ : ByteArray) ≠ ta := by decide
theorem e_ne_tb : (⟨#[]⟩ : ByteArray) ≠ tb := by decide
def R1 (r k : Nat) : DS := ((DS.new r).born.renamed ⟨#[]⟩ ta (some 1)).grow 1 (zer k)
theorem used0 (r : Nat) : usedOf (DS.new r) = 0 := rfl
theorem ok_ta : (decide (1 ≤ ta.size) && decide (ta.size ≤ 40)) = true := by decide
theorem ok_tb : (decide (1 ≤ tb.size) && decide (tb.size ≤ 40)) = true := by decide
theorem room1 (r k : Nat) (h : k ≤ r) : (DS.new r).append ta (zer k) = (R1 r k, 0) := by
  unfold DS.append
  rw [ok_ta, used0, zer_len, if_neg (by simp [DS.new]), if_neg (by simp), if_neg (by show ¬ r < 0 + k; omega)]
  rfl
theorem room1_no (r k : Nat) (h : ¬ k ≤ r) : (DS.new r).append ta (zer k) = (DS.new r, 52) := by
  unfold DS.append
  rw [ok_ta, used0, zer_len, if_neg (by simp [DS.new]), if_neg (by simp), if_pos (by show r < 0 + k; omega)]
def R3 (r k : Nat) : DS := (R1 r k).syncNames.remove ta
theorem R3_used (r k : Nat) : usedOf (R3 r k) = k := by
  show ((List.range 1).map fun j => if held (R3 r k) (j + 1) then ((R3 r k).file (j + 1)).b.length else 0).sum = k
  have h1 : held (R3 r k) 1 = true := rfl
  have h2 : ((R3 r k).file 1).b.length = k := by show (([] : List Nat) ++ zer k).length = k; simp [zer]
  simp [List.range, List.range.loop, h1, h2]
theorem room3 (r k n : Nat) (h : k + n ≤ r) : (R3 r k).append tb (zer n) = (((R3 r k).born.renamed ⟨#[]⟩ tb (some 2)).grow 2 (zer n), 0) := by
  unfold DS.append
  rw [ok_tb, R3_used, zer_len, if_neg (by show ¬ false = true; simp), if_neg (by simp), if_neg (by show ¬ r < k + n; omega)]
  rfl
theorem room3_no (r k n : Nat) (h : ¬ k + n ≤ r) : (R3 r k).append tb (zer n) = (R3 r k, 52) := by
  unfold DS.append
  rw [ok_tb, R3_used, zer_len, if_neg (by show ¬ false = true; simp), if_neg (by simp), if_pos (by show r < k + n; omega)]
def R4 (r k n : Nat) : DS := ((R3 r k).born.renamed ⟨#[]⟩ tb (some 2)).grow 2 (zer n)
theorem R4_used (r k n : Nat) : usedOf (R4 r k n) = k + n := by
  show ((List.range 2).map fun j => if held (R4 r k n) (j + 1) then ((R4 r k n).file (j + 1)).b.length else 0).sum = k + n
  have h1 : held (R4 r k n) 1 = true := rfl
  have h2 : ((R4 r k n).file 1).b.length = k := by show (([] : List Nat) ++ zer k).length = k; simp [zer]
  have h3 : held (R4 r k n) 2 = true := rfl
  have h4 : ((R4 r k n).file 2).b.length = n := by show (([] : List Nat) ++ zer n).length = n; simp [zer]
  simp [List.range, List.range.loop, h1, h2, h3, h4]
theorem R5_used (r k n : Nat) : usedOf (R4 r k n).syncNames = n := by
  show ((List.range 2).map fun j => if held (R4 r k n).syncNames (j + 1) then ((R4 r k n).syncNames.file (j + 1)).b.length else 0).sum = n
  have h1 : held (R4 r k n).syncNames 1 = false := rfl
  have h3 : held (R4 r k n).syncNames 2 = true := rfl
  have h4 : ((R4 r k n).syncNames.file 2).b.length = n := by show (([] : List Nat) ++ zer n).length = n; simp [zer]
  simp [List.range, List.range.loop, h1, h3, h4]
theorem room5 (r k n : Nat) (h : k + n ≤ r) : ((R4 r k n).syncNames.append tb (zer k)).2 = 0 := by
  unfold DS.append
  rw [ok_tb, R5_used, zer_len, if_neg (by show ¬ false = true; simp), if_neg (by simp), if_neg (by show ¬ r < n + k; omega)]
theorem R3s_used (r k : Nat) : usedOf (R3 r k).syncNames = 0 := by
  show ((List.range 1).map fun j => if held (R3 r k).syncNames (j + 1) then ((R3 r k).syncNames.file (j + 1)).b.length else 0).sum = 0
  have h1 : held (R3 r k).syncNames 1 = false := rfl
  simp [List.range, List.range.loop, h1]
theorem room5_no (r k : Nat) (h : k ≤ r) : ((R3 r k).syncNames.append tb (zer k)).2 = 0 := by
  unfold DS.append
  rw [ok_tb, R3s_used, zer_len, if_neg (by show ¬ false = true; simp), if_neg (by simp), if_neg (by show ¬ r < 0 + k; omega)]

set_option maxRecDepth 100000 in
set_option maxHeartbeats 16000000 in
theorem room_law (room a b : Int) (h1 : -9223372036854775808 ≤ room ∧ room ≤ 9223372036854775807) (h2 : -9223372036854775808 ≤ a ∧ a ≤ 9223372036854775807) (h3 : -9223372036854775808 ≤ b ∧ b ≤ 9223372036854775807) (w : World) :
    Calls Try.prog 6 #[.int .i64 room, .int .i64 a, .int .i64 b] w fun e w' => e = .returned (.bool true) ∧ Below w.heap.size w w' := by
  obtain ⟨r, hr⟩ : ∃ r : Nat, room % 201 = r := ⟨(room % 201).toNat, by omega⟩
  obtain ⟨m, hm⟩ : ∃ m : Nat, a % 150 = m := ⟨(a % 150).toNat, by omega⟩
  obtain ⟨n, hn⟩ : ∃ n : Nat, b % 150 = n := ⟨(b % 150).toNat, by omega⟩
  have hr2 : r < 201 := by omega
  have hm2 : m < 150 := by omega
  have hn2 : n < 150 := by omega
  have q1 := fun W => bring_any room 201 (by omega) (by omega) h1.1 h1.2 W
  have q2 := fun W => bring_any a 150 (by omega) (by omega) h2.1 h2.2 W
  have q3 := fun W => bring_any b 150 (by omega) (by omega) h3.1 h3.2 W
  rw [hr] at q1
  rw [hm] at q2
  rw [hn] at q3
  replace hr : Hid _ := hr
  replace hm : Hid _ := hm
  replace hn : Hid _ := hn
  have hnew := new_at r (by omega) w
  have hs0 := sound_new (room := r) (by omega)
  have hmk1 := run_make_bytes m (by omega)
  have hmk2 := run_make_bytes n (by omega)
  have i1 : IntKind.i64.wrap ((m : Int) + n) = (m : Int) + n := IntWalk.i64_in _ (by omega)
  have i2 : IntKind.i64.wrap ((r : Int) - m) = (r : Int) - m := IntWalk.i64_in _ (by omega)
  have i3 : IntKind.i64.wrap ((r : Int) - m - n) = (r : Int) - m - n := IntWalk.i64_in _ (by omega)
  clear h1 h2 h3
  by_cases hmr : m ≤ r
  · have hmr' : (m : Int) ≤ r := by omega
    have hs1 : Sound 2 (R1 r m) := by
      have := sound_append hs0 (by omega) ta (zer m) (zer_byte m)
      rw [room1 r m hmr] at this; exact this
    have hs2 : Sound 2 (R1 r m).syncNames := sound_syncNames hs1
    have hs3 : Sound 3 (R3 r m) := sound_remove hs2 (by omega) ta
    have e1 := room1 r m hmr
    by_cases hmn : m + n ≤ r
    · have hmn' : (m : Int) + n ≤ r := by omega
      have e3 : (R3 r m).append tb (zer n) = (R4 r m n, 0) := room3 r m n hmn
      have hs4 : Sound 5 (R4 r m n) := by
        have := sound_append hs3 (by omega) tb (zer n) (zer_byte n)
        rw [e3] at this; exact this
      have hs5 : Sound 5 (R4 r m n).syncNames := sound_syncNames hs4
      have e5 := room5 r m n hmn
      have i4 : ((r : Int) - ((m + n : Nat) : Int)) = (r : Int) - m - n := by omega
      go_enter Try.func6, Try.ntmps6
      go_wp2_with (first
        | (go_at_call 20; refine (q1 _).mono ?_; clear q1; rintro e w' ⟨rfl, hw'⟩; obtain rfl := hw'.symm)
        | (go_at_call 20; refine (q2 _).mono ?_; clear q2; rintro e w' ⟨rfl, hw'⟩; obtain rfl := hw'.symm)
        | (go_at_call 20; refine (q3 _).mono ?_; clear q3; rintro e w' ⟨rfl, hw'⟩; obtain rfl := hw'.symm)
        | (go_at_call 8; refine hnew.mono ?_; rintro e w1 ⟨rfl, hb1, hz1, r1, hL1⟩; replace hz1 : Hid _ := hz1; have hap := append_new ta m (by omega) hL1 hs0 (by omega) hb1.size; rw [e1] at hap; unfold ofBlock at *)
        | (go_at_call 11; refine hap.mono ?_; clear hap; rintro e w2 ⟨rfl, ⟨r2, hL2⟩, hb2⟩; have hB2 := hb1.trans hb2; have hsy := syncNames_at w2 hL2; unfold ofBlock at hsy)
        | (go_at_call 13; refine hsy.mono ?_; clear hsy; rintro e w3 ⟨rfl, ht⟩; obtain ⟨⟨r3, hL3⟩, hb3⟩ := ht.here hL2 hB2.size; have hB3 := hB2.trans hb3; have hre := remove_at ta w3 hL3 (by have := hs2.nw; omega) hB3.size; unfold ofBlock at hre)
        | (go_at_call 22; refine hre.mono ?_; clear hre; rintro e w4 ⟨rfl, ht⟩; obtain ⟨⟨r4, hL4⟩, hb4⟩ := ht.here hL3 hB3.size; replace hL4 : Lies w4 _ _ r4 (R3 r m) := hL4; have hB4 := hB3.trans hb4; have hap2 := append_new tb n (by omega) hL4 hs3 (by omega) hB4.size; rw [e3] at hap2; unfold ofBlock at hap2)
        | (go_at_call 11; refine hap2.mono ?_; clear hap2; rintro e w5 ⟨rfl, ⟨r5, hL5⟩, hb5⟩; have hB5 := hB4.trans hb5; have hle := left_at w5 hL5 hs4.wf; rw [R4_used] at hle; change Calls _ _ _ _ (fun e w' => e = .returned (.int .i64 ((r : Int) - (m + n : Nat))) ∧ _) at hle; unfold ofBlock at hle)
        | (go_at_call 21; refine hle.mono ?_; clear hle; rintro e w6 ⟨rfl, hb6⟩; have hB5 := hB5.trans (hb6.mono hB5.size); replace hL5 := hL5.below hb6; have hle := left_at w6 hL5 hs4.wf; rw [R4_used] at hle; change Calls _ _ _ _ (fun e w' => e = .returned (.int .i64 ((r : Int) - (m + n : Nat))) ∧ _) at hle; unfold ofBlock at hle; have hsy2 := syncNames_at w6 hL5; unfold ofBlock at hsy2)
        | (go_at_call 13; refine hsy2.mono ?_; clear hsy2; rintro e w7 ⟨rfl, ht⟩; obtain ⟨⟨r7, hL7⟩, hb7⟩ := ht.here hL5 hB5.size; have hB7 := hB5.trans hb7; have hap3 := append_new tb m (by omega) hL7 hs5 (by omega) hB7.size; rw [e5] at hap3; unfold ofBlock at hap3)
        | (go_at_call 11; refine hap3.mono ?_; clear hap3; rintro e w8 ⟨rfl, _, hb8⟩; have hB8 := hB7.trans hb8)
        | (go_at_call 18; refine (awake_any _).mono ?_; rintro e w9 ⟨rfl, hb9⟩; have hB9 := hB8.trans (hb9.mono hB8.size)))
      all_goals (go_returns; exact ⟨rfl, hB9⟩)
    · have hmn' : ¬ (m : Int) + n ≤ r := by omega
      have e3 : (R3 r m).append tb (zer n) = (R3 r m, 52) := room3_no r m n hmn
      have hs4 : Sound 3 (R3 r m) := hs3
      have hs5 : Sound 3 (R3 r m).syncNames := sound_syncNames hs4
      have e5 := room5_no r m hmr
      go_enter Try.func6, Try.ntmps6
      go_wp2_with (first
        | (go_at_call 20; refine (q1 _).mono ?_; clear q1; rintro e w' ⟨rfl, hw'⟩; obtain rfl := hw'.symm)
        | (go_at_call 20; refine (q2 _).mono ?_; clear q2; rintro e w' ⟨rfl, hw'⟩; obtain rfl := hw'.symm)
        | (go_at_call 20; refine (q3 _).mono ?_; clear q3; rintro e w' ⟨rfl, hw'⟩; obtain rfl := hw'.symm)
        | (go_at_call 8; refine hnew.mono ?_; rintro e w1 ⟨rfl, hb1, hz1, r1, hL1⟩; replace hz1 : Hid _ := hz1; have hap := append_new ta m (by omega) hL1 hs0 (by omega) hb1.size; rw [e1] at hap; unfold ofBlock at *)
        | (go_at_call 11; refine hap.mono ?_; clear hap; rintro e w2 ⟨rfl, ⟨r2, hL2⟩, hb2⟩; have hB2 := hb1.trans hb2; have hsy := syncNames_at w2 hL2; unfold ofBlock at hsy)
        | (go_at_call 13; refine hsy.mono ?_; clear hsy; rintro e w3 ⟨rfl, ht⟩; obtain ⟨⟨r3, hL3⟩, hb3⟩ := ht.here hL2 hB2.size; have hB3 := hB2.trans hb3; have hre := remove_at ta w3 hL3 (by have := hs2.nw; omega) hB3.size; unfold ofBlock at hre)
        | (go_at_call 22; refine hre.mono ?_; clear hre; rintro e w4 ⟨rfl, ht⟩; obtain ⟨⟨r4, hL4⟩, hb4⟩ := ht.here hL3 hB3.size; replace hL4 : Lies w4 _ _ r4 (R3 r m) := hL4; have hB4 := hB3.trans hb4; have hap2 := append_new tb n (by omega) hL4 hs3 (by omega) hB4.size; rw [e3] at hap2; unfold ofBlock at hap2)
        | (go_at_call 11; refine hap2.mono ?_; clear hap2; rintro e w5 ⟨rfl, ⟨r5, hL5⟩, hb5⟩; have hB5 := hB4.trans hb5; have hle := left_at w5 hL5 hs4.wf; rw [R3_used] at hle; change Calls _ _ _ _ (fun e w' => e = .returned (.int .i64 ((r : Int) - (m : Nat))) ∧ _) at hle; unfold ofBlock at hle)
        | (go_at_call 21; refine hle.mono ?_; clear hle; rintro e w6 ⟨rfl, hb6⟩; have hB5 := hB5.trans (hb6.mono hB5.size); replace hL5 := hL5.below hb6; have hle := left_at w6 hL5 hs4.wf; rw [R3_used] at hle; change Calls _ _ _ _ (fun e w' => e = .returned (.int .i64 ((r : Int) - (m : Nat))) ∧ _) at hle; unfold ofBlock at hle; have hsy2 := syncNames_at w6 hL5; unfold ofBlock at hsy2)
        | (go_at_call 13; refine hsy2.mono ?_; clear hsy2; rintro e w7 ⟨rfl, ht⟩; obtain ⟨⟨r7, hL7⟩, hb7⟩ := ht.here hL5 hB5.size; have hB7 := hB5.trans hb7; have hap3 := append_new tb m (by omega) hL7 hs5 (by omega) hB7.size; rw [e5] at hap3; unfold ofBlock at hap3)
        | (go_at_call 11; refine hap3.mono ?_; clear hap3; rintro e w8 ⟨rfl, _, hb8⟩; have hB8 := hB7.trans hb8)
        | (go_at_call 18; refine (awake_any _).mono ?_; rintro e w9 ⟨rfl, hb9⟩; have hB9 := hB8.trans (hb9.mono hB8.size)))
      go_returns
      exact ⟨rfl, hB9⟩
  · have hmr' : ¬ (m : Int) ≤ r := by omega
    have e1 := room1_no r m hmr
    go_enter Try.func6, Try.ntmps6
    go_wp2_with (first
      | (go_at_call 20; refine (q1 _).mono ?_; clear q1; rintro e w' ⟨rfl, hw'⟩; obtain rfl := hw'.symm) | (go_at_call 20; refine (q2 _).mono ?_; clear q2; rintro e w' ⟨rfl, hw'⟩; obtain rfl := hw'.symm) | (go_at_call 20; refine (q3 _).mono ?_; clear q3; rintro e w' ⟨rfl, hw'⟩; obtain rfl := hw'.symm)
      | (go_at_call 8; refine hnew.mono ?_; rintro e w1 ⟨rfl, hb1, hz1, r1, hL1⟩; replace hz1 : Hid _ := hz1; have hap := append_new ta m (by omega) hL1 hs0 (by omega) hb1.size; rw [e1] at hap; have hle := left_at w1 hL1 hs0.wf; unfold ofBlock at *)
      | (go_at_call 11; refine hap.mono ?_; clear hap; rintro e w2 ⟨rfl, ⟨r2, hL2⟩, hb2⟩; have hna := names_at w2 hL2 hs0.tn (by have := hs0.nn; omega); have e2 : namesOf (DS.new r) = [] := names_none rfl; rw [e2] at hna; unfold ofBlock at hna)
      | (go_at_call 19; refine hna.mono ?_; clear hna; rintro e w3 ⟨v, rfl, hrow, hb3⟩; obtain ⟨vq, vcap, rfl⟩ := own_shape hrow; have hle := left_at w3 (hL2.below hb3) hs0.wf; rw [used0] at hle; change Calls _ _ _ _ (fun e w' => e = .returned (.int .i64 ((r : Int) - (0 : Nat))) ∧ _) at hle; rw [show (r : Int) - (0 : Nat) = r by omega] at hle; unfold ofBlock at hle)
      | (go_at_call 21; refine hle.mono ?_; rintro e w4 ⟨rfl, hb4⟩)
      | (go_at_call 18; refine (awake_any _).mono ?_; rintro e w5 ⟨rfl, hb5⟩))
    go_returns
    have hB3 := hb2.trans (hb3.mono (Nat.le_trans hb1.size hb2.size))
    exact ⟨rfl, (((hb1.trans hB3).trans (hb4.mono (hb1.trans hB3).size)).trans (hb5.mono ((hb1.trans hB3).trans (hb4.mono (hb1.trans hB3).size)).size))⟩
end Go.Proofs.Ytbkkcbdbdogloaa
