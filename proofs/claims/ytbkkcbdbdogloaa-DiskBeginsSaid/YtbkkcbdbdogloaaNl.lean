/-
  ONE DEED MADE NEAR, in a loop. Conditions: those of each theorem.
-/
import Derived.Test.YtbkkcbdbdogloaaKq
import Derived.Test.YtbkkcbdbdogloaaRo
namespace Go.Proofs.Ytbkkcbdbdogloaa
open Go Go.RowKit Go.MapL Go.Poised
variable {p n₀ : Nat} {r : Rep} {s : DS}

theorem near_kind (d : Dd) : (d.near.kind % 10).toNat < 5 ∧ d.near.kind % 10 = ((d.near.kind % 10).toNat : Nat) ∧ -9223372036854775808 ≤ d.near.kind ∧ d.near.kind ≤ 9223372036854775807 := by
  show (d.kind % 5 % 10).toNat < 5 ∧ d.kind % 5 % 10 = ((d.kind % 5 % 10).toNat : Nat) ∧ _ ≤ d.kind % 5 ∧ d.kind % 5 ≤ _
  omega
theorem near_len (d : Dd) : d.near.b.length ≤ 30 := by show (d.b.take 30).length ≤ 30; simp; omega
/-- What a near deed does, plainly. -/
def actN (s : DS) (d : Dd) : DS × Int := act s (d.near.kind % 10).toNat d.near.name d.near.to d.near.b
/-- 'does' of a deed made near whose value came from the start world's memory. -/
theorem deedN {w0 w : World} (d : Dd) (q : Option Addr) (cap : Nat) (kv : Value) (hb : BytesIn w0 (.slice q d.b.length cap) d.b) (hw : Below w0.heap.size w0 w) (hn : n₀ = w0.heap.size) (h : Lies w p n₀ r s) {n : Nat} (hs : Near n s) (hn2 : n ≤ 1000) :
    Calls Try.prog 10 #[ddV d.near (.slice q (min d.b.length 30) cap) kv, ofBlock p] w fun e w' => e = .returned (.int .i64 (actN s d).2) ∧ Turns w w' p n₀ r s (actN s d).1 := by
  have hk := near_kind d
  have hbl := near_len d
  have hsn := hs.sound
  refine deed_at d.near _ kv _ hk.1 hk.2.1 hk.2.2.1 hk.2.2.2 w h hsn.wf (by have := hsn.nb; omega) (by have := hsn.nw; omega) (by omega) (by rw [hn]; exact hw.size) ?_
  intro w' hg
  have hb2 : Below w0.heap.size w0 w' := hw.trans (by rw [← hn]; exact hg.below (by rw [hn]; exact hw.size) (fun k hk => (h.foot_lt k hk).2))
  obtain ⟨_, _, _, e, h5, _⟩ := (hb.below hb2).take (min d.b.length 30) (by omega)
  cases e
  have : d.near.b = d.b.take (min d.b.length 30) := by
    show d.b.take 30 = _
    rw [List.take_eq_take_iff]; omega
  rw [this]; exact h5
theorem nearN {n : Nat} (hs : Near n s) (hn : n ≤ 1000) (d : Dd) (hb : ∀ x ∈ d.b, x < 256) : Near (n + 1) (actN s d).1 :=
  near_act hs hn _ _ _ _ (near_len d) (fun z hz => hb z (List.mem_of_mem_take hz))
/-- Behind some deeds made near. -/
def actsN : DS → List Dd → DS
  | s, [] => s
  | s, d :: l => actsN (actN s d).1 l
theorem actsN_snoc (d : Dd) : ∀ (l : List Dd) (s : DS), actsN s (l ++ [d]) = (actN (actsN s l) d).1
  | [], _ => rfl
  | _ :: l, _ => actsN_snoc d l _
theorem nearsN : ∀ (l : List Dd) (s : DS) (n : Nat), Near n s → (∀ d ∈ l, ∀ x ∈ d.b, x < 256) → n + l.length ≤ 1000 → Near (n + l.length) (actsN s l)
  | [], _, _, h, _, _ => h
  | d :: l, s, n, h, hb, hn => by
    simp only [List.length_cons] at hn ⊢
    have h1 := nearsN l _ _ (nearN h (by omega) d (hb d (.head _))) (fun d hd => hb d (.tail _ hd)) (by omega)
    rw [show n + (l.length + 1) = n + 1 + l.length by omega]; exact h1
theorem dds_bytes {w : World} {v : Value} {l : List Dd} (h : DdsIn w v l) : ∀ d ∈ l, ∀ x ∈ d.b, x < 256 := by
  intro d hd
  obtain ⟨q, cap, rfl, hc⟩ := dds_parts h
  obtain ⟨k, hk, rfl⟩ := List.mem_iff_getElem.1 hd
  obtain ⟨_, _, _, _, _, h, _⟩ := hc k hk
  exact h.1.1
/-- Deed k's cells, and its slices. -/
theorem dds_at {w wr : World} {q : Option Addr} {l : List Dd} (hB : Below w.heap.size w wr) (k : Nat) (hk : k < l.length) (d : Dd) (hd : l[k] = d)
    (hc : ∀ k (hk : k < l.length), ∃ b off, q = some ⟨b, off, none⟩ ∧ ∃ bv kv, DdIn w l[k] bv kv ∧
    w.cell? ⟨b, off + k * 7, none⟩ = some (.int .i64 l[k].kind) ∧ w.cell? ⟨b, off + k * 7 + 1, none⟩ = some (.string l[k].name) ∧ w.cell? ⟨b, off + k * 7 + 2, none⟩ = some (.string l[k].to) ∧ w.cell? ⟨b, off + k * 7 + 3, none⟩ = some bv ∧
    w.cell? ⟨b, off + k * 7 + 4, none⟩ = some (.int .i64 l[k].n) ∧ w.cell? ⟨b, off + k * 7 + 5, none⟩ = some (.int .i64 l[k].bit) ∧ w.cell? ⟨b, off + k * 7 + 6, none⟩ = some kv) :
    ∃ b off bq cap kq kl kc, q = some ⟨b, off, none⟩ ∧ BytesIn w (.slice bq d.b.length cap) d.b ∧ d.b.length ≤ cap ∧ -9223372036854775808 ≤ d.kind ∧ d.kind ≤ 9223372036854775807 ∧
    wr.cell? ⟨b, off + k * 7, none⟩ = some (.int .i64 d.kind) ∧ wr.cell? ⟨b, off + k * 7 + 1, none⟩ = some (.string d.name) ∧ wr.cell? ⟨b, off + k * 7 + 2, none⟩ = some (.string d.to) ∧ wr.cell? ⟨b, off + k * 7 + 3, none⟩ = some (.slice bq d.b.length cap) ∧
    wr.cell? ⟨b, off + k * 7 + 4, none⟩ = some (.int .i64 d.n) ∧ wr.cell? ⟨b, off + k * 7 + 5, none⟩ = some (.int .i64 d.bit) ∧ wr.cell? ⟨b, off + k * 7 + 6, none⟩ = some (.slice kq kl kc) := by
  subst hd
  obtain ⟨b, off, rfl, bv, kv, hin, c0, c1, c2, c3, c4, c5, c6⟩ := hc k hk
  obtain ⟨bq, cap, rfl, hcap⟩ := hin.2.2.2.2.2
  obtain ⟨kq, kl, kc, rfl⟩ := ints_slice hin.2.1
  have key : ∀ {o v}, w.cell? ⟨b, o, none⟩ = some v → wr.cell? ⟨b, o, none⟩ = some v := fun {o v} h => (hB.cell (p := ⟨b, o, none⟩) (lt_of_cell h)).trans h
  exact ⟨b, off, bq, cap, kq, kl, kc, rfl, hin.1, hcap, hin.2.2.2.1, hin.2.2.2.2.1, key c0, key c1, key c2, key c3, key c4, key c5, key c6⟩
end Go.Proofs.Ytbkkcbdbdogloaa
