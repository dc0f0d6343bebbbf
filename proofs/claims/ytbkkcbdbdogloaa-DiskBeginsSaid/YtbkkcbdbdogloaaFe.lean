/-
  fell, has. Conditions: those of each theorem.
-/
import Derived.Test.YtbkkcbdbdogloaaPl
namespace Go.Proofs.Ytbkkcbdbdogloaa
open Go Go.RowKit Go.MapL Go.Poised
variable {p n₀ : Nat} {r : Rep} {s : DS}

/-- A deed's value reads as the deed: its bytes, and its numbers' bounds. -/
def DdIn (w : World) (d : Dd) (bv kv : Value) : Prop :=
  BytesIn w bv d.b ∧ IntsIn w kv d.keep ∧ d.b.length ≤ 9223372036854775807 ∧ -9223372036854775808 ≤ d.kind ∧ d.kind ≤ 9223372036854775807 ∧ ∃ q cap, bv = .slice q d.b.length cap ∧ d.b.length ≤ cap
theorem IntsIn.below {w w' : World} {v : Value} {l : List Int} (h : IntsIn w v l) (hb : Below w.heap.size w w') : IntsIn w' v l := by
  obtain ⟨h1, h2, h3⟩ := h
  refine ⟨h1, h2, ?_⟩
  rcases h3 with h3 | h3 | ⟨b, off, cap, rfl, hc⟩
  · exact .inl h3
  · exact .inr (.inl h3)
  · exact .inr (.inr ⟨b, off, cap, rfl, fun k hk => (hb.cell (p := ⟨b, off + k, none⟩) (lt_of_cell (hc k hk))).trans (hc k hk)⟩)
theorem DdIn.below {w w' : World} {d : Dd} {bv kv : Value} (h : DdIn w d bv kv) (hb : Below w.heap.size w w') : DdIn w' d bv kv := ⟨h.1.below hb, h.2.1.below hb, h.2.2⟩
theorem bytes_slice {w : World} {v : Value} {l : List Nat} (h : BytesIn w v l) : ∃ q len cap, v = .slice q len cap ∧ l.length = len := by
  obtain ⟨_, _, ⟨rfl, rfl⟩ | ⟨a, cap, rfl, rfl⟩ | ⟨b, off, cap, rfl, _⟩⟩ := h
  · exact ⟨_, _, _, rfl, rfl⟩
  · exact ⟨_, _, _, rfl, rfl⟩
  · exact ⟨_, _, _, rfl, rfl⟩
theorem ints_slice {w : World} {v : Value} {l : List Int} (h : IntsIn w v l) : ∃ q len cap, v = .slice q len cap := by
  obtain ⟨_, _, ⟨rfl, rfl⟩ | ⟨a, cap, rfl, rfl⟩ | ⟨b, off, cap, rfl, _⟩⟩ := h
  · exact ⟨_, _, _, rfl⟩
  · exact ⟨_, _, _, rfl⟩
  · exact ⟨_, _, _, rfl⟩
/-- A slice of deeds reads as l. -/
def DdsIn (w : World) (v : Value) (l : List Dd) : Prop :=
  l.length ≤ 9223372036854775807 ∧ ((v = .slice none 0 0 ∧ l = []) ∨ (∃ a cap, v = .slice (some a) 0 cap ∧ l = []) ∨ ∃ b off cap, v = .slice (some ⟨b, off, none⟩) l.length cap ∧ ∀ k (hk : k < l.length), ∃ bv kv, DdIn w l[k] bv kv ∧
    w.cell? ⟨b, off + k * 7, none⟩ = some (.int .i64 l[k].kind) ∧ w.cell? ⟨b, off + k * 7 + 1, none⟩ = some (.string l[k].name) ∧ w.cell? ⟨b, off + k * 7 + 2, none⟩ = some (.string l[k].to) ∧ w.cell? ⟨b, off + k * 7 + 3, none⟩ = some bv ∧
    w.cell? ⟨b, off + k * 7 + 4, none⟩ = some (.int .i64 l[k].n) ∧ w.cell? ⟨b, off + k * 7 + 5, none⟩ = some (.int .i64 l[k].bit) ∧ w.cell? ⟨b, off + k * 7 + 6, none⟩ = some kv)
theorem DdsIn.below {w w' : World} {v : Value} {l : List Dd} (h : DdsIn w v l) (hb : Below w.heap.size w w') : DdsIn w' v l := by
  obtain ⟨h1, h3⟩ := h
  refine ⟨h1, ?_⟩
  rcases h3 with h3 | h3 | ⟨b, off, cap, rfl, hc⟩
  · exact .inl h3
  · exact .inr (.inl h3)
  · refine .inr (.inr ⟨b, off, cap, rfl, fun k hk => ?_⟩)
    obtain ⟨bv, kv, h0, c0, c1, c2, c3, c4, c5, c6⟩ := hc k hk
    have key : ∀ {o v}, w.cell? ⟨b, o, none⟩ = some v → w'.cell? ⟨b, o, none⟩ = some v := fun {o v} h => (hb.cell (p := ⟨b, o, none⟩) (lt_of_cell h)).trans h
    exact ⟨bv, kv, h0.below hb, key c0, key c1, key c2, key c3, key c4, key c5, key c6⟩
theorem dds_parts {w : World} {v : Value} {l : List Dd} (h : DdsIn w v l) : ∃ q cap, v = .slice q l.length cap ∧ ∀ k (hk : k < l.length), ∃ b off, q = some ⟨b, off, none⟩ ∧ ∃ bv kv, DdIn w l[k] bv kv ∧
    w.cell? ⟨b, off + k * 7, none⟩ = some (.int .i64 l[k].kind) ∧ w.cell? ⟨b, off + k * 7 + 1, none⟩ = some (.string l[k].name) ∧ w.cell? ⟨b, off + k * 7 + 2, none⟩ = some (.string l[k].to) ∧ w.cell? ⟨b, off + k * 7 + 3, none⟩ = some bv ∧
    w.cell? ⟨b, off + k * 7 + 4, none⟩ = some (.int .i64 l[k].n) ∧ w.cell? ⟨b, off + k * 7 + 5, none⟩ = some (.int .i64 l[k].bit) ∧ w.cell? ⟨b, off + k * 7 + 6, none⟩ = some kv := by
  obtain ⟨_, ⟨rfl, rfl⟩ | ⟨a, cap, rfl, rfl⟩ | ⟨b, off, cap, rfl, hc⟩⟩ := h
  · exact ⟨none, 0, rfl, fun k hk => by simp at hk⟩
  · exact ⟨some a, cap, rfl, fun k hk => by simp at hk⟩
  · exact ⟨some ⟨b, off, none⟩, cap, rfl, fun k hk => ⟨b, off, rfl, hc k hk⟩⟩

/-- The disk behind some deeds. -/
def acts : DS → List Dd → DS
  | s, [] => s
  | s, d :: l => acts (act s (d.kind % 10).toNat d.name d.to d.b).1 l
theorem acts_snoc (d : Dd) : ∀ (l : List Dd) (s : DS), acts s (l ++ [d]) = (act (acts s l) (d.kind % 10).toNat d.name d.to d.b).1
  | [], _ => rfl
  | _ :: l, _ => acts_snoc d l _
theorem sound_acts : ∀ (l : List Dd) (s : DS) (m : Nat), Sound m s → (∀ d ∈ l, ∀ x ∈ d.b, x < 256) → m + 2 * l.length ≤ 536870912 → Sound (m + 2 * l.length) (acts s l)
  | [], _, _, h, _, _ => h
  | d :: l, s, m, h, hb, hm => by
    simp only [List.length_cons] at hm ⊢
    have h1 := sound_act h (by omega) (d.kind % 10).toNat d.name d.to d.b (hb d (.head _))
    have h2 := sound_acts l _ _ h1 (fun d hd => hb d (.tail _ hd)) (by omega)
    exact h2.mono (by omega)
def fellS (keep : List Int) (l : List Dd) : DS := ((acts (DS.new 100) l).crash keep).boot

theorem Turns.below {w w' : World} {s' : DS} (hL : Lies w p n₀ r s) (hn : n₀ ≤ w.heap.size) (h : Turns w w' p n₀ r s s') : Below n₀ w w' := by
  obtain ⟨_, _, hg, _⟩ := h
  exact hg.below hn (fun k hk => (hL.foot_lt k hk).2)

set_option maxRecDepth 100000 in
set_option maxHeartbeats 8000000 in
theorem fell_any (kv v : Value) (keep : List Int) (l : List Dd) (w : World) (hk : IntsIn w kv keep) (hl : DdsIn w v l) (hkind : ∀ d ∈ l, d.kind % 10 < 5) (hlb : ∀ d ∈ l, d.b.length ≤ 4611686018427387904) (hlen : l.length ≤ 100) :
    Calls Try.prog 45 #[kv, v] w fun e w' => ∃ p r, e = .returned (ofBlock p) ∧ Lies w' p w.heap.size r (fellS keep l) ∧ Below w.heap.size w w' := by
  have hll := hl.1
  have hby : ∀ d ∈ l, ∀ x ∈ d.b, x < 256 := by
    intro d hd
    obtain ⟨q, cap, rfl, hc⟩ := dds_parts hl
    obtain ⟨k, hk, rfl⟩ := List.mem_iff_getElem.1 hd
    obtain ⟨_, _, _, _, _, h, _⟩ := hc k hk
    exact h.1.1
  have hl0 := hl
  obtain ⟨q, cap, rfl, hc⟩ := dds_parts hl
  have hnew := new_at 100 (by omega) w
  have hsnd := fun k => sound_acts (l.take k) (DS.new 100) 0 (sound_new (by omega)) (fun d hd => hby d (List.mem_of_mem_take hd)) (by have := List.length_take_le' k l; omega)
  unfold ofBlock at *
  go_enter Try.func45, Try.ntmps45
  go_wp2_with (go_at_call 8; refine hnew.mono ?_; rintro e w1 ⟨rfl, hb1, hs1, r1, hL1⟩)
  clear hl hl0 hnew
  replace hs1 : Hid _ := hs1
  replace hby : Hid _ := hby
  replace hkind : Hid _ := hkind
  replace hlb : Hid _ := hlb
  replace hsnd : Hid _ := hsnd
  go_loopw [7] (fun i wr => ∃ (k : Nat) (rk : Rep), k ≤ l.length ∧ i = .int .i64 k ∧ Lies wr (w.heap.size + 2) w.heap.size rk (acts (DS.new 100) (l.take k)) ∧ Below w.heap.size w wr) (fun i _ => l.length - (intOf i).toNat)
  case atStart => exact ⟨0, r1, by omega, rfl, hL1, hb1⟩
  case round =>
    obtain ⟨k, rk, hkl, rfl, hLk, hBk⟩ := hrel
    by_cases hlt : k < l.length
    · obtain ⟨b, off, rfl, bv, dv, hd, c0, c1, c2, c3, c4, c5, c6⟩ := hc k hlt
      have hst : acts (DS.new 100) (l.take (k + 1)) = (act (acts (DS.new 100) (l.take k)) (l[k].kind % 10).toNat l[k].name l[k].to l[k].b).1 := by
        rw [List.take_succ_eq_append_getElem hlt, acts_snoc]
      have hk5 := hkind.out l[k] (List.getElem_mem hlt)
      have hlb5 := hlb.out l[k] (List.getElem_mem hlt)
      have hs := hsnd.out k
      obtain ⟨d, hde⟩ : ∃ d, l[k] = d := ⟨_, rfl⟩
      rw [hde] at hd c0 c1 c2 c4 c5 hst hk5 hlb5
      have hcell : ∀ {o v}, w.cell? ⟨b, o, none⟩ = some v → wr.cell? ⟨b, o, none⟩ = some v := fun {o v} h => (hBk.cell (p := ⟨b, o, none⟩) (lt_of_cell h)).trans h
      replace c0 := hcell c0
      replace c1 := hcell c1
      replace c2 := hcell c2
      replace c3 := hcell c3
      replace c4 := hcell c4
      replace c5 := hcell c5
      replace c6 := hcell c6
      obtain ⟨bq, bl, bcap, hbv⟩ : ∃ q l c, bv = .slice q l c := by
        obtain ⟨q, len, cap, h, _⟩ := bytes_slice hd.1
        exact ⟨_, _, _, h⟩
      obtain ⟨kq, kl, kcap, hkv⟩ : ∃ q l c, dv = .slice q l c := ints_slice hd.2.1
      have hdl := List.length_take_le' k l
      have hdeed := deed_at d bv dv (d.kind % 10).toNat (by omega) (by omega) hd.2.2.2.1 hd.2.2.2.2.1 wr hLk hs.wf (by have := hs.nb; omega) (by have := hs.nw; omega) hlb5 hBk.size
        (fun w' hw' => hd.1.below (hBk.trans (hw'.below hBk.size (fun k hk => (hLk.foot_lt k hk).2))))
      have hLk0 := hLk
      replace hde : Hid _ := hde
      replace hst : Hid _ := hst
      subst hbv hkv
      clear hc hs hk5 hd
      unfold ddV ofBlock at hdeed
      have hlt' : (k : Int) < l.length := by omega
      go_wp2_with (go_at_call 10; refine hdeed.mono ?_; rintro e w5 ⟨rfl, ht⟩)
      go_roundw
      case rel =>
        have hbt := ht.below hLk0 hBk.size
        obtain ⟨r5, hL5, _⟩ := ht
        exact ⟨k + 1, r5, by omega, by go_num, by rw [hst.out]; exact hL5, hBk.trans hbt⟩
      case measure => simp [intOf]; omega
    · obtain rfl : k = l.length := by omega
      rw [List.take_length] at hLk
      have hs := hsnd.out l.length
      rw [List.take_length] at hs
      have hcr := crash_at kv keep wr hLk hs.wf (by have := hs.nk; omega) hBk.size (fun w' hw' => hk.below (hBk.trans (hw'.below hBk.size (fun k hk => (hLk.foot_lt k hk).2))))
      unfold ofBlock at hcr
      clear hs hc
      go_wp2_with (first | (go_at_call 15; refine hcr.mono ?_; rintro e w6 ⟨rfl, ht⟩; have hb6 := ht.below hLk hBk.size; obtain ⟨r6, hL6, _, _⟩ := ht; have hbo := boot_at w6 hL6; unfold ofBlock at hbo) | (go_at_call 16; refine hbo.mono ?_; rintro e w7 ⟨rfl, hL7, hg7⟩))
      go_returns
      exact ⟨_, r6, rfl, hL7, (hBk.trans hb6).trans (hg7.below (Nat.le_trans hBk.size hb6.size) (fun k hk => by omega))⟩
end Go.Proofs.Ytbkkcbdbdogloaa
