/-
  near. Conditions: those of each theorem.
-/
import Derived.Test.YtbkkcbdbdogloaaDeed
namespace Go.Proofs.Ytbkkcbdbdogloaa
open Go Go.RowKit Go.MapL Go.Poised
variable {p n₀ : Nat} {r : Rep} {s : DS}

/-- A deed made near, plainly. -/
def Dd.near (d : Dd) : Dd := { d with kind := d.kind % 5, name := nm d.name.size, to := nm d.to.size, b := d.b.take 30 }

theorem cells7 {w : World} {B : Nat} {c0 c1 c2 c3 c4 c5 c6 : Value} {t : TypeId} (h : w.heap[B]? = some (.cells #[c0, c1, c2, c3, c4, c5, c6] t)) : w.cell? ⟨B, 0, none⟩ = some c0 ∧ w.cell? ⟨B, 1, none⟩ = some c1 ∧ w.cell? ⟨B, 2, none⟩ = some c2 ∧ w.cell? ⟨B, 3, none⟩ = some c3 ∧ w.cell? ⟨B, 4, none⟩ = some c4 ∧ w.cell? ⟨B, 5, none⟩ = some c5 ∧ w.cell? ⟨B, 6, none⟩ = some c6 := by
  simp [World.cell?, h]
theorem heap_old {w : World} {o : Obj} {k : Nat} (hk : k < w.heap.size) : (w.alloc o).heap[k]? = w.heap[k]? := Below.heap_alloc _ _ _ hk
theorem bytes_cut {w : World} {v : Value} {l : List Nat} (h : BytesIn w v l) : ∃ q len cap, v = .slice q len cap ∧ l.length = len ∧ len ≤ cap + len := by
  obtain ⟨_, _, ⟨rfl, rfl⟩ | ⟨a, cap, rfl, rfl⟩ | ⟨b, off, cap, rfl, _⟩⟩ := h
  · exact ⟨_, _, _, rfl, rfl, by omega⟩
  · exact ⟨_, _, _, rfl, rfl, by omega⟩
  · exact ⟨_, _, _, rfl, rfl, by omega⟩
set_option maxRecDepth 100000 in
set_option maxHeartbeats 8000000 in
theorem near_any (d : Dd) (q : Option Addr) (cap : Nat) (kq : Option Addr) (kl kc : Nat) (h1 : -9223372036854775808 ≤ d.kind) (h2 : d.kind ≤ 9223372036854775807) (w : World) (hb : BytesIn w (.slice q d.b.length cap) d.b) (hcap : d.b.length ≤ cap) :
    Calls Try.prog 9 #[ddV d (.slice q d.b.length cap) (.slice kq kl kc)] w fun e w' => e = .returned (ddV d.near (.slice q (min d.b.length 30) cap) (.slice kq kl kc)) ∧ Below w.heap.size w w' ∧ BytesIn w' (.slice q (min d.b.length 30) cap) d.near.b := by
  have hbb := hb
  obtain ⟨kind, x, y, l, nn, bit, keep⟩ := d
  simp only at h1 h2 hb hcap hbb ⊢
  have hbr := fun W => bring_any kind 5 (by omega) (by omega) h1 h2 W
  have hn1 := name_any x
  have hn2 := name_any y
  obtain ⟨c, hc⟩ : ∃ c : Nat, min l.length 30 = c := ⟨_, rfl⟩
  have hmin : min (l.length : Int) 30 = c := by omega
  have hc1 : c ≤ l.length := by omega
  have hc2 : c ≤ cap := by omega
  have hc3 : (c : Int) ≤ cap := by omega
  have hend : ∀ w', Below w.heap.size w w' → BytesIn w' (.slice q c cap) (l.take 30) := by
    intro w' hw
    obtain ⟨_, _, _, e, h5, _⟩ := (hbb.below hw).take c hc1
    cases e
    have : l.take 30 = l.take c := by
      rw [← hc, List.take_eq_take_iff]; omega
    rw [this]; exact h5
  unfold ddV Dd.near
  simp only [hc]
  replace hc : Hid _ := hc
  clear hb hbb
  have hw0 : Below w.heap.size w ((w.alloc (.cells #[.int .i64 (kind % 5), .string x, .string y, .slice q l.length cap, .int .i64 nn, .int .i64 bit, .slice kq kl kc] 30)).alloc (.cells #[.int .i64 0, .string ⟨#[]⟩, .string ⟨#[]⟩, .slice none 0 0, .int .i64 0, .int .i64 0, .slice none 0 0] 30)) :=
    ((Below.refl _ _).alloc (Nat.le_refl _) _).alloc (by simp) _
  have hg0 : ((w.alloc (.cells #[.int .i64 (kind % 5), .string x, .string y, .slice q l.length cap, .int .i64 nn, .int .i64 bit, .slice kq kl kc] 30)).alloc (.cells #[.int .i64 0, .string ⟨#[]⟩, .string ⟨#[]⟩, .slice none 0 0, .int .i64 0, .int .i64 0, .slice none 0 0] 30)).heap[w.heap.size]? = some (.cells #[.int .i64 (kind % 5), .string x, .string y, .slice q l.length cap, .int .i64 nn, .int .i64 bit, .slice kq kl kc] 30) := by
    rw [heap_old (by simp), heap_new]
  have hk0 : ((w.alloc (.cells #[.int .i64 (kind % 5), .string x, .string y, .slice q l.length cap, .int .i64 nn, .int .i64 bit, .slice kq kl kc] 30)).alloc (.cells #[.int .i64 0, .string ⟨#[]⟩, .string ⟨#[]⟩, .slice none 0 0, .int .i64 0, .int .i64 0, .slice none 0 0] 30)).heap[w.heap.size + 1]? = some (.cells #[.int .i64 0, .string ⟨#[]⟩, .string ⟨#[]⟩, .slice none 0 0, .int .i64 0, .int .i64 0, .slice none 0 0] 30) := by
    have := heap_new (w.alloc (.cells #[.int .i64 (kind % 5), .string x, .string y, .slice q l.length cap, .int .i64 nn, .int .i64 bit, .slice kq kl kc] 30)) (.cells #[.int .i64 0, .string ⟨#[]⟩, .string ⟨#[]⟩, .slice none 0 0, .int .i64 0, .int .i64 0, .slice none 0 0] 30)
    simpa using this
  have hs0 : w.heap.size + 2 ≤ ((w.alloc (.cells #[.int .i64 (kind % 5), .string x, .string y, .slice q l.length cap, .int .i64 nn, .int .i64 bit, .slice kq kl kc] 30)).alloc (.cells #[.int .i64 0, .string ⟨#[]⟩, .string ⟨#[]⟩, .slice none 0 0, .int .i64 0, .int .i64 0, .slice none 0 0] 30)).heap.size := by simp
  have hf1 : ∀ W v4, W = ((w.alloc (.cells #[.int .i64 (kind % 5), .string x, .string y, .slice q l.length cap, .int .i64 nn, .int .i64 bit, .slice kq kl kc] 30)).alloc (.cells #[.int .i64 0, .string ⟨#[]⟩, .string ⟨#[]⟩, .slice none 0 0, .int .i64 0, .int .i64 0, .slice none 0 0] 30)) → Below W.heap.size W v4 → v4.heap[w.heap.size]? = some (.cells #[.int .i64 (kind % 5), .string x, .string y, .slice q l.length cap, .int .i64 nn, .int .i64 bit, .slice kq kl kc] 30) ∧ v4.heap[w.heap.size + 1]? = some (.cells #[.int .i64 0, .string ⟨#[]⟩, .string ⟨#[]⟩, .slice none 0 0, .int .i64 0, .int .i64 0, .slice none 0 0] 30) ∧ Below w.heap.size w v4 := by
    intro W v4 e hb
    subst e
    exact ⟨(hb.block _ (by omega)).trans hg0, (hb.block _ (by omega)).trans hk0, hw0.trans (hb.mono (by omega))⟩
  clear hw0 hg0 hk0 hs0
  go_enter Try.func9, Try.ntmps9
  go_wp2_with (first | (go_at_call 20; refine (hbr _).mono ?_; rintro e w' ⟨rfl, hw'⟩; obtain rfl := hw'.symm) | (go_at_call 25; refine (hn1 _).mono ?_; clear hn1; rintro e w4 ⟨rfl, hb4⟩; obtain ⟨g4, k4, hB4⟩ := hf1 _ _ rfl hb4; clear hb4; obtain ⟨a0, a1, a2, a3, a4, a5, a6⟩ := cells7 g4; have z1 := free_of g4 1; have z2 := free_of g4 2) | (go_at_call 25; refine (hn2 _).mono ?_; rintro e w5 ⟨rfl, hb5⟩; have g5 := (hb5.block _ (by simp; exact (Array.getElem?_eq_some_iff.1 g4).1)).trans (setCell_heap g4); have k5 := (hb5.block _ (by simp; exact (Array.getElem?_eq_some_iff.1 k4).1)).trans ((Below.heap_setCell _ _ _ _ (by simp)).trans k4); clear a0 a1 a2 a3 a4 a5 a6 z1 z2; obtain ⟨a0, a1, a2, a3, a4, a5, a6⟩ := cells7 g5; obtain ⟨b0, b1, b2, b3, b4, b5, b6⟩ := cells7 k5; have z2 := free_of g5 2; have z3 := free_of g5 3; have y0 := free_of k5 0; have y1 := free_of k5 1; have y2 := free_of k5 2; have y3 := free_of k5 3; have y4 := free_of k5 4; have y5 := free_of k5 5; have y6 := free_of k5 6))
  have hB5 : Below w.heap.size w w5 := (hB4.setCell (p := ⟨w.heap.size, 1, none⟩) (Nat.le_refl _) _).trans (hb5.mono (by simp; exact Nat.le_of_lt (Array.getElem?_eq_some_iff.1 g4).1))
  have hBB := ((((((((hB5.setCell (p := ⟨w.heap.size, 2, none⟩) (Nat.le_refl _) (.string (nm y.size))).setCell (p := ⟨w.heap.size, 3, none⟩) (Nat.le_refl _) (.slice q c cap)).setCell (p := ⟨w.heap.size + 1, 0, none⟩) (Nat.le_succ _) (.int .i64 (kind % 5))).setCell (p := ⟨w.heap.size + 1, 1, none⟩) (Nat.le_succ _) (.string (nm x.size))).setCell (p := ⟨w.heap.size + 1, 2, none⟩) (Nat.le_succ _) (.string (nm y.size))).setCell (p := ⟨w.heap.size + 1, 3, none⟩) (Nat.le_succ _) (.slice q c cap)).setCell (p := ⟨w.heap.size + 1, 4, none⟩) (Nat.le_succ _) (.int .i64 nn)).setCell (p := ⟨w.heap.size + 1, 5, none⟩) (Nat.le_succ _) (.int .i64 bit)).setCell (p := ⟨w.heap.size + 1, 6, none⟩) (Nat.le_succ _) (.slice kq kl kc)
  have k9 : ((((((((((w5.setCell ⟨w.heap.size, 2, none⟩ (.string (nm y.size))).setCell ⟨w.heap.size, 3, none⟩ (.slice q c cap)).setCell ⟨w.heap.size + 1, 0, none⟩ (.int .i64 (kind % 5))).setCell ⟨w.heap.size + 1, 1, none⟩ (.string (nm x.size))).setCell ⟨w.heap.size + 1, 2, none⟩ (.string (nm y.size))).setCell ⟨w.heap.size + 1, 3, none⟩ (.slice q c cap)).setCell ⟨w.heap.size + 1, 4, none⟩ (.int .i64 nn)).setCell ⟨w.heap.size + 1, 5, none⟩ (.int .i64 bit)).setCell ⟨w.heap.size + 1, 6, none⟩ (.slice kq kl kc)) : World).heap[w.heap.size + 1]? = some (.cells #[.int .i64 (kind % 5), .string (nm x.size), .string (nm y.size), .slice q c cap, .int .i64 nn, .int .i64 bit, .slice kq kl kc] 30) := by
    have k6 := (Below.heap_setCell (w5.setCell ⟨w.heap.size, 2, none⟩ (.string (nm y.size))) ⟨w.heap.size, 3, none⟩ (.slice q c cap) (w.heap.size + 1) (by simp)).trans ((Below.heap_setCell w5 ⟨w.heap.size, 2, none⟩ (.string (nm y.size)) (w.heap.size + 1) (by simp)).trans k5)
    rw [setCell_heap (setCell_heap (setCell_heap (setCell_heap (setCell_heap (setCell_heap (setCell_heap k6))))))]
    rfl
  generalize ((((((((((w5.setCell ⟨w.heap.size, 2, none⟩ (.string (nm y.size))).setCell ⟨w.heap.size, 3, none⟩ (.slice q c cap)).setCell ⟨w.heap.size + 1, 0, none⟩ (.int .i64 (kind % 5))).setCell ⟨w.heap.size + 1, 1, none⟩ (.string (nm x.size))).setCell ⟨w.heap.size + 1, 2, none⟩ (.string (nm y.size))).setCell ⟨w.heap.size + 1, 3, none⟩ (.slice q c cap)).setCell ⟨w.heap.size + 1, 4, none⟩ (.int .i64 nn)).setCell ⟨w.heap.size + 1, 5, none⟩ (.int .i64 bit)).setCell ⟨w.heap.size + 1, 6, none⟩ (.slice kq kl kc)) : World) = w9 at hBB k9 ⊢
  obtain ⟨d0, d1, d2, d3, d4, d5, d6⟩ := cells7 k9
  clear a0 a1 a2 a3 a4 a5 a6 b0 b1 b2 b3 b4 b5 b6 g4 k4 g5 k5 hf1
  refine bodyPost_ret (by simp [results, Try.results9, go_sem, d0, d1, d2, d3, d4, d5, d6]; try rfl) rfl ?_
  exact ⟨rfl, hBB, hend _ hBB⟩
end Go.Proofs.Ytbkkcbdbdogloaa
