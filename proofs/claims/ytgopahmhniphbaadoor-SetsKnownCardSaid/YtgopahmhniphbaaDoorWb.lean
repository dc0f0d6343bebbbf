import Derived.Test.YtgopahmhniphbaaDoorWa
namespace Go.Proofs.YtgopahmhniphbaaDoor
open Go.RowKit Sp

/-- Block B is a set's own. -/
def SetAt (w : World) (B : Nat) (s : S) : Prop := w.heap[B]? = some (.cells #[.int .u64 (wn s 0), .int .u64 (wn s 1), .int .u64 (wn s 2), .int .u64 (wn s 3)] 24 (0, 0))
theorem SetAt.cell {w : World} {B : Nat} {s : S} (h : SetAt w B s) : w.cell? ⟨B, 0, none⟩ = some (.int .u64 (wn s 0)) ∧ w.cell? ⟨B, 1, none⟩ = some (.int .u64 (wn s 1)) ∧ w.cell? ⟨B, 2, none⟩ = some (.int .u64 (wn s 2)) ∧ w.cell? ⟨B, 3, none⟩ = some (.int .u64 (wn s 3)) := by
  unfold SetAt at h
  simp [World.cell?, h]
theorem SetAt.free {w : World} {B : Nat} {s : S} (h : SetAt w B s) (i : Nat) : w.frozen? ⟨B, i, none⟩ = false := by
  unfold SetAt at h
  simp [World.frozen?, h]
theorem SetAt.lt {w : World} {B : Nat} {s : S} (h : SetAt w B s) : B < w.heap.size := (Array.getElem?_eq_some_iff.1 h).1
theorem SetAt.put {w : World} {B : Nat} {s : S} (h : SetAt w B s) (i k c : Nat) (hc : c < 256) (hi : c / 64 = i) (hk : c % 64 = k) :
    SetAt (w.setCell ⟨B, i, none⟩ (.int .u64 (bits .or .u64 (wn s i) (IntKind.u64.wrap (2 ^ k))))) B (s ||| bit c) := by
  unfold SetAt at *
  rw [n_setw s c i k hc hi hk]
  simp only [World.setCell, Array.getElem?_modify, h, if_true, Option.map_some]
  have hh : ∀ j, j ≠ i → (wn s j : Int) = wn (s ||| bit c) j := fun j hj => n_same s c i j hc hi hj
  have : i < 4 := by omega
  rcases (by omega : i = 0 ∨ i = 1 ∨ i = 2 ∨ i = 3) with rfl | rfl | rfl | rfl <;> simp [hh]

/-- A slice of bytes reads as l. -/
def BytesIn (w : World) (v : Value) (l : List Nat) : Prop :=
  (∀ x ∈ l, x < 256) ∧ l.length ≤ 9223372036854775807 ∧ ((v = .slice none 0 0 ∧ l = []) ∨ (∃ a cap, v = .slice (some a) 0 cap ∧ l = []) ∨ ∃ b off cap, v = .slice (some ⟨b, off, none⟩) l.length cap ∧ ∀ k, k < l.length → w.cell? ⟨b, off + k, none⟩ = some (.int .u8 (l.getD k 0 : Nat)))

def ofl (l : List Nat) : S := l.foldl (fun s c => s ||| bit c) 0#256
theorem ofl_snoc (l : List Nat) (c : Nat) : ofl (l ++ [c]) = ofl l ||| bit c := by simp [ofl]
theorem take_snoc (l : List Nat) (k : Nat) (h : k < l.length) : l.take (k + 1) = l.take k ++ [l.getD k 0] := by
  rw [List.take_succ_eq_append_getElem h]; simp [List.getD_eq_getElem?_getD, h]
theorem getD_lt {l : List Nat} (h : ∀ x ∈ l, x < 256) (k : Nat) : l.getD k 0 < 256 := by
  rw [List.getD_eq_getElem?_getD]
  rcases Nat.lt_or_ge k l.length with hk | hk
  · simp only [hk, List.getElem?_eq_getElem, Option.getD_some]; exact h _ (List.getElem_mem hk)
  · simp [List.getElem?_eq_none hk]
theorem zero_wn (i : Nat) : wn 0#256 i = 0 := by simp [wn, wd]

theorem lt_of_cell {w : World} {b o : Nat} {v : Value} (h : w.cell? ⟨b, o, none⟩ = some v) : b < w.heap.size := by
  unfold World.cell? at h
  split at h
  · rename_i hh; exact (Array.getElem?_eq_some_iff.1 hh).1
  · cases h

theorem heap_new (w : World) (o : Obj) : (w.alloc o).heap[w.heap.size]? = some o := by show (w.heap.push o)[w.heap.size]? = _; simp
theorem SetAt.new (w : World) : SetAt (w.alloc (.cells #[.int .u64 0, .int .u64 0, .int .u64 0, .int .u64 0] 24)) w.heap.size 0#256 := by
  unfold SetAt
  rw [heap_new]
  simp [zero_wn]
theorem SetAt.box (w : World) (s : S) : SetAt (w.alloc (.cells #[.int .u64 (wn s 0), .int .u64 (wn s 1), .int .u64 (wn s 2), .int .u64 (wn s 3)] 24)) w.heap.size s := heap_new w _
theorem SetAt.new1 (w : World) : SetAt (w.alloc (.cells #[.int .u64 0, .int .u64 0, .int .u64 0, .int .u64 0] 24)) w.heap.size 0#256 := SetAt.new w
theorem SetAt.alloc {w : World} {B : Nat} {s : S} (h : SetAt w B s) (o : Obj) : SetAt (w.alloc o) B s := (Below.heap_alloc w o B h.lt).trans h
theorem SetAt.same {w w' : World} {B : Nat} {s : S} (h : SetAt w B s) (hb : w'.heap[B]? = w.heap[B]?) : SetAt w' B s := hb.trans h
theorem SetAt.other {w : World} {B : Nat} {s : S} (h : SetAt w B s) {a : Addr} (ha : B ≠ a.block) (u : Value) : SetAt (w.setCell a u) B s := (Below.heap_setCell _ _ _ _ ha).trans h
theorem SetAt.store {w : World} {B : Nat} {s : S} (h : SetAt w B s) (s' : S) :
    SetAt ((((w.setCell ⟨B, 0, none⟩ (.int .u64 (wn s' 0))).setCell ⟨B, 1, none⟩ (.int .u64 (wn s' 1))).setCell ⟨B, 2, none⟩ (.int .u64 (wn s' 2))).setCell ⟨B, 3, none⟩ (.int .u64 (wn s' 3))) B s' := by
  unfold SetAt at *
  simp [World.setCell, Array.getElem?_modify, h]
theorem SetAt.away {w : World} {A B : Nat} {s : S} (h : SetAt w A s) (hn : A ≠ B) (x y z t : Value) :
    SetAt ((((w.setCell ⟨B, 0, none⟩ x).setCell ⟨B, 1, none⟩ y).setCell ⟨B, 2, none⟩ z).setCell ⟨B, 3, none⟩ t) A s :=
  (((h.other (a := ⟨B, 0, none⟩) hn _).other (a := ⟨B, 1, none⟩) hn _).other (a := ⟨B, 2, none⟩) hn _).other (a := ⟨B, 3, none⟩) hn _
theorem below_store {n : Nat} {w w' : World} {B : Nat} (h : Below n w w') (hn : n ≤ B) (x y z t : Value) :
    Below n w ((((w'.setCell ⟨B, 0, none⟩ x).setCell ⟨B, 1, none⟩ y).setCell ⟨B, 2, none⟩ z).setCell ⟨B, 3, none⟩ t) :=
  (((h.setCell (p := ⟨B, 0, none⟩) hn _).setCell (p := ⟨B, 1, none⟩) hn _).setCell (p := ⟨B, 2, none⟩) hn _).setCell (p := ⟨B, 3, none⟩) hn _
theorem SetAt.drew {w : World} {B : Nat} {s : S} (h : SetAt w B s) : SetAt w.drew B s := h
/-- Two blocks laid ahead of a loop. -/
theorem SetAt.two (w : World) : SetAt ((w.alloc (.cells #[.int .u64 0, .int .u64 0, .int .u64 0, .int .u64 0] 24)).alloc (.cells #[.int .u64 0, .int .u64 0, .int .u64 0, .int .u64 0] 24)) (w.heap.size + 1) 0#256 ∧
    SetAt ((w.alloc (.cells #[.int .u64 0, .int .u64 0, .int .u64 0, .int .u64 0] 24)).alloc (.cells #[.int .u64 0, .int .u64 0, .int .u64 0, .int .u64 0] 24)) w.heap.size 0#256 := by
  have h := SetAt.new (w.alloc (.cells #[.int .u64 0, .int .u64 0, .int .u64 0, .int .u64 0] 24))
  rw [World.size_alloc] at h
  exact ⟨h, (SetAt.new w).alloc _⟩

set_option maxHeartbeats 1000000 in
theorem of_any (v : Value) (l : List Nat) (w : World) (hl : BytesIn w v l) :
    Calls Tryd.prog 17 #[v] w fun e w' => e = .returned (sv (ofl l)) ∧ Below w.heap.size w w' := by
  obtain ⟨hb, hlen, ⟨rfl, rfl⟩ | ⟨a, cap, rfl, rfl⟩ | ⟨b, off, cap, rfl, hc⟩⟩ := hl
  · go_enter Tryd.func17, Tryd.ntmps17
    go_wp2
    go_rounds 1
    go_returns
    refine ⟨ret_sv ?_ ?_ ?_ ?_, ?_⟩
    any_goals simp [ofl, zero_wn]
    go_grown
  · go_enter Tryd.func17, Tryd.ntmps17
    go_wp2
    go_rounds 1
    go_returns
    refine ⟨ret_sv ?_ ?_ ?_ ?_, ?_⟩
    any_goals simp [ofl, zero_wn]
    go_grown
  · go_enter Tryd.func17, Tryd.ntmps17
    go_wp2
    go_loopw [8] (fun i wr => ∃ k : Nat, k ≤ l.length ∧ i = .int .i64 k ∧ SetAt wr (w.heap.size + 1) (ofl (l.take k)) ∧ SetAt wr w.heap.size 0#256 ∧ Below w.heap.size w wr) (fun i _ => l.length - (intOf i).toNat)
    case atStart =>
      refine ⟨0, Nat.zero_le _, rfl, (SetAt.two w).1, (SetAt.two w).2, ?_⟩
      go_grown
    case round =>
      obtain ⟨k, hk, rfl, hs, hs0, hB⟩ := hrel
      by_cases hlt : k < l.length
      · have hcell : wr.cell? ⟨b, off + k, none⟩ = some (.int .u8 (l.getD k 0 : Nat)) := (hB.cell (p := ⟨b, off + k, none⟩) (lt_of_cell (hc k hlt))).trans (hc k hlt)
        have hcl := getD_lt hb k
        have H : Hid (l.take (k + 1) = l.take k ++ [l.getD k 0]) := take_snoc l k hlt
        obtain ⟨c0, c1, c2, c3⟩ := hs.cell
        have f := hs.free
        generalize l.getD k 0 = c at *
        rcases (by omega : ((c:Int) / 64 = 0 ∧ (c:Int) % 64 = c) ∨ ((c:Int) / 64 = 1 ∧ (c:Int) % 64 = c - 64) ∨ ((c:Int) / 64 = 2 ∧ (c:Int) % 64 = c - 128) ∨ ((c:Int)/64 = 3 ∧ (c:Int) % 64 = c - 192) ) with ⟨hq, hr⟩ | ⟨hq, hr⟩ | ⟨hq, hr⟩ | ⟨hq, hr⟩
        all_goals
          go_wp2
          go_roundw
          case rel =>
            refine ⟨k + 1, by omega, by go_num, ?_, hs0.other (by simp) _, ?_⟩
            · rw [H.out, ofl_snoc]
              exact hs.put _ _ c hcl (by omega) (by omega)
            · exact hB.setCell (by simp) _
          case measure => simp [intOf]; omega
      · obtain ⟨c0, c1, c2, c3⟩ := hs.cell
        obtain ⟨d0, d1, d2, d3⟩ := hs0.cell
        have f := hs0.free
        have hkl : Hid (k = l.length) := (by omega : k = l.length)
        go_wp2
        refine bodyPost_ret (v := sv (ofl (l.take k))) (by simp [sv, results, Tryd.results17, go_sem, d0, d1, d2, d3]) rfl ⟨?_, ?_⟩
        · rw [hkl.out, List.take_length]
        · go_grown
end Go.Proofs.YtgopahmhniphbaaDoor
