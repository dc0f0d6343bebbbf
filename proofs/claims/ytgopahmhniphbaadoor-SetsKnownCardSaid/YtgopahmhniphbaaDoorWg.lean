import Derived.RangeFuncFrom
import Derived.Test.YtgopahmhniphbaaDoorWf
import Derived.Test.YtgopahmhniphbaaDoorEq
namespace Go.Proofs.YtgopahmhniphbaaDoor
open Go.RowKit Go.Shelf Sp
attribute [local go_sem] Oper.semAt_some

abbrev boxOf (s : S) : Obj := .cells #[.int .u64 (wn s 0), .int .u64 (wn s 1), .int .u64 (wn s 2), .int .u64 (wn s 3)] 24

theorem put_same {w : World} {a : Addr} {u : Value} (v : Value) (h : w.cell? a = some u) : (w.setCell a v).cell? a = some v := World.cell?_setCell_same' _ _ _ (by rw [h]; rfl)
theorem put_other {w : World} {a b : Addr} {r : Option Value} (v : Value) (h : w.cell? b = r) (hn : b.block ≠ a.block) : (w.setCell a v).cell? b = r := (World.cell?_of_block (w := w) (Below.heap_setCell w a v b.block hn)).trans h
theorem new_one (w : World) (v : Value) (t : TypeId) (o1 : Obj) (n : Nat) (hn : w.heap.size = n) : ((w.alloc (.cells #[v] t)).alloc o1).heap[n]? = some (.cells #[v] t (0, 0)) := by
  subst hn; rw [Below.heap_alloc _ _ _ (by simp)]; exact heap_new w _
theorem two_cells1 (w : World) (a : Obj) (v u : Value) (t t' : TypeId) (s : Obj) : ((((w.alloc a).alloc (.cells #[v] t)).alloc (.cells #[u] t')).alloc s).cell? ⟨w.heap.size + 1, 0, none⟩ = some v ∧ ((((w.alloc a).alloc (.cells #[v] t)).alloc (.cells #[u] t')).alloc s).frozen? ⟨w.heap.size + 1, 0, none⟩ = false := by
  have h : ((((w.alloc a).alloc (.cells #[v] t)).alloc (.cells #[u] t')).alloc s).heap[w.heap.size + 1]? = some (.cells #[v] t (0, 0)) := by
    rw [Below.heap_alloc _ _ _ (by simp)]; exact new_one _ _ _ _ _ (by simp)
  exact ⟨cell_of_one h, free_of_one h⟩
theorem two_cells2 (w : World) (a : Obj) (v u : Value) (t t' : TypeId) (s : Obj) : ((((w.alloc a).alloc (.cells #[v] t)).alloc (.cells #[u] t')).alloc s).cell? ⟨w.heap.size + 1 + 1, 0, none⟩ = some u ∧ ((((w.alloc a).alloc (.cells #[v] t)).alloc (.cells #[u] t')).alloc s).frozen? ⟨w.heap.size + 1 + 1, 0, none⟩ = false := by
  have h : ((((w.alloc a).alloc (.cells #[v] t)).alloc (.cells #[u] t')).alloc s).heap[w.heap.size + 1 + 1]? = some (.cells #[u] t' (0, 0)) := new_one _ _ _ _ _ (by simp)
  exact ⟨cell_of_one h, free_of_one h⟩
theorem all_any (s : S) (w : World) :
    Calls Tryd.prog 30 #[sv s] w fun e w' => e = .returned (.func (.func 33) #[] #[.pointer (some ⟨w.heap.size, 0, none⟩)]) ∧ w' = w.alloc (boxOf s) := by
  unfold sv
  go_enter Tryd.func30, Tryd.ntmps30
  go_wp2
  go_returns
  exact ⟨rfl, rfl⟩

theorem all_stops (Bn : Nat) (s : S) (w : World) (hB : SetAt w Bn s) (hT : Tab w) :
    SeqStopsK Fence.wide 2 Tryd.prog 33 #[.pointer (some ⟨Bn, 0, none⟩)] (fun x : Nat => #[Value.int .u8 x]) (Below 1) (fun xs => xs = bl s) (fun pre => pre <+: bl s) 257 w :=
  fun l J Jx W hW _ _ hY h0 => all1_in l Bn s J Jx hY W (hB.same (hW.block _ hB.lt)) (hT.below hW hT.lt) h0

theorem bl_zero : bl 0#256 = [] := by simp [bl, blTo, zero_wn, nb_zero, List.range_succ]
theorem bl_some {s : S} (h : s ≠ 0#256) : ∃ c r, bl s = c :: r := by
  cases hb : bl s with
  | cons c r => exact ⟨c, r, rfl⟩
  | nil =>
    exfalso; apply h
    have z : ∀ i, i < 4 → wn s i = 0 := by
      intro i hi
      have : (nb 64 (wn s i)).map (i * 64 + ·) = [] := by
        unfold bl blTo at hb
        rw [List.flatMap_eq_nil_iff] at hb
        exact hb i (by simp; omega)
      have h1 := List.map_eq_nil_iff.1 this
      by_cases h0 : wn s i = 0
      · exact h0
      · have := nb_step _ h0 (wn_lt s i)
        rw [h1] at this; cases this
    exact ext_wn (by rw [z 0 (by omega), zero_wn]) (by rw [z 1 (by omega), zero_wn]) (by rw [z 2 (by omega), zero_wn]) (by rw [z 3 (by omega), zero_wn])

set_option maxRecDepth 100000 in
set_option maxHeartbeats 2000000 in
theorem least_none (w : World) :
    Calls Tryd.prog 22 #[sv 0#256] w fun e w' => e = .returned (.tuple #[.int .u8 0, .bool false]) ∧ Below w.heap.size w w' := by
  unfold sv
  have he := eq_none 0#256
  simp only [decide_true] at he
  go_enter Tryd.func22, Tryd.ntmps22
  go_wp2
  go_returns
  refine ⟨rfl, ?_⟩
  go_grown

set_option maxRecDepth 100000 in
set_option maxHeartbeats 2000000 in
theorem least_some (s : S) (c : Nat) (r : List Nat) (hs : bl s = c :: r) (h0 : s ≠ 0#256) (w : World) (hT : Tab w) :
    Calls Tryd.prog 22 #[sv s] w fun e w' => e = .returned (.tuple #[.int .u8 c, .bool true]) ∧ Below w.heap.size w w' := by
  unfold sv
  have he := eq_none s
  simp only [h0, decide_false] at he
  refine (callsIn_wide (n := 3)).1 ?_
  refine callsIn_of_wp_marks Tryd.func22 rfl trivial ?_ rfl
  simp only [Tryd.ntmps22, List.size_toArray, List.length_cons, List.length_nil, Nat.reduceAdd, Nat.reduceSub, Array.replicate_succ, Array.replicate_zero, List.push_toArray, List.append_toArray, List.nil_append, List.cons_append]
  gi_wp2_with (refine ⟨trivial, ?_⟩; gi_at_call 30; refine (callsIn_wide.2 (all_any s _)).mono ?_; rintro e w' ⟨rfl, rfl⟩)
  have hW : ∃ W0 : World, (((w.alloc (.cells #[.int .u64 (wn s 0), .int .u64 (wn s 1), .int .u64 (wn s 2), .int .u64 (wn s 3)] 24)).alloc (.cells #[.int .u8 0] 5)).alloc (.cells #[.bool false] 4)).alloc (boxOf s) = W0 := ⟨_, rfl⟩
  obtain ⟨W0, hW0⟩ := hW
  have hz : W0.heap.size = w.heap.size + 4 := by rw [← hW0]; simp
  have hb : Below w.heap.size w W0 := by rw [← hW0]; exact ((((Below.refl _ w).alloc (Nat.le_refl _) _).alloc (by simp) _).alloc (by simp; omega) _).alloc (by simp; omega) _
  have hset : SetAt W0 (w.heap.size + 1 + 1 + 1) s := by
    rw [← hW0]
    have h := SetAt.box (((w.alloc (.cells #[.int .u64 (wn s 0), .int .u64 (wn s 1), .int .u64 (wn s 2), .int .u64 (wn s 3)] 24)).alloc (.cells #[.int .u8 0] 5)).alloc (.cells #[.bool false] 4)) s
    simp only [World.size_alloc] at h
    exact h
  have h1 : W0.cell? ⟨w.heap.size + 1, 0, none⟩ = some (.int .u8 0) ∧ W0.frozen? ⟨w.heap.size + 1, 0, none⟩ = false := by rw [← hW0]; exact two_cells1 _ _ _ _ _ _ _
  have h2 : W0.cell? ⟨w.heap.size + 1 + 1, 0, none⟩ = some (.bool false) ∧ W0.frozen? ⟨w.heap.size + 1 + 1, 0, none⟩ = false := by rw [← hW0]; exact two_cells2 _ _ _ _ _ _ _
  have hT0 : Tab W0 := hT.below hb hT.lt
  rw [hW0]
  clear hW0
  refine wpIn_rangeFunc_ownF rfl (by omega) (gf := 33) (lb := #[.pointer (some ⟨w.heap.size + 1 + 1 + 1, 0, none⟩)]) rfl trivial (enters_of Tryd.func33 (by kernel_rfl) rfl)
    (all_stops (w.heap.size + 1 + 1 + 1) s W0 hset hT0) belowK_t (belowK_b (by omega)) (Below.refl _ _) (fun _ => rfl)
    (fun pre W => (pre = [] ∧ W.cell? ⟨w.heap.size + 1, 0, none⟩ = some (.int .u8 0) ∧ W.frozen? ⟨w.heap.size + 1, 0, none⟩ = false ∧ W.cell? ⟨w.heap.size + 1 + 1, 0, none⟩ = some (.bool false) ∧ W.frozen? ⟨w.heap.size + 1 + 1, 0, none⟩ = false) ∧ Below w.heap.size w W)
    (fun j pre W => (j = .ret ∧ ∃ x : Nat, pre = [x] ∧ W.cell? ⟨w.heap.size + 1, 0, none⟩ = some (.int .u8 x) ∧ W.cell? ⟨w.heap.size + 1 + 1, 0, none⟩ = some (.bool true)) ∧ Below w.heap.size w W)
    (OwnFrom.and (Own.from (fun s A B row hs hg hr => ⟨hs.1, cell_kept hs.2.1 hg hr, (frozen_kept hs.2.1 hg hr).trans hs.2.2.1, cell_kept hs.2.2.2.1 hg hr, (frozen_kept hs.2.2.2.1 hg hr).trans hs.2.2.2.2⟩) _) (ownFrom_below (Nat.le_refl _) (by omega)))
    (fun j => OwnFrom.and (Own.from (fun s A B row hs hg hr => by obtain ⟨hj, x, hx, ha, hb⟩ := hs; exact ⟨hj, x, hx, cell_kept ha hg hr, cell_kept hb hg hr⟩) _) (ownFrom_below (Nat.le_refl _) (by omega)))
    ⟨⟨rfl, h1.1, h1.2, h2.1, h2.2⟩, hb⟩
    (fun x => { tmps := #[.agg #[.int .u64 (wn s 0), .int .u64 (wn s 1), .int .u64 (wn s 2), .int .u64 (wn s 3)], .pointer (some ⟨w.heap.size, 0, none⟩), .pointer (some ⟨w.heap.size + 1, 0, none⟩), .pointer (some ⟨w.heap.size + 1 + 1, 0, none⟩), .int .u8 x, .agg #[.int .u64 (wn s 0), .int .u64 (wn s 1), .int .u64 (wn s 2), .int .u64 (wn s 3)], .agg #[.int .u64 0, .int .u64 0, .int .u64 0, .int .u64 0], .bool false, .agg #[.int .u64 (wn s 0), .int .u64 (wn s 1), .int .u64 (wn s 2), .int .u64 (wn s 3)], .func (.func 33) #[] #[.pointer (some ⟨w.heap.size + 1 + 1 + 1, 0, none⟩)], .int .u8 x, undef], defers := [] }) ?assign ?body ?done ?stop
  case assign =>
    intro l x W K hK
    gi_wp2
    exact hK
  case body =>
    rintro l pre x W ⟨⟨rfl, ha, hf, hc, hg⟩, hB⟩ _
    gi_wp2
    refine ⟨(KeepsOthers.setCell _ _ _).trans (KeepsOthers.setCell _ _ _), ⟨rfl, x, rfl, put_other _ (put_same _ ha) (by simp), put_same _ (put_other _ hc (by simp))⟩, ?_⟩
    exact (hB.setCell (p := ⟨w.heap.size + 1, 0, none⟩) (by simp) _).setCell (p := ⟨w.heap.size + 1 + 1, 0, none⟩) (by simp; omega) _
  case done =>
    rintro D ys W hD rfl ⟨⟨hn, _⟩, hB⟩ hK
    rw [hs] at hn; cases hn
  case stop =>
    rintro D j pre W hD hpre ⟨⟨rfl, x, rfl, ha, hc⟩, hB⟩ hK
    obtain ⟨t, ht⟩ := hpre
    rw [hs] at ht
    obtain rfl : x = c := by simpa using (List.cons.inj ht).1
    gi_wp2
    refine ⟨by simp, .inl ⟨_, _, rfl, run_takeDeferred hK, ?_⟩⟩
    have hc5 := cell_kept ha (grownBy_putObj' _ D (.deferred none)) (fun r e => by cases e; exact ⟨_, hK, rfl⟩)
    have hc6 := cell_kept hc (grownBy_putObj' _ D (.deferred none)) (fun r e => by cases e; exact ⟨_, hK, rfl⟩)
    refine ⟨.tuple #[.int .u8 x, .bool true], ?_, rfl, hB.trans (belowK_b (w := w) (Nat.le_refl _) W D _ _ (by omega) hK rfl rfl)⟩
    simp [results, Tryd.f22, go_sem, hc5, hc6]
end Go.Proofs.YtgopahmhniphbaaDoor
