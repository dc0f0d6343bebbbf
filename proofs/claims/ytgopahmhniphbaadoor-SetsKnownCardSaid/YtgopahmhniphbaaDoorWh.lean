import Derived.RangeFuncBox
import Derived.Maps.AppendAt
import Derived.Test.YtgopahmhniphbaaDoorWg
namespace Go.Proofs.YtgopahmhniphbaaDoor
open Go.RowKit Go.Shelf Sp
attribute [local go_sem] Oper.semAt_some

theorem info5 : (Tryd.prog.info? 5).map (fun i => (i.zero, i.size, i.bytes)) = some (some (.int .u8 0), 1, 1) := by kernel_rfl
def enc (l : List Nat) : List Value := l.map fun (x : Nat) => Value.int .u8 (x : Int)
theorem enc_len (l : List Nat) : (enc l).length = l.length := by simp [enc]
theorem enc_snoc (l : List Nat) (x : Nat) : enc (l ++ [x]) = enc l ++ [Value.int .u8 (x : Int)] := by simp [enc]

theorem bl_lt (s : S) : ∀ x ∈ bl s, x < 256 := by
  intro x hx
  unfold bl blTo at hx
  obtain ⟨i, hi, hx⟩ := List.mem_flatMap.1 hx
  obtain ⟨k, hk, rfl⟩ := List.mem_map.1 hx
  unfold nb at hk
  simp at hi hk
  omega

theorem bytesIn_of_own {W : World} {n : Nat} {v : Value} {l : List Nat} (h : W.ownsRow n 5 1 v l.length (enc l)) (hb : ∀ x ∈ l, x < 256) (hl : l.length ≤ 9223372036854775807) : BytesIn W v l := by
  refine ⟨hb, hl, ?_⟩
  rcases h.2 with ⟨rfl, h0⟩ | ⟨g, cap, cur, rfl, _, hg, hc, _, hsz, ht⟩
  · exact .inl ⟨rfl, List.length_eq_zero_iff.1 h0⟩
  · refine .inr (.inr ⟨g, 0, cap, rfl, fun k hk => ?_⟩)
    rw [Nat.zero_add]
    simp only [World.cell?, hg, Option.isSome_none, Bool.false_eq_true, if_false]
    have h1 : cur[k]? = (cur.toList.take (l.length * 1))[k]? := by
      rw [List.getElem?_take, if_pos (by omega)]; simp
    rw [h1, ht, enc, List.getElem?_map, List.getD_eq_getElem?_getD]
    simp [hk]

set_option maxRecDepth 100000 in
set_option maxHeartbeats 2000000 in
theorem lawAll_any (s : S) (w : World) (hT : Tab w) :
    Calls Tryd.prog 23 #[sv s] w fun e W' => ∃ v, e = .returned v ∧ W'.ownsRow w.heap.size 5 1 v (bl s).length (enc (bl s)) ∧ Below w.heap.size w W' := by
  unfold sv
  obtain ⟨i0, hi, hz0, hz1, hz2⟩ := info_parts info5
  have hnil : ∀ (w : World) (n : Nat), (binOp .eql 43 (.func (.func 33) #[] #[.pointer (some ⟨n, 0, none⟩)]) .nilFunc).run Tryd.prog w = .ok (.bool false) w := fun _ _ => by kernel_rfl
  refine (callsIn_wide (n := 3)).1 ?_
  refine callsIn_of_wp_marks Tryd.func23 rfl trivial ?_ rfl
  simp only [Tryd.ntmps23, List.size_toArray, List.length_cons, List.length_nil, Nat.reduceAdd, Nat.reduceSub, Array.replicate_succ, Array.replicate_zero, List.push_toArray, List.append_toArray, List.nil_append, List.cons_append]
  gi_wp2_with (refine ⟨trivial, ?_⟩; gi_at_call 30; refine (callsIn_wide.2 (all_any s _)).mono ?_; rintro e w' ⟨rfl, rfl⟩)
  obtain ⟨W0, hW0⟩ : ∃ W0 : World, (((w.alloc (boxOf s)).alloc (.cells #[.slice none 0 0] 30)).alloc (boxOf s)).alloc (boxOf s) = W0 := ⟨_, rfl⟩
  have hz : W0.heap.size = w.heap.size + 4 := by rw [← hW0]; simp
  have hb : Below w.heap.size w W0 := by rw [← hW0]; exact ((((Below.refl _ w).alloc (Nat.le_refl _) _).alloc (by simp) _).alloc (by simp; omega) _).alloc (by simp; omega) _
  have hset : SetAt W0 (w.heap.size + 1 + 1 + 1) s := by
    rw [← hW0]
    have h := SetAt.box (((w.alloc (boxOf s)).alloc (.cells #[.slice none 0 0] 30)).alloc (boxOf s)) s
    simp only [World.size_alloc] at h
    exact h
  have bO : Boxed W0 (w.heap.size + 1) 30 (.slice none 0 0) := by
    rw [← hW0]
    have h := Boxed.new (w.alloc (boxOf s)) 30 (.slice none 0 0)
    simp only [World.size_alloc] at h
    exact (h.alloc _).alloc _
  have hT0 : Tab W0 := hT.below hb hT.lt
  have hlen : (bl s).length ≤ 256 := blTo_len s 4
  show Code.wpIn _ _ _ _ _ _ ((((w.alloc (boxOf s)).alloc (.cells #[.slice none 0 0] 30)).alloc (boxOf s)).alloc (boxOf s))
  rw [hW0]
  clear hW0
  refine wpIn_rangeFunc_ownG rfl (by omega) (gf := 33) (lb := #[.pointer (some ⟨w.heap.size + 1 + 1 + 1, 0, none⟩)]) rfl trivial (enters_of Tryd.func33 (by kernel_rfl) rfl)
    (all_stops (w.heap.size + 1 + 1 + 1) s W0 hset hT0) belowK_t (belowK_b (by omega)) (Below.refl _ _) (fun _ => rfl)
    (fun pre W => (∃ v, Boxed W (w.heap.size + 1) 30 v ∧ W.ownsRow w.heap.size 5 1 v pre.length (enc pre) ∧ True) ∧ Below w.heap.size w W)
    (fun _ _ _ => False)
    (OwnFrom.and (Own.from (holdsRow_own w.heap.size (w.heap.size + 1) 30 5 1 (fun pre => pre.length) (fun pre => enc pre) (fun _ _ => True)) _) (ownFrom_below (Nat.le_refl _) (by omega)))
    (fun _ _ _ _ _ hs _ _ => hs)
    ⟨⟨_, bO, World.ownsRow_nil _ _ _ _, trivial⟩, hb⟩
    (fun x => { tmps := #[.agg #[.int .u64 (wn s 0), .int .u64 (wn s 1), .int .u64 (wn s 2), .int .u64 (wn s 3)], .pointer (some ⟨w.heap.size, 0, none⟩), .slice none 0 0, .pointer (some ⟨w.heap.size + 1, 0, none⟩), .int .u8 x, .agg #[.int .u64 (wn s 0), .int .u64 (wn s 1), .int .u64 (wn s 2), .int .u64 (wn s 3)], .func (.func 33) #[] #[.pointer (some ⟨w.heap.size + 1 + 1, 0, none⟩)], .bool false, .agg #[.int .u64 (wn s 0), .int .u64 (wn s 1), .int .u64 (wn s 2), .int .u64 (wn s 3)], .func (.func 33) #[] #[.pointer (some ⟨w.heap.size + 1 + 1 + 1, 0, none⟩)], .int .u8 x, undef, undef, undef, undef, undef], defers := [] }) ?assign ?body ?done ?stop
  case assign =>
    intro l x W K hK
    gi_wp2
    exact hK
  case body =>
    rintro l pre x W ⟨⟨v, hv, hrow, _⟩, hB⟩ hlt
    have hc := hv.cell
    gi_wp2_with (gi_at_builtin; refine wpListIn_append_own _ rfl _ _ 30 rfl w.heap.size 5 i0 (.int .u8 0) 1 1 Tryd.underlying30 hi hz0 hz1 hz2 rfl (by decide) _ _ _ rfl (hrow.alloc _) ⟨W.heap.size, 0, none⟩ 1 1 [.int .u8 x] rfl rfl (cell_one_new _ _ _) (by simp [Value.oneCell']) (by unfold maxLen; omega) (by omega) (by have := hB.size; simp; omega) ?_; intro v' w1 hown' hgrow _; obtain ⟨g', cap', rfl⟩ := ownsRow_succ hown'; obtain ⟨hv1, hv2, hr2, hk2, hb2⟩ := hv.appended (by decide) hrow hB.size (by omega) hown' hgrow; have hc1 := hv1.cell; have hf1 := hv1.frozen)
    exact ⟨hk2.from _, hb2.mono (by have := hT.lt; omega), ⟨_, hv2, by rw [enc_snoc]; simpa using hr2, trivial⟩, hB.trans hb2⟩
  case done =>
    rintro D ys W hD rfl ⟨⟨v, hv, hrow, _⟩, hB⟩ hK
    have hc := hv.cell
    gi_wp2
    refine ⟨by simp, .inl ⟨_, _, rfl, run_takeDeferred hK, ?_⟩⟩
    exact ⟨_, results_tmp rfl _ _ _, v, rfl, ownsRow_putObj hrow _ hK rfl, hB.trans (belowK_b (w := w) (Nat.le_refl _) W D _ _ (by omega) hK rfl rfl)⟩
  case stop =>
    rintro D c pre W _ _ h _
    exact h.elim
end Go.Proofs.YtgopahmhniphbaaDoor
