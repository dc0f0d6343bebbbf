/-
  LISTS OF ROWS OF BYTES. Conditions: those of each theorem.
  THE RECORDS IN BYTES. Conditions: those of each theorem.
  THE DOCUMENT's SUMS. Conditions: those of each theorem.
  THE DOCUMENT's NUMBERS. Conditions: those of each theorem.
  IS IT THE SUM. Conditions: those of each theorem.
  THE DOCUMENT's RECORD. Conditions: those of each theorem.
  THE DOCUMENT's RECORD, WHOLE. Conditions: those of each theorem.
-/
import Derived.Test.YtmcmagplaflegaaGreatX5

namespace Go.Proofs.YtmcmagplaflegaaGreat
open Go Go.RowKit Go.MapL Go.Poised
variable {n₀ : Nat}

def rowK (v : Value) (g : Nat) : Prop := v.ownBlock = some g
theorem nextcap_one {n : Nat} (h : n ≤ 7100000000000) : Builtin.nextslicecap (n + 1) n * 24 ≤ 281474976710656 := by
  unfold Builtin.nextslicecap
  split
  · omega
  · split
    · omega
    · rw [growBy_four]
      repeat' split
      all_goals omega
/-- One more, of 24 bytes, behind a row of up to 7100000000000. -/
theorem run_append_far {P : Program} (w : World) (base : Nat) (t ty e : TypeId) (i : TypeInfo) (z : Value) (ht : P.underlying t = some (.slice e)) (hi : P.info? e = some i) (hz : i.zero = some z) (hsz : i.size = 1) (hby : i.bytes = 24) (hzs : z.cells.size = 1)
    (v : Value) (n : Nat) (xs : List Value) (hown : w.ownsRow base e 1 v n xs) (B : Nat) (u : Value) (hB : w.cell? ⟨B, 0, none⟩ = some u) (hu : u.oneCell' = true) (hn : n ≤ 7100000000000) (hbase : base ≤ w.heap.size) :
    ∃ v' w', (Builtin.append_ #[t, t] ty #[v, .slice (some ⟨B, 0, none⟩) 1 1]).run P w = .ok v' w' ∧ w'.ownsRow base e 1 v' (n + 1) (xs ++ [u]) ∧ w.grownBy w' v.ownBlock ∧ ∀ k, v'.ownBlock = some k → v.ownBlock = some k ∨ w.heap.size ≤ k := by
  have hnews : ∀ j y, [u][j]? = some y → w.cell? ((⟨B, 0, none⟩ : Addr).add j) = some y := by
    intro j y hj
    cases j with
    | zero => simp at hj; subst hj; exact hB
    | succ j => simp at hj
  by_cases hsmall : (n + 1) * 24 ≤ 140737488355328
  · exact run_append_where (P := P) w base t ty e i z 1 24 ht hi hz hsz hby hzs (by omega) v n xs hown ⟨B, 0, none⟩ 1 1 [u] rfl hnews (by intro y hy; simp at hy; subst hy; exact hu) (by unfold maxLen; omega) hsmall hbase
  · have hlen : (xs ++ [u]).length = n + 1 := by rw [List.length_append, hown.1]; simp
    rcases hown.2 with ⟨rfl, h0⟩ | ⟨g, cap, cur, rfl, hbg, hg, hnc, hcm, hcs, htake⟩
    · omega
    · by_cases hroom : n + 1 ≤ cap
      · have hr := run_append_room (P := P) w t ty e i ht hi g n cap cur hg ⟨B, 0, none⟩ 1 1 [u] (by simp [hsz]) hnews (by intro y hy; simp at hy; subst hy; exact hu) hroom (by rw [hsz, hcs]; simp; omega)
        refine ⟨_, _, hr, ⟨by rw [hlen]; omega, .inr ⟨g, cap, _, rfl, hbg, setRow_heap w g cur _ e _ hg, hroom, hcm, ?_, ?_⟩⟩, ⟨rfl, rfl, rfl, by simp, fun k _ hk => setRow_other w g k _ (fun e => hk (by simp [Value.ownBlock, e]))⟩, fun k hk => .inl hk⟩
        · simp only [List.size_toArray, List.length_append, List.length_take, List.length_drop, Array.length_toList, hsz]
          simp; omega
        · rw [hsz, htake]
          simp only [Nat.mul_one] at *
          have := List.take_left (l₁ := xs ++ [u]) (l₂ := cur.toList.drop (n + 1))
          rw [hlen] at this
          simpa using this
      · have holds : ∀ j u, xs[j]? = some u → w.cell? ((⟨g, 0, none⟩ : Addr).add j) = some u := hown.cells (g := g) rfl
        obtain rfl : cap = n := by omega
        have hr := run_append_grow (P := P) w t ty e i z ht hi hz ⟨g, 0, none⟩ cap cap xs (by rw [hown.1, hsz]) holds ⟨B, 0, none⟩ 1 1 [u] (by simp [hsz]) hnews (by omega) (by omega) (by rw [hby]; exact nextcap_one hn)
        have hge := grownCap_ge w (cap + 1) cap e
        have hcm2 : grownCap w (cap + 1) cap e ≤ maxLen := grownCap_le_maxLen w (cap + 1) cap e (by unfold maxLen; omega)
        refine ⟨_, _, hr, ⟨by rw [hlen]; omega, .inr ⟨w.heap.size, _, _, rfl, hbase, heap_alloc_new w.drew _, hge, hcm2, ?_, ?_⟩⟩, ⟨rfl, rfl, rfl, by simp, fun k hk _ => Below.heap_alloc w.drew _ k hk⟩, fun k hk => .inr (by simp [Value.ownBlock] at hk; omega)⟩
        · simp only [Array.size_append, List.size_toArray, size_zeroCells, hzs, hown.1]
          simp; omega
        · simp only [Array.toList_append, List.append_assoc]
          rw [← List.append_assoc]
          have := List.take_left (l₁ := xs ++ [u]) (l₂ := (Builtin.zeroCells z.cells (grownCap w (cap + 1) cap e - (cap + 1))).toList)
          rw [hlen] at this
          simpa using this
theorem wpList_append_far {P : Program} (w : World) {ops : Array Oper} {rest : List Oper} {o : Oper} {a : Act} {Q : Exit → Act → World → Prop} (hgd : o.guard = none) (s x : Operand) (t e : TypeId) (i : TypeInfo) (z : Value)
    (ho : o.op = .call { callee := .builtin .append, args := #[s, x], argTypes := #[t, t] }) (ht : P.underlying t = some (.slice e)) (hi : P.info? e = some i) (hz : i.zero = some z) (hsz : i.size = 1) (hby : i.bytes = 24) (hzs : z.cells.size = 1)
    (base : Nat) (v u : Value) (n : Nat) (xs : List Value) (B : Nat) (hs : a.eval s = v) (hx : a.eval x = .slice (some ⟨B, 0, none⟩) 1 1) (hown : w.ownsRow base e 1 v n xs) (hB : w.cell? ⟨B, 0, none⟩ = some u) (hu : u.oneCell' = true) (hn : n ≤ 7100000000000) (hbase : base ≤ w.heap.size)
    (h : ∀ v' w', w'.ownsRow base e 1 v' (n + 1) (xs ++ [u]) → w.grownBy w' v.ownBlock → (∀ k, v'.ownBlock = some k → v.ownBlock = some k ∨ w.heap.size ≤ k) → wpList P ops Q rest (a.put o.dst v') w') : wpList P ops Q (o :: rest) a w := by
  refine wpList_plain hgd fun K hK => ?_
  obtain ⟨v', w', hr, h2, h3, h4⟩ := run_append_far (P := P) w base t o.type e i z ht hi hz hsz hby hzs v n xs hown B u hB hu hn hbase
  unfold Oper.wp execOp
  simp only [ho, resolve, invoke, builtin, Sem.run_bind, Sem.run_pure, Result.andThen_ok, List.map_toArray, List.map_cons, List.map_nil, hs, hx, hr]
  exact hK _ _ (h v' w' h2 h3 h4)

theorem info23 : (Tryz.prog.info? 23).map (fun i => (i.zero, i.size, i.bytes)) = some (some (.slice none 0 0), 1, 24) := by kernel_rfl

structure RowsAt (w : World) (n₀ : Nat) (u : Value) (L : List (Value × List Nat)) : Prop where
  row : w.ownsRow n₀ 23 1 u L.length (L.map (·.1))
  each : ∀ q ∈ L, w.ownsRow n₀ 5 1 q.1 q.2.length (encB q.2)
def rowsK (u : Value) (L : List (Value × List Nat)) (g : Nat) : Prop := rowK u g ∨ ∃ q ∈ L, rowK q.1 g
theorem RowsAt.nil (w : World) (n₀ : Nat) : RowsAt w n₀ (.slice none 0 0) [] := ⟨World.ownsRow_nil _ _ _ _, by simp⟩
theorem rowsK_nil {g : Nat} : ¬ rowsK (.slice none 0 0) [] g := by rintro (h | ⟨q, h, _⟩); cases h; cases h
theorem RowsAt.same {w w' : World} {u : Value} {L : List (Value × List Nat)} (h : RowsAt w n₀ u L) (hs : ∀ g, rowsK u L g → w'.heap[g]? = w.heap[g]?) : RowsAt w' n₀ u L :=
  ⟨row_same h.row (fun g hg => hs g (.inl hg)), fun q hq => row_same (h.each q hq) (fun g hg => hs g (.inr ⟨q, hq, hg⟩))⟩
theorem RowsAt.lt {w : World} {u : Value} {L : List (Value × List Nat)} (h : RowsAt w n₀ u L) {g : Nat} (hg : rowsK u L g) : n₀ ≤ g ∧ g < w.heap.size := by
  rcases hg with hg | ⟨q, hq, hg⟩
  · exact h.row.lt g hg
  · exact (h.each q hq).lt g hg
theorem RowsAt.below {w w' : World} {u : Value} {L : List (Value × List Nat)} (h : RowsAt w n₀ u L) (hb : Below w.heap.size w w') : RowsAt w' n₀ u L := h.same (fun g hg => hb.block g (h.lt hg).2)
theorem sorts {w : World} {n n' : Nat} {u v : Value} {k k' : Nat} {xs ys : List Value} (h : w.ownsRow n 23 1 u k xs) (h' : w.ownsRow n' 5 1 v k' ys) {g : Nat} (h1 : u.ownBlock = some g) (h2 : v.ownBlock = some g) : False := by
  have e1 := sort_row h h1
  have e2 := sort_row h' h2
  omega
theorem RowsAt.push {w w' : World} {u u' v : Value} {b : List Nat} {L : List (Value × List Nat)} (h : RowsAt w n₀ u L) (hv : w.ownsRow n₀ 5 1 v b.length (encB b)) (hr : w'.ownsRow n₀ 23 1 u' (L.length + 1) (L.map (·.1) ++ [v])) (hg : w.grownBy w' u.ownBlock) : RowsAt w' n₀ u' (L ++ [(v, b)]) := by
  have key : ∀ (x : Value) (k : Nat) (xs : List Value), w.ownsRow n₀ 5 1 x k xs → w'.ownsRow n₀ 5 1 x k xs := fun x k xs hx =>
    row_same hx (fun g hg2 => hg.block g (hx.lt g hg2).2 (fun e => sorts h.row hx e.symm hg2))
  refine ⟨by simpa using hr, fun q hq => ?_⟩
  rcases List.mem_append.1 hq with hq | hq
  · exact key _ _ _ (h.each q hq)
  · rw [List.mem_singleton] at hq; subst hq; exact key _ _ _ hv
end Go.Proofs.YtmcmagplaflegaaGreat

namespace Go.Proofs.YtmcmagplaflegaaGreat
open Go Go.RowKit Go.MapL Go.Poised

/-- The whole records in bytes, the first of number n, and the bytes they take: none: one is wrong. -/
def recsOf : Nat → List Nat → Nat → Option (List (List Nat) × Nat)
  | 0, _, _ => some ([], 0)
  | k + 1, b, n => if b.length = 0 then some ([], 0) else
    match oneRes b n with
    | none => none
    | some none => some ([], 0)
    | some (some size) => (recsOf k (b.drop (20 + size)) (n + 1)).map fun x => (recOf b size :: x.1, 20 + size + x.2)
def recs (b : List Nat) : Option (List (List Nat) × Nat) := recsOf b.length b 1
/-- Behind some records already taken off. -/
def behind (l : List (List Nat)) (c : Nat) (x : Option (List (List Nat) × Nat)) : Option (List (List Nat) × Nat) := x.map fun y => (l ++ y.1, c + y.2)
theorem recsOf_nil (k n : Nat) : recsOf k [] n = some ([], 0) := by cases k <;> rfl
theorem behind_step (l : List (List Nat)) (c : Nat) (r : List Nat) (s : Nat) (x : Option (List (List Nat) × Nat)) : behind l c (x.map fun y => (r :: y.1, s + y.2)) = behind (l ++ [r]) (c + s) x := by
  cases x with
  | none => rfl
  | some y => simp [behind, Nat.add_assoc]
theorem oneRes_size {b : List Nat} {n size : Nat} (h : oneRes b n = some (some size)) : size + 20 ≤ b.length := by
  unfold oneRes at h
  split at h
  · cases h
  · split at h
    · split at h
      · cases h
      · split at h
        · cases h; omega
        · cases h
    · cases h
theorem recOf_len {b : List Nat} {size : Nat} (h : size + 20 ≤ b.length) : (recOf b size).length = size := by simp [recOf]; omega
def RecsIs (w w' : World) (e : Ending) : Option (List (List Nat) × Nat) → Prop
  | none => e = .returned (.tuple #[.slice none 0 0, .int .i64 0, .int .i64 70])
  | some (l, c) => ∃ u L, e = .returned (.tuple #[u, .int .i64 c, .int .i64 0]) ∧ RowsAt w' w.heap.size u L ∧ L.map (·.2) = l
set_option maxRecDepth 100000 in
set_option maxHeartbeats 8000000 in
theorem recs_any (b : List Nat) (v : Value) (w0 : World) (hv : BytesIn w0 v b) (hcap : ∃ p cap, v = .slice p b.length cap ∧ b.length ≤ cap) (hlen : b.length ≤ 140737488355328) :
    Calls Tryz.prog 28 #[v] w0 fun e w' => RecsIs w0 w' e (recs b) ∧ Below w0.heap.size w0 w' := by
  obtain ⟨i23, hi23, hz23, hs23, hb23⟩ := info_parts info23
  obtain ⟨p, cap, rfl, hcap⟩ := hcap
  obtain ⟨res, hres⟩ : ∃ res, recs b = res := ⟨_, rfl⟩
  rw [hres]
  replace hres : Hid _ := hres
  replace hz23 : Hid _ := hz23
  replace hs23 : Hid _ := hs23
  replace hb23 : Hid _ := hb23
  replace hlen : Hid _ := hlen
  have hll := hv.2.1
  replace hv : Hid _ := hv
  go_enter Tryz.func28, Tryz.ntmps28
  go_wp2_with fail
  go_loopw [5, 2, 3] (fun x y z wr => ∃ (q : Option Addr) (rest : List Nat) (L : List (Value × List Nat)) (k c qc : Nat), x = .slice q rest.length qc ∧ BytesIn w0 x rest ∧ rest.length ≤ qc ∧ z = .int .i64 c ∧ c + rest.length = b.length ∧ 20 * L.length ≤ c ∧ RowsAt wr w0.heap.size y L ∧ Below w0.heap.size w0 wr ∧ rest.length ≤ k ∧ Hid (recs b = behind (L.map (·.2)) c (recsOf k rest (L.length + 1)))) (fun x _ _ _ => match x with | .slice _ n _ => n | _ => 0)
  case atStart => exact ⟨p, b, [], b.length, 0, cap, rfl, hv.out, hcap, rfl, by omega, by simp, RowsAt.nil _ _, Below.refl _ _, Nat.le_refl _, by show _ = _; simp [behind, recs]⟩
  case round =>
    obtain ⟨q, rest, L, k, c, qc, rfl, hr, hqc, rfl, hcl, hL20, hL, hB, hk, hrec⟩ := hrel
    by_cases h0 : rest.length = 0
    · obtain rfl : rest = [] := List.eq_nil_of_length_eq_zero h0
      obtain ⟨uq, ucap, rfl⟩ := own_shape hL.row
      have hend : Hid (res = some (L.map (·.2), c)) := by
        show _ = _
        rw [← hres.out, hrec.out, recsOf_nil]; simp [behind]
      simp only [List.length_nil]
      clear hrec hr
      go_wp2_with fail
      go_returns
      rw [hend.out]
      exact ⟨⟨_, L, rfl, hL, rfl⟩, hB⟩
    · obtain ⟨B, off, rfl⟩ : ∃ B off, q = some ⟨B, off, none⟩ := by
        rcases hr.2.2 with ⟨_, h⟩ | ⟨a, c2, _, h⟩ | ⟨b2, off2, c2, e, _⟩
        · subst h; exact absurd rfl h0
        · subst h; exact absurd rfl h0
        · cases e; exact ⟨_, _, rfl⟩
      obtain ⟨k, rfl⟩ : ∃ k', k = k' + 1 := ⟨k - 1, by omega⟩
      obtain ⟨N, hN⟩ : ∃ N, L.length + 1 = N := ⟨_, rfl⟩
      have hlo := hlen.out
      have h1 := one_any rest B off qc N wr (hr.below hB) hqc (by omega) (by omega)
      have g0 : ¬ (rest.length : Int) = 0 := by omega
      have g1 : 0 < (rest.length : Int) := by omega
      have gN : (L.length : Int) + 1 = (N : Int) := by omega
      have gw : IntKind.i64.wrap (N : Int) = (N : Int) := IntWalk.i64_in _ (by omega)
      obtain ⟨uq, ucap, rfl⟩ := own_shape hL.row
      rw [hN] at hrec
      unfold recsOf at hrec
      rw [if_neg h0] at hrec
      rcases ho : oneRes rest N with _ | _ | size
      · rw [ho] at h1
        have hend : Hid (res = none) := by
          show _ = _
          rw [← hres.out, hrec.out, ho]; rfl
        replace hrec : Hid _ := hrec
        replace hN : Hid _ := hN
        replace ho : Hid _ := ho
        replace hr : Hid _ := hr
        go_wp2_with (go_at_call 79; refine h1.mono ?_; clear h1; rintro e w1 ⟨rfl, hb1⟩)
        go_returns
        rw [hend.out]
        exact ⟨rfl, hB.trans (hb1.mono hB.size)⟩
      · rw [ho] at h1
        have hend : Hid (res = some (L.map (·.2), c)) := by
          show _ = _
          rw [← hres.out, hrec.out, ho]; simp [behind]
        replace hrec : Hid _ := hrec
        replace hN : Hid _ := hN
        replace ho : Hid _ := ho
        replace hr : Hid _ := hr
        go_wp2_with (go_at_call 79; refine h1.mono ?_; clear h1; rintro e w1 ⟨rfl, hb1⟩)
        go_returns
        rw [hend.out]
        exact ⟨⟨_, L, rfl, hL.below hb1, rfl⟩, hB.trans (hb1.mono hB.size)⟩
      · rw [ho] at h1
        have hsz := oneRes_size ho
        have hrec2 : Hid (recs b = behind (L.map (·.2) ++ [recOf rest size]) (c + (20 + size)) (recsOf k (rest.drop (20 + size)) (N + 1))) := by
          show _ = _
          rw [hrec.out, ho]; exact behind_step _ _ _ _ _
        clear hrec
        have hrl : Hid ((recOf rest size).length = size) := recOf_len hsz
        obtain ⟨M, hM⟩ : ∃ M, rest.length - (20 + size) = M := ⟨_, rfl⟩
        have gM : (b.length : Int) - (M : Int) = ((c + (20 + size) : Nat) : Int) := by omega
        have gw2 : IntKind.i64.wrap ((c + (20 + size) : Nat) : Int) = ((c + (20 + size) : Nat) : Int) := IntWalk.i64_in _ (by omega)
        simp only [OneIs, hM] at h1
        replace hM : Hid _ := hM
        replace hN : Hid _ := hN
        replace ho : Hid _ := ho
        replace hr : Hid _ := hr
        replace hsz : Hid _ := hsz
        go_wp2_with (first
          | (go_at_call 79; refine h1.mono ?_; clear h1; rintro e w1 ⟨⟨v, off', cap', rfl, hc', hrest, hown⟩, hb1⟩; obtain ⟨vq, vcap, rfl⟩ := own_shape hown; have hL1 := hL.below (hb1.trans ((Below.refl _ _).alloc hb1.size (.cells #[.slice vq size vcap] 23))))
          | (at_builtin; refine wpList_append_far _ rfl _ _ 53 23 i23 (.slice none 0 0) rfl Tryz.underlying53 hi23 hz23.out hs23.out hb23.out rfl w0.heap.size (.slice uq L.length ucap) (.slice vq size vcap) L.length (L.map (·.1)) w1.heap.size rfl rfl hL1.row (cell_new1 _ _ _) (by simp [Value.oneCell']) (by omega) (by have := hB.size; have := hb1.size; simp; omega) ?_; intro v' w2 hown2 hgrow hwhere))
        go_roundw
        case rel =>
          have hM' := hM.out
          have hsz' := hsz.out
          have hal := (Below.refl w1.heap.size w1).alloc (Nat.le_refl _) (.cells #[.slice vq size vcap] 23)
          have hB1 := hB.trans ((hb1.trans (hal.mono hb1.size)).mono hB.size)
          have hown1 : w1.ownsRow w0.heap.size 5 1 (.slice vq size vcap) (recOf rest size).length (encB (recOf rest size)) := own_le (by rw [hrl.out]; exact hown) hB.size
          have hown3 := row_same (w' := w1.alloc (.cells #[.slice vq size vcap] 23)) hown1 (fun g hg => hal.block g (hown1.lt g hg).2)
          have hrl2 := hr.out
          refine ⟨some ⟨B, off', none⟩, rest.drop (20 + size), L ++ [(.slice vq size vcap, recOf rest size)], k, c + (20 + size), cap', ?_, hrest _ hr.out, ?_, rfl, ?_, ?_, hL1.push hown3 hown2 hgrow, hB1.trans (below_grown hL1.row hB1.size hgrow), ?_, ?_⟩
          · rw [List.length_drop, hM']
          · rw [List.length_drop, hM']; exact hc'
          · rw [List.length_drop, hM']; omega
          · rw [List.length_append, List.length_singleton]; omega
          · rw [List.length_drop, hM']; omega
          · show _ = _
            rw [hrec2.out, List.map_append, List.length_append, List.length_singleton, hN.out]; rfl
        case measure =>
          have hM' := hM.out
          have hsz' := hsz.out
          simp only; omega
end Go.Proofs.YtmcmagplaflegaaGreat

namespace Go.Proofs.YtmcmagplaflegaaGreat
open Go Go.RowKit Go.MapL Go.Poised

theorem xor_swap (a b c d : Nat) : (a ^^^ b) ^^^ (c ^^^ d) = (a ^^^ c) ^^^ (b ^^^ d) := by
  rw [Nat.xor_assoc, ← Nat.xor_assoc b c d, Nat.xor_comm b c, Nat.xor_assoc c b d, ← Nat.xor_assoc]
theorem crcStep_xor (a b : Nat) : crcStep (a ^^^ b) = crcStep a ^^^ crcStep b := by
  unfold crcStep
  have h1 : (a ^^^ b) % 2 = (a + b) % 2 := by
    have h := Nat.testBit_xor a b 0
    simp only [Nat.testBit_zero] at h
    rcases (show a % 2 = 0 ∨ a % 2 = 1 by omega) with ha | ha <;> rcases (show b % 2 = 0 ∨ b % 2 = 1 by omega) with hb | hb <;> rcases (show (a ^^^ b) % 2 = 0 ∨ (a ^^^ b) % 2 = 1 by omega) with hx | hx <;> rw [ha, hb, hx] at h <;> first | omega | exact absurd h (by decide)
  have h2 : (a ^^^ b) / 2 = a / 2 ^^^ b / 2 := Nat.xor_div_two
  rw [h1, h2]
  rcases (show a % 2 = 0 ∨ a % 2 = 1 by omega) with ha | ha <;> rcases (show b % 2 = 0 ∨ b % 2 = 1 by omega) with hb | hb
  · rw [if_neg (by omega), if_neg (by omega), if_neg (by omega)]
  · rw [if_pos (by omega), if_neg (by omega), if_pos (by omega), Nat.xor_assoc]
  · rw [if_pos (by omega), if_pos (by omega), if_neg (by omega), Nat.xor_assoc, Nat.xor_comm (b / 2), ← Nat.xor_assoc]
  · rw [if_neg (by omega), if_pos (by omega), if_pos (by omega), xor_swap, Nat.xor_self, Nat.xor_zero]
theorem rollN_xor (a b : Nat) : ∀ k, rollN k (a ^^^ b) = rollN k a ^^^ rollN k b
  | 0 => rfl
  | k + 1 => by
    show crcStep (rollN k (a ^^^ b)) = crcStep (rollN k a) ^^^ crcStep (rollN k b)
    rw [rollN_xor a b k, crcStep_xor]
theorem crcStep_even (x : Nat) : crcStep (2 * x) = x := by
  unfold crcStep; rw [if_neg (by omega)]; omega
theorem rollN_shift : ∀ (k x : Nat), rollN k (2 ^ k * x) = x
  | 0, x => by simp [rollN]
  | k + 1, x => by
    show crcStep (rollN k (2 ^ (k + 1) * x)) = x
    rw [Nat.pow_succ, Nat.mul_assoc, rollN_shift k, crcStep_even]
theorem split_low (s : Nat) : 256 * (s / 256) ^^^ s % 256 = s := by
  have h := Nat.two_pow_add_eq_or_of_lt (i := 8) (b := s % 256) (by omega) (s / 256)
  have h2 : 2 ^ 8 * (s / 256) ^^^ s % 256 = 2 ^ 8 * (s / 256) ||| s % 256 := by
    apply Nat.eq_of_testBit_eq
    intro i
    rw [Nat.testBit_xor, Nat.testBit_or]
    by_cases hi : i < 8
    · have : (2 ^ 8 * (s / 256)).testBit i = false := by
        rw [Nat.testBit_two_pow_mul]; simp; omega
      rw [this]; simp
    · have : (s % 256).testBit i = false := by
        apply Nat.testBit_lt_two_pow
        exact Nat.lt_of_lt_of_le (show s % 256 < 2 ^ 8 by omega) (Nat.pow_le_pow_right (by omega) (by omega))
      rw [this]; simp
  show 2 ^ 8 * (s / 256) ^^^ s % 256 = s
  rw [h2, ← h]; omega
/-- A byte taken in whole is its fall by eight bits. -/
theorem take_roll (s c : Nat) : rollN 8 (s ^^^ c) = (s / 256) ^^^ roll ((s % 256) ^^^ c) := by
  conv => lhs; rw [← split_low s, Nat.xor_assoc, rollN_xor]
  rw [show (256 : Nat) * (s / 256) = 2 ^ 8 * (s / 256) from rfl, rollN_shift]; rfl
set_option maxRecDepth 100000 in
set_option maxHeartbeats 2000000 in
theorem takeR_any (s c : Nat) (w : World) (hs : s < 4294967296) (hc : c < 256) :
    Calls Tryz.prog 145 #[.int .u32 s, .int .u8 c] w fun e w' => e = .returned (.int .u32 (rollN 8 (s ^^^ c))) ∧ w' = w := by
  have g0 : IntKind.u32.wrap (c : Int) = (c : Int) := IntWalk.u32_in _ (by omega)
  have g00 := xor32 s c hs (by omega)
  have hsc : s ^^^ c < 4294967296 := Nat.xor_lt_two_pow (n := 32) (by omega) (by omega)
  obtain ⟨y, hy⟩ : ∃ y, s ^^^ c = y := ⟨_, rfl⟩
  rw [hy] at g00 hsc ⊢
  clear hy
  go_enter Tryz.func145, Tryz.ntmps145
  go_wp2_with fail
  clear g0 g00
  go_loopw [5, 0] (fun i v wr => ∃ k : Nat, k ≤ 8 ∧ i = .int .i64 k ∧ v = .int .u32 (rollN k y) ∧ wr = w) (fun i _ _ => 8 - (intOf i).toNat)
  case atStart => exact ⟨0, by omega, rfl, rfl, rfl⟩
  case round =>
    obtain ⟨k, hk, rfl, rfl, rfl⟩ := hrel
    by_cases hlt : k < 8
    · have hlt' : (k : Int) < 8 := by omega
      have hst : Hid (rollN (k + 1) y = crcStep (rollN k y)) := rfl
      have hx := rollN_lt hsc k
      generalize rollN k y = x at hst hx ⊢
      have g1 := and_one x hx
      have g2 : bits .xor .u32 ((x : Int) / 2) 3988292384 = (((x / 2) ^^^ 3988292384 : Nat) : Int) := by
        have := xor32 (x / 2) 3988292384 (by omega) (by omega)
        rw [← this]; rfl
      by_cases ho : x % 2 = 1
      · rw [decide_eq_true ho] at g1
        have ho' : Hid _ := ho
        clear ho
        go_wp2_with fail
        go_roundw
        case rel => exact ⟨k + 1, by omega, by go_num, by rw [hst.out, crcStep, if_pos ho'.out], trivial⟩
        case measure => simp [intOf]; omega
      · rw [decide_eq_false ho] at g1
        have ho' : Hid _ := ho
        clear ho g2
        go_wp2_with fail
        go_roundw
        case rel => exact ⟨k + 1, by omega, by go_num, by rw [hst.out, crcStep, if_neg ho'.out]; simp, trivial⟩
        case measure => simp [intOf]; omega
    · obtain rfl : k = 8 := by omega
      go_wp2_with fail
      go_returns
      exact ⟨rfl, rfl⟩
set_option maxRecDepth 100000 in
set_option maxHeartbeats 2000000 in
theorem onR_any (s : Nat) (v : Value) (l : List Nat) (w : World) (hs : s < 4294967296) (hv : BytesIn w v l) :
    Calls Tryz.prog 122 #[.int .u32 s, v] w fun e w' => e = .returned (.int .u32 (crcOn s l)) ∧ w' = w := by
  have hbl := hv.1
  have hll := hv.2.1
  obtain ⟨p, cap, rfl, hc⟩ := bytes_parts hv
  have g0 := not32 s hs
  obtain ⟨t, ht⟩ : ∃ t, 4294967295 - s = t := ⟨_, rfl⟩
  have htl : t < 4294967296 := by omega
  rw [ht] at g0
  go_enter Tryz.func122, Tryz.ntmps122
  go_wp2_with fail
  have htd : Hid (4294967295 - s = t) := ht
  clear ht g0
  go_loopw [5, 0] (fun i v wr => ∃ k : Nat, k ≤ l.length ∧ i = .int .i64 k ∧ v = .int .u32 (crcFold t (l.take k)) ∧ wr = w) (fun i _ _ => l.length - (intOf i).toNat)
  case atStart => exact ⟨0, by omega, rfl, rfl, rfl⟩
  case round =>
    obtain ⟨k, hk, rfl, rfl, rfl⟩ := hrel
    by_cases hlt : k < l.length
    · obtain ⟨b, off, rfl, hcell⟩ := hc k hlt
      have hlt' : (k : Int) < l.length := by omega
      have hst : Hid (crcFold t (l.take (k + 1)) = rollN 8 (crcFold t (l.take k) ^^^ l.getD k 0)) := by show _ = _; rw [take_snoc' l k hlt, crcFold_snoc, take_roll]
      have hS := crcFold_lt (l.take k) t htl (fun x hx => hbl x (List.mem_of_mem_take hx))
      have hcl : l.getD k 0 < 256 := by rw [List.getD_eq_getElem?_getD, List.getElem?_eq_getElem hlt]; exact hbl _ (List.getElem_mem hlt)
      generalize crcFold t (l.take k) = S at hst hS ⊢
      generalize l.getD k 0 = c at hst hcl hcell
      clear hc hbl
      have hro := takeR_any S c
      have hro := fun w => hro w hS hcl
      obtain ⟨y, hy⟩ : ∃ y, rollN 8 (S ^^^ c) = y := ⟨_, rfl⟩
      rw [hy] at hst
      simp only [hy] at hro
      clear hy
      go_wp2_with (go_at_call 145; refine (hro _).mono ?_; rintro e w' ⟨rfl, rfl⟩)
      go_roundw
      case rel => exact ⟨k + 1, by omega, by go_num, by rw [hst.out], trivial⟩
      case measure => simp [intOf]; omega
    · obtain rfl : k = l.length := by omega
      rw [List.take_length]
      have hS := crcFold_lt l t htl hbl
      have g5 : Hid (crcOn s l = 4294967295 - crcFold t l) := by show _ = _; unfold crcOn; rw [htd.out]
      generalize crcFold t l = S at hS g5 ⊢
      have g6 := not32 S hS
      go_wp2_with fail
      go_returns
      exact ⟨by rw [g5.out]; rfl, rfl⟩
set_option maxRecDepth 100000 in
theorem ofR_any (v : Value) (l : List Nat) (w : World) (hv : BytesIn w v l) :
    Calls Tryz.prog 78 #[v] w fun e w' => e = .returned (.int .u32 (crcOn 0 l)) ∧ w' = w := by
  have ho := onR_any 0 v l w (by omega) hv
  obtain ⟨p, cap, rfl, hc⟩ := bytes_parts hv
  clear hc hv
  go_enter Tryz.func78, Tryz.ntmps78
  go_wp2_with (go_at_call 122; refine ho.mono ?_; rintro e w' ⟨rfl, rfl⟩)
  go_returns
  exact ⟨rfl, rfl⟩
end Go.Proofs.YtmcmagplaflegaaGreat

namespace Go.Proofs.YtmcmagplaflegaaGreat
open Go Go.RowKit Go.MapL Go.Poised

theorem or_shift63 (n c : Nat) (hn : n * 256 + 256 ≤ 9223372036854775808) (hc : c < 256) : bits .or .i64 ((n * 256 : Nat) : Int) (c : Int) = ((n * 256 + c : Nat) : Int) := by
  have e : (n * 256) ||| c = n * 256 + c := by
    have h := Nat.two_pow_add_eq_or_of_lt (i := 8) (b := c) (by omega) n
    rw [show n * 256 = 2 ^ 8 * n by omega]; exact h.symm
  show IntKind.i64.wrap ((BitVec.ofInt 64 ((n * 256 : Nat) : Int) ||| BitVec.ofInt 64 (c : Int)).toNat : Int) = _
  rw [BitVec.toNat_or, BitVec.ofInt_natCast, BitVec.ofInt_natCast, BitVec.toNat_ofNat, BitVec.toNat_ofNat, Nat.mod_eq_of_lt (by omega), Nat.mod_eq_of_lt (by omega), e, IntWalk.i64_in _ (by omega)]
theorem told_app : ∀ (l m : List Nat), told l ≤ told (l ++ m) := by
  have key : ∀ (m : List Nat) (x : Nat), x ≤ m.foldl (fun n c => n * 256 + c) x := by
    intro m
    induction m with
    | nil => intro x; exact Nat.le_refl _
    | cons c m ih => intro x; exact Nat.le_trans (by omega) (ih (x * 256 + c))
  intro l m
  unfold told
  rw [List.foldl_append]
  exact key _ _
theorem told_take (l : List Nat) (k : Nat) : told (l.take k) ≤ told l := by
  have := told_app (l.take k) (l.drop k)
  rwa [List.take_append_drop] at this
set_option maxRecDepth 100000 in
set_option maxHeartbeats 2000000 in
theorem toldR_any (v : Value) (l : List Nat) (w : World) (hv : BytesIn w v l) (hl : told l < 72057594037927936) :
    Calls Tryz.prog 125 #[v] w fun e w' => e = .returned (.int .i64 (told l)) ∧ w' = w := by
  have hbl := hv.1
  have hll := hv.2.1
  obtain ⟨p, cap, rfl, hc⟩ := bytes_parts hv
  replace hl : Hid _ := hl
  go_enter Tryz.func125, Tryz.ntmps125
  go_wp2_with fail
  go_loopw [4, 3] (fun i x wr => ∃ k : Nat, k ≤ l.length ∧ i = .int .i64 k ∧ x = .int .i64 (told (l.take k)) ∧ wr = w) (fun i _ _ => l.length - (intOf i).toNat)
  case atStart => exact ⟨0, by omega, rfl, rfl, rfl⟩
  case round =>
    obtain ⟨k, hk, rfl, rfl, rfl⟩ := hrel
    by_cases hlt : k < l.length
    · obtain ⟨b, off, rfl, hcb⟩ := hc k hlt
      have hlt' : (k : Int) < l.length := by omega
      have hst : Hid (told (l.take (k + 1)) = told (l.take k) * 256 + l.getD k 0) := by show _ = _; rw [take_snoc' l k hlt, told_snoc]
      have hcl : l.getD k 0 < 256 := by rw [List.getD_eq_getElem?_getD, List.getElem?_eq_getElem hlt]; exact hbl _ (List.getElem_mem hlt)
      have hS2 : told (l.take k) * 256 + 256 ≤ 9223372036854775808 := by
        have := told_take l (k + 1)
        rw [hst.out] at this
        have := hl.out
        omega
      generalize told (l.take k) = S at hst hS2 ⊢
      generalize l.getD k 0 = c at hst hcl hcb
      have g1 := or_shift63 S c hS2 hcl
      rw [show ((S * 256 : Nat) : Int) = (S : Int) * 256 by omega] at g1
      have g2 : IntKind.i64.wrap (c : Int) = (c : Int) := IntWalk.i64_in _ (by omega)
      have g3 : IntKind.i64.wrap ((S : Int) * 256) = ((S * 256 : Nat) : Int) := by rw [IntWalk.i64_in _ (by omega)]; omega
      clear hc hbl
      go_wp2_with fail
      go_roundw
      case rel => exact ⟨k + 1, by omega, by go_num, by rw [hst.out]; first | rfl | simp, trivial⟩
      case measure => simp [intOf]; omega
    · obtain rfl : k = l.length := by omega
      rw [List.take_length]
      go_wp2_with fail
      go_returns
      exact ⟨rfl, rfl⟩
theorem sum4_eq (n : Nat) (_ : n < 4294967296) : sum4 n = [n % 256, n / 256 % 256, n / 65536 % 256, n / 16777216 % 256] := by
  simp [sum4, be, beAt, List.range, List.range.loop]
set_option maxRecDepth 100000 in
set_option maxHeartbeats 2000000 in
theorem sumR_any (n : Nat) (w : World) (hn : n < 4294967296) :
    Calls Tryz.prog 77 #[.int .u32 n] w fun e w' => e = .returned (.slice (some ⟨w.heap.size, 0, none⟩) 4 4) ∧ w'.heap[w.heap.size]? = some (.cells (encB (sum4 n)).toArray 5) ∧ Below w.heap.size w w' := by
  rw [sum4_eq n hn]
  have g0 : IntKind.u8.wrap (n : Int) = ((n % 256 : Nat) : Int) := by show (n : Int) % 256 = _; omega
  have g1 : IntKind.u8.wrap ((n : Int) / 256) = ((n / 256 % 256 : Nat) : Int) := by show (n : Int) / 256 % 256 = _; omega
  have g2 : IntKind.u8.wrap ((n : Int) / 65536) = ((n / 65536 % 256 : Nat) : Int) := by show (n : Int) / 65536 % 256 = _; omega
  have g3 : IntKind.u8.wrap ((n : Int) / 16777216) = ((n / 16777216 % 256 : Nat) : Int) := by show (n : Int) / 16777216 % 256 = _; omega
  go_enter Tryz.func77, Tryz.ntmps77
  go_wp2_with fail
  go_returns
  refine ⟨rfl, (heap_new _ _).trans ?_, (Below.refl _ _).alloc (Nat.le_refl _) _⟩
  simp [encB]
end Go.Proofs.YtmcmagplaflegaaGreat

namespace Go.Proofs.YtmcmagplaflegaaGreat
open Go Go.RowKit Go.MapL Go.Poised

theorem four {l : List Nat} (h : l.length = 4) : ∃ a b c d, l = [a, b, c, d] := by
  match l, h with
  | [a, b, c, d], _ => exact ⟨a, b, c, d, rfl⟩
set_option maxRecDepth 100000 in
set_option maxHeartbeats 8000000 in
theorem isSumR_any (n : Nat) (v : Value) (l : List Nat) (w : World) (hn : n < 4294967296) (hv : BytesIn w v l) (hl : l.length = 4) :
    Calls Tryz.prog 126 #[v, .int .u32 n] w fun e w' => e = .returned (.bool (decide (l = sum4 n))) ∧ Below w.heap.size w w' := by
  obtain ⟨m0, m1, m2, m3, rfl⟩ := four hl
  obtain ⟨s0, s1, s2, s3, hs⟩ := four (sum4_len n)
  have hsu := sumR_any n w hn
  rw [hs] at hsu
  rw [hs]
  obtain ⟨p, cap, rfl, hc⟩ := bytes_parts hv
  obtain ⟨B, off, rfl, c0⟩ := hc 0 (by simp)
  obtain ⟨B1, off1, e1, c1⟩ := hc 1 (by simp)
  cases e1
  obtain ⟨B2, off2, e2, c2⟩ := hc 2 (by simp)
  cases e2
  obtain ⟨B3, off3, e3, c3⟩ := hc 3 (by simp)
  cases e3
  simp only [List.getD_eq_getElem?_getD, List.getElem?_cons_zero, List.getElem?_cons_succ, Option.getD_some, Nat.add_zero] at c0 c1 c2 c3
  have hlt := lt_of_cell c0
  clear hc hv
  simp only [List.length_cons, List.length_nil, Nat.zero_add]
  go_enter Tryz.func126, Tryz.ntmps126
  go_wp2_with (go_at_call 77; refine hsu.mono ?_; rintro e w1 ⟨rfl, h1, hb1⟩)
  have d0 := (hb1.cell (p := ⟨B, off, none⟩) hlt).trans c0
  have d1 := (hb1.cell (p := ⟨B, off + 1, none⟩) hlt).trans c1
  have d2 := (hb1.cell (p := ⟨B, off + 2, none⟩) hlt).trans c2
  have d3 := (hb1.cell (p := ⟨B, off + 3, none⟩) hlt).trans c3
  obtain ⟨x0, x1, x2, x3⟩ := cells4 (c0 := .int .u8 (s0 : Nat)) (c1 := .int .u8 (s1 : Nat)) (c2 := .int .u8 (s2 : Nat)) (c3 := .int .u8 (s3 : Nat)) (t := 5) (by simpa [encB] using h1)
  clear h1 c0 c1 c2 c3 hlt hsu
  replace hs : Hid _ := hs
  by_cases e0 : m0 = s0
  · have f0 : Hid _ := e0
    have g0 : ((m0 : Int) == (s0 : Int)) = true := by simp [e0]
    have i0 : (m0 : Int) = (s0 : Int) := by omega
    by_cases e1 : m1 = s1
    · have f1 : Hid _ := e1
      have g1 : ((m1 : Int) == (s1 : Int)) = true := by simp [e1]
      have i1 : (m1 : Int) = (s1 : Int) := by omega
      by_cases e2 : m2 = s2
      · have f2 : Hid _ := e2
        have g2 : ((m2 : Int) == (s2 : Int)) = true := by simp [e2]
        have i2 : (m2 : Int) = (s2 : Int) := by omega
        by_cases e3 : m3 = s3
        · have f3 : Hid _ := e3
          have g3 : ((m3 : Int) == (s3 : Int)) = true := by simp [e3]
          have i3 : (m3 : Int) = (s3 : Int) := by omega
          go_region
          go_wp2_with fail
          go_returns
          refine ⟨?_, hb1.drew⟩
          simp [f0.out, f1.out, f2.out, f3.out]
        · have f3 : Hid _ := e3
          have g3 : ((m3 : Int) == (s3 : Int)) = false := by simp; omega
          have i3 : ¬ (m3 : Int) = (s3 : Int) := by omega
          go_region
          go_wp2_with fail
          go_returns
          refine ⟨?_, hb1.drew⟩
          have hk := f3.out
          simp
          intros
          omega
      · have f2 : Hid _ := e2
        have g2 : ((m2 : Int) == (s2 : Int)) = false := by simp; omega
        have i2 : ¬ (m2 : Int) = (s2 : Int) := by omega
        go_region
        go_wp2_with fail
        go_returns
        refine ⟨?_, hb1.drew⟩
        have hk := f2.out
        simp
        intros
        omega
    · have f1 : Hid _ := e1
      have g1 : ((m1 : Int) == (s1 : Int)) = false := by simp; omega
      have i1 : ¬ (m1 : Int) = (s1 : Int) := by omega
      go_region
      go_wp2_with fail
      go_returns
      refine ⟨?_, hb1.drew⟩
      have hk := f1.out
      simp
      intros
      omega
  · have f0 : Hid _ := e0
    have g0 : ((m0 : Int) == (s0 : Int)) = false := by simp; omega
    have i0 : ¬ (m0 : Int) = (s0 : Int) := by omega
    go_region
    go_wp2_with fail
    go_returns
    refine ⟨?_, hb1.drew⟩
    have hk := f0.out
    simp
    intros
    omega
end Go.Proofs.YtmcmagplaflegaaGreat

namespace Go.Proofs.YtmcmagplaflegaaGreat
open Go Go.RowKit Go.MapL Go.Poised

theorem be_take_snoc (n size k : Nat) (hk : k < size) : (be n size).take (k + 1) = (be n size).take k ++ [beAt n size k] := by
  have hl : k < (be n size).length := by rw [be_len]; exact hk
  rw [List.take_succ_eq_append_getElem hl]
  simp [be]
theorem byte_block (W : World) (c : Nat) (hc : c < 256) : BytesIn (W.alloc (.cells #[.int .u8 (c : Nat)] 5)) (.slice (some ⟨W.heap.size, 0, none⟩) 1 1) [c] :=
  bytes_block (n := 1) [c] (by rw [heap_new]; rfl) (by simpa using hc) (by simp)
set_option maxRecDepth 100000 in
set_option maxHeartbeats 2000000 in
theorem numberR_any (n size : Nat) (w : World) (_ : n < 9223372036854775808) (hs : size ≤ 8) :
    Calls Tryz.prog 76 #[.int .i64 n, .int .i64 size] w fun e w' => ∃ v, e = .returned v ∧ w'.ownsRow w.heap.size 5 1 v size (encB (be n size)) ∧ Below w.heap.size w w' := by
  have gs : IntKind.i64.wrap ((size : Int) - 1) = (size : Int) - 1 := IntWalk.i64_in _ (by omega)
  go_enter Tryz.func76, Tryz.ntmps76
  go_wp2_with fail
  go_loopw [6, 5] (fun i v wr => ∃ k : Nat, k ≤ size ∧ i = .int .i64 ((size : Int) - 1 - k) ∧ wr.ownsRow w.heap.size 5 1 v ((be n size).take k).length (encB ((be n size).take k)) ∧ Below w.heap.size w wr) (fun i _ _ => (intOf i + 1).toNat)
  case atStart => exact ⟨0, by omega, by simp, World.ownsRow_nil _ _ _ _, Below.refl _ _⟩
  case round =>
    obtain ⟨k, hk, rfl, hv, hB⟩ := hrel
    by_cases hlt : k < size
    · obtain ⟨p, hp⟩ : ∃ p, size - 1 - k = p := ⟨_, rfl⟩
      have gp : (size : Int) - 1 - k = (p : Int) := by omega
      rw [gp]
      have hst : Hid ((be n size).take (k + 1) = (be n size).take k ++ [beAt n size k]) := be_take_snoc n size k hlt
      have hck : beAt n size k < 256 := Nat.mod_lt _ (by omega)
      have hlen : ((be n size).take k).length = k := by rw [List.length_take, be_len]; omega
      have gX : (n : Int) / 2 ^ (8 * p) % 256 = ((beAt n size k : Nat) : Int) := by
        unfold beAt
        rw [hp]
        have e : ((2 : Int) ^ (8 * p)) = ((256 ^ p : Nat) : Int) := by rw [Int.natCast_pow, Int.pow_mul]; rfl
        rw [e]
        omega
      generalize (be n size).take k = T at hst hlen hv
      generalize beAt n size k = c at hst hck gX
      obtain ⟨vq, vcap, rfl⟩ := own_shape hv
      have g0 : (0 : Int) ≤ (p : Int) := by omega
      have g1 : IntKind.i64.wrap (8 * (p : Int)) = 8 * (p : Int) := IntWalk.i64_in _ (by omega)
      have g2 : IntKind.i64.wrap ((p : Int) - 1) = (p : Int) - 1 := IntWalk.i64_in _ (by omega)
      have hv1 := row_same (w' := wr.alloc (.cells #[.int .u8 (c : Nat)] 5)) hv (fun g hg => ((Below.refl wr.heap.size wr).alloc (Nat.le_refl _) (.cells #[.int .u8 (c : Nat)] 5)).block g (hv.lt g hg).2)
      have hb1 := byte_block wr c hck
      replace hp : Hid _ := hp
      replace hlen : Hid _ := hlen
      go_wp2_with (at_builtin; refine wpList_append_bytes _ rfl _ _ rfl w.heap.size (.slice vq T.length vcap) (.slice (some ⟨wr.heap.size, 0, none⟩) 1 1) T [c] rfl rfl hv1 hb1 (by have := hlen.out; simp; omega) (by have := hB.size; simp; omega) ?_; intro v' w4 hown hgrow hwhere)
      go_roundw
      case rel =>
        have hp' := hp.out
        have hB1 : Below w.heap.size w (wr.alloc (.cells #[.int .u8 (c : Nat)] 5)) := hB.alloc hB.size _
        refine ⟨k + 1, by omega, ?_, by rw [hst.out]; exact hown, hB1.trans (below_grown hv1 hB1.size hgrow)⟩
        congr 1
        omega
      case measure => simp [intOf]
    · obtain rfl : k = size := by omega
      rw [show (k : Int) - 1 - k = -1 by omega]
      have hf : Hid ((be n k).take k = be n k) := List.take_of_length_le (by rw [be_len]; omega)
      rw [hf.out, be_len] at hv
      go_wp2_with fail
      go_returns
      exact ⟨_, rfl, hv, hB⟩
end Go.Proofs.YtmcmagplaflegaaGreat

namespace Go.Proofs.YtmcmagplaflegaaGreat
open Go Go.RowKit Go.MapL Go.Poised

theorem crcFold_app : ∀ (l m : List Nat) (s : Nat), crcFold s (l ++ m) = crcFold (crcFold s l) m
  | [], _, _ => rfl
  | _ :: l, m, _ => crcFold_app l m _
theorem crcOn_app (s : Nat) (l m : List Nat) (hs : s < 4294967296) (hl : ∀ x ∈ l, x < 256) : crcOn s (l ++ m) = crcOn (crcOn s l) m := by
  unfold crcOn
  have h := crcFold_lt l (4294967295 - s) (by omega) hl
  rw [crcFold_app, show 4294967295 - (4294967295 - crcFold (4294967295 - s) l) = crcFold (4294967295 - s) l by omega]
theorem catB_byte {l m : List Nat} (hl : ∀ x ∈ l, x < 256) (hm : ∀ x ∈ m, x < 256) : ∀ x ∈ l ++ m, x < 256 := fun x hx => (List.mem_append.1 hx).elim (hl x) (hm x)
set_option maxRecDepth 100000 in
set_option maxHeartbeats 8000000 in
theorem recordR_any (n : Int) (v : Value) (b : List Nat) (w : World) (h1 : -9223372036854775808 ≤ n) (h2 : n ≤ 9223372036854775807) (hv : BytesIn w v b) (hbl : b.length ≤ 140737488355328) :
    Calls Tryz.prog 27 #[.int .i64 n, v] w fun e w' => ∃ u, e = .returned (.tuple #[u, .int .i64 (recRes n b).2]) ∧ w'.ownsRow w.heap.size 5 1 u (recRes n b).1.length (encB (recRes n b).1) ∧ Below w.heap.size w w' := by
  have hv0 := hv
  obtain ⟨p, cap, rfl, _⟩ := bytes_parts hv
  clear hv
  unfold recRes
  by_cases ha : n < 1 ∨ 9007199254740991 < n
  · simp only [if_pos ha]
    rcases (show n < 1 ∨ (¬ n < 1 ∧ 9007199254740991 < n) by omega) with ha | ⟨ha, ha2⟩
    all_goals
      go_enter Tryz.func27, Tryz.ntmps27
      go_wp2_with fail
      go_returns
      exact ⟨_, rfl, World.ownsRow_nil _ _ _ _, Below.refl _ _⟩
  · simp only [if_neg ha]
    have ha1 : ¬ n < 1 := by omega
    have ha2 : ¬ 9007199254740991 < n := by omega
    by_cases hc : 262144 < b.length
    · simp only [if_pos hc]
      have hc' : (262144 : Int) < b.length := by omega
      clear ha
      go_enter Tryz.func27, Tryz.ntmps27
      go_wp2_with fail
      go_returns
      exact ⟨_, rfl, World.ownsRow_nil _ _ _ _, Below.refl _ _⟩
    · simp only [if_neg hc]
      obtain ⟨m, rfl⟩ : ∃ m : Nat, n = m := ⟨n.toNat, by omega⟩
      have hc' : ¬ (262144 : Int) < b.length := by omega
      have hn1 := numberR_any b.length 4 w (by omega) (by omega)
      have hn2 := fun W => numberR_any m 8 W (by omega) (by omega)
      rw [Int.toNat_natCast]
      have hbl : b.length ≤ 262144 := by omega
      have hhl := headB_len m b
      have hbb := hv0.1
      have hhb := headB_byte m b
      have hcat := catB_byte hhb hbb
      have hrec : Hid (recB m b = ((headB m b ++ sum4 (crcOn 0 (headB m b))) ++ b) ++ sum4 (crcOn 0 (headB m b ++ b))) := by
        show _ = _
        rw [crcOn_app 0 _ _ (by omega) hhb]
        simp [recB]
      have hSl := crcOn_lt 0 (headB m b)
      have hTl := crcOn_lt 0 (headB m b ++ b)
      obtain ⟨H, hH⟩ : ∃ H, headB m b = H := ⟨_, rfl⟩
      have hH2 : Hid (be b.length 4 ++ be m 8 = H) := hH
      rw [hH] at hhl hhb hcat hrec hSl hTl
      obtain ⟨S, hS⟩ : ∃ S, crcOn 0 H = S := ⟨_, rfl⟩
      obtain ⟨T, hT⟩ : ∃ T, crcOn 0 (H ++ b) = T := ⟨_, rfl⟩
      rw [hS] at hrec hSl
      rw [hT] at hrec hTl
      clear ha hc h1 h2 hH
      replace hbl : Hid _ := hbl
      replace hhl : Hid _ := hhl
      replace hS : Hid _ := hS
      replace hT : Hid _ := hT
      replace hbb : Hid _ := hbb
      replace hhb : Hid _ := hhb
      replace hcat : Hid _ := hcat
      have k1 : True := trivial
      go_enter Tryz.func27, Tryz.ntmps27
      go_wp2_with (first
        | (clear k1; go_at_call 76; refine hn1.mono ?_; clear hn1; rintro e w1 ⟨v1, rfl, hr1, hb1⟩; obtain ⟨q1, c1, rfl⟩ := own_shape hr1; have k2 : True := trivial)
        | (clear k2; go_at_call 76; refine (hn2 _).mono ?_; clear hn2; rintro e w2 ⟨v2, rfl, hr2, hb2⟩; obtain ⟨q2, c2, rfl⟩ := own_shape hr2
           have hr1' : w2.ownsRow w.heap.size 5 1 (.slice q1 4 c1) (be b.length 4).length (encB (be b.length 4)) := (by rw [be_len]; exact own_kept hr1 hb2)
           have hu2 : BytesIn w2 (.slice q2 8 c2) (be m 8) := row_bytes (by rw [be_len]; exact hr2) (be_byte _ _) (by rw [be_len]; omega)
           have hB2 := hb1.trans (hb2.mono hb1.size); clear hr1 hr2; have k3 : True := trivial)
        | (clear k3; at_builtin; refine wpList_append_bytes _ rfl _ _ rfl w.heap.size (.slice q1 4 c1) (.slice q2 8 c2) (be b.length 4) (be m 8) rfl rfl hr1' hu2 (by rw [be_len, be_len]; omega) hB2.size ?_; intro v3 w3 hr3 hg3 _
           rw [hH2.out] at hr3; have hB3 := hB2.trans (below_grown hr1' hB2.size hg3); clear hr1' hu2 hB2; obtain ⟨q3, c3, rfl⟩ := own_shape hr3
           have hu3 := row_bytes hr3 hhb.out (by have := hhl.out; omega); clear hr3; have hv3 := hv0.below hB3; have k4 : True := trivial)
        | (clear k4; at_builtin; refine wpList_append_bytes _ rfl _ _ rfl w3.heap.size (.slice none 0 0) (.slice q3 H.length c3) [] H rfl rfl (World.ownsRow_nil _ _ _ _) hu3 (by have := hhl.out; simp; omega) (Nat.le_refl _) ?_; intro v4 w4 hr4 hg4 _
           rw [List.nil_append] at hr4; have hB4 : Below w3.heap.size w3 w4 := below_grown (World.ownsRow_nil w3 w3.heap.size 5 1) (Nat.le_refl _) hg4; obtain ⟨q4, c4, rfl⟩ := own_shape hr4; have k5 : True := trivial)
        | (clear k5; at_builtin; refine wpList_append_bytes _ rfl _ _ rfl w3.heap.size (.slice q4 H.length c4) (.slice p b.length cap) H b rfl rfl hr4 (hv3.below hB4) (by have := hhl.out; have := hbl.out; omega) hB4.size ?_; intro v5 w5 hr5 hg5 _
           have hB5 := hB4.trans (below_grown hr4 hB4.size hg5); clear hr4 hB4; obtain ⟨q5, c5, e5⟩ := own_shape hr5; rw [List.length_append] at e5; subst e5; have hu5 := row_bytes hr5 hcat.out (by have := hhl.out; have := hbl.out; rw [List.length_append]; omega); clear hr5
           have hv5 := hv3.below hB5; have ht5 := hu3.below hB5; clear hv3 hu3; have k6 : True := trivial)
        | (clear k6; at_builtin; refine wpList_append_bytes _ rfl _ _ rfl w5.heap.size (.slice none 0 0) (.slice q3 H.length c3) [] H rfl rfl (World.ownsRow_nil _ _ _ _) ht5 (by have := hhl.out; simp; omega) (Nat.le_refl _) ?_; intro v6 w6 hr6 hg6 _
           rw [List.nil_append] at hr6; have hB6 : Below w5.heap.size w5 w6 := below_grown (World.ownsRow_nil w5 w5.heap.size 5 1) (Nat.le_refl _) hg6; obtain ⟨q6, c6, rfl⟩ := own_shape hr6
           have hof := ofR_any _ H w6 (ht5.below hB6); rw [hS.out] at hof; have k7 : True := trivial)
        | (clear k7; go_at_call 78; refine hof.mono ?_; clear hof; rintro e w7 ⟨rfl, rfl⟩; have hsu := sumR_any S w7 hSl; have k8 : True := trivial)
        | (clear k8; go_at_call 77; refine hsu.mono ?_; clear hsu; rintro e w8 ⟨rfl, h8, hb8⟩; have hr8 := own_kept hr6 hb8; have hB8 := hB6.trans (hb8.mono hB6.size); have hu8 := blk4 h8; clear hr6 h8; have k9 : True := trivial)
        | (clear k9; at_builtin; refine wpList_append_bytes _ rfl _ _ rfl w5.heap.size (.slice q6 H.length c6) _ H (sum4 S) rfl rfl hr8 hu8 (by have := hhl.out; rw [sum4_len]; omega) hB8.size ?_; intro v9 w9 hr9 hg9 _
           have hB9 := hB8.trans (below_grown hr8 hB8.size hg9); clear hr8 hu8; obtain ⟨q9, c9, e9⟩ := own_shape hr9; rw [List.length_append] at e9; subst e9; have k10 : True := trivial)
        | (clear k10; at_builtin; refine wpList_append_bytes _ rfl _ _ rfl w5.heap.size (.slice q9 (H.length + (sum4 S).length) c9) (.slice p b.length cap) (H ++ sum4 S) b rfl rfl hr9 (hv5.below hB9) (by have := hhl.out; have := hbl.out; rw [List.length_append, sum4_len]; omega) hB9.size ?_; intro v10 w10 hr10 hg10 _
           have hB10 := hB9.trans (below_grown hr9 hB9.size hg10); clear hr9; obtain ⟨q10, c10, e10⟩ := own_shape hr10; rw [List.length_append, List.length_append] at e10; subst e10
           have hof := ofR_any _ (H ++ b) w10 (hu5.below hB10); rw [hT.out] at hof; have k11 : True := trivial)
        | (clear k11; go_at_call 78; refine hof.mono ?_; clear hof; rintro e w11 ⟨rfl, rfl⟩; have hsu := sumR_any T w11 hTl; have k12 : True := trivial)
        | (clear k12; go_at_call 77; refine hsu.mono ?_; clear hsu; rintro e w12 ⟨rfl, h12, hb12⟩; have hr12 := own_kept hr10 hb12; have hB12 := hB10.trans (hb12.mono hB10.size); have hu12 := blk4 h12; clear hr10 h12; have k13 : True := trivial)
        | (clear k13; at_builtin; refine wpList_append_bytes _ rfl _ _ rfl w5.heap.size _ _ ((H ++ sum4 S) ++ b) (sum4 T) rfl rfl hr12 hu12 (by have := hhl.out; have := hbl.out; rw [List.length_append, List.length_append, sum4_len, sum4_len]; omega) hB12.size ?_; intro v13 w13 hr13 hg13 _
           have hB13 := hB12.trans (below_grown hr12 hB12.size hg13); clear hr12 hu12))
      go_returns
      rw [← hrec.out] at hr13
      have hB5w := hB3.trans (hB5.mono hB3.size)
      exact ⟨_, rfl, own_le hr13 hB5w.size, hB5w.trans (hB13.mono hB5w.size)⟩
end Go.Proofs.YtmcmagplaflegaaGreat
