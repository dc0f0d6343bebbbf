/-
  APPEND AND SYNC OF A JOURNAL. Conditions: those of each theorem.
  A JOURNAL's DISK, in plain Lean. Conditions: those of each theorem.
  THE CHAPTER's EXAMPLES. Conditions: those of each theorem.
  THE CHAPTER's EXAMPLES, WALKED: awake. Conditions: those of each theorem.
  What a row's arguments are: bytes, lists of bytes, numbers. Conditions: those of each theorem.
-/
import Derived.Test.YtmcmagplaflegaaGreatX8
import Derived.Lib.SlBytesConst
import Derived.Test.YtmcmagplaflegaaGreatX4
import Derived.Deep.Slices
import Derived.Deep.Fields
import Derived.ChangeSame
import Derived.ChangeSlices
import Derived.SizedLaws

namespace Go.Proofs.YtmcmagplaflegaaGreat
open Go Go.RowKit Go.MapL Go.Poised

/-- A journal, plainly. -/
structure Jn where
  s : DS
  many : Nat
  kept : Nat
  br : Bool
/-- Behind a work of the disk. -/
def Jn.after (j : Jn) (q : DS × Int) (f : Jn → Jn) : Jn × Int :=
  if q.2 = 0 then (f { j with s := q.1 }, 0) else if q.2 = 52 then ({ j with s := q.1 }, 52) else ({ j with s := q.1, br := true }, 51)
def Jn.append (j : Jn) (b : List Nat) : Jn × Int :=
  if j.br = true then (j, 51) else if (recRes ((j.many : Int) + 1) b).2 = 0 then j.after (j.s.append jN (recRes ((j.many : Int) + 1) b).1) (fun j => { j with many := j.many + 1 }) else (j, (recRes ((j.many : Int) + 1) b).2)
def Jn.sync (j : Jn) : Jn × Int := if j.br = true then (j, 51) else j.after (j.s.sync jN) (fun j => { j with kept := j.many })

/-- A journal lies at J, its disk at p. -/
structure JLive (w : World) (J p n₀ m : Nat) (j : Jn) (K : Nat → Prop) : Prop where
  live : Live w p n₀ m j.s (fun g => K g ∨ g = J)
  jnl : JnlAt w J p j.many j.kept j.br
  base : n₀ ≤ J
  out : ¬ K J
variable {J p n₀ m : Nat} {j : Jn} {w w' w'' : World} {K K' : Nat → Prop}
theorem JLive.mono {k : Nat} (h : JLive w J p n₀ m j K) (hm : m ≤ k) : JLive w J p n₀ k j K := ⟨h.live.mono hm, h.jnl, h.base, h.out⟩
theorem JLive.below (h : JLive w J p n₀ m j K) (hb : Below w.heap.size w w') : JLive w' J p n₀ m j K := ⟨h.live.below hb, h.jnl.below hb, h.base, h.out⟩
theorem JLive.more (h : JLive w J p n₀ m j K) (hb : Below w.heap.size w w') (hK : ∀ g, K' g → K g ∨ (w.heap.size ≤ g ∧ g < w'.heap.size)) : JLive w' J p n₀ m j K' :=
  ⟨h.live.more hb (fun g hg => by
    rcases hg with hg | hg
    · rcases hK g hg with h2 | h2
      · exact .inl (.inl h2)
      · exact .inr h2
    · exact .inl (.inr hg)), h.jnl.below hb, h.base, fun hJ => by
    rcases hK J hJ with h2 | h2
    · exact h.out h2
    · have := h.live.lt J (.inr rfl); omega⟩
theorem JLive.lt (h : JLive w J p n₀ m j K) : ∀ g, K g → g < w.heap.size := fun g hg => h.live.lt g (.inl hg)
theorem JLive.kept (h : JLive w J p n₀ m j K) (hb : Below w.heap.size w w') : Kept K n₀ w w' := .of_below hb h.live.base h.lt
/-- The journal's own block is written. -/
theorem JLive.write {j' : Jn} (hs : j'.s = j.s) (h : JLive w J p n₀ m j K) (hj : JnlAt w' J p j'.many j'.kept j'.br) (hG : Grown (fun k => k = J) w w') : JLive w' J p n₀ m j' K ∧ Kept K n₀ w w' := by
  refine ⟨⟨by rw [hs]; exact h.live.set (fun g hl hg => hG.block g hl (fun e => hg (.inr e))) hG.size, hj, h.base, h.out⟩, hG.below h.live.base (fun k e => by rw [e]; exact h.base), fun g hg => hG.block g (h.lt g hg) (fun e => h.out (by rw [← e]; exact hg))⟩
theorem jset {B : Nat} {i : Nat} {v : Value} : Grown (fun k => k = B) w (w.setCell ⟨B, i, none⟩ v) := (Grown.refl (fun k => k = B) w).setCell (p := ⟨B, i, none⟩) (.inl rfl) v

set_option maxRecDepth 100000 in
set_option maxHeartbeats 8000000 in
theorem jappend_any (v : Value) (b : List Nat) (h : JLive w J p n₀ m j K) (hm : m < 134217728) (hmany : j.many ≤ 1000000000000) (hv : BytesIn w v b) (hbl : b.length ≤ 140737488355328) :
    Calls Tryz.prog 37 #[ofBlock J, v] w fun e w' => e = .returned (.int .i64 (j.append b).2) ∧ JLive w' J p n₀ (m + 2) (j.append b).1 K ∧ Kept K n₀ w w' := by
  obtain ⟨vp, vcap, rfl, _⟩ := bytes_parts hv
  have hJ := h.jnl
  obtain ⟨x0, x1, x2, x3⟩ := cells4 hJ
  have hJl := (Array.getElem?_eq_some_iff.1 hJ).1
  unfold Jn.append
  cases hbr : j.br
  · rw [hbr] at hJ
    have hs := shut_any w J p j.many j.kept false hJ
    have hr := record_any ((j.many : Int) + 1) _ b w (by omega) (by omega) hv hbl
    obtain ⟨hrb, hrl⟩ := recRes_byte ((j.many : Int) + 1) b hv.1 hbl
    have gw : IntKind.i64.wrap ((j.many : Int) + 1) = (j.many : Int) + 1 := IntWalk.i64_in _ (by omega)
    obtain ⟨q, hq⟩ : ∃ q, recRes ((j.many : Int) + 1) b = q := ⟨_, rfl⟩
    obtain ⟨rb, rc⟩ := q
    rw [hq] at hr hrb hrl ⊢
    simp only [Bool.false_eq_true, if_false] at hs hr hrb hrl ⊢
    clear hq
    have h' : Hid _ := h
    have hrb' : Hid _ := hrb
    clear h hv hrb
    by_cases hz : rc = 0
    · subst hz
      simp only [if_true]
      obtain ⟨Q, hQ⟩ : ∃ Q, j.s.append jN rb = Q := ⟨_, rfl⟩
      have hap : Hid _ := fun W (u : Value) (hb : Below w.heap.size w W) (hrow : W.ownsRow w.heap.size 5 1 u rb.length (encB rb)) => live_append (w := W) (K := fun g => (K g ∨ g = J) ∨ rowK u g) jN u rb (h'.out.live.more hb (fun g hg => by
          rcases hg with hg | hg
          · exact .inl hg
          · exact .inr (hrow.lt g hg))) (by omega) hrb'.out (by omega) (fun w2 hk => row_bytes (hk.row hrow (fun g hg => .inr hg)) hrb'.out (by omega))
      rw [hQ] at hap ⊢
      obtain ⟨s2, c⟩ := Q
      clear hQ
      unfold Jn.after
      simp only
      by_cases hc0 : c = 0
      · subst hc0
        simp only [if_true]
        unfold ofBlock at *
        go_enter Tryz.func37, Tryz.ntmps37
        go_wp2_with (first
          | (go_at_call 89; refine hs.mono ?_; clear hs; rintro e w1 ⟨rfl, rfl⟩)
          | (go_at_call 26; refine hr.mono ?_; clear hr; rintro e w2 ⟨u, rfl, hu, hb2⟩; obtain ⟨uq, ucap, rfl⟩ := own_shape hu; have hJ2 := (hb2.block _ hJl).trans hJ; obtain ⟨y0, y1, y2, y3⟩ := cells4 hJ2)
          | (go_at_call 12; refine (hap.out _ _ hb2 hu).mono ?_; rintro e w3 ⟨rfl, hL3, hK3⟩; have hJ3 := (hK3.same J (.inl (.inr rfl))).trans hJ2; obtain ⟨z0, z1, z2, z3⟩ := cells4 hJ3; have hzf := free_of hJ3 1; have haf := after_fine w3 J 0 (.inl rfl))
          | (go_at_call 90; refine haf.mono ?_; rintro e w4 ⟨rfl, rfl⟩))
        go_returns
        have hjl : JLive _ J p n₀ (m + 2) { j with s := s2 } K := ⟨hL3.sub (fun g hg => .inl hg), by rw [← hbr] at hJ3; exact hJ3, h'.out.base, h'.out.out⟩
        obtain ⟨k1, k2⟩ := JLive.write (j := { j with s := s2 }) (j' := { j with s := s2, many := j.many + 1 }) rfl hjl (by rw [hbr]; exact (setCell_heap hJ3).trans rfl) (jset (B := J) (i := 1) (v := .int .i64 ((j.many : Int) + 1)))
        exact ⟨rfl, k1, ((h'.out.kept hb2).trans (hK3.sub (fun g hg => .inl (.inl hg)))).trans k2⟩
      · by_cases hc1 : c = 52
        · subst hc1
          simp only [if_true, show ((52 : Int) = 0) = False from by simp, if_false]
          unfold ofBlock at *
          go_enter Tryz.func37, Tryz.ntmps37
          go_wp2_with (first
            | (go_at_call 89; refine hs.mono ?_; clear hs; rintro e w1 ⟨rfl, rfl⟩)
            | (go_at_call 26; refine hr.mono ?_; clear hr; rintro e w2 ⟨u, rfl, hu, hb2⟩; obtain ⟨uq, ucap, rfl⟩ := own_shape hu; have hJ2 := (hb2.block _ hJl).trans hJ; obtain ⟨y0, y1, y2, y3⟩ := cells4 hJ2)
            | (go_at_call 12; refine (hap.out _ _ hb2 hu).mono ?_; rintro e w3 ⟨rfl, hL3, hK3⟩; have hJ3 := (hK3.same J (.inl (.inr rfl))).trans hJ2; have haf := after_fine w3 J 52 (.inr rfl))
            | (go_at_call 90; refine haf.mono ?_; rintro e w4 ⟨rfl, rfl⟩))
          go_returns
          exact ⟨rfl, ⟨hL3.sub (fun g hg => .inl hg), by rw [hbr]; exact hJ3, h'.out.base, h'.out.out⟩, (h'.out.kept hb2).trans (hK3.sub (fun g hg => .inl (.inl hg)))⟩
        · simp only [hc0, hc1, if_false]
          unfold ofBlock at *
          go_enter Tryz.func37, Tryz.ntmps37
          go_wp2_with (first
            | (go_at_call 89; refine hs.mono ?_; clear hs; rintro e w1 ⟨rfl, rfl⟩)
            | (go_at_call 26; refine hr.mono ?_; clear hr; rintro e w2 ⟨u, rfl, hu, hb2⟩; obtain ⟨uq, ucap, rfl⟩ := own_shape hu; have hJ2 := (hb2.block _ hJl).trans hJ; obtain ⟨y0, y1, y2, y3⟩ := cells4 hJ2)
            | (go_at_call 12; refine (hap.out _ _ hb2 hu).mono ?_; rintro e w3 ⟨rfl, hL3, hK3⟩; have hJ3 := (hK3.same J (.inl (.inr rfl))).trans hJ2; have haf := after_broken w3 J p j.many j.kept false c hJ3 hc0 hc1)
            | (go_at_call 90; refine haf.mono ?_; clear haf; rintro e w4 ⟨rfl, hJ4, hG4⟩))
          go_returns
          have hjl : JLive _ J p n₀ (m + 2) { j with s := s2 } K := ⟨hL3.sub (fun g hg => .inl hg), by rw [hbr]; exact hJ3, h'.out.base, h'.out.out⟩
          obtain ⟨k1, k2⟩ := JLive.write (j := { j with s := s2 }) (j' := { j with s := s2, br := true }) rfl hjl hJ4 hG4
          exact ⟨rfl, k1, ((h'.out.kept hb2).trans (hK3.sub (fun g hg => .inl (.inl hg)))).trans k2⟩
    · simp only [hz, if_false]
      have hzb : (rc != 0) = true := by simpa using hz
      unfold ofBlock at *
      go_enter Tryz.func37, Tryz.ntmps37
      go_wp2_with (first
        | (go_at_call 89; refine hs.mono ?_; clear hs; rintro e w1 ⟨rfl, rfl⟩)
        | (go_at_call 26; refine hr.mono ?_; clear hr; rintro e w2 ⟨u, rfl, hu, hb2⟩; obtain ⟨uq, ucap, rfl⟩ := own_shape hu))
      go_returns
      exact ⟨rfl, (h'.out.below hb2).mono (by omega), h'.out.kept hb2⟩
  · rw [hbr] at hJ
    have hs := shut_any w J p j.many j.kept true hJ
    simp only [if_true] at hs ⊢
    clear hv
    replace h : Hid _ := h
    unfold ofBlock at *
    go_enter Tryz.func37, Tryz.ntmps37
    go_wp2_with (go_at_call 89; refine hs.mono ?_; clear hs; rintro e w1 ⟨rfl, rfl⟩)
    go_returns
    exact ⟨rfl, h.out.mono (by omega), Kept.refl _ _ _⟩
set_option maxRecDepth 100000 in
set_option maxHeartbeats 8000000 in
theorem jsync_any (h : JLive w J p n₀ m j K) (hm : m < 134217728) :
    Calls Tryz.prog 38 #[ofBlock J] w fun e w' => e = .returned (.int .i64 j.sync.2) ∧ JLive w' J p n₀ m j.sync.1 K ∧ Kept K n₀ w w' := by
  have hJ := h.jnl
  obtain ⟨x0, x1, x2, x3⟩ := cells4 hJ
  have hJl := (Array.getElem?_eq_some_iff.1 hJ).1
  unfold Jn.sync
  cases hbr : j.br
  · rw [hbr] at hJ
    have hs := shut_any w J p j.many j.kept false hJ
    have hap := live_sync jN h.live (by omega)
    have h' : Hid _ := h
    clear h
    simp only [Bool.false_eq_true, if_false] at hs ⊢
    obtain ⟨Q, hQ⟩ : ∃ Q, j.s.sync jN = Q := ⟨_, rfl⟩
    rw [hQ] at hap ⊢
    obtain ⟨s2, c⟩ := Q
    clear hQ
    unfold Jn.after
    simp only at hap ⊢
    by_cases hc0 : c = 0
    · subst hc0
      simp only [if_true]
      unfold ofBlock at *
      go_enter Tryz.func38, Tryz.ntmps38
      go_wp2_with (first
        | (go_at_call 89; refine hs.mono ?_; clear hs; rintro e w1 ⟨rfl, rfl⟩)
        | (go_at_call 13; refine hap.mono ?_; clear hap; rintro e w3 ⟨rfl, hL3, hK3⟩; have hJ3 := (hK3.same J (.inr rfl)).trans hJ; obtain ⟨z0, z1, z2, z3⟩ := cells4 hJ3; have hzf := free_of hJ3 2; have haf := after_fine w3 J 0 (.inl rfl))
        | (go_at_call 90; refine haf.mono ?_; rintro e w4 ⟨rfl, rfl⟩))
      go_returns
      have hjl : JLive _ J p n₀ m { j with s := s2 } K := ⟨hL3, by rw [hbr]; exact hJ3, h'.out.base, h'.out.out⟩
      obtain ⟨k1, k2⟩ := JLive.write (j := { j with s := s2 }) (j' := { j with s := s2, kept := j.many }) rfl hjl (by rw [hbr]; exact (setCell_heap hJ3).trans rfl) (jset (B := J) (i := 2) (v := .int .i64 (j.many : Int)))
      exact ⟨rfl, k1, (hK3.sub (fun g hg => .inl hg)).trans k2⟩
    · by_cases hc1 : c = 52
      · subst hc1
        simp only [if_true, show ((52 : Int) = 0) = False from by simp, if_false]
        unfold ofBlock at *
        go_enter Tryz.func38, Tryz.ntmps38
        go_wp2_with (first
          | (go_at_call 89; refine hs.mono ?_; clear hs; rintro e w1 ⟨rfl, rfl⟩)
          | (go_at_call 13; refine hap.mono ?_; clear hap; rintro e w3 ⟨rfl, hL3, hK3⟩; have hJ3 := (hK3.same J (.inr rfl)).trans hJ; have haf := after_fine w3 J 52 (.inr rfl))
          | (go_at_call 90; refine haf.mono ?_; rintro e w4 ⟨rfl, rfl⟩))
        go_returns
        exact ⟨rfl, ⟨hL3, by rw [hbr]; exact hJ3, h'.out.base, h'.out.out⟩, hK3.sub (fun g hg => .inl hg)⟩
      · simp only [hc0, hc1, if_false]
        unfold ofBlock at *
        go_enter Tryz.func38, Tryz.ntmps38
        go_wp2_with (first
          | (go_at_call 89; refine hs.mono ?_; clear hs; rintro e w1 ⟨rfl, rfl⟩)
          | (go_at_call 13; refine hap.mono ?_; clear hap; rintro e w3 ⟨rfl, hL3, hK3⟩; have hJ3 := (hK3.same J (.inr rfl)).trans hJ; have haf := after_broken w3 J p j.many j.kept false c hJ3 hc0 hc1)
          | (go_at_call 90; refine haf.mono ?_; clear haf; rintro e w4 ⟨rfl, hJ4, hG4⟩))
        go_returns
        have hjl : JLive _ J p n₀ m { j with s := s2 } K := ⟨hL3, by rw [hbr]; exact hJ3, h'.out.base, h'.out.out⟩
        obtain ⟨k1, k2⟩ := JLive.write (j := { j with s := s2 }) (j' := { j with s := s2, br := true }) rfl hjl hJ4 hG4
        exact ⟨rfl, k1, (hK3.sub (fun g hg => .inl hg)).trans k2⟩
  · rw [hbr] at hJ
    have hs := shut_any w J p j.many j.kept true hJ
    simp only [if_true] at hs ⊢
    replace h : Hid _ := h
    unfold ofBlock at *
    go_enter Tryz.func38, Tryz.ntmps38
    go_wp2_with (go_at_call 89; refine hs.mono ?_; clear hs; rintro e w1 ⟨rfl, rfl⟩)
    go_returns
    exact ⟨rfl, h.out, Kept.refl _ _ _⟩
end Go.Proofs.YtmcmagplaflegaaGreat

namespace Go.Proofs.YtmcmagplaflegaaGreat
open Go Go.RowKit Go.MapL Go.Poised

/-- A disk that has "journal" alone, the i-th file, of the bytes B, of which a beginning is synced. -/
structure JS (s : DS) (i : Nat) (B : List Nat) (mark : Nat) : Prop where
  dead : s.dead = false
  names : s.names = [(jN, i)]
  kept : s.kept = [(jN, i)]
  works : s.works = []
  file : s.file i = ⟨B, mark⟩
  low : 1 ≤ i
  high : i ≤ s.births
variable {s : DS} {i mark : Nat} {B : List Nat}

theorem jN_ne : jN ≠ jM := by decide
theorem look_jN (i : Nat) : MapL.look jN [(jN, i)] = some i := by simp [MapL.look]
theorem look_jM (i : Nat) : MapL.look jM [(jN, i)] = none := by simp [MapL.look, jN_ne]
theorem JS.fileN (h : JS s i B mark) : fileOf s jN = some i := by unfold fileOf; rw [h.names]; exact look_jN i
theorem JS.fileM (h : JS s i B mark) : fileOf s jM = none := by unfold fileOf; rw [h.names]; exact look_jM i
theorem sum_one (i c : Nat) : ∀ n, ((List.range n).map fun j => if (i == j + 1) = true then c else 0).sum = if 1 ≤ i ∧ i ≤ n then c else 0
  | 0 => by rw [if_neg (by omega)]; rfl
  | n + 1 => by
    rw [List.range_succ, List.map_append, List.sum_append, sum_one i c n]
    simp only [List.map_cons, List.map_nil, List.sum_cons, List.sum_nil, Nat.add_zero, beq_iff_eq]
    by_cases h : i = n + 1
    · rw [if_neg (by omega), if_pos h, if_pos (by omega), Nat.zero_add]
    · rw [if_neg h, Nat.add_zero]
      by_cases h2 : 1 ≤ i ∧ i ≤ n
      · rw [if_pos h2, if_pos (by omega)]
      · rw [if_neg h2, if_neg (by omega)]
theorem JS.used (h : JS s i B mark) : usedOf s = B.length := by
  unfold usedOf
  have e : ((List.range s.births).map fun j => if held s (j + 1) = true then (s.file (j + 1)).b.length else 0) = (List.range s.births).map fun j => if (i == j + 1) = true then B.length else 0 := by
    apply List.map_congr_left
    intro j _
    have e1 : held s (j + 1) = (i == j + 1) := by unfold held; rw [h.names, h.kept]; simp
    rw [e1]
    by_cases hj : i = j + 1
    · subst hj; rw [h.file]
    · rw [if_neg (by simpa using hj), if_neg (by simpa using hj)]
  rw [e, sum_one, if_pos ⟨h.low, h.high⟩]
theorem JS.tick (h : JS s i B mark) : JS s.tick i B mark := ⟨h.dead, h.names, h.kept, h.works, h.file, h.low, h.high⟩
theorem JS.setf (h : JS s i B mark) (f : FileS) : JS (s.setf i f) i f.b f.mark := ⟨h.dead, h.names, h.kept, h.works, upd_same _ _ _, h.low, h.high⟩
theorem okN : (decide (1 ≤ jN.size) && decide (jN.size ≤ 40)) = true := by decide
theorem JS.append (h : JS s i B mark) (l : List Nat) : s.append jN l = if s.room < B.length + l.length then (s, 52) else if s.fails = 0 then (s.crash s.keep, 51) else (s.tick.setf i ⟨B ++ l, mark⟩, 0) := by
  unfold DS.append
  rw [h.dead, okN, h.used]
  simp only [Bool.false_eq_true, if_false, Bool.true_eq_false]
  have e : s.tick.find jN = (s.tick, i) := by unfold DS.find; rw [show fileOf s.tick jN = some i from h.fileN]
  rw [e]
  have e2 : s.tick.grow i l = s.tick.setf i ⟨B ++ l, mark⟩ := by unfold DS.grow DS.setf; rw [show s.tick.file i = ⟨B, mark⟩ from h.file]
  rw [e2]
theorem JS.ofRes (h : JS s i B mark) (ok : Bool) : ofRes s jN ok = if ok = true then (some i, 0) else (none, 50) := by
  unfold Go.Proofs.YtmcmagplaflegaaGreat.ofRes
  rw [h.dead, h.fileN]; simp
theorem JS.sync (h : JS s i B mark) : s.sync jN = if s.fails = 0 then (s.crash s.keep, 51) else (s.tick.setf i ⟨B, B.length⟩, 0) := by
  unfold DS.sync DS.work
  rw [h.ofRes]
  simp only [if_true]
  have e : s.tick.file i = ⟨B, mark⟩ := h.file
  rw [e]; rfl
theorem JS.readRes (h : JS s i B mark) : readRes s jN = (B, 0) := by rw [readRes_of h.dead h.fileN, h.file]
theorem JS.cut (h : JS s i B mark) (n : Nat) (hn : n ≤ B.length) : s.cut jN n = if s.fails = 0 then (s.crash s.keep, 51) else (s.tick.setf i ⟨B.take n, min mark n⟩, 0) := by
  unfold DS.cut
  rw [h.dead, h.fileN]
  simp only [Bool.false_eq_true, if_false, h.file, Int.toNat_natCast]
  rw [if_neg (by omega)]
theorem JS.syncNames (h : JS s i B mark) : s.syncNames = if s.fails = 0 then (s.crash s.keep, 51) else (s.tick, 0) := by
  unfold DS.syncNames
  rw [h.dead]
  simp only [Bool.false_eq_true, if_false]
  have e : ({ s.tick with kept := s.names, works := [] } : DS) = s.tick := by
    have h1 : s.names = s.tick.kept := by rw [h.names]; exact h.kept.symm
    have h2 : ([] : List (ByteArray × ByteArray × Option Nat)) = s.tick.works := h.works.symm
    rw [h1, h2]
  rw [e]
theorem JS.drops (h : JS s i B mark) : dropNew s = (s, 0) := by
  unfold dropNew
  rw [isIn_names h.dead, h.fileM]; simp
theorem JS.isN (h : JS s i B mark) : isIn jN (namesOf s) = true := by rw [isIn_names h.dead, h.fileN]; rfl
theorem JS.readsD (h : JS s i B mark) : readD s = match recs B with | none => (s, 70) | some (_, c) => if c < B.length then s.cut jN c else (s, 0) := by
  unfold readD
  rw [h.isN, h.readRes]; simp only [if_true]
  rcases recs B with _ | ⟨L, c⟩ <;> rfl
theorem JS.opensL (h : JS s i B mark) : openL s = listOf (recs B) := by
  unfold openL readL
  rw [h.drops]
  simp only
  rw [h.isN, h.readRes]; simp
theorem tick_neg {s : DS} (h : s.fails = -1) : s.tick = s := tick_off (by omega)
/-- Open, while the power stays: what is torn is cut off. -/
theorem JS.open (h : JS s i B mark) (hf : s.fails = -1) {L : List (List Nat)} {c : Nat} (hr : recs B = some (L, c)) : (openD s).2 = 0 ∧ openL s = L ∧ JS (openD s).1 i (B.take c) c ∧ (openD s).1.room = s.room ∧ (openD s).1.fails = -1 ∧ (openD s).1.births = s.births := by
  have hc := recs_end hr
  have hne : ¬ s.fails = 0 := by omega
  have h1 : ∃ s1, readD s = (s1, 0) ∧ (∃ mk, JS s1 i (B.take c) mk) ∧ s1.room = s.room ∧ s1.fails = -1 ∧ s1.births = s.births := by
    rw [h.readsD, hr]
    simp only
    by_cases hlt : c < B.length
    · rw [if_pos hlt, h.cut c hc, if_neg hne, tick_neg hf]
      exact ⟨_, rfl, ⟨_, h.setf _⟩, rfl, hf, rfl⟩
    · rw [if_neg hlt]
      refine ⟨_, rfl, ⟨mark, ?_⟩, rfl, hf, rfl⟩
      rw [List.take_of_length_le (by omega)]
      exact h
  obtain ⟨s1, e1, ⟨mk, h2⟩, hr1, hf1, hb1⟩ := h1
  have hlen : (B.take c).length = c := by rw [List.length_take]; omega
  have e2 : s1.sync jN = (s1.setf i ⟨B.take c, c⟩, 0) := by rw [h2.sync, if_neg (by omega), tick_neg hf1, hlen]
  have h3 := h2.setf ⟨B.take c, c⟩
  have hf3 : (s1.setf i ⟨B.take c, c⟩).fails = -1 := hf1
  have e3 : (s1.setf i ⟨B.take c, c⟩).syncNames = (s1.setf i ⟨B.take c, c⟩, 0) := by rw [h3.syncNames, if_neg (by omega), tick_neg hf3]
  have e : openD s = (s1.setf i ⟨B.take c, c⟩, 0) := by
    unfold openD
    rw [if_neg (by rw [h.dead]; simp), h.drops, thenD_yes (q := (s, 0)) rfl, e1, thenD_yes (q := (s1, 0)) rfl, e2, thenD_yes (q := (s1.setf i ⟨B.take c, c⟩, 0)) rfl, e3]
  rw [e]
  exact ⟨rfl, by rw [h.opensL, hr]; rfl, h3, hr1, hf3, hb1⟩
/-- A disk that is new is opened. -/
theorem open_new (room : Nat) : (openD (DS.new room)).2 = 0 ∧ openL (DS.new room) = [] ∧ JS (openD (DS.new room)).1 1 [] 0 ∧ (openD (DS.new room)).1.room = room ∧ (openD (DS.new room)).1.fails = -1 ∧ (openD (DS.new room)).1.births = 1 := by
  have hM : isIn jM (namesOf (DS.new room)) = false := by rw [isIn_names rfl]; rfl
  have hN : isIn jN (namesOf (DS.new room)) = false := by rw [isIn_names rfl]; rfl
  have e0 : dropNew (DS.new room) = (DS.new room, 0) := by unfold dropNew; rw [hM]; simp
  have hu : usedOf (DS.new room) = 0 := rfl
  obtain ⟨s1, hs1⟩ : ∃ s1, (((DS.new room).tick.find jN).1.grow ((DS.new room).tick.find jN).2 []) = s1 := ⟨_, rfl⟩
  have e1 : readD (DS.new room) = (s1, 0) := by
    unfold readD
    rw [hN]
    simp only [Bool.false_eq_true, if_false]
    unfold DS.append
    rw [hu, okN]
    simp only [List.length_nil, Nat.add_zero, Nat.not_lt_zero, if_false]
    rw [if_neg (by show ¬ false = true; simp), if_neg (by simp), if_neg (by show ¬ (-1 : Int) = 0; simp), hs1]
  have f1 : s1.dead = false ∧ s1.names = [(jN, 1)] ∧ s1.file 1 = ⟨[], 0⟩ ∧ s1.births = 1 ∧ s1.room = room ∧ s1.fails = -1 := by
    subst hs1
    refine ⟨rfl, ?_, rfl, rfl, rfl, rfl⟩
    rfl
  obtain ⟨g1, g2, g3, g4, g5, g6⟩ := f1
  have gf : fileOf s1 jN = some 1 := by unfold fileOf; rw [g2]; exact look_jN 1
  have e2 : s1.sync jN = (s1.setf 1 ⟨[], 0⟩, 0) := by
    unfold DS.sync DS.work ofRes
    rw [g1, gf]
    simp only [Bool.false_eq_true, if_false, if_true]
    rw [if_neg (by omega), tick_neg g6, g3]; rfl
  have e3 : (s1.setf 1 ⟨[], 0⟩).syncNames = ({ s1.setf 1 ⟨[], 0⟩ with kept := s1.names, works := [] }, 0) := by
    unfold DS.syncNames
    rw [if_neg (by show ¬ s1.dead = true; rw [g1]; simp), if_neg (by show ¬ s1.fails = 0; omega), tick_neg (s := s1.setf 1 ⟨[], 0⟩) g6]; rfl
  have e : openD (DS.new room) = ({ s1.setf 1 ⟨[], 0⟩ with kept := s1.names, works := [] }, 0) := by
    unfold openD
    rw [if_neg (by show ¬ false = true; simp), e0, thenD_yes (q := (DS.new room, 0)) rfl, e1, thenD_yes (q := (s1, 0)) rfl, e2, thenD_yes (q := (s1.setf 1 ⟨[], 0⟩, 0)) rfl, e3]
  rw [e]
  refine ⟨rfl, ?_, ⟨g1, g2, g2, rfl, (by show upd s1.file 1 _ 1 = _; exact upd_same _ _ _), Nat.le_refl _, (by show 1 ≤ s1.births; omega)⟩, g5, g6, g4⟩
  unfold openL readL
  rw [e0]
  simp only
  rw [hN]; simp
theorem rising_one (i : Nat) : rising [i] = [i] := by unfold rising; exact List.mergeSort_singleton i
/-- A fall: a beginning is kept. -/
theorem JS.crash (h : JS s i B mark) (keep : List Int) : JS (s.crash keep).boot i (B.take (mark + brought keep 1 (B.length - mark))) (mark + brought keep 1 (B.length - mark)) ∧ (s.crash keep).boot.room = s.room ∧ (s.crash keep).boot.fails = -1 ∧ (s.crash keep).dead = true ∧ (s.crash keep).boot.births = s.births := by
  have ea : ∀ n, after s n = [(jN, i)] := fun n => by unfold after; rw [h.works, h.kept]; simp
  unfold DS.crash
  rw [if_neg (by rw [h.dead]; simp)]
  simp only [ea, List.map_cons, List.map_nil, rising_one, crashFiles]
  refine ⟨⟨rfl, rfl, rfl, rfl, ?_, h.low, h.high⟩, rfl, rfl, (by first | rfl | trivial), rfl⟩
  show (crashFile keep s 0 i).file i = _
  unfold crashFile
  simp only [upd_same, h.file, Nat.add_zero]
end Go.Proofs.YtmcmagplaflegaaGreat

namespace Go.Proofs.YtmcmagplaflegaaGreat
open Go Go.RowKit Go.MapL Go.Poised

/-- A journal while the power stays: its records, of which a beginning is synced. -/
structure JG (j : Jn) (i : Nat) (L : List (List Nat)) (mark : Nat) : Prop where
  br : j.br = false
  many : j.many = L.length
  disk : JS j.s i (listB 1 L) mark
  fails : j.s.fails = -1
theorem recRes_ok (n : Nat) (b : List Nat) (hn : n + 1 ≤ 9007199254740991) (hb : b.length ≤ 262144) : recRes ((n : Int) + 1) b = (recB (n + 1) b, 0) := by
  unfold recRes
  rw [if_neg (by omega), if_neg (by omega)]
  rw [show ((n : Int) + 1).toNat = n + 1 by omega]
theorem JG.append {j : Jn} {i mark : Nat} {L : List (List Nat)} (h : JG j i L mark) (b : List Nat) (hb : b.length ≤ 262144) (hl : L.length ≤ 1000000000) :
    (j.append b).2 = (if j.s.room < sizesB L + (b.length + 20) then 52 else 0) ∧ (sizesB L + (b.length + 20) ≤ j.s.room → JG (j.append b).1 i (L ++ [b]) mark ∧ (j.append b).1.kept = j.kept ∧ (j.append b).1.s.room = j.s.room ∧ (j.append b).1.s.births = j.s.births) ∧ (j.s.room < sizesB L + (b.length + 20) → (j.append b).1 = j) := by
  unfold Jn.append
  rw [h.br, h.many, recRes_ok _ _ (by omega) hb]
  simp only [Bool.false_eq_true, if_false, if_true]
  rw [h.disk.append, listB_len, recB_len, if_neg (by have := h.fails; omega : ¬ j.s.fails = 0)]
  by_cases hr : j.s.room < sizesB L + (b.length + 20)
  · rw [if_pos hr, if_pos hr]
    exact ⟨rfl, fun h2 => by omega, fun _ => rfl⟩
  · rw [if_neg hr, if_neg hr]
    refine ⟨rfl, fun _ => ⟨⟨h.br, ?_, ?_, ?_⟩, rfl, rfl, rfl⟩, fun h2 => absurd h2 hr⟩
    · show j.many + 1 = _
      rw [h.many, List.length_append]; rfl
    · show JS (j.s.tick.setf i ⟨listB 1 L ++ recB (L.length + 1) b, mark⟩) i (listB 1 (L ++ [b])) mark
      rw [listB_snoc, show 1 + L.length = L.length + 1 by omega]
      exact h.disk.tick.setf _
    · show j.s.tick.fails = -1
      rw [tick_neg h.fails]; exact h.fails
theorem JG.sync {j : Jn} {i mark : Nat} {L : List (List Nat)} (h : JG j i L mark) : j.sync.2 = 0 ∧ JG j.sync.1 i L (sizesB L) ∧ j.sync.1.kept = L.length ∧ j.sync.1.s.room = j.s.room ∧ j.sync.1.s.births = j.s.births := by
  unfold Jn.sync
  rw [h.br, h.disk.sync, if_neg (by have := h.fails; omega : ¬ j.s.fails = 0), listB_len]
  refine ⟨rfl, ⟨h.br, h.many, ?_, ?_⟩, h.many, rfl, rfl⟩
  · exact h.disk.tick.setf ⟨listB 1 L, sizesB L⟩
  · show j.s.tick.fails = -1
    rw [tick_neg h.fails]; exact h.fails
/-- The chapter's journal. -/
def ch0 : Jn := ⟨(openD (DS.new 1000)).1, 0, 0, false⟩
def ch1 : Jn := (ch0.append [97]).1
def ch2 : Jn := (ch1.append []).1
def ch3 : Jn := ch2.sync.1
def ch4 : Jn := (ch3.append [98]).1
theorem ch_codes : (ch0.append [97]).2 = 0 ∧ (ch1.append []).2 = 0 ∧ ch2.sync.2 = 0 ∧ (ch3.append [98]).2 = 0 ∧ ch4.many = 3 ∧ ch4.kept = 2 ∧ ch4.br = false ∧ JG ch4 1 [[97], [], [98]] 41 ∧ ch4.s.room = 1000 ∧ ch1.many ≤ 10 ∧ ch3.many ≤ 10 := by
  obtain ⟨o1, o2, o3, o4, o5, o6⟩ := open_new 1000
  have g0 : JG ch0 1 [] 0 := ⟨rfl, rfl, o3, o5⟩
  obtain ⟨a1, a2, _⟩ := g0.append [97] (by simp) (by simp)
  rw [show ch0.s.room = 1000 from o4] at a1 a2
  obtain ⟨b1, b2, b3, b4⟩ := a2 (by decide)
  have g1 : JG ch1 1 [[97]] 0 := b1
  obtain ⟨c1, c2, _⟩ := g1.append [] (by simp) (by simp)
  rw [show ch1.s.room = 1000 from b3] at c1 c2
  obtain ⟨d1, d2, d3, d4⟩ := c2 (by decide)
  have g2 : JG ch2 1 [[97], []] 0 := d1
  obtain ⟨e1, e2, e3, e4, e5⟩ := g2.sync
  have g3 : JG ch3 1 [[97], []] 41 := e2
  obtain ⟨f1, f2, _⟩ := g3.append [98] (by simp) (by simp)
  have hr3 : ch3.s.room = 1000 := e4.trans d3
  rw [hr3] at f1 f2
  obtain ⟨h1, h2, h3, h4⟩ := f2 (by decide)
  have g4 : JG ch4 1 [[97], [], [98]] 41 := h1
  exact ⟨a1, c1, e1, f1, g4.many, h2.trans e3, g4.br, g4, h3, by rw [g1.many]; decide, by rw [g3.many]; decide⟩
/-- What is there behind a fall. -/
def chT (keep : List Int) : List (List Nat) := [[97], [], [98]].take (wholeN [[97], [], [98]] (41 + brought keep 1 21))
theorem ch_open (keep : List Int) : (openD (ch4.s.crash keep).boot).2 = 0 ∧ openL (ch4.s.crash keep).boot = chT keep := by
  obtain ⟨_, _, _, _, _, _, _, g, _, _, _⟩ := ch_codes
  obtain ⟨h1, h2, h3, _, _⟩ := g.disk.crash keep
  have e : (listB 1 [[97], [], [98]]).length - 41 = 21 := by rw [listB_len]; rfl
  rw [e] at h1
  have hr := recs_take [[97], [], [98]] (41 + brought keep 1 21) (by decide) (by decide)
  obtain ⟨k1, k2, _⟩ := h1.open h3 hr
  exact ⟨k1, k2⟩
end Go.Proofs.YtmcmagplaflegaaGreat

namespace Go.Proofs.YtmcmagplaflegaaGreat
open Go Go.RowKit Go.MapL Go.Poised

theorem bytes_nilS (W : World) : BytesIn W (.slice none 0 0) [] := ⟨by simp, by simp, .inl ⟨rfl, rfl⟩⟩
theorem byte_new (W : World) (c n : Nat) (fz : Nat × Nat) (hc : c < 256) : BytesIn (W.alloc (.cells #[.int .u8 (c : Nat)] 5 fz)) (.slice (some ⟨W.heap.size, 0, none⟩) 1 n) [c] :=
  bytes_block (fz := fz) [c] (heap_new _ _) (by simpa using hc) (by simp)
set_option maxRecDepth 100000 in
set_option maxHeartbeats 8000000 in
theorem chapter_any (kv : Value) (keep : List Int) (w : World) (hk : IntsIn w kv keep) :
    Calls Tryz.prog 81 #[kv] w fun e w' => ∃ u L, e = .returned (.tuple #[u, .bool true]) ∧ RowsAt w' w.heap.size u L ∧ L.map (·.2) = chT keep ∧ Below w.heap.size w w' := by
  have hnew := live_new 1000 (by omega) w
  obtain ⟨z1, z2, z3, z4, z5, z6, z7, _, _, z8, z9⟩ := ch_codes
  obtain ⟨y1, y2⟩ := ch_open keep
  obtain ⟨o1, o2, _⟩ := open_new 1000
  have hks : ∃ q n c, kv = .slice q n c := by
    rcases hk.2.2 with ⟨rfl, _⟩ | ⟨a, cap, rfl, _⟩ | ⟨b, off, cap, rfl, _⟩
    · exact ⟨_, _, _, rfl⟩
    · exact ⟨_, _, _, rfl⟩
    · exact ⟨_, _, _, rfl⟩
  obtain ⟨kq, kn, kc, rfl⟩ := hks
  replace hk : Hid _ := hk
  replace z1 : Hid _ := z1
  replace z2 : Hid _ := z2
  replace z3 : Hid _ := z3
  replace z4 : Hid _ := z4
  replace z5 : Hid _ := z5
  replace z6 : Hid _ := z6
  replace z7 : Hid _ := z7
  replace z8 : Hid _ := z8
  replace z9 : Hid _ := z9
  replace y1 : Hid _ := y1
  replace y2 : Hid _ := y2
  replace o1 : Hid _ := o1
  replace o2 : Hid _ := o2
  have hcv := fun (W : World) C n c => Lib.run_convert_bytes_const (P := Tryz.prog) W 23 5 C n c Tryz.underlying23 Tryz.underlying5
  have k1 : True := trivial
  unfold ofBlock at hnew
  go_enter Tryz.func81, Tryz.ntmps81
  go_wp2_with (first
    | (clear k1; go_at_call 35; refine hnew.mono ?_; clear hnew; rintro e w1 ⟨rfl, hb1, hL1⟩; have k2 : True := trivial)
    | (clear k2; go_at_call 36; refine (open_any hL1 (by omega)).mono ?_; rintro e w2 ⟨hK2, hok, _⟩; obtain ⟨⟨J, u, L, rfl, hJ, hR, hT, hJn, hL2⟩⟩ := hok o1.out
       rw [o2.out] at hT
       obtain rfl : L = [] := (List.map_eq_nil_iff.1 hT)
       obtain ⟨uq, ucap, rfl⟩ := own_shape hR.row
       have hl2 : JLive w2 J (w.heap.size + 2) w.heap.size 3 ch0 (fun _ => False) := ⟨hL2.sub (fun g hg => by rcases hg with hg | hg; exact hg.elim; exact .inr (.inl hg)), hJ, Nat.le_trans hb1.size hJn, id⟩
       clear hT hR hL2 hJ
       unfold ofBlock
       have k3 : True := trivial)
    | (clear k3; go_at_call 37; refine (jappend_any (j := ch0) (m := 3) _ [97] (hl2.below ((Below.refl _ _).alloc (Nat.le_refl _) _)) (by omega) (by decide) (byte_new w2 97 1 (1, 2) (by omega)) (by simp)).mono ?_; rintro e w3 ⟨rfl, hl3, hK3⟩; rw [z1.out]; have hB3 := ((hb1.trans hK2.below).alloc (Nat.le_trans hb1.size hK2.below.size) (.cells #[.int .u8 97] 5 (1, 2))).trans hK3.below; have k4 : True := trivial)
    | (clear k4; go_at_call 37; refine (jappend_any (j := ch1) (m := 5) _ [] hl3 (by omega) (by have := z8.out; omega) (bytes_nilS _) (by simp)).mono ?_; rintro e w4 ⟨rfl, hl4, hK4⟩; rw [z2.out]; have k5 : True := trivial)
    | (clear k5; go_at_call 38; refine (jsync_any (j := ch2) (m := 7) hl4 (by omega)).mono ?_; rintro e w5 ⟨rfl, hl5, hK5⟩; rw [z3.out]; have k6 : True := trivial)
    | (clear k6; go_at_call 37; refine (jappend_any (j := ch3) (m := 7) _ [98] (hl5.below ((Below.refl _ _).alloc (Nat.le_refl _) _)) (by omega) (by have := z9.out; omega) (byte_new w5 98 1 (1, 2) (by omega)) (by simp)).mono ?_; rintro e w6 ⟨rfl, hl6, hK6⟩; rw [z4.out]
       have hB5 := (hB3.trans hK4.below).trans hK5.below
       have hB6 := (hB5.alloc hB5.size (.cells #[.int .u8 98] 5 (1, 2))).trans hK6.below
       have hj6 := hl6.jnl; rw [show (ch3.append [98]).1.many = 3 from z5.out, show (ch3.append [98]).1.kept = 2 from z6.out, show (ch3.append [98]).1.br = false from z7.out] at hj6
       have hln := len_any w6 J _ 3 2 false hj6; have hkp := kept_any w6 J _ 3 2 false hj6; simp only [Bool.false_eq_true, if_false] at hln hkp; unfold ofBlock at hln hkp; have k7 : True := trivial)
    | (clear k7; go_at_call 127; refine hln.mono ?_; clear hln; rintro e w7 ⟨rfl, rfl⟩; have k8 : True := trivial)
    | (clear k8; go_at_call 128; refine hkp.mono ?_; clear hkp; rintro e w8 ⟨rfl, rfl⟩; have k9 : True := trivial)
    | (clear k9; go_at_call 9; refine (live_crash (s := ch4.s) _ keep hl6.live (by omega) (fun w' hk' => IntsIn.below hk.out (hB6.trans hk'.below))).mono ?_; rintro e w9 ⟨rfl, hl9, hK9⟩; have k10 : True := trivial)
    | (clear k10; go_at_call 11; refine (live_boot hl9).mono ?_; rintro e w10 ⟨rfl, hl10, hK10⟩; have k11 : True := trivial)
    | (clear k11; go_at_call 36; refine (open_any hl10 (by omega)).mono ?_; rintro e w11 ⟨hK11, hok2, _⟩; obtain ⟨⟨J2, u2, L2, rfl, hJ2, hR2, hT2, hJn2, hL2⟩⟩ := hok2 y1.out; obtain ⟨u2q, u2cap, rfl⟩ := own_shape hR2.row; unfold ofBlock))

  go_returns
  have hB11 := ((hB6.trans hK9.below).trans hK10.below).trans hK11.below
  exact ⟨_, L2, rfl, rows_less hR2 (Nat.le_trans (Nat.le_trans hB6.size hK9.below.size) hK10.below.size), by rw [hT2]; exact y2.out, hB11⟩
theorem chT1 : chT [] = [[97], []] := by decide
theorem chT2 : chT [0, 20] = [[97], []] := by decide
theorem chT3 : chT [0, 21] = [[97], [], [98]] := by decide
theorem chT_in (keep : List Int) : ∀ l ∈ chT keep, (∀ x ∈ l, x < 256) ∧ l.length ≤ 262144 := by
  intro l hl
  have h := List.mem_of_mem_take hl
  simp only [List.mem_cons, List.not_mem_nil, or_false] at h
  rcases h with rfl | rfl | rfl <;> simp
theorem rows_in {w : World} {n : Nat} {u : Value} {L : List (Value × List Nat)} {keep : List Int} (h : RowsAt w n u L) (hT : L.map (·.2) = chT keep) : ListIn w u L :=
  h.list (fun q hq => (chT_in keep q.2 (by rw [← hT]; exact List.mem_map_of_mem hq)).1) (fun q hq => (chT_in keep q.2 (by rw [← hT]; exact List.mem_map_of_mem hq)).2)
theorem ints2 (W : World) (a b : Int) (ha : -9223372036854775808 ≤ a ∧ a ≤ 9223372036854775807) (hb : -9223372036854775808 ≤ b ∧ b ≤ 9223372036854775807) : IntsIn (W.alloc (.cells #[.int .i64 a, .int .i64 b] 3)) (.slice (some ⟨W.heap.size, 0, none⟩) 2 2) [a, b] := by
  refine ⟨by simp [ha, hb], by simp, .inr (.inr ⟨_, 0, 2, rfl, fun k hk => ?_⟩)⟩
  have hk2 : k < 2 := hk
  simp only [World.cell?, heap_new, Option.isSome_none, Bool.false_eq_true, if_false, Nat.zero_add]
  rcases k with _ | _ | k
  · rfl
  · rfl
  · omega
theorem text2 : (Obj.cells #[.string ⟨#[97]⟩, .string ⟨#[]⟩] 9) = .cells ((([[97], []] : List (List Nat)).map fun l => Value.string (txt l)).toArray) 9 := rfl
theorem text3 : (Obj.cells #[.string ⟨#[97]⟩, .string ⟨#[]⟩, .string ⟨#[98]⟩] 9) = .cells ((([[97], [], [98]] : List (List Nat)).map fun l => Value.string (txt l)).toArray) 9 := rfl
set_option maxRecDepth 100000 in
set_option maxHeartbeats 8000000 in
theorem awake_any (w : World) : Calls Tryz.prog 32 #[] w fun e w' => e = .returned (.bool true) ∧ Below w.heap.size w w' := by
  have k1 : True := trivial
  go_enter Tryz.func32, Tryz.ntmps32
  go_wp2_with (first
    | (clear k1; go_at_call 81; refine (chapter_any _ [] w ⟨by simp, by simp, .inl ⟨rfl, rfl⟩⟩).mono ?_; rintro e w1 ⟨u1, L1, rfl, hR1, hT1, hb1⟩; obtain ⟨q1, c1, rfl⟩ := own_shape hR1.row; have k2 : True := trivial)
    | (clear k2; go_at_call 81; refine (chapter_any _ [0, 20] _ (ints2 w1 0 20 (by omega) (by omega))).mono ?_; rintro e w2 ⟨u2, L2, rfl, hR2, hT2, hb2⟩; obtain ⟨q2, c2, rfl⟩ := own_shape hR2.row
       have hB1 := (Below.refl w1.heap.size w1).alloc (Nat.le_refl _) (.cells #[.int .i64 0, .int .i64 20] 3)
       have hb2' := hB1.trans (hb2.mono hB1.size); have hR1' := hR1.below hb2'; have k3 : True := trivial)
    | (clear k3; go_at_call 81; refine (chapter_any _ [0, 21] _ (ints2 w2 0 21 (by omega) (by omega))).mono ?_; rintro e w3 ⟨u3, L3, rfl, hR3, hT3, hb3⟩; obtain ⟨q3, c3, rfl⟩ := own_shape hR3.row
       have hB2 := (Below.refl w2.heap.size w2).alloc (Nat.le_refl _) (.cells #[.int .i64 0, .int .i64 21] 3)
       have hb3' := hB2.trans (hb3.mono hB2.size); have hR1'' := hR1'.below hb3'; have hR2' := hR2.below hb3'
       have hL1 := rows_in hR1'' hT1; have hL2 := rows_in hR2' hT2; have hL3 := rows_in hR3 hT3
       have hA1 := (Below.refl w3.heap.size w3).alloc (Nat.le_refl _) (.cells #[.string ⟨#[97]⟩, .string ⟨#[]⟩] 9)
       have hh1 := has_any _ L1 [[97], []] w3.heap.size 2 _ (hL1.below hA1) ((heap_new w3 _).trans (congrArg some text2)) (by decide) (by decide)
       rw [hT1, chT1, decide_eq_true rfl] at hh1
       have k4 : True := trivial)
    | (clear k4; go_at_call 82; refine hh1.mono ?_; clear hh1; rintro e w4 ⟨rfl, hb4⟩
       have hb4' := hA1.trans (hb4.mono hA1.size)
       have hA2 := (Below.refl w4.heap.size w4).alloc (Nat.le_refl _) (.cells #[.string ⟨#[97]⟩, .string ⟨#[]⟩] 9)
       have hh2 := has_any _ L2 [[97], []] w4.heap.size 2 _ ((hL2.below hb4').below hA2) ((heap_new w4 _).trans (congrArg some text2)) (by decide) (by decide)
       rw [hT2, chT2, decide_eq_true rfl] at hh2
       have k5 : True := trivial)
    | (clear k5; go_at_call 82; refine hh2.mono ?_; clear hh2; rintro e w5 ⟨rfl, hb5⟩
       have hb5' := hb4'.trans ((hA2.trans (hb5.mono hA2.size)).mono hb4'.size)
       have hA3 := (Below.refl w5.heap.size w5).alloc (Nat.le_refl _) (.cells #[.string ⟨#[97]⟩, .string ⟨#[]⟩, .string ⟨#[98]⟩] 9)
       have hh3 := has_any _ L3 [[97], [], [98]] w5.heap.size 3 _ ((hL3.below hb5').below hA3) ((heap_new w5 _).trans (congrArg some text3)) (by decide) (by decide)
       rw [hT3, chT3, decide_eq_true rfl] at hh3
       have k6 : True := trivial)
    | (clear k6; go_at_call 82; refine hh3.mono ?_; clear hh3; rintro e w6 ⟨rfl, hb6⟩))
  go_returns
  have hB3 := hb1.trans ((hb2'.trans (hb3'.mono hb2'.size)).mono hb1.size)
  have hB5 := hB3.trans (hb5'.mono hB3.size)
  exact ⟨rfl, hB5.trans ((hA3.trans (hb6.mono hA3.size)).mono hB5.size)⟩
end Go.Proofs.YtmcmagplaflegaaGreat

namespace Go.Proofs.YtmcmagplaflegaaGreat
open Go Go.ChangeShapes Go.WideShapes Go.ChangeAt Go.RowKit Go.WideMaps Go.LawKit Go.Deep

theorem knob : ownKnob Tryz.prog.godebug = none := by kernel_rfl
theorem laidOut : laidOutB Tryz.prog = true := by kernel_rfl
noncomputable def laidWorld (os : Os) : World := World.holding Tryz.prog os ⟨#[], #[], []⟩
theorem wf_i64 {a : Int} (h : (Lit.int .i64 a).wf = true) : -9223372036854775808 ≤ a ∧ a ≤ 9223372036854775807 := by
  simp [Lit.wf, IntKind.min, IntKind.max, IntKind.signed, IntKind.bits] at h
  omega
theorem wf_u32 {a : Int} (h : (Lit.int .u32 a).wf = true) : 0 ≤ a ∧ a < 4294967296 := by
  simp [Lit.wf, IntKind.min, IntKind.max, IntKind.signed, IntKind.bits] at h
  omega
theorem list_of {α : Type} {P : Nat → α → Prop} : ∀ (n : Nat), (∀ i, i < n → ∃ a, P i a) → ∃ l : List α, l.length = n ∧ ∀ i (h : i < l.length), P i l[i]
  | 0, _ => ⟨[], rfl, fun i h => by simp at h⟩
  | n+1, h => by
    obtain ⟨l, hl, hp⟩ := list_of n (fun i hi => h i (by omega))
    obtain ⟨a, ha⟩ := h n (by omega)
    refine ⟨l ++ [a], by simp [hl], fun i hi => ?_⟩
    by_cases hil : i < l.length
    · rw [List.getElem_append_left hil]; exact hp i hil
    · have : i = l.length := by simp at hi; omega
      subst this
      rw [List.getElem_concat_length rfl]
      rw [hl]; exact ha

section
variable {H : Type} {enc : TypeId × Value → H} {W : World} {fuel : Nat} {v : Value} {x : DataW H × List MemPlace}
theorem row_of_ints {t e : TypeId} {k : IntKind} (ht : Tryz.prog.underlying t = some (.slice e)) (he : Tryz.prog.underlying e = some (.int k)) (hc : Tryz.prog.cellsOf e = 1)
    (hf : DataW.trod enc Tryz.prog W 0 (fun _ => true) true fuel t [v] = some x) :
    ∃ l : List Int, (∀ z ∈ l, (Lit.int k z).wf = true) ∧ l.length ≤ 9223372036854775807 ∧ (∀ n, (∀ elems spare, x.1 = .slice elems spare → elems.length + spare.length ≤ n) → l.length ≤ n) ∧ ((v = .slice none 0 0 ∧ l = []) ∨ (∃ a cap, v = .slice (some a) 0 cap ∧ l = []) ∨ ∃ b off cap, l.length ≤ cap ∧ v = .slice (some ⟨b, off, none⟩) l.length cap ∧ ∀ i, i < l.length → W.cell? ⟨b, off + i, none⟩ = some (.int k (l.getD i 0))) := by
  rcases open_ints ht he hc hf with ⟨h1, _⟩ | ⟨a, len, cap, zs, h1, _, hlc, hcm, hzl, hx, hcells, hwf⟩
  · obtain rfl : v = .slice none 0 0 := by simpa using h1
    exact ⟨[], by simp, by simp, fun n _ => Nat.zero_le n, .inl ⟨rfl, rfl⟩⟩
  · obtain rfl : v = .slice (some a) len cap := by simpa using h1
    have hlen : len ≤ zs.length := by rw [hzl]; simp; omega
    have hmax : len ≤ 9223372036854775807 := by unfold maxLen at hcm; omega
    refine ⟨zs.take len, fun z hz => hwf z (List.mem_of_mem_take hz), by simp; omega, fun n hn => ?_, ?_⟩
    · have := hn _ _ (by rw [hx])
      simp only [lits, List.length_map, List.length_take, List.length_drop] at this ⊢
      omega
    by_cases h0 : len = 0
    · subst h0; exact .inr (.inl ⟨a, cap, rfl, by simp⟩)
    · have hc0 := hcells 0 (by omega)
      rw [Addr.add_zero'] at hc0
      obtain ⟨b, off, spot⟩ := a
      obtain rfl : spot = none := by
        cases spot with
        | none => rfl
        | some n =>
          simp only [World.cell?] at hc0
          split at hc0 <;> simp at hc0
      have hl' : (zs.take len).length = len := by simp; omega
      refine .inr (.inr ⟨b, off, cap, by rw [hl']; exact hlc, by rw [hl'], fun i hi => ?_⟩)
      rw [hl'] at hi
      have hi' := hcells i (by omega)
      rw [add_plain] at hi'
      rw [hi']
      have : (zs.take len).getD i 0 = zs.getD i 0 := by
        simp [List.getD_eq_getElem?_getD, hi]
      rw [this]

/-- A slice of bytes, as an argument. -/
def ArgB (W : World) (v : Value) (l : List Nat) : Prop := BytesIn W v l ∧ ∃ q cap, v = .slice q l.length cap ∧ l.length ≤ cap
theorem bytes_of (hf : DataW.trod enc Tryz.prog W 0 (fun _ => true) true fuel 23 [v] = some x) : ∃ l : List Nat, ArgB W v l ∧ ∀ n, (∀ elems spare, x.1 = .slice elems spare → elems.length + spare.length ≤ n) → l.length ≤ n := by
  obtain ⟨l, hw, hl, hn, h⟩ := row_of_ints Tryz.underlying23 Tryz.underlying5 (by kernel_rfl) hf
  have hz : ∀ z ∈ l, 0 ≤ z ∧ z < 256 := fun z hz => by
    have := hw z hz
    simp [Lit.wf, IntKind.min, IntKind.max, IntKind.signed, IntKind.bits] at this
    omega
  rcases h with ⟨rfl, rfl⟩ | ⟨a, cap, rfl, rfl⟩ | ⟨b, off, cap, hlc, rfl, hcell⟩
  · exact ⟨[], ⟨⟨by simp, by simp, .inl ⟨rfl, rfl⟩⟩, none, 0, rfl, by simp⟩, fun n _ => Nat.zero_le n⟩
  · exact ⟨[], ⟨⟨by simp, by simp, .inr (.inl ⟨a, cap, rfl, rfl⟩)⟩, some a, cap, rfl, by simp⟩, fun n _ => Nat.zero_le n⟩
  · have hl' : (l.map Int.toNat).length = l.length := List.length_map _
    refine ⟨l.map Int.toNat, ⟨⟨?_, by rw [hl']; exact hl, .inr (.inr ⟨b, off, cap, by rw [hl'], fun k hk => ?_⟩)⟩, some ⟨b, off, none⟩, cap, by rw [hl'], by rw [hl']; exact hlc⟩, by rw [hl']; exact hn⟩
    · intro x hx
      obtain ⟨z, hz1, rfl⟩ := List.mem_map.1 hx
      have := hz z hz1
      omega
    · rw [hl'] at hk
      rw [hcell k hk]
      congr 2
      have := hz l[k] (List.getElem_mem hk)
      simp only [List.getD_eq_getElem?_getD, List.getElem?_map, List.getElem?_eq_getElem hk, Option.map_some, Option.getD_some]
      omega
/-- A list of slices of bytes, as an argument. -/
def ArgR (W : World) (v : Value) (L : List (Value × List Nat)) : Prop :=
  L.length ≤ 9223372036854775807 ∧ (∃ p cap, v = .slice p L.length cap ∧ L.length ≤ cap ∧ ∀ k (hk : k < L.length), ∃ b off, p = some ⟨b, off, none⟩ ∧ W.cell? ⟨b, off + k, none⟩ = some L[k].1) ∧ ∀ q ∈ L, ArgB W q.1 q.2
set_option maxRecDepth 100000 in
theorem rows_of (hf : DataW.trod enc Tryz.prog W 0 (fun _ => true) true fuel 53 [v] = some x) : ∃ L : List (Value × List Nat), ArgR W v L := by
  rcases open_slice Tryz.underlying53 hf with ⟨h1, _⟩ | ⟨a, len, cap, m, n, D, Pl, h1, _, hlc, hcm, hmm, _, hi⟩
  · obtain rfl : v = .slice none 0 0 := by simpa using h1
    exact ⟨[], by simp, ⟨none, 0, rfl, by simp, fun k hk => by simp at hk⟩, by simp⟩
  · obtain rfl : v = .slice (some a) len cap := by simpa using h1
    have hmm' : m = cap := by rw [hmm]; rfl
    have hmax : len ≤ 9223372036854775807 := by unfold maxLen at hcm; omega
    have hC : Tryz.prog.cellsOf 23 = 1 := by kernel_rfl
    have each : ∀ i, i < len → ∃ q : Value × List Nat, W.cell? (a.add i) = some q.1 ∧ ArgB W q.1 q.2 := by
      intro i hi2
      obtain ⟨cs', hc, ht'⟩ := hi i (by omega)
      rw [hC] at hc
      obtain ⟨_, hcl, hat⟩ := World.cells?_some hc
      obtain ⟨u, hu⟩ : ∃ u, cs' = [u] := by
        match cs', hcl with
        | [u], _ => exact ⟨u, rfl⟩
      subst hu
      obtain ⟨l, hl, _⟩ := bytes_of ht'
      have h0 := hat 0 (by omega)
      rw [Addr.add_zero', Nat.mul_one] at h0
      exact ⟨(u, l), h0, hl⟩
    by_cases h0 : len = 0
    · subst h0; exact ⟨[], by simp, ⟨some a, cap, rfl, by simp, fun k hk => by simp at hk⟩, by simp⟩
    · obtain ⟨_, hs, _⟩ := each 0 (by omega)
      rw [Addr.add_zero'] at hs
      replace hs := World.cell?_spot hs
      obtain ⟨b, off, spot⟩ := a
      simp only at hs
      subst hs
      obtain ⟨L, hl, hp⟩ := list_of len each
      refine ⟨L, by omega, ⟨some ⟨b, off, none⟩, cap, by rw [hl], by omega, fun k hk => ⟨b, off, rfl, ?_⟩⟩, fun q hq => ?_⟩
      · have := (hp k hk).1
        rw [add_plain] at this
        exact this
      · obtain ⟨k, hk, rfl⟩ := List.mem_iff_getElem.1 hq
        exact (hp k hk).2
end
section
variable {H : Type} {enc : TypeId × Value → H} {W : World} {v : Value} {d : DataW H} {ps : List MemPlace} {r : Reach} {b0 : Nat}
set_option maxRecDepth 100000 in
theorem open_bytes (hval : Value.okWide Tryz.prog W r b0 23 v) (hd : DataW.Trod enc Tryz.prog W 0 (fun _ => true) true 23 v d ps) : ∃ l : List Nat, ArgB W v l ∧ ∀ n, (∀ elems spare, d = .slice elems spare → elems.length + spare.length ≤ n) → l.length ≤ n := by
  obtain ⟨fuel, hf⟩ := hd
  obtain ⟨a, len, cap, rfl⟩ := okWide_slice Tryz.underlying23 hval
  exact bytes_of hf
set_option maxRecDepth 100000 in
theorem open_rows (hval : Value.okWide Tryz.prog W r b0 53 v) (hd : DataW.Trod enc Tryz.prog W 0 (fun _ => true) true 53 v d ps) : ∃ L : List (Value × List Nat), ArgR W v L := by
  obtain ⟨fuel, hf⟩ := hd
  obtain ⟨a, len, cap, rfl⟩ := okWide_slice Tryz.underlying53 hval
  exact rows_of hf
theorem sized_bytes {ts : List TypeId} {ds : List (DataW H)} (h : (DataW.weightsEach Tryz.prog ts ds).all (· ≤ reachBytes) = true) {j : Nat} (ht : ts[j]? = some 23) (hd : ds[j]? = some d) : ∀ elems spare, d = .slice elems spare → elems.length + spare.length ≤ 140737488355328 := by
  intro elems spare e
  subst e
  have h1 := sized_slice h ht hd Tryz.underlying23
  have h2 : Tryz.prog.bytesOf 5 = 1 := by kernel_rfl
  have h3 := reachBytes_lt
  rw [h2] at h1
  omega
end
end Go.Proofs.YtmcmagplaflegaaGreat
