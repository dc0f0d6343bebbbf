/-
  fell, has, awake. Conditions: those of each theorem.
-/
import Derived.Test.YtmcmagplaflegaaGreatQe
namespace Go.Proofs.YtmcmagplaflegaaGreat
open Go Go.RowKit Go.MapL Go.Poised

variable {p n₀ m : Nat} {s : DS} {K : Nat → Prop}
/-- The disk behind some deeds. -/
def actsS : DS → List Dd → DS
  | s, [] => s
  | s, x :: l => actsS (actS s (x.kind % 10).toNat x).1 l
theorem actsS_snoc (x : Dd) : ∀ (l : List Dd) (s : DS), actsS s (l ++ [x]) = (actS (actsS s l) (x.kind % 10).toNat x).1
  | [], _ => rfl
  | _ :: l, _ => actsS_snoc x l _
def fellS (keep : List Int) (l : List Dd) : DS := ((actsS (DS.new 100) l).crash keep).boot

set_option maxRecDepth 100000 in
set_option maxHeartbeats 8000000 in
theorem fell_any (kv v : Value) (keep : List Int) (l : List Dd) (w : World) (hk : IntsIn w kv keep) (hl : DdsIn w v l) (hlen : l.length ≤ 100) :
    Calls Tryz.prog 69 #[kv, v] w fun e w' => ∃ p, e = .returned (ofBlock p) ∧ Live w' p w.heap.size 200 (fellS keep l) (fun _ => False) ∧ Below w.heap.size w w' := by
  obtain ⟨hDl, B0, cap0, rfl, hDk⟩ := hl
  replace hDk : Hid _ := hDk
  have hn := live_new 100 (by omega) w
  unfold ofBlock at hn
  go_enter Tryz.func69, Tryz.ntmps69
  go_wp2_with (go_at_call 35; refine hn.mono ?_; clear hn; rintro e w1 ⟨rfl, hb1, hL1⟩)
  generalize w.heap.size + 2 = p at *
  go_loopw [7] (fun i wr => ∃ (k : Nat) (s : DS), k ≤ l.length ∧ i = .int .i64 k ∧ Live wr p w.heap.size (2 * k) s (fun _ => False) ∧ s = actsS (DS.new 100) (l.take k) ∧ Below w.heap.size w wr) (fun i _ => l.length - (intOf i).toNat)
  case atStart => exact ⟨0, _, by omega, rfl, hL1, rfl, hb1⟩
  case round =>
    clear hL1 hb1
    obtain ⟨k, s, hkl, rfl, hLk, hsk, hBk⟩ := hrel
    replace hsk : Hid _ := hsk
    by_cases hlt : k < l.length
    · have hltI : (k : Int) < (l.length : Int) := by omega
      obtain ⟨bv, kv', hdi0, hda0⟩ := hDk.out k hlt
      have hdi := hdi0.below hBk
      obtain ⟨c0, c1, c2, c3, c4, c5, c6⟩ := hda0.below hBk
      have hst : actsS (DS.new 100) (l.take (k + 1)) = (actS (actsS (DS.new 100) (l.take k)) (l[k].kind % 10).toNat l[k]).1 := by
        rw [List.take_succ_eq_append_getElem hlt, actsS_snoc]
      rw [← hsk.out] at hst
      obtain ⟨x, hx⟩ : ∃ x, l[k] = x := ⟨_, rfl⟩
      rw [hx] at hdi hdi0 c0 c1 c2 c4 c5 hst
      replace hst : Hid _ := hst
      clear hx hda0
      obtain ⟨q3, cap3, rfl, _⟩ := bytes_parts hdi.b
      obtain ⟨q6, cap6, rfl, _⟩ := ints_parts hdi.k
      have hdeed := deed_any x _ _ hdi.ok hLk (by omega) (fun w' hw' => by
        have hb : Below w.heap.size w w' := hBk.trans hw'.below
        have := hdi0.below hb
        exact ⟨this.b, this.k⟩)
      unfold ofBlock ddV at hdeed
      replace hdi : Hid _ := hdi
      replace hdi0 : Hid _ := hdi0
      go_wp2_with (go_at_call 65; refine hdeed.mono ?_; clear hdeed; rintro e w5 ⟨rfl, hL5, hK5⟩)
      go_roundw
      case rel =>
        exact ⟨k + 1, _, by omega, by go_num, hL5.mono (by omega), hst.out.symm, hBk.trans hK5.below⟩
      case measure => simp [intOf]; omega
    · obtain rfl : k = l.length := by omega
      have hcr := live_crash kv keep hLk (by omega) (fun w' hw' => ints_below hk (hBk.trans hw'.below))
      unfold ofBlock at hcr
      go_wp2_with (first | (go_at_call 9; refine hcr.mono ?_; clear hcr; rintro e w6 ⟨rfl, hL6, hK6⟩; have hbo := live_boot hL6; unfold ofBlock at hbo) | (go_at_call 11; refine hbo.mono ?_; clear hbo; rintro e w7 ⟨rfl, hL7, hK7⟩))
      go_returns
      have h1 := hsk.out
      rw [List.take_length] at h1
      subst h1
      exact ⟨_, rfl, hL7.mono (by omega), hBk.trans (hK6.below.trans hK7.below)⟩

set_option maxRecDepth 100000 in
set_option maxHeartbeats 8000000 in
theorem hasD_any (x y : ByteArray) (b : List Nat) (w : World) (h : Live w p n₀ m s K) (hm : m ≤ 200) (hn : namesOf s = [x]) (hr : readRes s x = (b, 0)) (hb : txt b = y) :
    Calls Tryz.prog 70 #[ofBlock p, .string x, .string y] w fun e w' => e = .returned (.bool true) ∧ Below w.heap.size w w' := by
  have hre := live_read x h
  rw [hr] at hre
  have hwf := h.sound.wf
  have hby : ∀ z ∈ b, z < 256 := by
    intro z hz
    unfold readRes at hr
    split at hr
    · cases hr
    · split at hr
      · cases hr
      · cases hr; exact hwf.bytes _ z hz
  have hbl : b.length ≤ 16777216 := by
    unfold readRes at hr
    split at hr
    · cases hr
    · split at hr
      · cases hr
      · cases hr; exact hwf.len _
  have hna := fun w1 (hb1 : Below w.heap.size w w1) => live_names (h.below hb1) (by omega)
  rw [hn] at hna
  simp only [List.length_cons, List.length_nil, List.map_cons, List.map_nil] at hna
  subst hb
  clear hr hn hwf
  unfold ofBlock at *
  have hxx : (x.toList == x.toList) = true := by simp
  have hyy : ((txt b).toList == (txt b).toList) = true := by simp
  go_enter Tryz.func70, Tryz.ntmps70
  go_wp2_with (first | (go_at_call 7; refine hre.mono ?_; rintro e w1 ⟨v, rfl, hv, hb1⟩; have hna1 := hna w1 hb1) | (go_at_call 19; refine hna1.mono ?_; rintro e w2 ⟨v2, rfl, hv2, hb2⟩; obtain ⟨g, cap, rfl, hc0⟩ := own_cell hv2 0 (.string x) rfl; have hst := run_string_of w2 v b ((bytesIn_of_own hv hby (by omega)).below hb2)))
  go_returns
  exact ⟨rfl, hb1.trans (hb2.mono hb1.size)⟩

theorem names_one {x : ByteArray} (h1 : s.dead = false) (h2 : s.names.map (·.1) = [x]) : namesOf s = [x] := by
  unfold namesOf
  rw [h1, h2]
  exact List.perm_singleton.1 (sortedN_perm [x])
theorem names_nilD (h2 : s.names.map (·.1) = []) : namesOf s = [] := by
  unfold namesOf
  rw [h2]
  have := (sortedN_perm []).length_eq
  split
  · rfl
  · exact List.length_eq_zero_iff.1 this

def ta : ByteArray := ⟨#[97]⟩
def tb : ByteArray := ⟨#[98]⟩
def dA : Dd := ⟨0, ta, ⟨#[]⟩, [120, 121], 0, 0, []⟩
def dSync : Dd := ⟨1, ta, ⟨#[]⟩, [], 0, 0, []⟩
def dNames : Dd := ⟨4, ⟨#[]⟩, ⟨#[]⟩, [], 0, 0, []⟩
def dZ : Dd := ⟨0, ta, ⟨#[]⟩, [122], 0, 0, []⟩
def dB : Dd := ⟨0, tb, ⟨#[]⟩, [49], 0, 0, []⟩
def dBs : Dd := ⟨1, tb, ⟨#[]⟩, [], 0, 0, []⟩
def dTo : Dd := ⟨2, tb, ta, [], 0, 0, []⟩
theorem awake1 : (fellS [] [dA, dSync]).names.map (·.1) = [] := by kernel_rfl
theorem awake2d : (fellS [] [dA, dNames]).dead = false := by kernel_rfl
theorem awake2r : readRes (fellS [] [dA, dNames]) ta = ([], 0) := by kernel_rfl
theorem awake3r : readRes (fellS [] [dA, dSync, dNames, dZ]) ta = ([120, 121], 0) := by kernel_rfl
theorem awake5r : readRes (fellS [2] [dA, dSync, dNames, dZ, dB, dBs, dTo]) ta = ([49], 0) := by kernel_rfl
theorem has_new {w : World} {o : Obj} {B : Nat} (h : w.heap.size = B) : (w.alloc o).heap[B]? = some o := by subst h; exact heap_new w o
theorem has_old {w : World} {o o' : Obj} {B : Nat} (h : w.heap[B]? = some o) : (w.alloc o').heap[B]? = some o := (((Below.refl w.heap.size w).alloc (Nat.le_refl _) o').block B (Array.getElem?_eq_some_iff.1 h).1).trans h
abbrev nilS : Value := .slice none 0 0
def enc7 (q : Dd × Value × Value) : List Value := [.int .i64 q.1.kind, .string q.1.name, .string q.1.to, q.2.1, .int .i64 q.1.n, .int .i64 q.1.bit, q.2.2]
theorem enc7_at : ∀ (ps : List (Dd × Value × Value)) (k : Nat) (hk : k < ps.length) (j : Nat), j < 7 → (ps.flatMap enc7)[k * 7 + j]? = (enc7 ps[k])[j]?
  | x :: l, k, hk, j, hj => by
    rw [List.flatMap_cons]
    have hl : (enc7 x).length = 7 := rfl
    cases k with
    | zero => rw [List.getElem?_append_left (by rw [hl]; omega)]; simp
    | succ k =>
      rw [List.getElem?_append_right (by rw [hl]; omega), hl, show (k + 1) * 7 + j - 7 = k * 7 + j by omega]
      exact enc7_at l k (by simpa using hk) j hj
theorem dds_row {W : World} {B cap : Nat} (ps : List (Dd × Value × Value)) (hB : W.heap[B]? = some (.cells (ps.flatMap enc7).toArray 48)) (hd : ∀ q ∈ ps, DdIn W q.1 q.2.1 q.2.2) (hlen : ps.length ≤ 100) :
    DdsIn W (.slice (some ⟨B, 0, none⟩) ps.length cap) (ps.map (·.1)) := by
  refine ⟨by simp; omega, B, cap, by simp, fun k hk => ?_⟩
  rw [List.length_map] at hk
  have hc : ∀ j, j < 7 → W.cell? ⟨B, k * 7 + j, none⟩ = (enc7 ps[k])[j]? := by
    intro j hj
    rw [← enc7_at ps k hk j hj]
    simp [World.cell?, hB]
  refine ⟨ps[k].2.1, ps[k].2.2, by simpa using hd ps[k] (List.getElem_mem hk), ?_⟩
  simp only [List.getElem_map]
  exact ⟨hc 0 (by omega), hc 1 (by omega), hc 2 (by omega), hc 3 (by omega), hc 4 (by omega), hc 5 (by omega), hc 6 (by omega)⟩
theorem bytes_at {W : World} {B n : Nat} {fz : Nat × Nat} (l : List Nat) (hB : W.heap[B]? = some (.cells (encB l).toArray 5 fz)) (h1 : ∀ x ∈ l, x < 256) (h2 : l.length ≤ 100) : BytesIn W (.slice (some ⟨B, 0, none⟩) l.length n) l := by
  refine ⟨h1, by omega, .inr (.inr ⟨B, 0, n, rfl, fun k hk => ?_⟩)⟩
  have := encB_get l k hk
  simp only [World.cell?, hB, Option.isSome_none, Bool.false_eq_true, if_false, Nat.zero_add]
  rw [← this]; simp
theorem bytes_nil (W : World) : BytesIn W nilS [] := ⟨by simp, by simp, .inl ⟨rfl, rfl⟩⟩
theorem ints_nil (W : World) : IntsIn W nilS [] := ⟨by simp, by simp, .inl ⟨rfl, rfl⟩⟩

/-- The chapter's deeds lie behind the start. -/
structure AF (w W : World) : Prop where
  below : Below w.heap.size w W
  m0 : W.heap[w.heap.size]? = some (.cells #[.int .u8 120, .int .u8 121] 5 (2, 3))
  m1 : W.heap[w.heap.size + 1 + 1 + 1 + 1]? = some (.cells #[.int .u8 122] 5 (1, 2))
  m2 : W.heap[w.heap.size + 1 + 1 + 1 + 1 + 1]? = some (.cells #[.int .u8 49] 5 (1, 2))
  h1 : W.heap[w.heap.size + 1]? = some (.cells #[.int .i64 0, .string ⟨#[97]⟩, .string ⟨#[]⟩, .slice (some ⟨w.heap.size, 0, none⟩) 2 2, .int .i64 0, .int .i64 0, .slice none 0 0] 48)
  h2 : W.heap[w.heap.size + 1 + 1]? = some (.cells #[.int .i64 1, .string ⟨#[97]⟩, .string ⟨#[]⟩, .slice none 0 0, .int .i64 0, .int .i64 0, .slice none 0 0] 48)
  h3 : W.heap[w.heap.size + 1 + 1 + 1]? = some (.cells #[.int .i64 4, .string ⟨#[]⟩, .string ⟨#[]⟩, .slice none 0 0, .int .i64 0, .int .i64 0, .slice none 0 0] 48)
  h4 : W.heap[w.heap.size + 1 + 1 + 1 + 1 + 1 + 1]? = some (.cells #[.int .i64 0, .string ⟨#[97]⟩, .string ⟨#[]⟩, .slice (some ⟨w.heap.size + 1 + 1 + 1 + 1, 0, none⟩) 1 1, .int .i64 0, .int .i64 0, .slice none 0 0] 48)
  h5 : W.heap[w.heap.size + 1 + 1 + 1 + 1 + 1 + 1 + 1]? = some (.cells #[.int .i64 0, .string ⟨#[98]⟩, .string ⟨#[]⟩, .slice (some ⟨w.heap.size + 1 + 1 + 1 + 1 + 1, 0, none⟩) 1 1, .int .i64 0, .int .i64 0, .slice none 0 0] 48)
  h6 : W.heap[w.heap.size + 1 + 1 + 1 + 1 + 1 + 1 + 1 + 1]? = some (.cells #[.int .i64 1, .string ⟨#[98]⟩, .string ⟨#[]⟩, .slice none 0 0, .int .i64 0, .int .i64 0, .slice none 0 0] 48)
  h7 : W.heap[w.heap.size + 1 + 1 + 1 + 1 + 1 + 1 + 1 + 1 + 1]? = some (.cells #[.int .i64 2, .string ⟨#[98]⟩, .string ⟨#[97]⟩, .slice none 0 0, .int .i64 0, .int .i64 0, .slice none 0 0] 48)
theorem AF.step {w W W' : World} (h : AF w W) (hb : Below W.heap.size W W') : AF w W' := by
  have key : ∀ {B : Nat} {o : Obj}, W.heap[B]? = some o → W'.heap[B]? = some o := fun {B o} h => (hb.block B (Array.getElem?_eq_some_iff.1 h).1).trans h
  exact ⟨h.below.trans (hb.mono h.below.size), key h.m0, key h.m1, key h.m2, key h.h1, key h.h2, key h.h3, key h.h4, key h.h5, key h.h6, key h.h7⟩
theorem AF.alloc {w W : World} (h : AF w W) (o : Obj) : AF w (W.alloc o) := h.step ((Below.refl _ _).alloc (Nat.le_refl _) o)
theorem txt_small {x : ByteArray} (h : x.size ≤ 100) : x.size ≤ 9223372036854775807 := by omega
theorem dd_in {W : World} {d : Dd} {bv : Value} (hb : BytesIn W bv d.b) (hk : d.keep = []) (hl : d.b.length ≤ 100) (h1 : 0 ≤ d.kind ∧ d.kind ≤ 10) (hn : d.n = 0) (hbit : d.bit = 0) (h2 : d.name.size ≤ 100 ∧ d.to.size ≤ 100) : DdIn W d bv nilS :=
  ⟨hb, by rw [hk]; exact ints_nil W, ⟨⟨by omega, by omega⟩, ⟨by omega, by omega⟩, ⟨by omega, by omega⟩, by omega, by omega, ⟨hb.1, by omega⟩, by rw [hk]; simp⟩⟩
theorem AF.dA {w W : World} (h : AF w W) : DdIn W dA (.slice (some ⟨w.heap.size, 0, none⟩) 2 2) nilS := dd_in (bytes_at [120, 121] h.m0 (by simp) (by simp)) rfl (by simp [YtmcmagplaflegaaGreat.dA]) (by decide) rfl rfl (by decide)
theorem AF.dZ {w W : World} (h : AF w W) : DdIn W dZ (.slice (some ⟨w.heap.size + 1 + 1 + 1 + 1, 0, none⟩) 1 1) nilS := dd_in (bytes_at [122] h.m1 (by simp) (by simp)) rfl (by simp [YtmcmagplaflegaaGreat.dZ]) (by decide) rfl rfl (by decide)
theorem AF.dB {w W : World} (h : AF w W) : DdIn W dB (.slice (some ⟨w.heap.size + 1 + 1 + 1 + 1 + 1, 0, none⟩) 1 1) nilS := dd_in (bytes_at [49] h.m2 (by simp) (by simp)) rfl (by simp [YtmcmagplaflegaaGreat.dB]) (by decide) rfl rfl (by decide)
theorem dd_nil {W : World} {d : Dd} (hb : d.b = []) (hk : d.keep = []) (h1 : 0 ≤ d.kind ∧ d.kind ≤ 10) (hn : d.n = 0) (hbit : d.bit = 0) (h2 : d.name.size ≤ 100 ∧ d.to.size ≤ 100) : DdIn W d nilS nilS := dd_in (by rw [hb]; exact bytes_nil W) hk (by rw [hb]; simp) h1 hn hbit h2
theorem all_nil {P : Dd × Value × Value → Prop} : ∀ q ∈ ([] : List (Dd × Value × Value)), P q := fun _ h => by cases h
theorem all_cons {P : Dd × Value × Value → Prop} {x : Dd × Value × Value} {l : List (Dd × Value × Value)} (h1 : P x) (h2 : ∀ q ∈ l, P q) : ∀ q ∈ x :: l, P q := List.forall_mem_cons.2 ⟨h1, h2⟩

theorem ints_two {W : World} {B : Nat} (hB : W.heap[B]? = some (.cells #[.int .i64 2] 3)) : IntsIn W (.slice (some ⟨B, 0, none⟩) 1 1) [2] := by
  refine ⟨by simp, by simp, .inr (.inr ⟨B, 0, 1, rfl, fun k hk => ?_⟩)⟩
  obtain rfl : k = 0 := by simp at hk; omega
  simp [World.cell?, hB]
theorem awake2n : (fellS [] [dA, dNames]).names.map (·.1) = [ta] := by kernel_rfl
theorem awake3n : (fellS [] [dA, dSync, dNames, dZ]).names.map (·.1) = [ta] := by kernel_rfl
theorem awake3d : (fellS [] [dA, dSync, dNames, dZ]).dead = false := by kernel_rfl
theorem awake4n : (fellS [] [dA, dSync, dNames, dZ, dB, dBs, dTo]).names.map (·.1) = [ta] := by kernel_rfl
theorem awake4d : (fellS [] [dA, dSync, dNames, dZ, dB, dBs, dTo]).dead = false := by kernel_rfl
theorem awake4r : readRes (fellS [] [dA, dSync, dNames, dZ, dB, dBs, dTo]) ta = ([120, 121], 0) := by kernel_rfl
theorem awake5n : (fellS [2] [dA, dSync, dNames, dZ, dB, dBs, dTo]).names.map (·.1) = [ta] := by kernel_rfl
theorem awake5d : (fellS [2] [dA, dSync, dNames, dZ, dB, dBs, dTo]).dead = false := by kernel_rfl
theorem call_fell {w W1 : World} {Q : Ending → World → Prop} {B n c : Nat} {kv : Value} (keep : List Int) (ps : List (Dd × Value × Value)) (hA : AF w W1) (hk : IntsIn W1 kv keep) (hB : W1.heap[B]? = some (.cells (ps.flatMap enc7).toArray 48)) (hn : n = ps.length)
    (hd : ∀ q ∈ ps, DdIn W1 q.1 q.2.1 q.2.2) (hlen : ps.length ≤ 100)
    (hQ : ∀ w' p, Live w' p W1.heap.size 200 (fellS keep (ps.map (·.1))) (fun _ => False) → AF w w' → Q (.returned (ofBlock p)) w') : Calls Tryz.prog 69 #[kv, .slice (some ⟨B, 0, none⟩) n c] W1 Q := by
  subst hn
  refine (fell_any kv _ keep (ps.map (·.1)) W1 hk (dds_row ps hB hd hlen) (by simpa using hlen)).mono ?_
  rintro e w' ⟨p, rfl, hL, hb⟩
  exact hQ w' p hL (hA.step hb)

set_option maxRecDepth 100000 in
set_option maxHeartbeats 16000000 in
theorem awakeD_any (w : World) : Calls Tryz.prog 24 #[] w fun e w' => e = .returned (.bool true) ∧ Below w.heap.size w w' := by
  have kc := fun (w : World) (C : Array Value) (n c : Nat) => Lib.run_convert_bytes_const (P := Tryz.prog) w 23 5 C n c Tryz.underlying23 Tryz.underlying5
  have kc2 : ∀ (W : World) (C : Array Value) (n c g : Nat), W.heap.size = g → (convert 23 23 (.slice (some ⟨g, 0, none⟩) n c)).run Tryz.prog (W.alloc (.cells C 5)) = .ok (.slice (some ⟨g, 0, none⟩) n c) (W.alloc (.cells C 5 (C.size, C.size + 1))) := fun W C n c g e => by subst e; exact kc W C n c
  go_enter Tryz.func24, Tryz.ntmps24
  go_wp2_with (first
    | (go_at_call 69; refine call_fell (w := w) [] [(dA, .slice (some ⟨w.heap.size, 0, none⟩) 2 2, nilS), (dSync, nilS, nilS)] (by first | exact AF.alloc (by assumption) _ | exact AF.alloc (AF.alloc (by assumption) _) _ | exact ⟨by repeat (first | exact Below.refl _ _ | (refine Below.alloc ?_ ?_ _; rotate_left; (simp <;> omega))), by repeat (first | (refine has_new ?_; simp <;> omega) | refine has_old ?_), by repeat (first | (refine has_new ?_; simp <;> omega) | refine has_old ?_), by repeat (first | (refine has_new ?_; simp <;> omega) | refine has_old ?_), by repeat (first | (refine has_new ?_; simp <;> omega) | refine has_old ?_), by repeat (first | (refine has_new ?_; simp <;> omega) | refine has_old ?_), by repeat (first | (refine has_new ?_; simp <;> omega) | refine has_old ?_), by repeat (first | (refine has_new ?_; simp <;> omega) | refine has_old ?_), by repeat (first | (refine has_new ?_; simp <;> omega) | refine has_old ?_), by repeat (first | (refine has_new ?_; simp <;> omega) | refine has_old ?_), by repeat (first | (refine has_new ?_; simp <;> omega) | refine has_old ?_)⟩) (ints_nil _) (has_new (by first | rfl | (simp <;> omega))) rfl (all_cons (AF.dA (w := w) (by first | exact AF.alloc (by assumption) _ | exact AF.alloc (AF.alloc (by assumption) _) _ | exact ⟨by repeat (first | exact Below.refl _ _ | (refine Below.alloc ?_ ?_ _; rotate_left; (simp <;> omega))), by repeat (first | (refine has_new ?_; simp <;> omega) | refine has_old ?_), by repeat (first | (refine has_new ?_; simp <;> omega) | refine has_old ?_), by repeat (first | (refine has_new ?_; simp <;> omega) | refine has_old ?_), by repeat (first | (refine has_new ?_; simp <;> omega) | refine has_old ?_), by repeat (first | (refine has_new ?_; simp <;> omega) | refine has_old ?_), by repeat (first | (refine has_new ?_; simp <;> omega) | refine has_old ?_), by repeat (first | (refine has_new ?_; simp <;> omega) | refine has_old ?_), by repeat (first | (refine has_new ?_; simp <;> omega) | refine has_old ?_), by repeat (first | (refine has_new ?_; simp <;> omega) | refine has_old ?_), by repeat (first | (refine has_new ?_; simp <;> omega) | refine has_old ?_)⟩)) (all_cons (dd_nil rfl rfl (by decide) rfl rfl (by decide)) (all_nil))) (by show 2 ≤ 100; decide) ?_; intro w' p hL hA; have hna := live_names hL (by omega); change Calls _ _ _ _ (fun e w2 => ∃ v, _ ∧ w2.ownsRow _ _ _ v (namesOf (fellS [] [dA, dSync])).length _ ∧ _) at hna; rw [names_nilD awake1] at hna; unfold ofBlock at *)
    | (go_at_call 19; refine hna.mono ?_; rintro e w2 ⟨v, rfl, hrow, hb⟩; obtain ⟨vq, vcap, rfl⟩ := own_shape hrow; have hA := hA.step hb; clear hna hrow hb hL; obtain ⟨c10, c11, c12, c13, c14, c15, c16⟩ := cells7 hA.h1; obtain ⟨c20, c21, c22, c23, c24, c25, c26⟩ := cells7 hA.h2; obtain ⟨c30, c31, c32, c33, c34, c35, c36⟩ := cells7 hA.h3; obtain ⟨c40, c41, c42, c43, c44, c45, c46⟩ := cells7 hA.h4; obtain ⟨c50, c51, c52, c53, c54, c55, c56⟩ := cells7 hA.h5; obtain ⟨c60, c61, c62, c63, c64, c65, c66⟩ := cells7 hA.h6; obtain ⟨c70, c71, c72, c73, c74, c75, c76⟩ := cells7 hA.h7)
    | (go_at_call 69; refine call_fell (w := w) [] [(dA, .slice (some ⟨w.heap.size, 0, none⟩) 2 2, nilS), (dNames, nilS, nilS)] (by first | exact AF.alloc (by assumption) _ | exact AF.alloc (AF.alloc (by assumption) _) _ | exact ⟨by repeat (first | exact Below.refl _ _ | (refine Below.alloc ?_ ?_ _; rotate_left; (simp <;> omega))), by repeat (first | (refine has_new ?_; simp <;> omega) | refine has_old ?_), by repeat (first | (refine has_new ?_; simp <;> omega) | refine has_old ?_), by repeat (first | (refine has_new ?_; simp <;> omega) | refine has_old ?_), by repeat (first | (refine has_new ?_; simp <;> omega) | refine has_old ?_), by repeat (first | (refine has_new ?_; simp <;> omega) | refine has_old ?_), by repeat (first | (refine has_new ?_; simp <;> omega) | refine has_old ?_), by repeat (first | (refine has_new ?_; simp <;> omega) | refine has_old ?_), by repeat (first | (refine has_new ?_; simp <;> omega) | refine has_old ?_), by repeat (first | (refine has_new ?_; simp <;> omega) | refine has_old ?_), by repeat (first | (refine has_new ?_; simp <;> omega) | refine has_old ?_)⟩) (ints_nil _) (has_new (by first | rfl | (simp <;> omega))) rfl (all_cons (AF.dA (w := w) (by first | exact AF.alloc (by assumption) _ | exact AF.alloc (AF.alloc (by assumption) _) _ | exact ⟨by repeat (first | exact Below.refl _ _ | (refine Below.alloc ?_ ?_ _; rotate_left; (simp <;> omega))), by repeat (first | (refine has_new ?_; simp <;> omega) | refine has_old ?_), by repeat (first | (refine has_new ?_; simp <;> omega) | refine has_old ?_), by repeat (first | (refine has_new ?_; simp <;> omega) | refine has_old ?_), by repeat (first | (refine has_new ?_; simp <;> omega) | refine has_old ?_), by repeat (first | (refine has_new ?_; simp <;> omega) | refine has_old ?_), by repeat (first | (refine has_new ?_; simp <;> omega) | refine has_old ?_), by repeat (first | (refine has_new ?_; simp <;> omega) | refine has_old ?_), by repeat (first | (refine has_new ?_; simp <;> omega) | refine has_old ?_), by repeat (first | (refine has_new ?_; simp <;> omega) | refine has_old ?_), by repeat (first | (refine has_new ?_; simp <;> omega) | refine has_old ?_)⟩)) (all_cons (dd_nil rfl rfl (by decide) rfl rfl (by decide)) (all_nil))) (by show 2 ≤ 100; decide) ?_; intro w' p hL hA; have hha := hasD_any ta _ [] w' hL (by omega) (names_one awake2d awake2n) awake2r rfl; unfold ofBlock at *; change Calls Tryz.prog 70 #[_, .string ⟨#[97]⟩, .string _] _ _ at hha)
    | (go_at_call 70; refine hha.mono ?_; rintro e w2 ⟨rfl, hb⟩; have hA := hA.step hb; clear hha hb hL; obtain ⟨c10, c11, c12, c13, c14, c15, c16⟩ := cells7 hA.h1; obtain ⟨c20, c21, c22, c23, c24, c25, c26⟩ := cells7 hA.h2; obtain ⟨c30, c31, c32, c33, c34, c35, c36⟩ := cells7 hA.h3; obtain ⟨c40, c41, c42, c43, c44, c45, c46⟩ := cells7 hA.h4; obtain ⟨c50, c51, c52, c53, c54, c55, c56⟩ := cells7 hA.h5; obtain ⟨c60, c61, c62, c63, c64, c65, c66⟩ := cells7 hA.h6; obtain ⟨c70, c71, c72, c73, c74, c75, c76⟩ := cells7 hA.h7; have hA9 := hA.alloc (.cells #[.int .i64 2] 3); obtain ⟨e10, e11, e12, e13, e14, e15, e16⟩ := cells7 hA9.h1; obtain ⟨e20, e21, e22, e23, e24, e25, e26⟩ := cells7 hA9.h2; obtain ⟨e30, e31, e32, e33, e34, e35, e36⟩ := cells7 hA9.h3; obtain ⟨e40, e41, e42, e43, e44, e45, e46⟩ := cells7 hA9.h4; obtain ⟨e50, e51, e52, e53, e54, e55, e56⟩ := cells7 hA9.h5; obtain ⟨e60, e61, e62, e63, e64, e65, e66⟩ := cells7 hA9.h6; obtain ⟨e70, e71, e72, e73, e74, e75, e76⟩ := cells7 hA9.h7; clear hA9)
    | (go_at_call 69; refine call_fell (w := w) [] [(dA, .slice (some ⟨w.heap.size, 0, none⟩) 2 2, nilS), (dSync, nilS, nilS), (dNames, nilS, nilS), (dZ, .slice (some ⟨w.heap.size + 1 + 1 + 1 + 1, 0, none⟩) 1 1, nilS)] (by first | exact AF.alloc (by assumption) _ | exact AF.alloc (AF.alloc (by assumption) _) _ | exact ⟨by repeat (first | exact Below.refl _ _ | (refine Below.alloc ?_ ?_ _; rotate_left; (simp <;> omega))), by repeat (first | (refine has_new ?_; simp <;> omega) | refine has_old ?_), by repeat (first | (refine has_new ?_; simp <;> omega) | refine has_old ?_), by repeat (first | (refine has_new ?_; simp <;> omega) | refine has_old ?_), by repeat (first | (refine has_new ?_; simp <;> omega) | refine has_old ?_), by repeat (first | (refine has_new ?_; simp <;> omega) | refine has_old ?_), by repeat (first | (refine has_new ?_; simp <;> omega) | refine has_old ?_), by repeat (first | (refine has_new ?_; simp <;> omega) | refine has_old ?_), by repeat (first | (refine has_new ?_; simp <;> omega) | refine has_old ?_), by repeat (first | (refine has_new ?_; simp <;> omega) | refine has_old ?_), by repeat (first | (refine has_new ?_; simp <;> omega) | refine has_old ?_)⟩) (ints_nil _) (has_new (by first | rfl | (simp <;> omega))) rfl (all_cons (AF.dA (w := w) (by first | exact AF.alloc (by assumption) _ | exact AF.alloc (AF.alloc (by assumption) _) _ | exact ⟨by repeat (first | exact Below.refl _ _ | (refine Below.alloc ?_ ?_ _; rotate_left; (simp <;> omega))), by repeat (first | (refine has_new ?_; simp <;> omega) | refine has_old ?_), by repeat (first | (refine has_new ?_; simp <;> omega) | refine has_old ?_), by repeat (first | (refine has_new ?_; simp <;> omega) | refine has_old ?_), by repeat (first | (refine has_new ?_; simp <;> omega) | refine has_old ?_), by repeat (first | (refine has_new ?_; simp <;> omega) | refine has_old ?_), by repeat (first | (refine has_new ?_; simp <;> omega) | refine has_old ?_), by repeat (first | (refine has_new ?_; simp <;> omega) | refine has_old ?_), by repeat (first | (refine has_new ?_; simp <;> omega) | refine has_old ?_), by repeat (first | (refine has_new ?_; simp <;> omega) | refine has_old ?_), by repeat (first | (refine has_new ?_; simp <;> omega) | refine has_old ?_)⟩)) (all_cons (dd_nil rfl rfl (by decide) rfl rfl (by decide)) (all_cons (dd_nil rfl rfl (by decide) rfl rfl (by decide)) (all_cons (AF.dZ (w := w) (by first | exact AF.alloc (by assumption) _ | exact AF.alloc (AF.alloc (by assumption) _) _ | exact ⟨by repeat (first | exact Below.refl _ _ | (refine Below.alloc ?_ ?_ _; rotate_left; (simp <;> omega))), by repeat (first | (refine has_new ?_; simp <;> omega) | refine has_old ?_), by repeat (first | (refine has_new ?_; simp <;> omega) | refine has_old ?_), by repeat (first | (refine has_new ?_; simp <;> omega) | refine has_old ?_), by repeat (first | (refine has_new ?_; simp <;> omega) | refine has_old ?_), by repeat (first | (refine has_new ?_; simp <;> omega) | refine has_old ?_), by repeat (first | (refine has_new ?_; simp <;> omega) | refine has_old ?_), by repeat (first | (refine has_new ?_; simp <;> omega) | refine has_old ?_), by repeat (first | (refine has_new ?_; simp <;> omega) | refine has_old ?_), by repeat (first | (refine has_new ?_; simp <;> omega) | refine has_old ?_), by repeat (first | (refine has_new ?_; simp <;> omega) | refine has_old ?_)⟩)) (all_nil))))) (by show 4 ≤ 100; decide) ?_; intro w' p hL hA; have hha := hasD_any ta _ [120, 121] w' hL (by omega) (names_one awake3d awake3n) awake3r rfl; unfold ofBlock at *; change Calls Tryz.prog 70 #[_, .string ⟨#[97]⟩, .string _] _ _ at hha)
    | (go_at_call 69; refine call_fell (w := w) [] [(dA, .slice (some ⟨w.heap.size, 0, none⟩) 2 2, nilS), (dSync, nilS, nilS), (dNames, nilS, nilS), (dZ, .slice (some ⟨w.heap.size + 1 + 1 + 1 + 1, 0, none⟩) 1 1, nilS), (dB, .slice (some ⟨w.heap.size + 1 + 1 + 1 + 1 + 1, 0, none⟩) 1 1, nilS), (dBs, nilS, nilS), (dTo, nilS, nilS)] (by first | exact AF.alloc (by assumption) _ | exact AF.alloc (AF.alloc (by assumption) _) _ | exact ⟨by repeat (first | exact Below.refl _ _ | (refine Below.alloc ?_ ?_ _; rotate_left; (simp <;> omega))), by repeat (first | (refine has_new ?_; simp <;> omega) | refine has_old ?_), by repeat (first | (refine has_new ?_; simp <;> omega) | refine has_old ?_), by repeat (first | (refine has_new ?_; simp <;> omega) | refine has_old ?_), by repeat (first | (refine has_new ?_; simp <;> omega) | refine has_old ?_), by repeat (first | (refine has_new ?_; simp <;> omega) | refine has_old ?_), by repeat (first | (refine has_new ?_; simp <;> omega) | refine has_old ?_), by repeat (first | (refine has_new ?_; simp <;> omega) | refine has_old ?_), by repeat (first | (refine has_new ?_; simp <;> omega) | refine has_old ?_), by repeat (first | (refine has_new ?_; simp <;> omega) | refine has_old ?_), by repeat (first | (refine has_new ?_; simp <;> omega) | refine has_old ?_)⟩) (ints_nil _) (has_new (by first | rfl | (simp <;> omega))) rfl (all_cons (AF.dA (w := w) (by first | exact AF.alloc (by assumption) _ | exact AF.alloc (AF.alloc (by assumption) _) _ | exact ⟨by repeat (first | exact Below.refl _ _ | (refine Below.alloc ?_ ?_ _; rotate_left; (simp <;> omega))), by repeat (first | (refine has_new ?_; simp <;> omega) | refine has_old ?_), by repeat (first | (refine has_new ?_; simp <;> omega) | refine has_old ?_), by repeat (first | (refine has_new ?_; simp <;> omega) | refine has_old ?_), by repeat (first | (refine has_new ?_; simp <;> omega) | refine has_old ?_), by repeat (first | (refine has_new ?_; simp <;> omega) | refine has_old ?_), by repeat (first | (refine has_new ?_; simp <;> omega) | refine has_old ?_), by repeat (first | (refine has_new ?_; simp <;> omega) | refine has_old ?_), by repeat (first | (refine has_new ?_; simp <;> omega) | refine has_old ?_), by repeat (first | (refine has_new ?_; simp <;> omega) | refine has_old ?_), by repeat (first | (refine has_new ?_; simp <;> omega) | refine has_old ?_)⟩)) (all_cons (dd_nil rfl rfl (by decide) rfl rfl (by decide)) (all_cons (dd_nil rfl rfl (by decide) rfl rfl (by decide)) (all_cons (AF.dZ (w := w) (by first | exact AF.alloc (by assumption) _ | exact AF.alloc (AF.alloc (by assumption) _) _ | exact ⟨by repeat (first | exact Below.refl _ _ | (refine Below.alloc ?_ ?_ _; rotate_left; (simp <;> omega))), by repeat (first | (refine has_new ?_; simp <;> omega) | refine has_old ?_), by repeat (first | (refine has_new ?_; simp <;> omega) | refine has_old ?_), by repeat (first | (refine has_new ?_; simp <;> omega) | refine has_old ?_), by repeat (first | (refine has_new ?_; simp <;> omega) | refine has_old ?_), by repeat (first | (refine has_new ?_; simp <;> omega) | refine has_old ?_), by repeat (first | (refine has_new ?_; simp <;> omega) | refine has_old ?_), by repeat (first | (refine has_new ?_; simp <;> omega) | refine has_old ?_), by repeat (first | (refine has_new ?_; simp <;> omega) | refine has_old ?_), by repeat (first | (refine has_new ?_; simp <;> omega) | refine has_old ?_), by repeat (first | (refine has_new ?_; simp <;> omega) | refine has_old ?_)⟩)) (all_cons (AF.dB (w := w) (by first | exact AF.alloc (by assumption) _ | exact AF.alloc (AF.alloc (by assumption) _) _ | exact ⟨by repeat (first | exact Below.refl _ _ | (refine Below.alloc ?_ ?_ _; rotate_left; (simp <;> omega))), by repeat (first | (refine has_new ?_; simp <;> omega) | refine has_old ?_), by repeat (first | (refine has_new ?_; simp <;> omega) | refine has_old ?_), by repeat (first | (refine has_new ?_; simp <;> omega) | refine has_old ?_), by repeat (first | (refine has_new ?_; simp <;> omega) | refine has_old ?_), by repeat (first | (refine has_new ?_; simp <;> omega) | refine has_old ?_), by repeat (first | (refine has_new ?_; simp <;> omega) | refine has_old ?_), by repeat (first | (refine has_new ?_; simp <;> omega) | refine has_old ?_), by repeat (first | (refine has_new ?_; simp <;> omega) | refine has_old ?_), by repeat (first | (refine has_new ?_; simp <;> omega) | refine has_old ?_), by repeat (first | (refine has_new ?_; simp <;> omega) | refine has_old ?_)⟩)) (all_cons (dd_nil rfl rfl (by decide) rfl rfl (by decide)) (all_cons (dd_nil rfl rfl (by decide) rfl rfl (by decide)) (all_nil)))))))) (by show 7 ≤ 100; decide) ?_; intro w' p hL hA; have hha := hasD_any ta _ [120, 121] w' hL (by omega) (names_one awake4d awake4n) awake4r rfl; unfold ofBlock at *; change Calls Tryz.prog 70 #[_, .string ⟨#[97]⟩, .string _] _ _ at hha)
    | (go_at_call 69; refine call_fell (w := w) [2] [(dA, .slice (some ⟨w.heap.size, 0, none⟩) 2 2, nilS), (dSync, nilS, nilS), (dNames, nilS, nilS), (dZ, .slice (some ⟨w.heap.size + 1 + 1 + 1 + 1, 0, none⟩) 1 1, nilS), (dB, .slice (some ⟨w.heap.size + 1 + 1 + 1 + 1 + 1, 0, none⟩) 1 1, nilS), (dBs, nilS, nilS), (dTo, nilS, nilS)] (by first | exact AF.alloc (by assumption) _ | exact AF.alloc (AF.alloc (by assumption) _) _ | exact ⟨by repeat (first | exact Below.refl _ _ | (refine Below.alloc ?_ ?_ _; rotate_left; (simp <;> omega))), by repeat (first | (refine has_new ?_; simp <;> omega) | refine has_old ?_), by repeat (first | (refine has_new ?_; simp <;> omega) | refine has_old ?_), by repeat (first | (refine has_new ?_; simp <;> omega) | refine has_old ?_), by repeat (first | (refine has_new ?_; simp <;> omega) | refine has_old ?_), by repeat (first | (refine has_new ?_; simp <;> omega) | refine has_old ?_), by repeat (first | (refine has_new ?_; simp <;> omega) | refine has_old ?_), by repeat (first | (refine has_new ?_; simp <;> omega) | refine has_old ?_), by repeat (first | (refine has_new ?_; simp <;> omega) | refine has_old ?_), by repeat (first | (refine has_new ?_; simp <;> omega) | refine has_old ?_), by repeat (first | (refine has_new ?_; simp <;> omega) | refine has_old ?_)⟩) (ints_two (has_old (has_new rfl))) (has_new (by first | rfl | (simp <;> omega))) rfl (all_cons (AF.dA (w := w) (by first | exact AF.alloc (by assumption) _ | exact AF.alloc (AF.alloc (by assumption) _) _ | exact ⟨by repeat (first | exact Below.refl _ _ | (refine Below.alloc ?_ ?_ _; rotate_left; (simp <;> omega))), by repeat (first | (refine has_new ?_; simp <;> omega) | refine has_old ?_), by repeat (first | (refine has_new ?_; simp <;> omega) | refine has_old ?_), by repeat (first | (refine has_new ?_; simp <;> omega) | refine has_old ?_), by repeat (first | (refine has_new ?_; simp <;> omega) | refine has_old ?_), by repeat (first | (refine has_new ?_; simp <;> omega) | refine has_old ?_), by repeat (first | (refine has_new ?_; simp <;> omega) | refine has_old ?_), by repeat (first | (refine has_new ?_; simp <;> omega) | refine has_old ?_), by repeat (first | (refine has_new ?_; simp <;> omega) | refine has_old ?_), by repeat (first | (refine has_new ?_; simp <;> omega) | refine has_old ?_), by repeat (first | (refine has_new ?_; simp <;> omega) | refine has_old ?_)⟩)) (all_cons (dd_nil rfl rfl (by decide) rfl rfl (by decide)) (all_cons (dd_nil rfl rfl (by decide) rfl rfl (by decide)) (all_cons (AF.dZ (w := w) (by first | exact AF.alloc (by assumption) _ | exact AF.alloc (AF.alloc (by assumption) _) _ | exact ⟨by repeat (first | exact Below.refl _ _ | (refine Below.alloc ?_ ?_ _; rotate_left; (simp <;> omega))), by repeat (first | (refine has_new ?_; simp <;> omega) | refine has_old ?_), by repeat (first | (refine has_new ?_; simp <;> omega) | refine has_old ?_), by repeat (first | (refine has_new ?_; simp <;> omega) | refine has_old ?_), by repeat (first | (refine has_new ?_; simp <;> omega) | refine has_old ?_), by repeat (first | (refine has_new ?_; simp <;> omega) | refine has_old ?_), by repeat (first | (refine has_new ?_; simp <;> omega) | refine has_old ?_), by repeat (first | (refine has_new ?_; simp <;> omega) | refine has_old ?_), by repeat (first | (refine has_new ?_; simp <;> omega) | refine has_old ?_), by repeat (first | (refine has_new ?_; simp <;> omega) | refine has_old ?_), by repeat (first | (refine has_new ?_; simp <;> omega) | refine has_old ?_)⟩)) (all_cons (AF.dB (w := w) (by first | exact AF.alloc (by assumption) _ | exact AF.alloc (AF.alloc (by assumption) _) _ | exact ⟨by repeat (first | exact Below.refl _ _ | (refine Below.alloc ?_ ?_ _; rotate_left; (simp <;> omega))), by repeat (first | (refine has_new ?_; simp <;> omega) | refine has_old ?_), by repeat (first | (refine has_new ?_; simp <;> omega) | refine has_old ?_), by repeat (first | (refine has_new ?_; simp <;> omega) | refine has_old ?_), by repeat (first | (refine has_new ?_; simp <;> omega) | refine has_old ?_), by repeat (first | (refine has_new ?_; simp <;> omega) | refine has_old ?_), by repeat (first | (refine has_new ?_; simp <;> omega) | refine has_old ?_), by repeat (first | (refine has_new ?_; simp <;> omega) | refine has_old ?_), by repeat (first | (refine has_new ?_; simp <;> omega) | refine has_old ?_), by repeat (first | (refine has_new ?_; simp <;> omega) | refine has_old ?_), by repeat (first | (refine has_new ?_; simp <;> omega) | refine has_old ?_)⟩)) (all_cons (dd_nil rfl rfl (by decide) rfl rfl (by decide)) (all_cons (dd_nil rfl rfl (by decide) rfl rfl (by decide)) (all_nil)))))))) (by show 7 ≤ 100; decide) ?_; intro w' p hL hA; have hha := hasD_any ta _ [49] w' hL (by omega) (names_one awake5d awake5n) awake5r rfl; unfold ofBlock at *; change Calls Tryz.prog 70 #[_, .string ⟨#[97]⟩, .string _] _ _ at hha))
  go_returns
  exact ⟨rfl, hA.below⟩
end Go.Proofs.YtmcmagplaflegaaGreat
