import Derived.Test.YtgopahmhniphbaaDoorWi
namespace Go.Proofs.YtgopahmhniphbaaDoor
open Go.RowKit Go.Shelf Sp

theorem bnext {w a b : World} (h : Below w.heap.size w a) (k : Below a.heap.size a b) : Below w.heap.size w b := h.trans (k.mono h.size)
theorem balloc {w a : World} (h : Below w.heap.size w a) (o : Obj) : Below w.heap.size w (a.alloc o) := h.alloc h.size o
theorem bytesIn_new (w : World) (B : Nat) (hB : w.heap.size = B) (l : List Nat) (hb : ∀ x ∈ l, x < 256) (hl : l.length ≤ 9223372036854775807) : BytesIn (w.alloc (.cells (enc l).toArray 5)) (.slice (some ⟨B, 0, none⟩) l.length l.length) l := by
  subst hB
  refine ⟨hb, hl, .inr (.inr ⟨_, _, _, rfl, fun k hk => ?_⟩)⟩
  have h := heap_new w (.cells (enc l).toArray 5)
  simp only [World.cell?, h]
  simp [enc, hk]
theorem bytesIn_nil (w : World) : BytesIn w (.slice none 0 0) [] := ⟨by simp, by simp, .inl ⟨rfl, rfl⟩⟩

def sA : S := ofl [1, 2]
def sB : S := ofl [2, 3]
def sZ : S := ofl [0]
def sN : S := ~~~ofl [0]
def sW : S := ofl [1, 64, 1]
def sX : S := span 62 65
def sY : S := ofl [1, 2, 3]
def s2 : S := ofl [2]
def s1 : S := ofl [1]
theorem f_or : sA ||| sB = sY := by decide +kernel
theorem f_and : sA &&& sB = s2 := by decide +kernel
theorem f_less : sA &&& ~~~sB = s1 := by decide +kernel
theorem f_not : ~~~sZ = sN := rfl
theorem f_none : ofl [] = 0#256 := rfl
theorem f_span : span 2 1 = 0#256 := by decide +kernel
theorem f_cnt : cnt sN = 255 := by decide +kernel
theorem f_least : ∃ r, bl sN = 1 :: r := ⟨(bl sN).tail, by decide +kernel⟩
theorem f_ne : sN ≠ 0#256 := by decide +kernel
theorem eq_lit (s : S) (a b c d : Int) (h0 : (wn s 0 : Int) = a) (h1 : (wn s 1 : Int) = b) (h2 : (wn s 2 : Int) = c) (h3 : (wn s 3 : Int) = d) (w : World) :
    (Op.equalIn 10000 24 (.agg #[.int .u64 (wn s 0), .int .u64 (wn s 1), .int .u64 (wn s 2), .int .u64 (wn s 3)]) (.agg #[.int .u64 a, .int .u64 b, .int .u64 c, .int .u64 d])).run Tryd.prog w = .ok true w := by
  rw [eq4 _ _ _ _ _ _ _ _ 9998, h0, h1, h2, h3]; simp
theorem e_W (w : World) : (Op.equalIn 10000 24 (.agg #[.int .u64 (wn sW 0), .int .u64 (wn sW 1), .int .u64 (wn sW 2), .int .u64 (wn sW 3)]) (.agg #[.int .u64 2, .int .u64 1, .int .u64 0, .int .u64 0])).run Tryd.prog w = .ok true w := eq_lit sW 2 1 0 0 (by decide +kernel) (by decide +kernel) (by decide +kernel) (by decide +kernel) w
theorem e_X (w : World) : (Op.equalIn 10000 24 (.agg #[.int .u64 (wn sX 0), .int .u64 (wn sX 1), .int .u64 (wn sX 2), .int .u64 (wn sX 3)]) (.agg #[.int .u64 13835058055282163712, .int .u64 3, .int .u64 0, .int .u64 0])).run Tryd.prog w = .ok true w := eq_lit sX 13835058055282163712 3 0 0 (by decide +kernel) (by decide +kernel) (by decide +kernel) (by decide +kernel) w
theorem e_0 (w : World) : (Op.equalIn 10000 24 (.agg #[.int .u64 (wn 0#256 0), .int .u64 (wn 0#256 1), .int .u64 (wn 0#256 2), .int .u64 (wn 0#256 3)]) (.agg #[.int .u64 0, .int .u64 0, .int .u64 0, .int .u64 0])).run Tryd.prog w = .ok true w := eq_lit 0#256 0 0 0 0 (by decide +kernel) (by decide +kernel) (by decide +kernel) (by decide +kernel) w

set_option maxRecDepth 100000 in
set_option maxHeartbeats 4000000 in
theorem works_any (w : World) (hT : Tab w) :
    Calls Tryd.prog 16 #[] w fun e w' => e = .returned (.bool true) ∧ Below w.heap.size w w' := by
  have eW := e_W
  have eX := e_X
  have e0 := e_0
  have eY := eq_yes sY
  have e2 := eq_yes s2
  have e1 := eq_yes s1
  have hB0 := Below.refl w.heap.size w
  go_enter Tryd.func16, Tryd.ntmps16
  go_wp2_with fail
  refine (show Calls _ _ _ _ (fun e w' => e = .returned (sv sA) ∧ _) from of_any _ [1, 2] _ (bytesIn_new _ _ (by simp) [1, 2] (by decide) (by decide))).mono ?_
  rintro e w1 ⟨rfl, hb1⟩
  have hB1 : Below w.heap.size w w1 := by first | exact bnext hB0 hb1 | exact bnext (balloc hB0 _) hb1 | exact bnext (balloc (balloc hB0 _) _) hb1 | exact bnext (balloc (balloc (balloc hB0 _) _) _) hb1
  go_wp2_with fail
  refine (show Calls _ _ _ _ (fun e w' => e = .returned (sv sB) ∧ _) from of_any _ [2, 3] _ (bytesIn_new _ _ (by simp) [2, 3] (by decide) (by decide))).mono ?_
  rintro e w2 ⟨rfl, hb2⟩
  have hB2 : Below w.heap.size w w2 := by first | exact bnext hB1 hb2 | exact bnext (balloc hB1 _) hb2 | exact bnext (balloc (balloc hB1 _) _) hb2 | exact bnext (balloc (balloc (balloc hB1 _) _) _) hb2
  go_wp2_with fail
  refine (show Calls _ _ _ _ (fun e w' => e = .returned (sv sZ) ∧ _) from of_any _ [0] _ (bytesIn_new _ _ (by simp) [0] (by decide) (by decide))).mono ?_
  rintro e w3 ⟨rfl, hb3⟩
  have hB3 : Below w.heap.size w w3 := by first | exact bnext hB2 hb3 | exact bnext (balloc hB2 _) hb3 | exact bnext (balloc (balloc hB2 _) _) hb3 | exact bnext (balloc (balloc (balloc hB2 _) _) _) hb3
  have hp3 : SetAt w3 w2.heap.size sA := ((((SetAt.box w2 sA).alloc (boxOf sB)).alloc _).same (hb3.block _ (by simp; omega)))
  have hq3 : SetAt w3 (w2.heap.size + 1) sB := by
    have h := SetAt.box (w2.alloc (boxOf sA)) sB
    rw [World.size_alloc] at h
    exact (h.alloc _).same (hb3.block _ (by simp))
  go_wp2_with fail
  refine (show Calls _ _ _ _ (fun e w' => e = .returned (sv sN) ∧ _) from not_any sZ _).mono ?_
  rintro e w4 ⟨rfl, hb4⟩
  have hB4 : Below w.heap.size w w4 := by first | exact bnext hB3 hb4 | exact bnext (balloc hB3 _) hb4 | exact bnext (balloc (balloc hB3 _) _) hb4 | exact bnext (balloc (balloc (balloc hB3 _) _) _) hb4
  have hp4 : SetAt w4 w2.heap.size sA := by first | exact hp3.same (hb4.block _ hp3.lt) | exact (hp3.alloc _).same (hb4.block _ (hp3.alloc _).lt)
  have hq4 : SetAt w4 (w2.heap.size + 1) sB := by first | exact hq3.same (hb4.block _ hq3.lt) | exact (hq3.alloc _).same (hb4.block _ (hq3.alloc _).lt)
  clear hp3 hq3
  go_wp2_with fail
  refine ((f_least).elim fun r hr => least_some sN 1 r hr f_ne _ (hT.below hB4 hT.lt)).mono ?_
  rintro e w5 ⟨rfl, hb5⟩
  have hB5 : Below w.heap.size w w5 := by first | exact bnext hB4 hb5 | exact bnext (balloc hB4 _) hb5 | exact bnext (balloc (balloc hB4 _) _) hb5 | exact bnext (balloc (balloc (balloc hB4 _) _) _) hb5
  have hp5 : SetAt w5 w2.heap.size sA := by first | exact hp4.same (hb5.block _ hp4.lt) | exact (hp4.alloc _).same (hb5.block _ (hp4.alloc _).lt)
  have hq5 : SetAt w5 (w2.heap.size + 1) sB := by first | exact hq4.same (hb5.block _ hq4.lt) | exact (hq4.alloc _).same (hb5.block _ (hq4.alloc _).lt)
  clear hp4 hq4
  go_wp2_with fail
  refine (show Calls _ _ _ _ (fun e w' => e = .returned (sv 0#256) ∧ _) from of_any _ [] _ (bytesIn_nil _)).mono ?_
  rintro e w6 ⟨rfl, hb6⟩
  have hB6 : Below w.heap.size w w6 := by first | exact bnext hB5 hb6 | exact bnext (balloc hB5 _) hb6 | exact bnext (balloc (balloc hB5 _) _) hb6 | exact bnext (balloc (balloc (balloc hB5 _) _) _) hb6
  have hp6 : SetAt w6 w2.heap.size sA := by first | exact hp5.same (hb6.block _ hp5.lt) | exact (hp5.alloc _).same (hb6.block _ (hp5.alloc _).lt)
  have hq6 : SetAt w6 (w2.heap.size + 1) sB := by first | exact hq5.same (hb6.block _ hq5.lt) | exact (hq5.alloc _).same (hb6.block _ (hq5.alloc _).lt)
  clear hp5 hq5
  go_wp2_with fail
  refine (least_none _).mono ?_
  rintro e w7 ⟨rfl, hb7⟩
  have hB7 : Below w.heap.size w w7 := by first | exact bnext hB6 hb7 | exact bnext (balloc hB6 _) hb7 | exact bnext (balloc (balloc hB6 _) _) hb7 | exact bnext (balloc (balloc (balloc hB6 _) _) _) hb7
  have hp7 : SetAt w7 w2.heap.size sA := by first | exact hp6.same (hb7.block _ hp6.lt) | exact (hp6.alloc _).same (hb7.block _ (hp6.alloc _).lt)
  have hq7 : SetAt w7 (w2.heap.size + 1) sB := by first | exact hq6.same (hb7.block _ hq6.lt) | exact (hq6.alloc _).same (hb7.block _ (hq6.alloc _).lt)
  clear hp6 hq6
  go_wp2_with fail
  refine (show Calls _ _ _ _ (fun e w' => e = .returned (sv sW) ∧ _) from of_any _ [1, 64, 1] _ (bytesIn_new _ _ (by simp) [1, 64, 1] (by decide) (by decide))).mono ?_
  rintro e w8 ⟨rfl, hb8⟩
  have hB8 : Below w.heap.size w w8 := by first | exact bnext hB7 hb8 | exact bnext (balloc hB7 _) hb8 | exact bnext (balloc (balloc hB7 _) _) hb8 | exact bnext (balloc (balloc (balloc hB7 _) _) _) hb8
  have hp8 : SetAt w8 w2.heap.size sA := by first | exact hp7.same (hb8.block _ hp7.lt) | exact (hp7.alloc _).same (hb8.block _ (hp7.alloc _).lt)
  have hq8 : SetAt w8 (w2.heap.size + 1) sB := by first | exact hq7.same (hb8.block _ hq7.lt) | exact (hq7.alloc _).same (hb8.block _ (hq7.alloc _).lt)
  clear hp7 hq7
  go_wp2_with fail
  refine (show Calls _ _ _ _ (fun e w' => e = .returned (sv sX) ∧ _) from span_any 62 65 (by decide) (by decide) _).mono ?_
  rintro e w9 ⟨rfl, hb9⟩
  have hB9 : Below w.heap.size w w9 := by first | exact bnext hB8 hb9 | exact bnext (balloc hB8 _) hb9 | exact bnext (balloc (balloc hB8 _) _) hb9 | exact bnext (balloc (balloc (balloc hB8 _) _) _) hb9
  have hp9 : SetAt w9 w2.heap.size sA := by first | exact hp8.same (hb9.block _ hp8.lt) | exact (hp8.alloc _).same (hb9.block _ (hp8.alloc _).lt)
  have hq9 : SetAt w9 (w2.heap.size + 1) sB := by first | exact hq8.same (hb9.block _ hq8.lt) | exact (hq8.alloc _).same (hb9.block _ (hq8.alloc _).lt)
  clear hp8 hq8
  go_wp2_with fail
  refine (show Calls _ _ _ _ (fun e w' => e = .returned (sv 0#256) ∧ _) from f_span ▸ span_any 2 1 (by decide) (by decide) _).mono ?_
  rintro e w10 ⟨rfl, hb10⟩
  have hB10 : Below w.heap.size w w10 := by first | exact bnext hB9 hb10 | exact bnext (balloc hB9 _) hb10 | exact bnext (balloc (balloc hB9 _) _) hb10 | exact bnext (balloc (balloc (balloc hB9 _) _) _) hb10
  have hp10 : SetAt w10 w2.heap.size sA := by first | exact hp9.same (hb10.block _ hp9.lt) | exact (hp9.alloc _).same (hb10.block _ (hp9.alloc _).lt)
  have hq10 : SetAt w10 (w2.heap.size + 1) sB := by first | exact hq9.same (hb10.block _ hq9.lt) | exact (hq9.alloc _).same (hb10.block _ (hq9.alloc _).lt)
  clear hp9 hq9
  obtain ⟨p0, p1, p2, p3⟩ := hp10.cell
  obtain ⟨q0, q1, q2, q3⟩ := hq10.cell
  go_wp2_with fail
  refine (show Calls _ _ _ _ (fun e w' => e = .returned (sv sY) ∧ _) from f_or ▸ union_any sA sB _).mono ?_
  rintro e w11 ⟨rfl, hb11⟩
  have hB11 : Below w.heap.size w w11 := by first | exact bnext hB10 hb11 | exact bnext (balloc hB10 _) hb11 | exact bnext (balloc (balloc hB10 _) _) hb11 | exact bnext (balloc (balloc (balloc hB10 _) _) _) hb11
  have hp11 : SetAt w11 w2.heap.size sA := by first | exact hp10.same (hb11.block _ hp10.lt) | exact (hp10.alloc _).same (hb11.block _ (hp10.alloc _).lt)
  have hq11 : SetAt w11 (w2.heap.size + 1) sB := by first | exact hq10.same (hb11.block _ hq10.lt) | exact (hq10.alloc _).same (hb11.block _ (hq10.alloc _).lt)
  clear hp10 hq10
  go_wp2_with fail
  refine (show Calls _ _ _ _ (fun e w' => e = .returned (sv sY) ∧ _) from of_any _ [1, 2, 3] _ (bytesIn_new _ _ (by simp) [1, 2, 3] (by decide) (by decide))).mono ?_
  rintro e w12 ⟨rfl, hb12⟩
  have hB12 : Below w.heap.size w w12 := by first | exact bnext hB11 hb12 | exact bnext (balloc hB11 _) hb12 | exact bnext (balloc (balloc hB11 _) _) hb12 | exact bnext (balloc (balloc (balloc hB11 _) _) _) hb12
  have hp12 : SetAt w12 w2.heap.size sA := by first | exact hp11.same (hb12.block _ hp11.lt) | exact (hp11.alloc _).same (hb12.block _ (hp11.alloc _).lt)
  have hq12 : SetAt w12 (w2.heap.size + 1) sB := by first | exact hq11.same (hb12.block _ hq11.lt) | exact (hq11.alloc _).same (hb12.block _ (hq11.alloc _).lt)
  clear hp11 hq11
  obtain ⟨p0, p1, p2, p3⟩ := hp12.cell
  obtain ⟨q0, q1, q2, q3⟩ := hq12.cell
  go_wp2_with fail
  refine (show Calls _ _ _ _ (fun e w' => e = .returned (sv s2) ∧ _) from f_and ▸ both_any sA sB _).mono ?_
  rintro e w13 ⟨rfl, hb13⟩
  have hB13 : Below w.heap.size w w13 := by first | exact bnext hB12 hb13 | exact bnext (balloc hB12 _) hb13 | exact bnext (balloc (balloc hB12 _) _) hb13 | exact bnext (balloc (balloc (balloc hB12 _) _) _) hb13
  have hp13 : SetAt w13 w2.heap.size sA := by first | exact hp12.same (hb13.block _ hp12.lt) | exact (hp12.alloc _).same (hb13.block _ (hp12.alloc _).lt)
  have hq13 : SetAt w13 (w2.heap.size + 1) sB := by first | exact hq12.same (hb13.block _ hq12.lt) | exact (hq12.alloc _).same (hb13.block _ (hq12.alloc _).lt)
  clear hp12 hq12
  go_wp2_with fail
  refine (show Calls _ _ _ _ (fun e w' => e = .returned (sv s2) ∧ _) from of_any _ [2] _ (bytesIn_new _ _ (by simp) [2] (by decide) (by decide))).mono ?_
  rintro e w14 ⟨rfl, hb14⟩
  have hB14 : Below w.heap.size w w14 := by first | exact bnext hB13 hb14 | exact bnext (balloc hB13 _) hb14 | exact bnext (balloc (balloc hB13 _) _) hb14 | exact bnext (balloc (balloc (balloc hB13 _) _) _) hb14
  have hp14 : SetAt w14 w2.heap.size sA := by first | exact hp13.same (hb14.block _ hp13.lt) | exact (hp13.alloc _).same (hb14.block _ (hp13.alloc _).lt)
  have hq14 : SetAt w14 (w2.heap.size + 1) sB := by first | exact hq13.same (hb14.block _ hq13.lt) | exact (hq13.alloc _).same (hb14.block _ (hq13.alloc _).lt)
  clear hp13 hq13
  obtain ⟨p0, p1, p2, p3⟩ := hp14.cell
  obtain ⟨q0, q1, q2, q3⟩ := hq14.cell
  go_wp2_with fail
  refine (show Calls _ _ _ _ (fun e w' => e = .returned (sv s1) ∧ _) from f_less ▸ less_any sA sB _).mono ?_
  rintro e w15 ⟨rfl, hb15⟩
  have hB15 : Below w.heap.size w w15 := by first | exact bnext hB14 hb15 | exact bnext (balloc hB14 _) hb15 | exact bnext (balloc (balloc hB14 _) _) hb15 | exact bnext (balloc (balloc (balloc hB14 _) _) _) hb15
  have hp15 : SetAt w15 w2.heap.size sA := by first | exact hp14.same (hb15.block _ hp14.lt) | exact (hp14.alloc _).same (hb15.block _ (hp14.alloc _).lt)
  have hq15 : SetAt w15 (w2.heap.size + 1) sB := by first | exact hq14.same (hb15.block _ hq14.lt) | exact (hq14.alloc _).same (hb15.block _ (hq14.alloc _).lt)
  clear hp14 hq14
  go_wp2_with fail
  refine (show Calls _ _ _ _ (fun e w' => e = .returned (sv s1) ∧ _) from of_any _ [1] _ (bytesIn_new _ _ (by simp) [1] (by decide) (by decide))).mono ?_
  rintro e w16 ⟨rfl, hb16⟩
  have hB16 : Below w.heap.size w w16 := by first | exact bnext hB15 hb16 | exact bnext (balloc hB15 _) hb16 | exact bnext (balloc (balloc hB15 _) _) hb16 | exact bnext (balloc (balloc (balloc hB15 _) _) _) hb16
  have hp16 : SetAt w16 w2.heap.size sA := by first | exact hp15.same (hb16.block _ hp15.lt) | exact (hp15.alloc _).same (hb16.block _ (hp15.alloc _).lt)
  have hq16 : SetAt w16 (w2.heap.size + 1) sB := by first | exact hq15.same (hb16.block _ hq15.lt) | exact (hq15.alloc _).same (hb16.block _ (hq15.alloc _).lt)
  clear hp15 hq15
  go_wp2_with fail
  refine (show Calls _ _ _ _ (fun e w' => e = .returned (sv sZ) ∧ _) from of_any _ [0] _ (bytesIn_new _ _ (by simp) [0] (by decide) (by decide))).mono ?_
  rintro e w17 ⟨rfl, hb17⟩
  have hB17 : Below w.heap.size w w17 := by first | exact bnext hB16 hb17 | exact bnext (balloc hB16 _) hb17 | exact bnext (balloc (balloc hB16 _) _) hb17 | exact bnext (balloc (balloc (balloc hB16 _) _) _) hb17
  have hp17 : SetAt w17 w2.heap.size sA := by first | exact hp16.same (hb17.block _ hp16.lt) | exact (hp16.alloc _).same (hb17.block _ (hp16.alloc _).lt)
  have hq17 : SetAt w17 (w2.heap.size + 1) sB := by first | exact hq16.same (hb17.block _ hq16.lt) | exact (hq16.alloc _).same (hb17.block _ (hq16.alloc _).lt)
  clear hp16 hq16
  go_wp2_with fail
  refine (show Calls _ _ _ _ (fun e w' => e = .returned (sv sN) ∧ _) from not_any sZ _).mono ?_
  rintro e w18 ⟨rfl, hb18⟩
  have hB18 : Below w.heap.size w w18 := by first | exact bnext hB17 hb18 | exact bnext (balloc hB17 _) hb18 | exact bnext (balloc (balloc hB17 _) _) hb18 | exact bnext (balloc (balloc (balloc hB17 _) _) _) hb18
  have hp18 : SetAt w18 w2.heap.size sA := by first | exact hp17.same (hb18.block _ hp17.lt) | exact (hp17.alloc _).same (hb18.block _ (hp17.alloc _).lt)
  have hq18 : SetAt w18 (w2.heap.size + 1) sB := by first | exact hq17.same (hb18.block _ hq17.lt) | exact (hq17.alloc _).same (hb18.block _ (hq17.alloc _).lt)
  clear hp17 hq17
  go_wp2_with fail
  refine (show Calls _ _ _ _ (fun e w' => e = .returned (.int .i64 255) ∧ _) from (by have h := len_any sN; rw [f_cnt] at h; exact h _)).mono ?_
  rintro e w19 ⟨rfl, hb19⟩
  have hB19 : Below w.heap.size w w19 := by first | exact bnext hB18 hb19 | exact bnext (balloc hB18 _) hb19 | exact bnext (balloc (balloc hB18 _) _) hb19 | exact bnext (balloc (balloc (balloc hB18 _) _) _) hb19
  have hp19 : SetAt w19 w2.heap.size sA := by first | exact hp18.same (hb19.block _ hp18.lt) | exact (hp18.alloc _).same (hb19.block _ (hp18.alloc _).lt)
  have hq19 : SetAt w19 (w2.heap.size + 1) sB := by first | exact hq18.same (hb19.block _ hq18.lt) | exact (hq18.alloc _).same (hb19.block _ (hq18.alloc _).lt)
  clear hp18 hq18
  go_wp2
  go_returns
  exact ⟨rfl, hB19⟩
end Go.Proofs.YtgopahmhniphbaaDoor
