/-
  THE DOCUMENT's RECORD TAKEN OFF. Conditions: those of each theorem.
  THE DOCUMENT's RECORDS. Conditions: those of each theorem.
  COPIES OF BYTES; LISTS OF BYTES ALIKE. Conditions: those of each theorem.
  A JOURNAL's SMALL METHODS. Conditions: those of each theorem.
  ARE THESE THE RECORDS. Conditions: those of each theorem.
  RECORDS AND BYTES TURNED. Conditions: those of each theorem.
  THE STATEMENT OF RECORDS, WALKED. Conditions: those of each theorem.
  IS A TEXT IN A LIST. Conditions: those of each theorem.
-/
import Derived.Test.YtmcmagplaflegaaGreatX6

namespace Go.Proofs.YtmcmagplaflegaaGreat
open Go Go.RowKit Go.MapL Go.Poised

/-- Bytes that lie in a row of ours. -/
def PartAt (w : World) (n₀ : Nat) (v : Value) (l : List Nat) : Prop := ∃ (u : Value) (ys : List Nat), w.ownsRow n₀ 5 1 u ys.length (encB ys) ∧ ∀ W : World, W.ownsRow n₀ 5 1 u ys.length (encB ys) → BytesIn W v l
def OneR (w w' : World) (b : List Nat) (e : Ending) : Option (Option Nat) → Prop
  | none => e = .returned (.tuple #[.slice none 0 0, .int .i64 0, .int .i64 70])
  | some none => e = .returned (.tuple #[.slice none 0 0, .int .i64 0, .int .i64 0])
  | some (some size) => ∃ v, e = .returned (.tuple #[v, .int .i64 ((20 + size : Nat) : Int), .int .i64 0]) ∧ PartAt w' w.heap.size v (recOf b size)
theorem own_some {w : World} {m z : Nat} {v : Value} {n : Nat} {xs : List Value} {e : TypeId} (h : w.ownsRow m e z v n xs) (hn : 0 < n) : ∃ g c, v = .slice (some ⟨g, 0, none⟩) n c ∧ n ≤ c ∧ c ≤ 9223372036854775807 := by
  rcases h.2 with ⟨_, h0⟩ | ⟨g, c, cu, e1, _, _, h3, h4, _⟩
  · omega
  · exact ⟨g, c, e1, h3, by simp only [maxLen] at h4; omega⟩
theorem told_head (b : List Nat) (x : Nat) (hx : (b.drop 4).take 8 = x :: (b.drop 5).take 7) (hb : ∀ y ∈ b, y < 256) (hl : 12 ≤ b.length) : told ((b.drop 4).take 8) = x * 72057594037927936 + told ((b.drop 5).take 7) ∧ told ((b.drop 5).take 7) < 72057594037927936 := by
  have key : ∀ (l : List Nat) (n : Nat), l.foldl (fun n c => n * 256 + c) n = n * 256 ^ l.length + l.foldl (fun n c => n * 256 + c) 0 := by
    intro l
    induction l with
    | nil => intro n; simp
    | cons c l ih =>
      intro n
      rw [List.foldl_cons, List.foldl_cons, ih (n * 256 + c), ih (0 * 256 + c), List.length_cons, Nat.pow_succ, Nat.add_mul, Nat.add_mul, Nat.mul_assoc, Nat.mul_comm 256]
      omega
  have h7 : ((b.drop 5).take 7).length = 7 := by simp; omega
  constructor
  · rw [hx]
    unfold told
    rw [List.foldl_cons, key, h7]
    simp
  · have := told_lt ((b.drop 5).take 7) (fun y hy => hb y (List.mem_of_mem_drop (List.mem_of_mem_take hy)))
    rw [h7] at this
    exact this
set_option maxRecDepth 100000 in
set_option maxHeartbeats 4000000 in
theorem oneR_short (p : Option Addr) (len cap n : Nat) (w : World) (h : len < 16) :
    Calls Tryz.prog 80 #[.slice p len cap, .int .i64 n] w fun e w' => e = .returned (.tuple #[.slice none 0 0, .int .i64 0, .int .i64 0]) ∧ w' = w := by
  have h' : (len : Int) < 16 := by omega
  go_enter Tryz.func80, Tryz.ntmps80
  go_wp2_with fail
  go_returns
  exact ⟨rfl, rfl⟩
set_option maxRecDepth 100000 in
set_option maxHeartbeats 16000000 in
theorem oneR_any (b : List Nat) (B off cap n : Nat) (w0 : World) (hv : BytesIn w0 (.slice (some ⟨B, off, none⟩) b.length cap) b) (hcap : b.length ≤ cap) (hn : n < 72057594037927936) (hlen : b.length ≤ 140737488355328) :
    Calls Tryz.prog 80 #[.slice (some ⟨B, off, none⟩) b.length cap, .int .i64 n] w0 fun e w' => OneR w0 w' b e (oneRes b n) ∧ Below w0.heap.size w0 w' := by
  by_cases hsh : b.length < 16
  · refine (oneR_short _ _ cap n w0 hsh).mono ?_
    rintro e w' ⟨rfl, rfl⟩
    refine ⟨?_, Below.refl _ _⟩
    unfold oneRes; rw [if_pos hsh]; rfl
  · have hb12 := fun W (hW : Below w0.heap.size w0 W) => (hv.below hW).mid 0 12 cap (by omega)
    have hb4 := hv.mid 0 4 cap (by omega)
    have hm4 := fun W (hW : Below w0.heap.size w0 W) => (hv.below hW).mid 12 4 (cap - 12) (by omega)
    have hm8 := fun W (hW : Below w0.heap.size w0 W) => (hv.below hW).mid 4 8 (cap - 4) (by omega)
    simp only [List.drop_zero, Nat.add_zero] at hb12 hb4
    have hbyte : ∀ x ∈ b, x < 256 := hv.1
    have hZl : told (b.take 4) < 4294967296 := by
      have := told_lt (b.take 4) (fun x hx => hbyte x (List.mem_of_mem_take hx))
      refine Nat.lt_of_lt_of_le this ?_
      rw [List.length_take]; exact Nat.pow_le_pow_right (n := 256) (by omega) (show min 4 b.length ≤ 4 by omega)
    have hof := fun W (hW : Below w0.heap.size w0 W) => ofR_any _ _ W (hb12 W hW)
    have hto := toldR_any _ _ w0 hb4 (by omega)
    obtain ⟨x4, hx4⟩ : ∃ x, b.getD 4 0 = x := ⟨_, rfl⟩
    have hcons : (b.drop 4).take 8 = x4 :: (b.drop 5).take 7 := by
      rw [List.drop_eq_getElem_cons (show 4 < b.length by omega), List.take_succ_cons, ← hx4, List.getD_eq_getElem?_getD, List.getElem?_eq_getElem (show 4 < b.length by omega)]; rfl
    obtain ⟨hN0, hN1⟩ := told_head b x4 hcons hbyte (by omega)
    have hx4l : x4 < 256 := by rw [← hx4, List.getD_eq_getElem?_getD, List.getElem?_eq_getElem (show 4 < b.length by omega)]; exact hbyte _ (List.getElem_mem _)
    have hc4 : ∀ W, Below w0.heap.size w0 W → W.cell? ⟨B, off + 4, none⟩ = some (.int .u8 (x4 : Nat)) := by
      intro W hW
      rcases (hv.below hW).2.2 with ⟨e, _⟩ | ⟨a, c2, e, h0⟩ | ⟨b2, off2, c2, e, hc⟩
      · cases e
      · subst h0; simp at hsh
      · cases e
        rw [hc 4 (by omega), hx4]
    have hto8 := fun (h : x4 = 0) W (hW : Below w0.heap.size w0 W) => toldR_any _ _ W (hm8 W hW) (by rw [hN0, h]; omega)
    obtain ⟨S, hS⟩ : ∃ S, crcOn 0 (b.take 12) = S := ⟨_, rfl⟩
    obtain ⟨Z, hZ⟩ : ∃ Z, told (b.take 4) = Z := ⟨_, rfl⟩
    obtain ⟨N, hN⟩ : ∃ N, told ((b.drop 4).take 8) = N := ⟨_, rfl⟩
    obtain ⟨mid, hmid⟩ : ∃ mid, (b.drop 12).take 4 = mid := ⟨_, rfl⟩
    have hSl : S < 4294967296 := by rw [← hS]; exact crcOn_lt _ _
    rw [hZ] at hZl
    have hmidl : mid.length = 4 := by rw [← hmid]; simp; omega
    rw [hmid] at hm4
    rw [hN] at hto8 hN0
    simp only [hS] at hof
    rw [hZ] at hto
    have his := fun W (hW : Below w0.heap.size w0 W) => isSumR_any S _ _ W hSl (hm4 W hW) hmidl
    have hres : oneRes b n = if mid = sum4 S ∧ N = n ∧ Z ≤ 262144 then (if b.length < Z + 20 then some none else if (b.drop (16 + Z)).take 4 = sum4 (crcOn S ((b.drop 16).take Z)) then some (some Z) else none) else none := by
      unfold oneRes; rw [if_neg hsh, hS, hZ, hN, hmid]
    obtain ⟨res, hr⟩ : ∃ res, oneRes b n = res := ⟨_, rfl⟩
    rw [hr]; rw [hr] at hres
    replace hres : Hid _ := hres
    replace hS : Hid _ := hS
    replace hZ : Hid _ := hZ
    replace hN : Hid _ := hN
    replace hmid : Hid _ := hmid
    replace hmidl : Hid _ := hmidl
    replace hx4 : Hid _ := hx4
    replace hcons : Hid _ := hcons
    have g0 : ¬ (b.length : Int) < 16 := by omega
    have g1 : (16 : Nat) ≤ cap := by omega
    have g2 : (16 : Int) ≤ (cap : Int) := by omega
    have g3 : (12 : Int) ≤ (cap : Int) := by omega
    have g4 : (4 : Int) ≤ (cap : Int) := by omega
    have g5 : ¬ cap = 12 := by omega
    have g6 : ¬ cap = 4 := by omega
    have ga : (4 : Int) < (b.length : Int) := by omega
    replace his : Hid _ := his
    replace hof : Hid _ := hof
    replace hto8 : Hid _ := hto8
    replace hm4 : Hid _ := hm4
    replace hm8 : Hid _ := hm8
    replace hb12 : Hid _ := hb12
    replace hlen : Hid _ := hlen
    replace hbyte : Hid _ := hbyte
    replace hc4 : Hid _ := hc4
    replace hN0 : Hid _ := hN0
    go_enter Tryz.func80, Tryz.ntmps80
    go_wp2_with (go_at_call 125; refine hto.mono ?_; clear hto; rintro e w1 ⟨rfl, rfl⟩)
    by_cases hA : mid = sum4 S
    · have his := his.out; rw [decide_eq_true hA] at his; replace his : Hid _ := his
      by_cases hz4 : x4 = 0
      · have gz : (x4 : Int) = 0 := by omega
        have gz2 : ¬ (0 : Int) < (x4 : Int) := by omega
        have hz4' : Hid _ := hz4
        replace hz4 : Hid _ := hz4
        have hto8 := hto8.out hz4.out; replace hto8 : Hid _ := hto8
        by_cases hNn : N = n
        · have g7 : (N : Int) = (n : Int) := by omega
          by_cases hZ2 : Z ≤ 262144
          · have hgood : Hid (mid = sum4 S ∧ N = n ∧ Z ≤ 262144) := ⟨hA, hNn, hZ2⟩
            have g8 : ¬ (262144 : Int) < (Z : Int) := by omega
            have g9 : ¬ Z > 262144 := by omega
            clear hA hNn
            refine poised_whole (fun w' => Below w1.heap.size w1 w') (fun w w' => Below w.heap.size w w') (by kernel_rfl) (by kernel_rfl) (by kernel_rfl) (fun _ _ h k => h.trans (k.mono h.size)) ((Below.refl _ _).drew) ?_
            apply Exists.intro
            apply walk_det
            · rfl
            · intro w2 hC hF
              simp only [upon]
              go_simp
              exact ⟨Below.refl _ _, rfl⟩
            simp only [put_lit, List.set_cons_succ, List.set_cons_zero]
            apply walk_det
            · rfl
            · intro w2 hC hF
              simp only [upon]
              go_simp
              exact ⟨Below.refl _ _, rfl⟩
            simp only [put_lit, List.set_cons_succ, List.set_cons_zero]
            apply walk_det
            · rfl
            · intro w2 hC hF
              simp only [upon]
              go_simp
              exact ⟨Below.refl _ _, rfl⟩
            simp only [put_lit, List.set_cons_succ, List.set_cons_zero]
            apply walk_det
            · rfl
            · intro w2 hC hF
              simp only [upon]
              go_simp
              exact ⟨Below.refl _ _, rfl⟩
            simp only [put_lit, List.set_cons_succ, List.set_cons_zero]
            apply walk_det
            · rfl
            · intro w2 hC hF
              simp only [upon]
              go_simp
              exact still_call (hof.out _ hC)
            simp only [put_lit, List.set_cons_succ, List.set_cons_zero]
            apply walk_det
            · rfl
            · intro w2 hC hF
              simp only [upon]
              go_simp
              exact his.out _ hC
            simp only [put_lit, List.set_cons_succ, List.set_cons_zero]
            apply walk_det
            · rfl
            · intro w2 hC hF
              simp only [upon]
              go_simp
              exact ⟨Below.refl _ _, rfl⟩
            simp only [put_lit, List.set_cons_succ, List.set_cons_zero]
            apply walk_det
            · rfl
            · intro w2 hC hF
              simp only [upon]
              go_simp
              exact ⟨Below.refl _ _, rfl⟩
            simp only [put_lit, List.set_cons_succ, List.set_cons_zero]
            apply walk_det
            · rfl
            · intro w2 hC hF
              simp only [upon]
              go_simp
              exact ⟨Below.refl _ _, rfl⟩
            simp only [put_lit, List.set_cons_succ, List.set_cons_zero]
            apply walk_det
            · rfl
            · intro w2 hC hF
              simp only [upon]
              go_simp
              exact ⟨Below.refl _ _, rfl⟩
            simp only [put_lit, List.set_cons_succ, List.set_cons_zero]
            apply walk_det
            · rfl
            · intro w2 hC hF
              have hcc := hc4.out _ hC
              simp only [upon]
              go_simp
              exact ⟨Below.refl _ _, rfl⟩
            simp only [put_lit, List.set_cons_succ, List.set_cons_zero]
            apply walk_det
            · rfl
            · intro w2 hC hF
              simp only [upon]
              go_simp
              exact ⟨Below.refl _ _, rfl⟩
            simp only [put_lit, List.set_cons_succ, List.set_cons_zero]
            apply walk_det
            · rfl
            · intro w2 hC hF
              simp only [upon]
              go_simp
              exact ⟨Below.refl _ _, rfl⟩
            simp only [put_lit, List.set_cons_succ, List.set_cons_zero]
            apply walk_det
            · rfl
            · intro w2 hC hF
              simp only [upon]
              go_simp
              exact ⟨Below.refl _ _, rfl⟩
            simp only [put_lit, List.set_cons_succ, List.set_cons_zero]
            apply walk_det
            · rfl
            · intro w2 hC hF
              simp only [upon]
              go_simp
              exact ⟨Below.refl _ _, rfl⟩
            simp only [put_lit, List.set_cons_succ, List.set_cons_zero]
            apply walk_det
            · rfl
            · intro w2 hC hF
              simp only [upon]
              go_simp
              exact ⟨Below.refl _ _, rfl⟩
            simp only [put_lit, List.set_cons_succ, List.set_cons_zero]
            apply walk_det
            · rfl
            · intro w2 hC hF
              simp only [upon]
              go_simp
              exact still_call (hto8.out _ hC)
            simp only [put_lit, List.set_cons_succ, List.set_cons_zero]
            apply walk_det
            · rfl
            · intro w2 hC hF
              simp only [upon]
              go_simp
              exact ⟨Below.refl _ _, rfl⟩
            simp only [put_lit, List.set_cons_succ, List.set_cons_zero]
            apply walk_det
            · rfl
            · intro w2 hC hF
              simp only [upon]
              go_simp
              exact ⟨Below.refl _ _, rfl⟩
            simp only [put_lit, List.set_cons_succ, List.set_cons_zero]
            apply walk_det
            · rfl
            · intro w2 hC hF
              simp only [upon]
              go_simp
              exact ⟨Below.refl _ _, rfl⟩
            simp only [put_lit, List.set_cons_succ, List.set_cons_zero]
            apply walk_det
            · rfl
            · intro w2 hC hF
              simp only [upon]
              go_simp
              exact ⟨Below.refl _ _, rfl⟩
            simp only [put_lit, List.set_cons_succ, List.set_cons_zero]
            apply walk_det
            · rfl
            · intro w2 hC hF
              simp only [upon]
              go_simp
              exact ⟨Below.refl _ _, rfl⟩
            simp only [put_lit, List.set_cons_succ, List.set_cons_zero]
            apply walk_det
            · rfl
            · intro w2 hC hF
              simp only [upon]
              go_simp
              exact ⟨Below.refl _ _, rfl⟩
            simp only [put_lit, List.set_cons_succ, List.set_cons_zero]
            apply walk_det
            · rfl
            · intro w2 hC hF
              simp only [upon]
              go_simp
              exact ⟨Below.refl _ _, rfl⟩
            simp only [put_lit, List.set_cons_succ, List.set_cons_zero]
            apply walk_nil
            intro w2 hC _
            have hBb := hC
            clear hC
            obtain ⟨K, hK⟩ : ∃ K, 16 + Z = K := ⟨_, rfl⟩
            obtain ⟨M, hM⟩ : ∃ M, 20 + Z = M := ⟨_, rfl⟩
            obtain ⟨L, hL⟩ : ∃ L, 12 + Z = L := ⟨_, rfl⟩
            have gK : (16 : Int) + (Z : Int) = (K : Int) := by omega
            have gM : (20 : Int) + (Z : Int) = (M : Int) := by omega
            by_cases hT : b.length < Z + 20
            · have hT' : Hid _ := hT
              have g10 : (b.length : Int) < (M : Int) := by omega
              replace hK : Hid _ := hK
              replace hM : Hid _ := hM
              replace hL : Hid _ := hL
              clear hT
              go_wp2_with fail
              go_returns
              refine ⟨?_, hBb⟩
              rw [hres.out, if_pos hgood.out, if_pos hT'.out]; rfl
            · have hT' : Hid _ := hT
              have g10 : ¬ (b.length : Int) < (M : Int) := by omega
              have g11 : (16 : Int) ≤ (K : Int) := by omega
              have g12 : (K : Int) ≤ (cap : Int) := by omega
              have g13 : (M : Int) ≤ (cap : Int) := by omega
              have gw1 : IntKind.i64.wrap (K : Int) = (K : Int) := IntWalk.i64_in _ (by omega)
              have gw2 : IntKind.i64.wrap (M : Int) = (M : Int) := IntWalk.i64_in _ (by omega)
              have g15 : ¬ cap = 16 := by omega
              have g16 : K - 16 = Z := by omega
              have g17 : M - K = 4 := by omega
              have g18 : ¬ cap = K := by omega
              have g19 : (K : Int) ≤ (M : Int) := by omega
              have hmc := fun W (hW : Below w1.heap.size w1 W) => (hv.below hW).mid K 4 (cap - K) (by omega)
              have hmb := fun W (hW : Below w1.heap.size w1 W) => (hv.below hW).mid 16 Z (cap - 16) (by omega)
              obtain ⟨T, hT2⟩ : ∃ T, crcOn S ((b.drop 16).take Z) = T := ⟨_, rfl⟩
              have hTl : T < 4294967296 := by rw [← hT2]; exact crcOn_lt _ _
              obtain ⟨fin, hfin⟩ : ∃ fin, (b.drop K).take 4 = fin := ⟨_, rfl⟩
              have hfl : fin.length = 4 := by rw [← hfin]; simp; omega
              rw [hfin] at hmc
              have his2 := fun W (hW : Below w1.heap.size w1 W) => isSumR_any T _ _ W hTl (hmc W hW) hfl
              have hl12 : Hid ((b.take 12).length = 12) := by show _ = _; simp; omega
              have hZlen : Hid (((b.drop 16).take Z).length = Z) := by show _ = _; simp only [List.length_take, List.length_drop]; omega
              have hl4 : Hid ((b.take 12 ++ (b.drop 16).take Z).length = L) := by show _ = _; rw [List.length_append, hl12.out, hZlen.out, hL]
              have hT3 : Hid (crcOn 0 (b.take 12 ++ (b.drop 16).take Z) = T) := by
                show _ = _
                rw [crcOn_app 0 _ _ (by omega) (fun x hx => hbyte.out x (List.mem_of_mem_take hx)), hS.out, hT2]
              have hcat : Hid (∀ x ∈ b.take 12 ++ (b.drop 16).take Z, x < 256) := catB_byte (fun x hx => hbyte.out x (List.mem_of_mem_take hx)) (fun x hx => hbyte.out x (List.mem_of_mem_drop (List.mem_of_mem_take hx)))
              have hrc : Hid ((b.drop 16).take Z = recOf b Z) := rfl
              generalize hbd : (b.drop 16).take Z = body at *
              have hhd : ∃ hd, b.take 12 = hd := ⟨_, rfl⟩
              obtain ⟨hd, hhd⟩ := hhd
              have hu12 := hb12.out _ hBb
              rw [hhd] at hu12 hl12 hl4 hT3 hcat
              have gL : L - 12 = Z := by omega
              have gL2 : (12 : Int) ≤ (L : Int) := by omega
              have hLb : Hid (L ≤ 262156) := by show _ ≤ _; have := hgood.out.2.2; omega
              replace hhd : Hid _ := hhd
              replace hbd : Hid _ := hbd
              replace hmc : Hid _ := hmc
              replace hmb : Hid _ := hmb
              replace hT2 : Hid _ := hT2
              replace hfin : Hid _ := hfin
              replace hfl : Hid _ := hfl
              replace his2 : Hid _ := his2
              replace hK : Hid _ := hK
              replace hM : Hid _ := hM
              replace hL : Hid _ := hL
              clear hT
              have k1 : True := trivial
              go_wp2_with (first
                | (clear k1; at_builtin; refine wpList_append_bytes _ rfl _ _ rfl w2.heap.size (.slice none 0 0) (.slice (some ⟨B, off, none⟩) 12 cap) [] hd rfl rfl (World.ownsRow_nil _ _ _ _) hu12 (by have := hl12.out; simp; omega) (Nat.le_refl _) ?_; intro v3 w3 hr3 hg3 _
                   rw [List.nil_append] at hr3; have hB3 : Below w2.heap.size w2 w3 := below_grown (World.ownsRow_nil w2 w2.heap.size 5 1) (Nat.le_refl _) hg3; obtain ⟨q3, c3, e3⟩ := own_shape hr3; rw [hl12.out] at e3; subst e3; have k2 : True := trivial)
                | (clear k2; at_builtin; refine wpList_append_bytes _ rfl _ _ rfl w2.heap.size (.slice q3 12 c3) (.slice (some ⟨B, off + 16, none⟩) Z (cap - 16)) hd body rfl rfl hr3 (hmb.out _ (hBb.trans (hB3.mono hBb.size))) (by have := hl4.out; have := hLb.out; rw [List.length_append] at *; omega) hB3.size ?_; intro v4 w4 hr4 hg4 _
                   have hB4 : Below w2.heap.size w2 w4 := hB3.trans (below_grown hr3 hB3.size hg4); clear hr3 hB3
                   obtain ⟨g, c, e4, hgc, hcm⟩ := own_some hr4 (by have := hl12.out; rw [List.length_append]; omega); rw [hl4.out] at e4 hgc; subst e4; have hBd := hBb.trans (hB4.mono hBb.size)))
              have hu4 := row_bytes hr4 hcat.out (by have := hl4.out; have := hLb.out; omega)
              have hof2 : Hid (∀ W, Below w4.heap.size w4 W → Calls Tryz.prog 78 #[.slice (some ⟨g, 0, none⟩) L c] W fun e w' => e = .returned (.int .u32 T) ∧ w' = W) := fun W hW => by
                have := ofR_any _ _ W (hu4.below hW)
                rw [hT3.out] at this; exact this
              clear hu4
              obtain ⟨P, hP, hpart⟩ : ∃ P, (if c = 12 then (some ⟨g, 0, none⟩ : Option Addr) else some ⟨g, 12, none⟩) = some ⟨g, P, none⟩ ∧ ∀ W : World, W.ownsRow w1.heap.size 5 1 (.slice (some ⟨g, 0, none⟩) L c) (hd ++ body).length (encB (hd ++ body)) → BytesIn W (.slice (some ⟨g, P, none⟩) Z (c - 12)) body := by
                by_cases hE : c = 12
                · refine ⟨0, if_pos hE, fun W _ => ?_⟩
                  have h1 : Z = 0 := by have := hL.out; omega
                  have h2 : body = [] := List.eq_nil_of_length_eq_zero (by rw [hZlen.out, h1])
                  rw [h1, h2]
                  exact ⟨by simp, by simp, .inr (.inl ⟨_, _, rfl, rfl⟩)⟩
                · refine ⟨12, if_neg hE, fun W hW => ?_⟩
                  have hu := row_bytes hW hcat.out (by have := hl4.out; have := hLb.out; omega)
                  rw [← hl4.out] at hu
                  have hmm := hu.mid 12 Z (c - 12) (by have := hl4.out; have := hL.out; omega)
                  rw [Nat.zero_add, List.drop_left' hl12.out, List.take_of_length_le (by rw [hZlen.out]; exact Nat.le_refl _)] at hmm
                  exact hmm
              have gc : (L : Int) ≤ (c : Int) := by omega
              have gc2 : (12 : Int) ≤ (c : Int) := by omega
              replace hpart : Hid _ := hpart
              have hr4h : Hid _ := hr4
              clear hr4
              by_cases hF2 : fin = sum4 T
              · have his2 := his2.out; rw [decide_eq_true hF2] at his2; replace his2 : Hid _ := his2
                have hF' : Hid _ := hF2
                clear hF2
                refine poised_whole (fun w' => Below w4.heap.size w4 w') (fun w w' => Below w.heap.size w w') (by kernel_rfl) (by kernel_rfl) (by kernel_rfl) (fun _ _ h k => h.trans (k.mono h.size)) ((Below.refl _ _).drew) ?_
                apply Exists.intro
                apply walk_det
                · rfl
                · intro w2 hC hF
                  simp only [upon]
                  go_simp
                  exact ⟨Below.refl _ _, rfl⟩
                simp only [put_lit, List.set_cons_succ, List.set_cons_zero]
                apply walk_det
                · rfl
                · intro w2 hC hF
                  simp only [upon]
                  go_simp
                  exact ⟨Below.refl _ _, rfl⟩
                simp only [put_lit, List.set_cons_succ, List.set_cons_zero]
                apply walk_det
                · rfl
                · intro w2 hC hF
                  simp only [upon]
                  go_simp
                  exact ⟨Below.refl _ _, rfl⟩
                simp only [put_lit, List.set_cons_succ, List.set_cons_zero]
                apply walk_det
                · rfl
                · intro w2 hC hF
                  simp only [upon]
                  go_simp
                  exact ⟨Below.refl _ _, rfl⟩
                simp only [put_lit, List.set_cons_succ, List.set_cons_zero]
                apply walk_det
                · rfl
                · intro w2 hC hF
                  simp only [upon]
                  go_simp
                  exact ⟨Below.refl _ _, rfl⟩
                simp only [put_lit, List.set_cons_succ, List.set_cons_zero]
                apply walk_det
                · rfl
                · intro w2 hC hF
                  simp only [upon]
                  go_simp
                  exact ⟨Below.refl _ _, rfl⟩
                simp only [put_lit, List.set_cons_succ, List.set_cons_zero]
                apply walk_det
                · rfl
                · intro w2 hC hF
                  simp only [upon]
                  go_simp
                  exact ⟨Below.refl _ _, rfl⟩
                simp only [put_lit, List.set_cons_succ, List.set_cons_zero]
                apply walk_det
                · rfl
                · intro w2 hC hF
                  simp only [upon]
                  go_simp
                  exact still_call (hof2.out _ hC)
                simp only [put_lit, List.set_cons_succ, List.set_cons_zero]
                apply walk_det
                · rfl
                · intro w2 hC hF
                  simp only [upon]
                  go_simp
                  exact his2.out _ (hBd.trans (hC.mono hBd.size))
                simp only [put_lit, List.set_cons_succ, List.set_cons_zero]
                apply walk_det
                · rfl
                · intro w2 hC hF
                  simp only [upon]
                  go_simp
                  exact ⟨Below.refl _ _, rfl⟩
                simp only [put_lit, List.set_cons_succ, List.set_cons_zero]
                apply walk_nil
                intro w2 hC _
                have hBe := hBd.trans (hC.mono hBd.size)
                go_wp2_with fail
                go_returns
                refine ⟨?_, hBe⟩
                have hr5 := own_kept hr4h.out hC
                rw [hres.out, if_pos hgood.out, if_neg hT'.out, hK.out, hfin.out, hT2.out, if_pos hF'.out]
                refine ⟨_, ?_, _, _, own_le hr5 hBb.size, fun W hW => by rw [← hrc.out]; exact hpart.out W hW⟩
                rw [← hM.out]; rfl
              · have his2 := his2.out; rw [decide_eq_false hF2] at his2; replace his2 : Hid _ := his2
                have hF' : Hid _ := hF2
                clear hF2
                refine poised_whole (fun w' => Below w4.heap.size w4 w') (fun w w' => Below w.heap.size w w') (by kernel_rfl) (by kernel_rfl) (by kernel_rfl) (fun _ _ h k => h.trans (k.mono h.size)) ((Below.refl _ _).drew) ?_
                apply Exists.intro
                apply walk_det
                · rfl
                · intro w2 hC hF
                  simp only [upon]
                  go_simp
                  exact ⟨Below.refl _ _, rfl⟩
                simp only [put_lit, List.set_cons_succ, List.set_cons_zero]
                apply walk_det
                · rfl
                · intro w2 hC hF
                  simp only [upon]
                  go_simp
                  exact ⟨Below.refl _ _, rfl⟩
                simp only [put_lit, List.set_cons_succ, List.set_cons_zero]
                apply walk_det
                · rfl
                · intro w2 hC hF
                  simp only [upon]
                  go_simp
                  exact ⟨Below.refl _ _, rfl⟩
                simp only [put_lit, List.set_cons_succ, List.set_cons_zero]
                apply walk_det
                · rfl
                · intro w2 hC hF
                  simp only [upon]
                  go_simp
                  exact ⟨Below.refl _ _, rfl⟩
                simp only [put_lit, List.set_cons_succ, List.set_cons_zero]
                apply walk_det
                · rfl
                · intro w2 hC hF
                  simp only [upon]
                  go_simp
                  exact ⟨Below.refl _ _, rfl⟩
                simp only [put_lit, List.set_cons_succ, List.set_cons_zero]
                apply walk_det
                · rfl
                · intro w2 hC hF
                  simp only [upon]
                  go_simp
                  exact ⟨Below.refl _ _, rfl⟩
                simp only [put_lit, List.set_cons_succ, List.set_cons_zero]
                apply walk_det
                · rfl
                · intro w2 hC hF
                  simp only [upon]
                  go_simp
                  exact ⟨Below.refl _ _, rfl⟩
                simp only [put_lit, List.set_cons_succ, List.set_cons_zero]
                apply walk_det
                · rfl
                · intro w2 hC hF
                  simp only [upon]
                  go_simp
                  exact still_call (hof2.out _ hC)
                simp only [put_lit, List.set_cons_succ, List.set_cons_zero]
                apply walk_det
                · rfl
                · intro w2 hC hF
                  simp only [upon]
                  go_simp
                  exact his2.out _ (hBd.trans (hC.mono hBd.size))
                simp only [put_lit, List.set_cons_succ, List.set_cons_zero]
                apply walk_det
                · rfl
                · intro w2 hC hF
                  simp only [upon]
                  go_simp
                  exact ⟨Below.refl _ _, rfl⟩
                simp only [put_lit, List.set_cons_succ, List.set_cons_zero]
                apply walk_nil
                intro w2 hC _
                have hBe := hBd.trans (hC.mono hBd.size)
                go_wp2_with fail
                go_returns
                refine ⟨?_, hBe⟩
                rw [hres.out, if_pos hgood.out, if_neg hT'.out, hK.out, hfin.out, hT2.out, if_neg hF'.out]; rfl
          · have hA' : Hid _ := hZ2
            have g8 : (262144 : Int) < (Z : Int) := by omega
            have g9 : Z > 262144 := by omega
            clear hZ2 hNn hA
            refine poised_whole (fun w' => Below w1.heap.size w1 w') (fun w w' => Below w.heap.size w w') (by kernel_rfl) (by kernel_rfl) (by kernel_rfl) (fun _ _ h k => h.trans (k.mono h.size)) ((Below.refl _ _).drew) ?_
            apply Exists.intro
            apply walk_det
            · rfl
            · intro w2 hC hF
              simp only [upon]
              go_simp
              exact ⟨Below.refl _ _, rfl⟩
            simp only [put_lit, List.set_cons_succ, List.set_cons_zero]
            apply walk_det
            · rfl
            · intro w2 hC hF
              simp only [upon]
              go_simp
              exact ⟨Below.refl _ _, rfl⟩
            simp only [put_lit, List.set_cons_succ, List.set_cons_zero]
            apply walk_det
            · rfl
            · intro w2 hC hF
              simp only [upon]
              go_simp
              exact ⟨Below.refl _ _, rfl⟩
            simp only [put_lit, List.set_cons_succ, List.set_cons_zero]
            apply walk_det
            · rfl
            · intro w2 hC hF
              simp only [upon]
              go_simp
              exact ⟨Below.refl _ _, rfl⟩
            simp only [put_lit, List.set_cons_succ, List.set_cons_zero]
            apply walk_det
            · rfl
            · intro w2 hC hF
              simp only [upon]
              go_simp
              exact still_call (hof.out _ hC)
            simp only [put_lit, List.set_cons_succ, List.set_cons_zero]
            apply walk_det
            · rfl
            · intro w2 hC hF
              simp only [upon]
              go_simp
              exact his.out _ hC
            simp only [put_lit, List.set_cons_succ, List.set_cons_zero]
            apply walk_det
            · rfl
            · intro w2 hC hF
              simp only [upon]
              go_simp
              exact ⟨Below.refl _ _, rfl⟩
            simp only [put_lit, List.set_cons_succ, List.set_cons_zero]
            apply walk_det
            · rfl
            · intro w2 hC hF
              simp only [upon]
              go_simp
              exact ⟨Below.refl _ _, rfl⟩
            simp only [put_lit, List.set_cons_succ, List.set_cons_zero]
            apply walk_det
            · rfl
            · intro w2 hC hF
              simp only [upon]
              go_simp
              exact ⟨Below.refl _ _, rfl⟩
            simp only [put_lit, List.set_cons_succ, List.set_cons_zero]
            apply walk_det
            · rfl
            · intro w2 hC hF
              simp only [upon]
              go_simp
              exact ⟨Below.refl _ _, rfl⟩
            simp only [put_lit, List.set_cons_succ, List.set_cons_zero]
            apply walk_det
            · rfl
            · intro w2 hC hF
              have hcc := hc4.out _ hC
              simp only [upon]
              go_simp
              exact ⟨Below.refl _ _, rfl⟩
            simp only [put_lit, List.set_cons_succ, List.set_cons_zero]
            apply walk_det
            · rfl
            · intro w2 hC hF
              simp only [upon]
              go_simp
              exact ⟨Below.refl _ _, rfl⟩
            simp only [put_lit, List.set_cons_succ, List.set_cons_zero]
            apply walk_det
            · rfl
            · intro w2 hC hF
              simp only [upon]
              go_simp
              exact ⟨Below.refl _ _, rfl⟩
            simp only [put_lit, List.set_cons_succ, List.set_cons_zero]
            apply walk_det
            · rfl
            · intro w2 hC hF
              simp only [upon]
              go_simp
              exact ⟨Below.refl _ _, rfl⟩
            simp only [put_lit, List.set_cons_succ, List.set_cons_zero]
            apply walk_det
            · rfl
            · intro w2 hC hF
              simp only [upon]
              go_simp
              exact ⟨Below.refl _ _, rfl⟩
            simp only [put_lit, List.set_cons_succ, List.set_cons_zero]
            apply walk_det
            · rfl
            · intro w2 hC hF
              simp only [upon]
              go_simp
              exact ⟨Below.refl _ _, rfl⟩
            simp only [put_lit, List.set_cons_succ, List.set_cons_zero]
            apply walk_det
            · rfl
            · intro w2 hC hF
              simp only [upon]
              go_simp
              exact still_call (hto8.out _ hC)
            simp only [put_lit, List.set_cons_succ, List.set_cons_zero]
            apply walk_det
            · rfl
            · intro w2 hC hF
              simp only [upon]
              go_simp
              exact ⟨Below.refl _ _, rfl⟩
            simp only [put_lit, List.set_cons_succ, List.set_cons_zero]
            apply walk_det
            · rfl
            · intro w2 hC hF
              simp only [upon]
              go_simp
              exact ⟨Below.refl _ _, rfl⟩
            simp only [put_lit, List.set_cons_succ, List.set_cons_zero]
            apply walk_det
            · rfl
            · intro w2 hC hF
              simp only [upon]
              go_simp
              exact ⟨Below.refl _ _, rfl⟩
            simp only [put_lit, List.set_cons_succ, List.set_cons_zero]
            apply walk_det
            · rfl
            · intro w2 hC hF
              simp only [upon]
              go_simp
              exact ⟨Below.refl _ _, rfl⟩
            simp only [put_lit, List.set_cons_succ, List.set_cons_zero]
            apply walk_det
            · rfl
            · intro w2 hC hF
              simp only [upon]
              go_simp
              exact ⟨Below.refl _ _, rfl⟩
            simp only [put_lit, List.set_cons_succ, List.set_cons_zero]
            apply walk_det
            · rfl
            · intro w2 hC hF
              simp only [upon]
              go_simp
              exact ⟨Below.refl _ _, rfl⟩
            simp only [put_lit, List.set_cons_succ, List.set_cons_zero]
            apply walk_det
            · rfl
            · intro w2 hC hF
              simp only [upon]
              go_simp
              exact ⟨Below.refl _ _, rfl⟩
            simp only [put_lit, List.set_cons_succ, List.set_cons_zero]
            apply walk_nil
            intro w2 hC _
            have hBb := hC
            clear hC
            go_wp2_with fail
            go_returns
            refine ⟨?_, hBb⟩
            rw [hres.out, if_neg (fun h => hA'.out h.2.2)]; rfl
        · have hA' : Hid _ := hNn
          have g7 : ¬ (N : Int) = (n : Int) := by omega
          have g7' : ¬ N = n := hNn
          have g7'' : ((N : Int) != (n : Int)) = true := by simp; omega
          clear hNn hA
          refine poised_whole (fun w' => Below w1.heap.size w1 w') (fun w w' => Below w.heap.size w w') (by kernel_rfl) (by kernel_rfl) (by kernel_rfl) (fun _ _ h k => h.trans (k.mono h.size)) ((Below.refl _ _).drew) ?_
          apply Exists.intro
          apply walk_det
          · rfl
          · intro w2 hC hF
            simp only [upon]
            go_simp
            exact ⟨Below.refl _ _, rfl⟩
          simp only [put_lit, List.set_cons_succ, List.set_cons_zero]
          apply walk_det
          · rfl
          · intro w2 hC hF
            simp only [upon]
            go_simp
            exact ⟨Below.refl _ _, rfl⟩
          simp only [put_lit, List.set_cons_succ, List.set_cons_zero]
          apply walk_det
          · rfl
          · intro w2 hC hF
            simp only [upon]
            go_simp
            exact ⟨Below.refl _ _, rfl⟩
          simp only [put_lit, List.set_cons_succ, List.set_cons_zero]
          apply walk_det
          · rfl
          · intro w2 hC hF
            simp only [upon]
            go_simp
            exact ⟨Below.refl _ _, rfl⟩
          simp only [put_lit, List.set_cons_succ, List.set_cons_zero]
          apply walk_det
          · rfl
          · intro w2 hC hF
            simp only [upon]
            go_simp
            exact still_call (hof.out _ hC)
          simp only [put_lit, List.set_cons_succ, List.set_cons_zero]
          apply walk_det
          · rfl
          · intro w2 hC hF
            simp only [upon]
            go_simp
            exact his.out _ hC
          simp only [put_lit, List.set_cons_succ, List.set_cons_zero]
          apply walk_det
          · rfl
          · intro w2 hC hF
            simp only [upon]
            go_simp
            exact ⟨Below.refl _ _, rfl⟩
          simp only [put_lit, List.set_cons_succ, List.set_cons_zero]
          apply walk_det
          · rfl
          · intro w2 hC hF
            simp only [upon]
            go_simp
            exact ⟨Below.refl _ _, rfl⟩
          simp only [put_lit, List.set_cons_succ, List.set_cons_zero]
          apply walk_det
          · rfl
          · intro w2 hC hF
            simp only [upon]
            go_simp
            exact ⟨Below.refl _ _, rfl⟩
          simp only [put_lit, List.set_cons_succ, List.set_cons_zero]
          apply walk_det
          · rfl
          · intro w2 hC hF
            simp only [upon]
            go_simp
            exact ⟨Below.refl _ _, rfl⟩
          simp only [put_lit, List.set_cons_succ, List.set_cons_zero]
          apply walk_det
          · rfl
          · intro w2 hC hF
            have hcc := hc4.out _ hC
            simp only [upon]
            go_simp
            exact ⟨Below.refl _ _, rfl⟩
          simp only [put_lit, List.set_cons_succ, List.set_cons_zero]
          apply walk_det
          · rfl
          · intro w2 hC hF
            simp only [upon]
            go_simp
            exact ⟨Below.refl _ _, rfl⟩
          simp only [put_lit, List.set_cons_succ, List.set_cons_zero]
          apply walk_det
          · rfl
          · intro w2 hC hF
            simp only [upon]
            go_simp
            exact ⟨Below.refl _ _, rfl⟩
          simp only [put_lit, List.set_cons_succ, List.set_cons_zero]
          apply walk_det
          · rfl
          · intro w2 hC hF
            simp only [upon]
            go_simp
            exact ⟨Below.refl _ _, rfl⟩
          simp only [put_lit, List.set_cons_succ, List.set_cons_zero]
          apply walk_det
          · rfl
          · intro w2 hC hF
            simp only [upon]
            go_simp
            exact ⟨Below.refl _ _, rfl⟩
          simp only [put_lit, List.set_cons_succ, List.set_cons_zero]
          apply walk_det
          · rfl
          · intro w2 hC hF
            simp only [upon]
            go_simp
            exact ⟨Below.refl _ _, rfl⟩
          simp only [put_lit, List.set_cons_succ, List.set_cons_zero]
          apply walk_det
          · rfl
          · intro w2 hC hF
            simp only [upon]
            go_simp
            exact still_call (hto8.out _ hC)
          simp only [put_lit, List.set_cons_succ, List.set_cons_zero]
          apply walk_det
          · rfl
          · intro w2 hC hF
            simp only [upon]
            go_simp
            exact ⟨Below.refl _ _, rfl⟩
          simp only [put_lit, List.set_cons_succ, List.set_cons_zero]
          apply walk_det
          · rfl
          · intro w2 hC hF
            simp only [upon]
            go_simp
            exact ⟨Below.refl _ _, rfl⟩
          simp only [put_lit, List.set_cons_succ, List.set_cons_zero]
          apply walk_det
          · rfl
          · intro w2 hC hF
            simp only [upon]
            go_simp
            exact ⟨Below.refl _ _, rfl⟩
          simp only [put_lit, List.set_cons_succ, List.set_cons_zero]
          apply walk_det
          · rfl
          · intro w2 hC hF
            simp only [upon]
            go_simp
            exact ⟨Below.refl _ _, rfl⟩
          simp only [put_lit, List.set_cons_succ, List.set_cons_zero]
          apply walk_skip
          · rfl
          simp only [put_lit, List.set_cons_succ, List.set_cons_zero]
          apply walk_skip
          · rfl
          simp only [put_lit, List.set_cons_succ, List.set_cons_zero]
          apply walk_det
          · rfl
          · intro w2 hC hF
            simp only [upon]
            go_simp
            exact ⟨Below.refl _ _, rfl⟩
          simp only [put_lit, List.set_cons_succ, List.set_cons_zero]
          apply walk_nil
          intro w2 hC _
          have hBb := hC
          clear hC
          go_wp2_with fail
          go_returns
          refine ⟨?_, hBb⟩
          rw [hres.out, if_neg (fun h => hA'.out h.2.1)]; rfl
      · have gz2 : (0 : Int) < (x4 : Int) := by omega
        have gz3 : 0 < x4 := by omega
        have hA' : Hid (¬ N = n) := by show ¬ _; have := hN0.out; omega
        clear hA
        refine poised_whole (fun w' => Below w1.heap.size w1 w') (fun w w' => Below w.heap.size w w') (by kernel_rfl) (by kernel_rfl) (by kernel_rfl) (fun _ _ h k => h.trans (k.mono h.size)) ((Below.refl _ _).drew) ?_
        apply Exists.intro
        apply walk_det
        · rfl
        · intro w2 hC hF
          simp only [upon]
          go_simp
          exact ⟨Below.refl _ _, rfl⟩
        simp only [put_lit, List.set_cons_succ, List.set_cons_zero]
        apply walk_det
        · rfl
        · intro w2 hC hF
          simp only [upon]
          go_simp
          exact ⟨Below.refl _ _, rfl⟩
        simp only [put_lit, List.set_cons_succ, List.set_cons_zero]
        apply walk_det
        · rfl
        · intro w2 hC hF
          simp only [upon]
          go_simp
          exact ⟨Below.refl _ _, rfl⟩
        simp only [put_lit, List.set_cons_succ, List.set_cons_zero]
        apply walk_det
        · rfl
        · intro w2 hC hF
          simp only [upon]
          go_simp
          exact ⟨Below.refl _ _, rfl⟩
        simp only [put_lit, List.set_cons_succ, List.set_cons_zero]
        apply walk_det
        · rfl
        · intro w2 hC hF
          simp only [upon]
          go_simp
          exact still_call (hof.out _ hC)
        simp only [put_lit, List.set_cons_succ, List.set_cons_zero]
        apply walk_det
        · rfl
        · intro w2 hC hF
          simp only [upon]
          go_simp
          exact his.out _ hC
        simp only [put_lit, List.set_cons_succ, List.set_cons_zero]
        apply walk_det
        · rfl
        · intro w2 hC hF
          simp only [upon]
          go_simp
          exact ⟨Below.refl _ _, rfl⟩
        simp only [put_lit, List.set_cons_succ, List.set_cons_zero]
        apply walk_det
        · rfl
        · intro w2 hC hF
          simp only [upon]
          go_simp
          exact ⟨Below.refl _ _, rfl⟩
        simp only [put_lit, List.set_cons_succ, List.set_cons_zero]
        apply walk_det
        · rfl
        · intro w2 hC hF
          simp only [upon]
          go_simp
          exact ⟨Below.refl _ _, rfl⟩
        simp only [put_lit, List.set_cons_succ, List.set_cons_zero]
        apply walk_det
        · rfl
        · intro w2 hC hF
          simp only [upon]
          go_simp
          exact ⟨Below.refl _ _, rfl⟩
        simp only [put_lit, List.set_cons_succ, List.set_cons_zero]
        apply walk_det
        · rfl
        · intro w2 hC hF
          have hcc := hc4.out _ hC
          simp only [upon]
          go_simp
          exact ⟨Below.refl _ _, rfl⟩
        simp only [put_lit, List.set_cons_succ, List.set_cons_zero]
        apply walk_det
        · rfl
        · intro w2 hC hF
          simp only [upon]
          go_simp
          exact ⟨Below.refl _ _, rfl⟩
        simp only [put_lit, List.set_cons_succ, List.set_cons_zero]
        apply walk_det
        · rfl
        · intro w2 hC hF
          simp only [upon]
          go_simp
          exact ⟨Below.refl _ _, rfl⟩
        simp only [put_lit, List.set_cons_succ, List.set_cons_zero]
        apply walk_det
        · rfl
        · intro w2 hC hF
          simp only [upon]
          go_simp
          exact ⟨Below.refl _ _, rfl⟩
        simp only [put_lit, List.set_cons_succ, List.set_cons_zero]
        apply walk_skip
        · rfl
        simp only [put_lit, List.set_cons_succ, List.set_cons_zero]
        apply walk_skip
        · rfl
        simp only [put_lit, List.set_cons_succ, List.set_cons_zero]
        apply walk_skip
        · rfl
        simp only [put_lit, List.set_cons_succ, List.set_cons_zero]
        apply walk_skip
        · rfl
        simp only [put_lit, List.set_cons_succ, List.set_cons_zero]
        apply walk_skip
        · rfl
        simp only [put_lit, List.set_cons_succ, List.set_cons_zero]
        apply walk_det
        · rfl
        · intro w2 hC hF
          simp only [upon]
          go_simp
          exact ⟨Below.refl _ _, rfl⟩
        simp only [put_lit, List.set_cons_succ, List.set_cons_zero]
        apply walk_det
        · rfl
        · intro w2 hC hF
          simp only [upon]
          go_simp
          exact ⟨Below.refl _ _, rfl⟩
        simp only [put_lit, List.set_cons_succ, List.set_cons_zero]
        apply walk_skip
        · rfl
        simp only [put_lit, List.set_cons_succ, List.set_cons_zero]
        apply walk_skip
        · rfl
        simp only [put_lit, List.set_cons_succ, List.set_cons_zero]
        apply walk_det
        · rfl
        · intro w2 hC hF
          simp only [upon]
          go_simp
          exact ⟨Below.refl _ _, rfl⟩
        simp only [put_lit, List.set_cons_succ, List.set_cons_zero]
        apply walk_nil
        intro w2 hC _
        have hBb := hC
        clear hC
        go_wp2_with fail
        go_returns
        refine ⟨?_, hBb⟩
        rw [hres.out, if_neg (fun h => hA'.out h.2.1)]; rfl
    · have his := his.out; rw [decide_eq_false hA] at his; replace his : Hid _ := his
      have hA' : Hid _ := hA
      clear hA
      refine poised_whole (fun w' => Below w1.heap.size w1 w') (fun w w' => Below w.heap.size w w') (by kernel_rfl) (by kernel_rfl) (by kernel_rfl) (fun _ _ h k => h.trans (k.mono h.size)) ((Below.refl _ _).drew) ?_
      apply Exists.intro
      apply walk_det
      · rfl
      · intro w2 hC hF
        simp only [upon]
        go_simp
        exact ⟨Below.refl _ _, rfl⟩
      simp only [put_lit, List.set_cons_succ, List.set_cons_zero]
      apply walk_det
      · rfl
      · intro w2 hC hF
        simp only [upon]
        go_simp
        exact ⟨Below.refl _ _, rfl⟩
      simp only [put_lit, List.set_cons_succ, List.set_cons_zero]
      apply walk_det
      · rfl
      · intro w2 hC hF
        simp only [upon]
        go_simp
        exact ⟨Below.refl _ _, rfl⟩
      simp only [put_lit, List.set_cons_succ, List.set_cons_zero]
      apply walk_det
      · rfl
      · intro w2 hC hF
        simp only [upon]
        go_simp
        exact ⟨Below.refl _ _, rfl⟩
      simp only [put_lit, List.set_cons_succ, List.set_cons_zero]
      apply walk_det
      · rfl
      · intro w2 hC hF
        simp only [upon]
        go_simp
        exact still_call (hof.out _ hC)
      simp only [put_lit, List.set_cons_succ, List.set_cons_zero]
      apply walk_det
      · rfl
      · intro w2 hC hF
        simp only [upon]
        go_simp
        exact his.out _ hC
      simp only [put_lit, List.set_cons_succ, List.set_cons_zero]
      apply walk_det
      · rfl
      · intro w2 hC hF
        simp only [upon]
        go_simp
        exact ⟨Below.refl _ _, rfl⟩
      simp only [put_lit, List.set_cons_succ, List.set_cons_zero]
      apply walk_det
      · rfl
      · intro w2 hC hF
        simp only [upon]
        go_simp
        exact ⟨Below.refl _ _, rfl⟩
      simp only [put_lit, List.set_cons_succ, List.set_cons_zero]
      apply walk_skip
      · rfl
      simp only [put_lit, List.set_cons_succ, List.set_cons_zero]
      apply walk_skip
      · rfl
      simp only [put_lit, List.set_cons_succ, List.set_cons_zero]
      apply walk_skip
      · rfl
      simp only [put_lit, List.set_cons_succ, List.set_cons_zero]
      apply walk_skip
      · rfl
      simp only [put_lit, List.set_cons_succ, List.set_cons_zero]
      apply walk_det
      · rfl
      · intro w2 hC hF
        simp only [upon]
        go_simp
        exact ⟨Below.refl _ _, rfl⟩
      simp only [put_lit, List.set_cons_succ, List.set_cons_zero]
      apply walk_det
      · rfl
      · intro w2 hC hF
        simp only [upon]
        go_simp
        exact ⟨Below.refl _ _, rfl⟩
      simp only [put_lit, List.set_cons_succ, List.set_cons_zero]
      apply walk_skip
      · rfl
      simp only [put_lit, List.set_cons_succ, List.set_cons_zero]
      apply walk_skip
      · rfl
      simp only [put_lit, List.set_cons_succ, List.set_cons_zero]
      apply walk_skip
      · rfl
      simp only [put_lit, List.set_cons_succ, List.set_cons_zero]
      apply walk_skip
      · rfl
      simp only [put_lit, List.set_cons_succ, List.set_cons_zero]
      apply walk_skip
      · rfl
      simp only [put_lit, List.set_cons_succ, List.set_cons_zero]
      apply walk_det
      · rfl
      · intro w2 hC hF
        simp only [upon]
        go_simp
        exact ⟨Below.refl _ _, rfl⟩
      simp only [put_lit, List.set_cons_succ, List.set_cons_zero]
      apply walk_det
      · rfl
      · intro w2 hC hF
        simp only [upon]
        go_simp
        exact ⟨Below.refl _ _, rfl⟩
      simp only [put_lit, List.set_cons_succ, List.set_cons_zero]
      apply walk_skip
      · rfl
      simp only [put_lit, List.set_cons_succ, List.set_cons_zero]
      apply walk_skip
      · rfl
      simp only [put_lit, List.set_cons_succ, List.set_cons_zero]
      apply walk_det
      · rfl
      · intro w2 hC hF
        simp only [upon]
        go_simp
        exact ⟨Below.refl _ _, rfl⟩
      simp only [put_lit, List.set_cons_succ, List.set_cons_zero]
      apply walk_nil
      intro w2 hC _
      have hBb := hC
      clear hC
      go_wp2_with fail
      go_returns
      refine ⟨?_, hBb⟩
      rw [hres.out, if_neg (fun h => hA'.out h.1)]; rfl
end Go.Proofs.YtmcmagplaflegaaGreat

namespace Go.Proofs.YtmcmagplaflegaaGreat
open Go Go.RowKit Go.MapL Go.Poised
variable {n₀ : Nat}

structure PartsAt (w : World) (n₀ : Nat) (u : Value) (L : List (Value × List Nat)) : Prop where
  row : w.ownsRow n₀ 23 1 u L.length (L.map (·.1))
  each : ∀ q ∈ L, PartAt w n₀ q.1 q.2
theorem PartAt.below {w w' : World} {v : Value} {l : List Nat} (h : PartAt w n₀ v l) (hb : Below w.heap.size w w') : PartAt w' n₀ v l := by
  obtain ⟨u, ys, h1, h2⟩ := h
  exact ⟨u, ys, own_kept h1 hb, h2⟩
theorem PartAt.less {w : World} {m : Nat} {v : Value} {l : List Nat} (h : PartAt w m v l) (hm : n₀ ≤ m) (_ : w.ownsRow m 5 1 (.slice none 0 0) 0 [] := World.ownsRow_nil _ _ _ _) : ∃ (u : Value) (ys : List Nat), w.ownsRow n₀ 5 1 u ys.length (encB ys) ∧ ∀ W : World, W.ownsRow m 5 1 u ys.length (encB ys) → BytesIn W v l := by
  obtain ⟨u, ys, h1, h2⟩ := h
  exact ⟨u, ys, own_le h1 hm, h2⟩
theorem PartsAt.nil (w : World) (n₀ : Nat) : PartsAt w n₀ (.slice none 0 0) [] := ⟨World.ownsRow_nil _ _ _ _, by simp⟩
theorem PartsAt.below {w w' : World} {u : Value} {L : List (Value × List Nat)} (h : PartsAt w n₀ u L) (hb : Below w.heap.size w w') : PartsAt w' n₀ u L := ⟨own_kept h.row hb, fun q hq => (h.each q hq).below hb⟩
theorem PartsAt.push {w w' : World} {u u' v : Value} {b : List Nat} {L : List (Value × List Nat)} (h : PartsAt w n₀ u L) (hv : PartAt w n₀ v b) (hr : w'.ownsRow n₀ 23 1 u' (L.length + 1) (L.map (·.1) ++ [v])) (hg : w.grownBy w' u.ownBlock) : PartsAt w' n₀ u' (L ++ [(v, b)]) := by
  have key : ∀ (x : Value) (l : List Nat), PartAt w n₀ x l → PartAt w' n₀ x l := by
    rintro x l ⟨z, ys, h1, h2⟩
    exact ⟨z, ys, row_same h1 (fun g hg2 => hg.block g (h1.lt g hg2).2 (fun e => sorts h.row h1 e.symm hg2)), h2⟩
  refine ⟨by simpa using hr, fun q hq => ?_⟩
  rcases List.mem_append.1 hq with hq | hq
  · exact key _ _ (h.each q hq)
  · rw [List.mem_singleton] at hq; subst hq; exact key _ _ hv
/-- What lies in a row of a world behind lies in ours. -/
theorem PartAt.lower {w : World} {m : Nat} {v : Value} {l : List Nat} (h : PartAt w m v l) (hm : n₀ ≤ m) (hu : ∀ (u : Value) (ys : List Nat) (W : World), w.ownsRow m 5 1 u ys.length (encB ys) → W.ownsRow n₀ 5 1 u ys.length (encB ys) → W.ownsRow m 5 1 u ys.length (encB ys)) : PartAt w n₀ v l := by
  obtain ⟨u, ys, h1, h2⟩ := h
  exact ⟨u, ys, own_le h1 hm, fun W hW => h2 W (hu u ys W h1 hW)⟩
theorem own_up {w W : World} {m : Nat} {u : Value} {k : Nat} {xs : List Value} (h : w.ownsRow m 5 1 u k xs) (hW : W.ownsRow n₀ 5 1 u k xs) : W.ownsRow m 5 1 u k xs := by
  rcases hW.2 with h2 | ⟨g, c, cu, e1, h3, h4⟩
  · exact ⟨hW.1, .inl h2⟩
  · refine ⟨hW.1, .inr ⟨g, c, cu, e1, ?_, h4⟩⟩
    exact (h.lt g (by rw [e1]; rfl)).1
def RecsR (w w' : World) (e : Ending) : Option (List (List Nat) × Nat) → Prop
  | none => e = .returned (.tuple #[.slice none 0 0, .int .i64 0, .int .i64 70])
  | some (l, c) => ∃ u L, e = .returned (.tuple #[u, .int .i64 c, .int .i64 0]) ∧ PartsAt w' w.heap.size u L ∧ L.map (·.2) = l
set_option maxRecDepth 100000 in
set_option maxHeartbeats 8000000 in
theorem recsR_any (b : List Nat) (v : Value) (w0 : World) (hv : BytesIn w0 v b) (hcap : ∃ p cap, v = .slice p b.length cap ∧ b.length ≤ cap) (hlen : b.length ≤ 140737488355328) :
    Calls Tryz.prog 29 #[v] w0 fun e w' => RecsR w0 w' e (recs b) ∧ Below w0.heap.size w0 w' := by
  obtain ⟨i23, hi23, hz23, hs23, hb23⟩ := info_parts info23
  obtain ⟨p, cap, rfl, hcap⟩ := hcap
  obtain ⟨res, hres⟩ : ∃ res, recs b = res := ⟨_, rfl⟩
  rw [hres]
  replace hres : Hid _ := hres
  replace hz23 : Hid _ := hz23
  replace hs23 : Hid _ := hs23
  replace hb23 : Hid _ := hb23
  replace hlen : Hid _ := hlen
  have hll := hv.2.1
  replace hv : Hid _ := hv
  go_enter Tryz.func29, Tryz.ntmps29
  go_wp2_with fail
  go_loopw [6, 5] (fun z y wr => ∃ (L : List (Value × List Nat)) (k c : Nat), z = .int .i64 c ∧ c ≤ b.length ∧ 20 * L.length ≤ c ∧ PartsAt wr w0.heap.size y L ∧ Below w0.heap.size w0 wr ∧ b.length - c ≤ k ∧ Hid (recs b = behind (L.map (·.2)) c (recsOf k (b.drop c) (L.length + 1)))) (fun z _ _ => b.length - (intOf z).toNat)
  case atStart => exact ⟨[], b.length, 0, rfl, by omega, by simp, PartsAt.nil _ _, Below.refl _ _, by omega, by show _ = _; simp [behind, recs]⟩
  case round =>
    obtain ⟨L, k, c, rfl, hcl, hL20, hL, hB, hk, hrec⟩ := hrel
    by_cases h0 : c = b.length
    · have hend : Hid (res = some (L.map (·.2), c)) := by
        show _ = _
        rw [← hres.out, hrec.out, h0, List.drop_length, recsOf_nil]; simp [behind]
      obtain ⟨uq, ucap, rfl⟩ := own_shape hL.row
      clear hrec
      have g0 : ¬ (c : Int) < (b.length : Int) := by omega
      replace h0 : Hid _ := h0
      go_wp2_with fail
      go_returns
      rw [hend.out]
      exact ⟨⟨_, L, rfl, hL, rfl⟩, hB⟩
    · obtain ⟨B, off, rfl⟩ : ∃ B off, p = some ⟨B, off, none⟩ := by
        rcases hv.out.2.2 with ⟨_, h⟩ | ⟨a, c2, _, h⟩ | ⟨b2, off2, c2, e, _⟩
        · subst h; simp at hcl h0; exact absurd hcl h0
        · subst h; simp at hcl h0; exact absurd hcl h0
        · cases e; exact ⟨_, _, rfl⟩
      obtain ⟨k, rfl⟩ : ∃ k', k = k' + 1 := ⟨k - 1, by omega⟩
      obtain ⟨N, hN⟩ : ∃ N, L.length + 1 = N := ⟨_, rfl⟩
      have hlo := hlen.out
      obtain ⟨rest, hrest⟩ : ∃ rest, b.drop c = rest := ⟨_, rfl⟩
      have hrl : rest.length = b.length - c := by rw [← hrest, List.length_drop]
      have hvr : BytesIn wr (.slice (some ⟨B, off + c, none⟩) rest.length (cap - c)) rest := by
        have := (BytesIn.below hv.out hB).mid c (b.length - c) (cap - c) (by omega)
        rw [List.take_of_length_le (by simp), hrest] at this
        rw [hrl]; exact this
      have h1 := oneR_any rest B (off + c) (cap - c) N wr hvr (by omega) (by omega) (by omega)
      rw [hrl] at h1
      have g0 : (c : Int) < (b.length : Int) := by omega
      have g1 : ¬ cap = c := by omega
      have g2 : (c : Int) ≤ (b.length : Int) := by omega
      have gN : (L.length : Int) + 1 = (N : Int) := by omega
      have gw : IntKind.i64.wrap (N : Int) = (N : Int) := IntWalk.i64_in _ (by omega)
      obtain ⟨uq, ucap, rfl⟩ := own_shape hL.row
      rw [hN, hrest] at hrec
      unfold recsOf at hrec
      rw [if_neg (by omega)] at hrec
      clear hvr
      rcases ho : oneRes rest N with _ | _ | size
      · rw [ho] at h1
        have hend : Hid (res = none) := by
          show _ = _
          rw [← hres.out, hrec.out, ho]; rfl
        replace hrec : Hid _ := hrec
        replace hN : Hid _ := hN
        replace ho : Hid _ := ho
        replace hrest : Hid _ := hrest
        replace hrl : Hid _ := hrl
        go_wp2_with (go_at_call 80; refine h1.mono ?_; clear h1; rintro e w1 ⟨rfl, hb1⟩)
        go_returns
        rw [hend.out]
        exact ⟨rfl, hB.trans (hb1.mono hB.size)⟩
      · rw [ho] at h1
        have hend : Hid (res = some (L.map (·.2), c)) := by
          show _ = _
          rw [← hres.out, hrec.out, ho]; simp [behind]
        replace hrec : Hid _ := hrec
        replace hN : Hid _ := hN
        replace ho : Hid _ := ho
        replace hrest : Hid _ := hrest
        replace hrl : Hid _ := hrl
        go_wp2_with (go_at_call 80; refine h1.mono ?_; clear h1; rintro e w1 ⟨rfl, hb1⟩)
        go_returns
        rw [hend.out]
        exact ⟨⟨_, L, rfl, hL.below hb1, rfl⟩, hB.trans (hb1.mono hB.size)⟩
      · rw [ho] at h1
        have hsz := oneRes_size ho
        have hrec2 : Hid (recs b = behind (L.map (·.2) ++ [recOf rest size]) (c + (20 + size)) (recsOf k (rest.drop (20 + size)) (N + 1))) := by
          show _ = _
          rw [hrec.out, ho]; exact behind_step _ _ _ _ _
        clear hrec
        have hrl2 : (recOf rest size).length = size := recOf_len hsz
        obtain ⟨M, hM⟩ : ∃ M, 20 + size = M := ⟨_, rfl⟩
        obtain ⟨E, hE⟩ : ∃ E, c + M = E := ⟨_, rfl⟩
        have gM : (c : Int) + (M : Int) = (E : Int) := by omega
        have gw2 : IntKind.i64.wrap (E : Int) = (E : Int) := IntWalk.i64_in _ (by omega)
        replace hE : Hid _ := hE
        have gz : ¬ (M : Int) = 0 := by omega
        have gz2 : ¬ M = 0 := by omega
        simp only [OneR, hM] at h1
        replace hM : Hid _ := hM
        replace hN : Hid _ := hN
        replace ho : Hid _ := ho
        replace hrest : Hid _ := hrest
        replace hrl : Hid _ := hrl
        replace hrl2 : Hid _ := hrl2
        replace hsz : Hid _ := hsz
        go_wp2_with (first
          | (go_at_call 80; refine h1.mono ?_; clear h1; rintro e w1 ⟨⟨v, rfl, hpart⟩, hb1⟩
             have hpv : ∃ q vc, v = .slice q size vc := by
               obtain ⟨u, ys, h5, h6⟩ := hpart
               obtain ⟨q, vc, e, _⟩ := bytes_parts (h6 _ h5)
               rw [hrl2.out] at e
               exact ⟨q, vc, e⟩
             obtain ⟨vq, vcap, rfl⟩ := hpv
             have hL1 := hL.below (hb1.trans ((Below.refl _ _).alloc hb1.size (.cells #[.slice vq size vcap] 23))))
          | (at_builtin; refine wpList_append_far _ rfl _ _ 53 23 i23 (.slice none 0 0) rfl Tryz.underlying53 hi23 hz23.out hs23.out hb23.out rfl w0.heap.size (.slice uq L.length ucap) (.slice vq size vcap) L.length (L.map (·.1)) w1.heap.size rfl rfl hL1.row (cell_new1 _ _ _) (by simp [Value.oneCell']) (by omega) (by have := hB.size; have := hb1.size; simp; omega) ?_; intro v' w2 hown2 hgrow hwhere))
        go_roundw
        case rel =>
          have hM' := hM.out
          have hE' := hE.out
          have hsz' := hsz.out
          have hal := (Below.refl w1.heap.size w1).alloc (Nat.le_refl _) (.cells #[.slice vq size vcap] 23)
          have hB1 := hB.trans ((hb1.trans (hal.mono hb1.size)).mono hB.size)
          have hp1 : PartAt w1 w0.heap.size (.slice vq size vcap) (recOf rest size) := hpart.lower hB.size (fun u ys W h5 hW => own_up h5 hW)
          have hrl' := hrl.out
          refine ⟨L ++ [(.slice vq size vcap, recOf rest size)], k, E, rfl, by omega, ?_, hL1.push (hp1.below hal) hown2 hgrow, hB1.trans (below_grown hL1.row hB1.size hgrow), by omega, ?_⟩
          · rw [List.length_append, List.length_singleton]; omega
          · show _ = _
            rw [hrec2.out, List.map_append, List.length_append, List.length_singleton, hN.out, ← hrest.out, List.drop_drop, hM', hE']; rfl
        case measure =>
          have hM' := hM.out
          have hE' := hE.out
          have hsz' := hsz.out
          have hrl' := hrl.out
          simp [intOf]; omega
end Go.Proofs.YtmcmagplaflegaaGreat

namespace Go.Proofs.YtmcmagplaflegaaGreat
open Go Go.RowKit Go.MapL Go.Poised

set_option maxRecDepth 100000 in
set_option maxHeartbeats 2000000 in
theorem copyBytes_any (v : Value) (l : List Nat) (w : World) (hv : BytesIn w v l) (hl : l.length ≤ 140737488355328) :
    Calls Tryz.prog 25 #[v] w fun e w' => ∃ v', e = .returned v' ∧ w'.ownsRow w.heap.size 5 1 v' l.length (encB l) ∧ Below w.heap.size w w' := by
  have hv0 := hv
  obtain ⟨p, cap, rfl, _⟩ := bytes_parts hv
  go_enter Tryz.func25, Tryz.ntmps25
  go_wp2_with (at_builtin; refine wpList_append_bytes _ rfl _ _ rfl w.heap.size (.slice none 0 0) (.slice p l.length cap) [] l rfl rfl (World.ownsRow_nil _ _ _ _) hv0 (by simp; omega) (Nat.le_refl _) ?_; intro v' w' hr hg _; rw [List.nil_append] at hr; have hB : Below w.heap.size w w' := below_grown (World.ownsRow_nil w w.heap.size 5 1) (Nat.le_refl _) hg)
  go_returns
  exact ⟨_, rfl, hr, hB⟩
/-- A list of rows, to be read. -/
structure ListIn (w : World) (u : Value) (L : List (Value × List Nat)) : Prop where
  shape : ∃ p cap, u = .slice p L.length cap ∧ ∀ k (hk : k < L.length), ∃ B off, p = some ⟨B, off, none⟩ ∧ w.cell? ⟨B, off + k, none⟩ = some L[k].1
  each : ∀ q ∈ L, BytesIn w q.1 q.2
  len : L.length ≤ 9223372036854775807
theorem ListIn.below {w w' : World} {u : Value} {L : List (Value × List Nat)} (h : ListIn w u L) (hb : Below w.heap.size w w') : ListIn w' u L := by
  obtain ⟨p, cap, rfl, hc⟩ := h.shape
  refine ⟨⟨p, cap, rfl, fun k hk => ?_⟩, fun q hq => (h.each q hq).below hb, h.len⟩
  obtain ⟨B, off, rfl, hcc⟩ := hc k hk
  exact ⟨B, off, rfl, (hb.cell (p := ⟨B, off + k, none⟩) (lt_of_cell hcc)).trans hcc⟩
theorem own_list {w : World} {n : Nat} {u : Value} {L : List (Value × List Nat)} (h : w.ownsRow n 23 1 u L.length (L.map (·.1))) (he : ∀ q ∈ L, BytesIn w q.1 q.2) : ListIn w u L := by
  rcases h.2 with ⟨rfl, h0⟩ | ⟨g, c, cu, rfl, h3, h4, h5, h6, h7⟩
  · exact ⟨⟨none, 0, by rw [h0], fun k hk => by omega⟩, he, by omega⟩
  · refine ⟨⟨_, c, rfl, fun k hk => ⟨g, 0, rfl, ?_⟩⟩, he, by simp only [maxLen] at h6; omega⟩
    have := h.cells (g := g) rfl k L[k].1 (by simp [hk])
    rw [Addr.add_lit] at this
    exact this
theorem alike_step {L M : List (Value × List Nat)} (k : Nat) (h1 : k < L.length) (h2 : k < M.length) (ht : (L.take k).map (·.2) = (M.take k).map (·.2)) (he : L[k].2 = M[k].2) : (L.take (k + 1)).map (·.2) = (M.take (k + 1)).map (·.2) := by
  rw [take_snocL L k h1, take_snocL M k h2, List.map_append, List.map_append, ht]
  simp [he]
theorem alike_not {L M : List (Value × List Nat)} (k : Nat) (h1 : k < L.length) (h2 : k < M.length) (he : ¬ L[k].2 = M[k].2) : decide (L.map (·.2) = M.map (·.2)) = false := by
  rw [decide_eq_false_iff_not]
  intro h
  have e : (L.map (·.2))[k]? = (M.map (·.2))[k]? := by rw [h]
  simp [h1, h2] at e
  exact he e
set_option maxRecDepth 100000 in
set_option maxHeartbeats 4000000 in
theorem same_any (u v : Value) (L M : List (Value × List Nat)) (w : World) (hu : ListIn w u L) (hv : ListIn w v M) :
    Calls Tryz.prog 31 #[u, v] w fun e w' => e = .returned (.bool (decide (L.map (·.2) = M.map (·.2)))) ∧ Below w.heap.size w w' := by
  obtain ⟨p, cap, rfl, hc⟩ := hu.shape
  obtain ⟨q, qcap, rfl, hd⟩ := hv.shape
  have hl1 := hu.len
  have hl2 := hv.len
  by_cases hlen : L.length = M.length
  · have hne : ((L.length : Int) != (M.length : Int)) = false := by simp [hlen]
    have Hlen : Hid (L.length = M.length) := hlen
    clear hlen
    replace hu : Hid _ := hu
    replace hv : Hid _ := hv
    replace hc : Hid _ := hc
    replace hd : Hid _ := hd
    go_enter Tryz.func31, Tryz.ntmps31
    go_wp2_with fail
    go_loopw [5] (fun i wr => ∃ k : Nat, k ≤ L.length ∧ i = .int .i64 k ∧ (L.take k).map (·.2) = (M.take k).map (·.2) ∧ Below w.heap.size w wr) (fun i _ => L.length - (intOf i).toNat)
    case atStart => exact ⟨0, by omega, rfl, by simp, Below.refl _ _⟩
    case round =>
      obtain ⟨k, hk, rfl, ht, hB⟩ := hrel
      have Ht : Hid _ := ht
      clear ht
      by_cases hlt : k < L.length
      · have hlt2 : k < M.length := by have := Hlen.out; omega
        obtain ⟨B, off, rfl, hcb⟩ := hc.out k hlt
        obtain ⟨B', off', rfl, hdb⟩ := hd.out k hlt2
        have hcell := (hB.cell (p := ⟨B, off + k, none⟩) (lt_of_cell hcb)).trans hcb
        have hdell := (hB.cell (p := ⟨B', off' + k, none⟩) (lt_of_cell hdb)).trans hdb
        have hx := (hu.out.each L[k] (List.getElem_mem hlt)).below hB
        have hy := (hv.out.each M[k] (List.getElem_mem hlt2)).below hB
        have hst : Hid _ := alike_step k hlt hlt2 Ht.out
        have hno : Hid _ := alike_not (L := L) (M := M) k hlt hlt2
        clear hcb hdb Ht
        generalize L[k] = x at *
        generalize M[k] = y at *
        obtain ⟨xv, xb⟩ := x
        obtain ⟨yv, yb⟩ := y
        simp only at hx hy hcell hdell
        have hBd := (Below.refl wr.heap.size wr).drew
        have h1 := run_string_of wr.drew xv xb (hx.below hBd)
        have h2 := run_string_of wr.drew yv yb (hy.below hBd)
        have k1 : (0 : Int) ≤ (k : Int) := by omega
        have k2 : (k : Int) < (L.length : Int) := by omega
        have k3 : (k : Int) < (M.length : Int) := by omega
        by_cases hxy : xb = yb
        · have hb : ((txt xb).toList != (txt yb).toList) = false := by rw [hxy]; simp
          have hb2 : ((txt xb).toList == (txt yb).toList) = true := by rw [hxy]; simp
          have Hxy : Hid (xb = yb) := hxy
          clear hxy hx hy
          generalize txt xb = s1 at *
          generalize txt yb = s2 at *
          go_wp2_with fail
          go_region
          go_wp2_with fail
          go_roundw
          case rel => exact ⟨k + 1, by omega, by go_num, hst.out Hxy.out, hB.drew⟩
          case measure => simp [intOf]; omega
        · have hb2 : ((txt xb).toList == (txt yb).toList) = false := by
            rw [← beq_toListBytes]
            cases hb : (txt xb == txt yb)
            · rfl
            · exact absurd (strOfNums_inj xb yb hx.1 hy.1 ((MapKept.bytes_beq _ _).1 hb)) hxy
          have hb : ((txt xb).toList != (txt yb).toList) = true := by simp only [bne, hb2]; rfl
          have Hxy : Hid (¬ xb = yb) := hxy
          clear hxy hx hy
          generalize txt xb = s1 at *
          generalize txt yb = s2 at *
          go_wp2_with fail
          go_region
          go_wp2_with fail
          go_returns
          exact ⟨by rw [hno.out Hxy.out]; rfl, hB.drew⟩
      · obtain rfl : k = L.length := by omega
        have hend : Hid (decide (L.map (·.2) = M.map (·.2)) = true) := by
          show _ = _
          have h1 := Ht.out
          rw [List.take_length, Hlen.out, List.take_length] at h1
          exact decide_eq_true h1
        go_wp2_with fail
        go_returns
        exact ⟨by rw [hend.out]; rfl, hB⟩
  · have hne : ((L.length : Int) != (M.length : Int)) = true := by simp; omega
    have hend : Hid (decide (L.map (·.2) = M.map (·.2)) = false) := by
      show _ = _
      rw [decide_eq_false_iff_not]
      intro h
      have := congrArg List.length h
      simp at this
      exact hlen this
    clear hc hd hu hv
    go_enter Tryz.func31, Tryz.ntmps31
    go_wp2_with fail
    go_returns
    exact ⟨by rw [hend.out]; rfl, Below.refl _ _⟩
end Go.Proofs.YtmcmagplaflegaaGreat

namespace Go.Proofs.YtmcmagplaflegaaGreat
open Go Go.RowKit Go.MapL Go.Poised

/-- A journal: its disk, how many, how many kept, broken. -/
def JnlAt (w : World) (J d many kept : Nat) (br : Bool) : Prop := w.heap[J]? = some (.cells #[ofBlock d, .int .i64 many, .int .i64 kept, .bool br] 134)
theorem JnlAt.below {w w' : World} {J d many kept : Nat} {br : Bool} (h : JnlAt w J d many kept br) (hb : Below w.heap.size w w') : JnlAt w' J d many kept br :=
  (hb.block J (Array.getElem?_eq_some_iff.1 h).1).trans h
set_option maxRecDepth 100000 in
set_option maxHeartbeats 2000000 in
theorem shut_any (w : World) (J d many kept : Nat) (br : Bool) (h : JnlAt w J d many kept br) :
    Calls Tryz.prog 89 #[ofBlock J] w fun e w' => e = .returned (.int .i64 (if br = true then 51 else 0)) ∧ w' = w := by
  obtain ⟨x0, x1, x2, x3⟩ := cells4 h
  clear h
  unfold ofBlock at *
  cases br
  all_goals
    go_enter Tryz.func89, Tryz.ntmps89
    go_wp2_with fail
    go_returns
    exact ⟨rfl, rfl⟩
set_option maxRecDepth 100000 in
set_option maxHeartbeats 2000000 in
theorem len_any (w : World) (J d many kept : Nat) (br : Bool) (h : JnlAt w J d many kept br) :
    Calls Tryz.prog 127 #[ofBlock J] w fun e w' => e = .returned (.int .i64 (if br = true then 0 else many)) ∧ w' = w := by
  have hs := shut_any w J d many kept br h
  obtain ⟨x0, x1, x2, x3⟩ := cells4 h
  clear h
  unfold ofBlock at *
  cases br
  · simp only [Bool.false_eq_true, if_false] at hs ⊢
    go_enter Tryz.func127, Tryz.ntmps127
    go_wp2_with (go_at_call 89; refine hs.mono ?_; clear hs; rintro e w' ⟨rfl, rfl⟩)
    go_returns
    exact ⟨rfl, rfl⟩
  · simp only [if_true] at hs ⊢
    go_enter Tryz.func127, Tryz.ntmps127
    go_wp2_with (go_at_call 89; refine hs.mono ?_; clear hs; rintro e w' ⟨rfl, rfl⟩)
    go_returns
    exact ⟨rfl, rfl⟩
set_option maxRecDepth 100000 in
set_option maxHeartbeats 2000000 in
theorem kept_any (w : World) (J d many kept : Nat) (br : Bool) (h : JnlAt w J d many kept br) :
    Calls Tryz.prog 128 #[ofBlock J] w fun e w' => e = .returned (.int .i64 (if br = true then 0 else kept)) ∧ w' = w := by
  have hs := shut_any w J d many kept br h
  obtain ⟨x0, x1, x2, x3⟩ := cells4 h
  clear h
  unfold ofBlock at *
  cases br
  · simp only [Bool.false_eq_true, if_false] at hs ⊢
    go_enter Tryz.func128, Tryz.ntmps128
    go_wp2_with (go_at_call 89; refine hs.mono ?_; clear hs; rintro e w' ⟨rfl, rfl⟩)
    go_returns
    exact ⟨rfl, rfl⟩
  · simp only [if_true] at hs ⊢
    go_enter Tryz.func128, Tryz.ntmps128
    go_wp2_with (go_at_call 89; refine hs.mono ?_; clear hs; rintro e w' ⟨rfl, rfl⟩)
    go_returns
    exact ⟨rfl, rfl⟩
set_option maxRecDepth 100000 in
set_option maxHeartbeats 2000000 in
theorem after_fine (w : World) (J : Nat) (x : Int) (hx : x = 0 ∨ x = 52) :
    Calls Tryz.prog 90 #[ofBlock J, .int .i64 x] w fun e w' => e = .returned (.int .i64 x) ∧ w' = w := by
  unfold ofBlock
  rcases hx with rfl | rfl
  all_goals
    go_enter Tryz.func90, Tryz.ntmps90
    go_wp2_with fail
    go_returns
    exact ⟨rfl, rfl⟩
set_option maxRecDepth 100000 in
set_option maxHeartbeats 2000000 in
theorem after_broken (w : World) (J d many kept : Nat) (br : Bool) (x : Int) (h : JnlAt w J d many kept br) (h1 : ¬ x = 0) (h2 : ¬ x = 52) :
    Calls Tryz.prog 90 #[ofBlock J, .int .i64 x] w fun e w' => e = .returned (.int .i64 51) ∧ JnlAt w' J d many kept true ∧ Grown (fun k => k = J) w w' := by
  obtain ⟨x0, x1, x2, x3⟩ := cells4 h
  have hf := free_of h 3
  have hne1 : (x != 0) = true := by simpa using h1
  have hne2 : (x != 52) = true := by simpa using h2
  have hj := h
  replace hj : Hid _ := hj
  clear h
  unfold ofBlock at *
  go_enter Tryz.func90, Tryz.ntmps90
  go_wp2_with fail
  go_returns
  refine ⟨rfl, ?_, (Grown.refl (fun k => k = J) w).setCell (p := ⟨J, 3, none⟩) (.inl rfl) _⟩
  exact (setCell_heap hj.out).trans rfl
end Go.Proofs.YtmcmagplaflegaaGreat

namespace Go.Proofs.YtmcmagplaflegaaGreat
open Go Go.RowKit Go.MapL Go.Poised

theorem alikeM_step {L : List (Value × List Nat)} {M : List (List Nat)} (k : Nat) (h1 : k < L.length) (h2 : k < M.length) (ht : (L.take k).map (·.2) = M.take k) (he : L[k].2 = M[k]) : (L.take (k + 1)).map (·.2) = M.take (k + 1) := by
  rw [take_snocL L k h1, take_snocL M k h2, List.map_append, ht]
  simp [he]
theorem alikeM_not {L : List (Value × List Nat)} {M : List (List Nat)} (k : Nat) (h1 : k < L.length) (h2 : k < M.length) (he : ¬ L[k].2 = M[k]) : decide (L.map (·.2) = M) = false := by
  rw [decide_eq_false_iff_not]
  intro h
  have e : (L.map (·.2))[k]? = M[k]? := by rw [h]
  simp [h1, h2] at e
  exact he e
set_option maxRecDepth 100000 in
set_option maxHeartbeats 4000000 in
theorem has_any (u : Value) (L : List (Value × List Nat)) (M : List (List Nat)) (B' qcap : Nat) (w : World) (hu : ListIn w u L) (hv : w.heap[B']? = some (.cells (M.map fun l => Value.string (txt l)).toArray 9)) (hM : ∀ l ∈ M, ∀ x ∈ l, x < 256) (hl2 : M.length ≤ 1000) :
    Calls Tryz.prog 82 #[u, .slice (some ⟨B', 0, none⟩) M.length qcap] w fun e w' => e = .returned (.bool (decide (L.map (·.2) = M))) ∧ Below w.heap.size w w' := by
  obtain ⟨p, cap, rfl, hc⟩ := hu.shape
  have hd : ∀ k (hk : k < M.length), w.cell? ⟨B', k, none⟩ = some (.string (txt M[k])) := fun k hk => by simp [World.cell?, hv, hk]
  have hBl := (Array.getElem?_eq_some_iff.1 hv).1
  have hl1 := hu.len
  by_cases hlen : L.length = M.length
  · have hne : ((L.length : Int) != (M.length : Int)) = false := by simp [hlen]
    have Hlen : Hid (L.length = M.length) := hlen
    clear hlen
    replace hu : Hid _ := hu
    replace hM : Hid _ := hM
    clear hv
    replace hc : Hid _ := hc
    replace hd : Hid _ := hd
    go_enter Tryz.func82, Tryz.ntmps82
    go_wp2_with fail
    go_loopw [5] (fun i wr => ∃ k : Nat, k ≤ L.length ∧ i = .int .i64 k ∧ (L.take k).map (·.2) = M.take k ∧ Below w.heap.size w wr) (fun i _ => L.length - (intOf i).toNat)
    case atStart => exact ⟨0, by omega, rfl, by simp, Below.refl _ _⟩
    case round =>
      obtain ⟨k, hk, rfl, ht, hB⟩ := hrel
      have Ht : Hid _ := ht
      clear ht
      by_cases hlt : k < L.length
      · have hlt2 : k < M.length := by have := Hlen.out; omega
        obtain ⟨B, off, rfl, hcb⟩ := hc.out k hlt
        have hdb := hd.out k hlt2
        have hcell := (hB.cell (p := ⟨B, off + k, none⟩) (lt_of_cell hcb)).trans hcb
        have hdell := (hB.cell (p := ⟨B', k, none⟩) hBl).trans hdb
        have hx := (hu.out.each L[k] (List.getElem_mem hlt)).below hB
        have hy := hM.out M[k] (List.getElem_mem hlt2)
        have hst : Hid _ := alikeM_step k hlt hlt2 Ht.out
        have hno : Hid _ := alikeM_not (L := L) (M := M) k hlt hlt2
        clear hcb hdb Ht
        generalize L[k] = x at *
        generalize M[k] = yb at *
        obtain ⟨xv, xb⟩ := x
        simp only at hx hy hcell hdell
        have hBd := (Below.refl wr.heap.size wr).drew
        have h1 := run_string_of wr.drew xv xb (hx.below hBd)
        have k1 : (0 : Int) ≤ (k : Int) := by omega
        have k2 : (k : Int) < (L.length : Int) := by omega
        have k3 : (k : Int) < (M.length : Int) := by omega
        by_cases hxy : xb = yb
        · have hb : ((txt xb).toList != (txt yb).toList) = false := by rw [hxy]; simp
          have hb2 : ((txt xb).toList == (txt yb).toList) = true := by rw [hxy]; simp
          have Hxy : Hid (xb = yb) := hxy
          clear hxy hx hy
          generalize txt xb = s1 at *
          generalize txt yb = s2 at *
          go_wp2_with fail
          go_region
          go_wp2_with fail
          go_roundw
          case rel => exact ⟨k + 1, by omega, by go_num, hst.out Hxy.out, hB.drew⟩
          case measure => simp [intOf]; omega
        · have hb2 : ((txt xb).toList == (txt yb).toList) = false := by
            rw [← beq_toListBytes]
            cases hb : (txt xb == txt yb)
            · rfl
            · exact absurd (strOfNums_inj xb yb hx.1 hy ((MapKept.bytes_beq _ _).1 hb)) hxy
          have hb : ((txt xb).toList != (txt yb).toList) = true := by simp only [bne, hb2]; rfl
          have Hxy : Hid (¬ xb = yb) := hxy
          clear hxy hx hy
          generalize txt xb = s1 at *
          generalize txt yb = s2 at *
          go_wp2_with fail
          go_region
          go_wp2_with fail
          go_returns
          exact ⟨by rw [hno.out Hxy.out]; rfl, hB.drew⟩
      · obtain rfl : k = L.length := by omega
        have hend : Hid (decide (L.map (·.2) = M) = true) := by
          show _ = _
          have h1 := Ht.out
          rw [List.take_length, Hlen.out, List.take_length] at h1
          exact decide_eq_true h1
        go_wp2_with fail
        go_returns
        exact ⟨by rw [hend.out]; rfl, hB⟩
  · have hne : ((L.length : Int) != (M.length : Int)) = true := by simp; omega
    have hend : Hid (decide (L.map (·.2) = M) = false) := by
      show _ = _
      rw [decide_eq_false_iff_not]
      intro h
      have := congrArg List.length h
      simp at this
      exact hlen this
    clear hc hd hu hv
    go_enter Tryz.func82, Tryz.ntmps82
    go_wp2_with fail
    go_returns
    exact ⟨by rw [hend.out]; rfl, Below.refl _ _⟩
end Go.Proofs.YtmcmagplaflegaaGreat

namespace Go.Proofs.YtmcmagplaflegaaGreat
open Go Go.RowKit Go.MapL Go.Poised
variable {n₀ : Nat}

/-- A byte stored anywhere leaves a row of bytes a row. -/
theorem store_row {w : World} {v : Value} {ys : List Nat} {g k x : Nat} (hx : x < 256) (h : w.ownsRow n₀ 5 1 v ys.length (encB ys)) (hys : ∀ y ∈ ys, y < 256) :
    ∃ zs : List Nat, zs.length = ys.length ∧ (∀ z ∈ zs, z < 256) ∧ (w.setCell ⟨g, k, none⟩ (.int .u8 (x : Nat))).ownsRow n₀ 5 1 v zs.length (encB zs) := by
  rcases h.2 with h2 | ⟨g2, c, cu, rfl, h3, h4, h5, h6, h7, h8⟩
  · exact ⟨ys, rfl, hys, h.1, .inl h2⟩
  · by_cases e : g2 = g
    · subst e
      refine ⟨ys.set k x, by simp, fun z hz => ?_, ?_⟩
      · rcases List.mem_or_eq_of_mem_set hz with hz | rfl
        · exact hys z hz
        · exact hx
      · refine ⟨by simp [encB], .inr ⟨g2, c, cu.setIfInBounds k (.int .u8 (x : Nat)), by simp, h3, setCell_heap h4, by simpa using h5, h6, by simpa using h7, ?_⟩⟩
        simp only [Array.toList_setIfInBounds, List.length_set]
        rw [List.take_set, h8]
        unfold encB
        rw [List.map_set]
    · refine ⟨ys, rfl, hys, row_same h (fun k2 hk2 => ?_)⟩
      have hG : Grown (fun k => k = g) w (w.setCell ⟨g, k, none⟩ (.int .u8 (x : Nat))) := (Grown.refl (fun k => k = g) w).setCell (p := ⟨g, k, none⟩) (.inl rfl) _
      exact hG.block k2 (h.lt k2 hk2).2 (fun e2 => e (by cases hk2; exact e2))
/-- Rows of bytes of these lengths, of a list. -/
structure LensAt (w : World) (n₀ : Nat) (u : Value) (L : List (Value × List Nat)) : Prop where
  row : w.ownsRow n₀ 23 1 u L.length (L.map (·.1))
  each : ∀ q ∈ L, ∃ ys : List Nat, ys.length = q.2.length ∧ (∀ y ∈ ys, y < 256) ∧ w.ownsRow n₀ 5 1 q.1 ys.length (encB ys)
theorem LensAt.store {w : World} {u v : Value} {L : List (Value × List Nat)} {g k x : Nat} {m : Nat} {ys : List Nat} (h : LensAt w n₀ u L) (hx : x < 256) (hg : w.ownsRow m 5 1 v ys.length (encB ys)) (hv : v.ownBlock = some g) : LensAt (w.setCell ⟨g, k, none⟩ (.int .u8 (x : Nat))) n₀ u L := by
  have hG : Grown (fun k => k = g) w (w.setCell ⟨g, k, none⟩ (.int .u8 (x : Nat))) := (Grown.refl (fun k => k = g) w).setCell (p := ⟨g, k, none⟩) (.inl rfl) _
  refine ⟨row_same h.row (fun k2 hk2 => hG.block k2 (h.row.lt k2 hk2).2 (fun e => sorts h.row hg hk2 (by rw [hv, e]))), fun q hq => ?_⟩
  obtain ⟨zs, h1, h2, h3⟩ := h.each q hq
  obtain ⟨ts, h4, h5, h6⟩ := store_row (g := g) (k := k) hx h3 h2
  exact ⟨ts, by omega, h5, h6⟩
theorem LensAt.drew {w : World} {u : Value} {L : List (Value × List Nat)} (h : LensAt w n₀ u L) : LensAt w.drew n₀ u L := by
  have hb := (Below.refl w.heap.size w).drew
  exact ⟨own_kept h.row hb, fun q hq => by obtain ⟨ys, h1, h2, h3⟩ := h.each q hq; exact ⟨ys, h1, h2, own_kept h3 hb⟩⟩
def listOf : Option (List (List Nat) × Nat) → List (List Nat)
  | none => []
  | some x => x.1
def endOf : Option (List (List Nat) × Nat) → Nat
  | none => 0
  | some x => x.2
def codeOf : Option (List (List Nat) × Nat) → Int
  | none => 70
  | some _ => 0
theorem RecsIs.all {w w' : World} {e : Ending} {r : Option (List (List Nat) × Nat)} (h : RecsIs w w' e r) : ∃ u L, e = .returned (.tuple #[u, .int .i64 (endOf r), .int .i64 (codeOf r)]) ∧ RowsAt w' w.heap.size u L ∧ L.map (·.2) = listOf r := by
  cases r with
  | none => exact ⟨_, [], h, RowsAt.nil _ _, rfl⟩
  | some x => obtain ⟨l, c⟩ := x; exact h
theorem RecsR.all {w w' : World} {e : Ending} {r : Option (List (List Nat) × Nat)} (h : RecsR w w' e r) : ∃ u L, e = .returned (.tuple #[u, .int .i64 (endOf r), .int .i64 (codeOf r)]) ∧ PartsAt w' w.heap.size u L ∧ L.map (·.2) = listOf r := by
  cases r with
  | none => exact ⟨_, [], h, PartsAt.nil _ _, rfl⟩
  | some x => obtain ⟨l, c⟩ := x; exact h
theorem RowsAt.list {w : World} {u : Value} {L : List (Value × List Nat)} (h : RowsAt w n₀ u L) (hb : ∀ q ∈ L, ∀ x ∈ q.2, x < 256) (hl : ∀ q ∈ L, q.2.length ≤ 262144) : ListIn w u L :=
  own_list h.row (fun q hq => row_bytes (h.each q hq) (hb q hq) (by have := hl q hq; omega))
theorem PartsAt.list {w : World} {u : Value} {L : List (Value × List Nat)} (h : PartsAt w n₀ u L) : ListIn w u L :=
  own_list h.row (fun q hq => by obtain ⟨z, ys, h1, h2⟩ := h.each q hq; exact h2 _ h1)
theorem RowsAt.lens {w : World} {u : Value} {L : List (Value × List Nat)} (h : RowsAt w n₀ u L) (hb : ∀ q ∈ L, ∀ x ∈ q.2, x < 256) : LensAt w n₀ u L :=
  ⟨h.row, fun q hq => ⟨q.2, rfl, hb q hq, h.each q hq⟩⟩
end Go.Proofs.YtmcmagplaflegaaGreat

namespace Go.Proofs.YtmcmagplaflegaaGreat
open Go Go.RowKit Go.MapL Go.Poised

theorem oneRes_most {b : List Nat} {n size : Nat} (h : oneRes b n = some (some size)) : size ≤ 262144 := by
  unfold oneRes at h
  split at h
  · cases h
  · split at h
    · rename_i h2
      split at h
      · cases h
      · split at h
        · cases h; exact h2.2.2
        · cases h
    · cases h
theorem recsOf_bytes : ∀ (k : Nat) (b : List Nat) (n : Nat), (∀ x ∈ b, x < 256) → ∀ l ∈ listOf (recsOf k b n), (∀ x ∈ l, x < 256) ∧ l.length ≤ 262144
  | 0, _, _, _, l, h => by cases h
  | k + 1, b, n, hb, l, h => by
    unfold recsOf at h
    by_cases h0 : b.length = 0
    · rw [if_pos h0] at h; cases h
    · rw [if_neg h0] at h
      rcases ho : oneRes b n with _ | _ | size
      · rw [ho] at h; cases h
      · rw [ho] at h; cases h
      · rw [ho] at h
        have ih := recsOf_bytes k (b.drop (20 + size)) (n + 1) (fun x hx => hb x (List.mem_of_mem_drop hx))
        rcases hr : recsOf k (b.drop (20 + size)) (n + 1) with _ | y
        · simp only [hr] at h; cases h
        · simp only [hr] at h
          rw [hr] at ih
          rcases List.mem_cons.1 (show l ∈ recOf b size :: y.1 from h) with rfl | h
          · exact ⟨fun x hx => hb x (List.mem_of_mem_drop (List.mem_of_mem_take hx)), by rw [recOf_len (oneRes_size ho)]; exact oneRes_most ho⟩
          · exact ih l h
theorem own_copy {w : World} {n : Nat} {v : Value} {l : List Nat} (h : w.ownsRow n 5 1 v l.length (encB l)) : ∃ p cap, v = .slice p l.length cap ∧ l.length ≤ cap := by
  rcases h.2 with ⟨rfl, h0⟩ | ⟨g, c, cu, rfl, _, _, h5, _⟩
  · exact ⟨none, 0, by rw [h0], by omega⟩
  · exact ⟨_, c, rfl, h5⟩
theorem recRes_byte (n : Int) (b : List Nat) (hb : ∀ x ∈ b, x < 256) (hl : b.length ≤ 140737488355328) : (∀ x ∈ (recRes n b).1, x < 256) ∧ (recRes n b).1.length ≤ 1000000 := by
  unfold recRes
  split
  · exact ⟨by simp, by simp⟩
  · split
    · exact ⟨by simp, by simp⟩
    · exact ⟨recB_byte _ _ hb, by simp only; rw [recB_len]; omega⟩
set_option maxRecDepth 100000 in
set_option maxHeartbeats 16000000 in
theorem records_walk (haw : ∀ W, Calls Tryz.prog 32 #[] W fun e w' => e = .returned (.bool true) ∧ Below W.heap.size W w') (n : Int) (v1 v2 : Value) (b al : List Nat) (w : World) (h1 : -9223372036854775808 ≤ n) (h2 : n ≤ 9223372036854775807) (hv1 : BytesIn w v1 b) (hv2 : BytesIn w v2 al)
    (hc2 : ∃ p cap, v2 = .slice p al.length cap ∧ al.length ≤ cap) (hl1 : b.length ≤ 140737488355328) (hl2 : al.length ≤ 140737488355328) :
    Calls Tryz.prog 4 #[.int .i64 n, v1, v2] w fun e w' => e = .returned (.bool true) ∧ Below w.heap.size w w' := by
  obtain ⟨p1, cap1, rfl, _⟩ := bytes_parts hv1
  obtain ⟨p2, cap2, rfl, hcap2⟩ := hc2
  obtain ⟨hrb, hrl⟩ := recRes_byte n b hv1.1 hl1
  have hbs := recsOf_bytes al.length al 1 hv2.1
  have hcp1 := copyBytes_any _ b w hv1 hl1
  obtain ⟨X, hX⟩ : ∃ X, recRes n b = X := ⟨_, rfl⟩
  obtain ⟨xb, xc⟩ := X
  obtain ⟨r, hr⟩ : ∃ r, recs al = r := ⟨_, rfl⟩
  have hbs : ∀ l ∈ listOf r, (∀ x ∈ l, x < 256) ∧ l.length ≤ 262144 := by rw [← hr]; exact hbs
  have hrec := fun (v : Value) W (hv : BytesIn W v b) => record_any n v b W h1 h2 hv hl1
  have hrecR := fun (v : Value) W (hv : BytesIn W v b) => recordR_any n v b W h1 h2 hv hl1
  rw [hX] at hrb hrl
  simp only [hX] at hrec hrecR
  have hrcs := fun (v : Value) W (hv : BytesIn W v al) hc => recs_any al v W hv hc hl2
  have hrcsR := fun (v : Value) W (hv : BytesIn W v al) hc => recsR_any al v W hv hc hl2
  simp only [hr] at hrcs hrcsR
  have hcp2 := fun (v : Value) W (hv : BytesIn W v al) => copyBytes_any v al W hv hl2
  simp only at hrb hrl
  replace hX : Hid _ := hX
  replace hr : Hid _ := hr
  replace haw : Hid _ := haw
  replace hrec : Hid _ := hrec
  replace hrecR : Hid _ := hrecR
  replace hrcs : Hid _ := hrcs
  replace hrcsR : Hid _ := hrcsR
  replace hcp2 : Hid _ := hcp2
  replace hbs : Hid _ := hbs
  replace hrb : Hid _ := hrb
  have hv1' : Hid _ := hv1
  have hv2' : Hid _ := hv2
  have hbb : Hid _ := hv1.1
  have hab : Hid _ := hv2.1
  clear hv1 hv2
  have k1 : True := trivial
  go_enter Tryz.func4, Tryz.ntmps4
  go_wp2_with (first
    | (clear k1; go_at_call 25; refine hcp1.mono ?_; clear hcp1; rintro e w1 ⟨v3, rfl, hr3, hb1⟩; obtain ⟨p3, cap3, rfl, _⟩ := own_copy hr3; have k2 : True := trivial)
    | (clear k2; go_at_call 25; refine (hcp2.out _ _ (BytesIn.below hv2'.out hb1)).mono ?_; rintro e w2 ⟨v4, rfl, hr4, hb2⟩; obtain ⟨p4, cap4, rfl, hcap4⟩ := own_copy hr4
       have hr3' := own_kept hr3 hb2; have hB2 := hb1.trans (hb2.mono hb1.size); have k3 : True := trivial)
    | (clear k3; go_at_call 26; refine (hrec.out _ _ (bytesIn_of_own hr3' hbb.out (by omega))).mono ?_; rintro e w3 ⟨x, rfl, hr5, hb3⟩; obtain ⟨p5, cap5, rfl⟩ := own_shape hr5; have hB3 := hB2.trans (hb3.mono hB2.size); have k4 : True := trivial)
    | (clear k4; go_at_call 27; refine (hrecR.out _ _ (BytesIn.below hv1'.out hB3)).mono ?_; rintro e w4 ⟨y, rfl, hr6, hb4⟩; obtain ⟨p6, cap6, rfl⟩ := own_shape hr6; have hB4 := hB3.trans (hb4.mono hB3.size); have hr4' := own_kept hr4 (hb3.trans (hb4.mono hb3.size)); have k5 : True := trivial)
    | (clear k5; go_at_call 28; refine (hrcs.out _ _ (bytesIn_of_own hr4' hab.out (by omega)) ⟨_, _, rfl, hcap4⟩).mono ?_; rintro e w5 ⟨hR, hb5⟩; obtain ⟨u, L, rfl, hL, hLm⟩ := hR.all; obtain ⟨uq, ucap, rfl⟩ := own_shape hL.row; have hB5 := hB4.trans (hb5.mono hB4.size); have k6 : True := trivial)
    | (clear k6; go_at_call 29; refine (hrcsR.out _ _ (BytesIn.below hv2'.out hB5) ⟨_, _, rfl, hcap2⟩).mono ?_; rintro e w6 ⟨hR2, hb6⟩; obtain ⟨u2, M, rfl, hM, hMm⟩ := hR2.all; obtain ⟨u2q, u2cap, rfl⟩ := own_shape hM.row; have hB6 := hB5.trans (hb6.mono hB5.size)
       have hx6 := row_bytes (own_kept hr5 (hb4.trans ((hb5.trans (hb6.mono hb5.size)).mono hb4.size))) hrb.out (by omega)
       have hy6 := row_bytes (own_kept hr6 (hb5.trans (hb6.mono hb5.size))) hrb.out (by omega)
       have hq := eqBytes_any _ _ _ _ _ hx6 hy6; rw [decide_eq_true rfl] at hq; have k7 : True := trivial)
    | (clear k7; go_at_call 30; refine hq.mono ?_; clear hq; rintro e w7 ⟨rfl, hb7⟩
       have hLb : Hid (∀ q ∈ L, (∀ x ∈ q.2, x < 256) ∧ q.2.length ≤ 262144) := fun q hq => hbs.out q.2 (by rw [← hLm]; exact List.mem_map_of_mem hq)
       have hL7 := (hL.below hb6).below hb7
       have hs := same_any _ _ L M w7 (hL7.list (fun q hq => (hLb.out q hq).1) (fun q hq => (hLb.out q hq).2)) (hM.below hb7).list
       rw [decide_eq_true (hLm.trans hMm.symm)] at hs; have k8 : True := trivial)
    | (clear k8; go_at_call 31; refine hs.mono ?_; clear hs; rintro e w8 ⟨rfl, hb8⟩))
  have hL8 := hL7.below hb8
  have hN := hL8.lens (fun q hq => (hLb.out q hq).1)
  have hK : Below w4.heap.size w4 w8 := hb5.trans (((hb6.trans (hb7.mono hb6.size)).trans (hb8.mono (Nat.le_trans hb6.size hb7.size))).mono hb5.size)
  have hr3'' := own_kept hr3' (hb3.trans (hb4.mono hb3.size))
  have hll := hL8.row.1
  have hLlen : L.length ≤ 9223372036854775807 := (hL8.list (fun q hq => (hLb.out q hq).1) (fun q hq => (hLb.out q hq).2)).len
  clear hL7 hL8 hb5 hb6 hb7 hb8 hx6 hy6 hM hL hB5 hB6 hR hR2 hMm hr3' hr3 hr4 hb3 hb4 hb1 hb2 hB2 hB3 hr5 hr6 hbs
  replace hLm : Hid _ := hLm
  go_loopw [19, 20] (fun i z wr => ∃ k : Nat, k ≤ L.length ∧ i = .int .i64 k ∧ LensAt wr w4.heap.size (.slice uq L.length ucap) L ∧ Below w4.heap.size w4 wr) (fun i _ _ => L.length - (intOf i).toNat)
  case atStart => exact ⟨0, by omega, rfl, hN, hK⟩
  case round =>
    clear hN hK
    obtain ⟨k, hk, rfl, hN, hK⟩ := hrel
    rename World => wo
    by_cases hlt : k < L.length
    · have hlt' : (k : Int) < (L.length : Int) := by omega
      have k0 : (0 : Int) ≤ (k : Int) := by omega
      obtain ⟨ys0, hy0, _, _⟩ := hN.each L[k] (List.getElem_mem hlt)
      go_wp2_with fail
      go_loopw [20] (fun z wr => ∃ m : Nat, m ≤ L[k].2.length ∧ z = .int .i64 m ∧ LensAt wr w4.heap.size (.slice uq L.length ucap) L ∧ Below w4.heap.size w4 wr) (fun z _ => L[k].2.length - (intOf z).toNat)
      case atStart => exact ⟨0, by omega, rfl, hN, hK⟩
      case round =>
        clear hN hK
        obtain ⟨m, hm, rfl, hN, hK⟩ := hrel
        obtain ⟨g, hg⟩ : ∃ g, uq = some ⟨g, 0, none⟩ := by
          rcases hN.row.2 with ⟨_, h0⟩ | ⟨g, c, cu, e, _⟩
          · omega
          · cases e; exact ⟨g, rfl⟩
        subst hg
        have hcell : wr.cell? ⟨g, k, none⟩ = some L[k].1 := by
          have := hN.row.cells (g := g) rfl k L[k].1 (by simp [hlt])
          rw [Addr.add_lit, Nat.zero_add] at this
          exact this
        obtain ⟨ys, hy1, hy2, hy3⟩ := hN.each L[k] (List.getElem_mem hlt)
        have hyl2 : ys.length ≤ 262144 := by rw [hy1]; exact (hLb.out _ (List.getElem_mem hlt)).2
        obtain ⟨zq, zc, hz⟩ := own_shape hy3
        rw [hz] at hcell hy3
        rw [← hy1] at hm ⊢
        by_cases hmt : m < ys.length
        · obtain ⟨G, hG⟩ : ∃ G, zq = some ⟨G, 0, none⟩ := by
            rcases hy3.2 with ⟨_, h0⟩ | ⟨G, c, cu, e, _⟩
            · omega
            · cases e; exact ⟨G, rfl⟩
          subst hG
          have hmt' : (m : Int) < (ys.length : Int) := by omega
          have m0 : (0 : Int) ≤ (m : Int) := by omega
          have hdell : wr.cell? ⟨G, m, none⟩ = some (.int .u8 (ys.getD m 0 : Nat)) := by
            have := hy3.cells (g := G) rfl m _ (encB_get ys m hmt)
            rw [Addr.add_lit, Nat.zero_add] at this
            exact this
          have hyl : ys.getD m 0 < 256 := by rw [List.getD_eq_getElem?_getD, List.getElem?_eq_getElem hmt]; exact hy2 _ (List.getElem_mem hmt)
          have hxl : ys.getD m 0 ^^^ 1 < 256 := Nat.xor_lt_two_pow (n := 8) (by omega) (by omega)
          have gx := xor8 (ys.getD m 0) 1 hyl (by omega)
          have hS := hN.drew.store (k := m) hxl (own_kept hy3 (Below.refl wr.heap.size wr).drew) (g := G) rfl
          generalize ys.getD m 0 = y at *
          obtain ⟨yx, hyx⟩ : ∃ yx, y ^^^ 1 = yx := ⟨_, rfl⟩
          rw [hyx] at gx hS
          have hf : ∃ cu, wr.heap[G]? = some (.cells cu 5) := by
            rcases hy3.2 with ⟨e, h0⟩ | ⟨G2, c, cu, e, _, h4, _⟩
            · omega
            · cases e; exact ⟨cu, h4⟩
          obtain ⟨cu, hcu⟩ := hf
          have hfz := free_of hcu m
          have hGb : w4.heap.size ≤ G := (hy3.lt G rfl).1
          replace hz : Hid _ := hz
          replace hy1 : Hid _ := hy1
          replace hy0 : Hid _ := hy0
          replace hyx : Hid _ := hyx
          clear hcu hy2 hy3 hN
          have gx' : bits .xor .u8 (y : Int) 1 = (yx : Int) := gx
          go_wp2_with fail
          go_region
          go_wp2_with fail
          go_roundw
          case rel => exact ⟨m + 1, by have := hy1.out; omega, by go_num, hS, (hK.drew).setCell (p := ⟨G, m, none⟩) hGb _⟩
          case measure => have := hy1.out; simp [intOf]; omega
        · obtain rfl : m = ys.length := by omega
          replace hz : Hid _ := hz
          replace hy1 : Hid _ := hy1
          replace hy0 : Hid _ := hy0
          clear hy2 hy3
          go_wp2_with fail
          go_roundw
          case rel => exact ⟨k + 1, by omega, by go_num, hN, hK⟩
          case measure => simp [intOf]; omega
    · obtain rfl : k = L.length := by omega
      have hi := bytesIn_of_own (own_kept hr3'' hK) hbb.out (by omega)
      have hw := bytesIn_of_own (own_kept hr4' hK) hab.out (by omega)
      have hBo := hB4.trans (hK.mono hB4.size)
      have he1 := eqBytes_any _ _ b b wo hi (BytesIn.below hv1'.out hBo)
      have he2 := fun W (hW : Below wo.heap.size wo W) => eqBytes_any _ _ al al W (hw.below hW) ((BytesIn.below hv2'.out hBo).below hW)
      rw [decide_eq_true rfl] at he1
      simp only [decide_true] at he2
      replace he2 : Hid _ := he2
      clear hi hw
      have k1 : True := trivial
      go_wp2_with (first
        | (clear k1; go_at_call 30; refine he1.mono ?_; clear he1; rintro e w9 ⟨rfl, hb9⟩; have k2 : True := trivial)
        | (clear k2; go_at_call 30; refine (he2.out _ hb9).mono ?_; rintro e w10 ⟨rfl, hb10⟩; have k3 : True := trivial)
        | (clear k3; go_at_call 32; refine (haw.out _).mono ?_; rintro e w11 ⟨rfl, hb11⟩))
      go_returns
      have hB9 := hBo.trans (hb9.mono hBo.size)
      have hB10 := hB9.trans (hb10.mono hB9.size)
      exact ⟨rfl, hB10.trans (hb11.mono hB10.size)⟩
end Go.Proofs.YtmcmagplaflegaaGreat

namespace Go.Proofs.YtmcmagplaflegaaGreat
open Go Go.RowKit Go.MapL Go.Poised

/-- A list of texts, to be read. -/
def TextsIn (w : World) (v : Value) (S : List ByteArray) : Prop :=
  S.length ≤ 1000000000 ∧ ∃ p cap, v = .slice p S.length cap ∧ ∀ k (hk : k < S.length), ∃ B off, p = some ⟨B, off, none⟩ ∧ w.cell? ⟨B, off + k, none⟩ = some (.string S[k])
def isIn (x : ByteArray) (S : List ByteArray) : Bool := S.any fun y => decide (x = y)
theorem isIn_yes {x : ByteArray} {S : List ByteArray} (h : x ∈ S) : isIn x S = true := List.any_eq_true.2 ⟨x, h, decide_eq_true rfl⟩
theorem isIn_no {x : ByteArray} {S : List ByteArray} (h : ¬ x ∈ S) : isIn x S = false := by
  unfold isIn
  rw [List.any_eq_false]
  intro y hy
  simp only [decide_eq_true_eq]
  rintro rfl
  exact h hy
theorem text_eq (x y : ByteArray) : (x.toList == y.toList) = decide (x = y) := by
  rw [← beq_toListBytes]
  by_cases h : x = y
  · subst h; rw [decide_eq_true rfl]; exact (MapKept.bytes_beq _ _).2 rfl
  · rw [decide_eq_false h]
    cases hb : (x == y)
    · rfl
    · exact absurd ((MapKept.bytes_beq _ _).1 hb) h
set_option maxRecDepth 100000 in
set_option maxHeartbeats 2000000 in
theorem index_any (w : World) (v : Value) (S : List ByteArray) (x : ByteArray) (h : TextsIn w v S) :
    Calls Tryz.prog 129 #[v, .string x] w fun e w' => ∃ i : Int, e = .returned (.int .i64 i) ∧ decide (0 ≤ i) = isIn x S ∧ w' = w := by
  obtain ⟨hl, p, cap, rfl, hc⟩ := h
  replace hc : Hid _ := hc
  go_enter Tryz.func129, Tryz.ntmps129
  go_wp2_with fail
  go_loopw [8, 5] (fun i _ wr => ∃ k : Nat, k ≤ S.length ∧ i = .int .i64 k ∧ ¬ x ∈ S.take k ∧ wr = w) (fun i _ _ => S.length - (intOf i).toNat)
  case atStart => exact ⟨0, by omega, rfl, by simp, rfl⟩
  case round =>
    obtain ⟨k, hk, rfl, hno, rfl⟩ := hrel
    replace hno : Hid _ := hno
    by_cases hlt : k < S.length
    · obtain ⟨B, off, rfl, hcell⟩ := hc.out k hlt
      have hlt' : (k : Int) < (S.length : Int) := by omega
      have k0 : (0 : Int) ≤ (k : Int) := by omega
      have hst : Hid (¬ x = S[k] → ¬ x ∈ S.take (k + 1)) := fun hne hin => by
        rw [List.take_succ_eq_append_getElem hlt] at hin
        rcases List.mem_append.1 hin with hin | hin
        · exact hno.out hin
        · exact hne (List.mem_singleton.1 hin)
      have hyes : Hid (x = S[k] → x ∈ S) := fun he => by rw [he]; exact List.getElem_mem hlt
      have ht := text_eq x S[k]
      generalize S[k] = y at *
      by_cases hxy : x = y
      · rw [decide_eq_true hxy] at ht
        have Hxy : Hid (x = y) := hxy
        clear hxy
        go_wp2_with fail
        go_returns
        exact ⟨_, rfl, by rw [isIn_yes (hyes.out Hxy.out)]; simp, rfl⟩
      · rw [decide_eq_false hxy] at ht
        have Hxy : Hid (¬ x = y) := hxy
        clear hxy
        go_wp2_with fail
        go_roundw
        case rel => exact ⟨k + 1, by omega, by go_num, hst.out Hxy.out, trivial⟩
        case measure => simp [intOf]; omega
    · obtain rfl : k = S.length := by omega
      have hn2 : Hid (¬ x ∈ S) := by
        have := hno.out
        rw [List.take_length] at this
        exact this
      go_wp2_with fail
      go_returns
      exact ⟨_, rfl, by rw [isIn_no hn2.out]; rfl, rfl⟩
set_option maxRecDepth 100000 in
set_option maxHeartbeats 2000000 in
theorem contains_any (w : World) (v : Value) (S : List ByteArray) (x : ByteArray) (h : TextsIn w v S) :
    Calls Tryz.prog 85 #[v, .string x] w fun e w' => e = .returned (.bool (isIn x S)) ∧ w' = w := by
  have hi := index_any w v S x h
  obtain ⟨_, p, cap, rfl, _⟩ := h
  go_enter Tryz.func85, Tryz.ntmps85
  go_wp2_with (go_at_call 129; refine hi.mono ?_; clear hi; rintro e w' ⟨i, rfl, hd, rfl⟩)
  go_returns
  exact ⟨by rw [← hd]; rfl, rfl⟩
theorem own_texts {w : World} {n : Nat} {v : Value} {S : List ByteArray} (h : w.ownsRow n 9 1 v S.length (S.map Value.string)) (hl : S.length ≤ 1000000000) : TextsIn w v S := by
  refine ⟨hl, ?_⟩
  rcases h.2 with ⟨rfl, h0⟩ | ⟨g, c, cu, rfl, _⟩
  · exact ⟨none, 0, by rw [h0], fun k hk => by omega⟩
  · refine ⟨_, c, rfl, fun k hk => ⟨g, 0, rfl, ?_⟩⟩
    have := h.cells (g := g) rfl k (.string S[k]) (by simp [hk])
    rw [Addr.add_lit] at this
    exact this
end Go.Proofs.YtmcmagplaflegaaGreat
