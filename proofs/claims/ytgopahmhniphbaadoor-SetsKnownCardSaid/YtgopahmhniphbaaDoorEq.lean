import Derived.Test.YtgopahmhniphbaaDoorWa
namespace Go.Proofs.YtgopahmhniphbaaDoor
open Go.RowKit Sp
theorem eq4 (a b c d a' b' c' d' : Int) (n : Nat) (w : World) :
    (Op.equalIn (n + 2) 24 (.agg #[.int .u64 a, .int .u64 b, .int .u64 c, .int .u64 d]) (.agg #[.int .u64 a', .int .u64 b', .int .u64 c', .int .u64 d'])).run Tryd.prog w = .ok (a == a' && (b == b' && (c == c' && d == d'))) w := by
  have h0 := run_underlying (w := w) Tryd.underlying24
  have h1 := Tryd.underlying22
  unfold Op.equalIn
  simp only [h0, Sem.run_bind, Result.andThen_ok]
  by_cases ha : a = a'
  · by_cases hb : b = b'
    · by_cases hc : c = c'
      · by_cases hd : d = d' <;> simp [go_sem, List.range', h1, ha, hb, hc, hd]
      · simp [go_sem, List.range', h1, ha, hb, hc]
    · simp [go_sem, List.range', h1, ha, hb]
  · simp [go_sem, List.range', h1, ha]
/-- '==' of two sets that are known. -/
theorem eq_yes (s : S) (w : World) : (Op.equalIn 10000 24 (.agg #[.int .u64 (wn s 0), .int .u64 (wn s 1), .int .u64 (wn s 2), .int .u64 (wn s 3)]) (.agg #[.int .u64 (wn s 0), .int .u64 (wn s 1), .int .u64 (wn s 2), .int .u64 (wn s 3)])).run Tryd.prog w = .ok true w := by
  rw [eq4 _ _ _ _ _ _ _ _ 9998]; simp
theorem eq_sv (s t : S) (w : World) : (Op.equalIn 10000 24 (.agg #[.int .u64 (wn s 0), .int .u64 (wn s 1), .int .u64 (wn s 2), .int .u64 (wn s 3)]) (.agg #[.int .u64 (wn t 0), .int .u64 (wn t 1), .int .u64 (wn t 2), .int .u64 (wn t 3)])).run Tryd.prog w = .ok (decide (s = t)) w := by
  rw [eq4 _ _ _ _ _ _ _ _ 9998]
  congr 1
  rw [Bool.eq_iff_iff]
  simp only [Bool.and_eq_true, beq_iff_eq, decide_eq_true_eq, Int.natCast_inj]
  constructor
  · rintro ⟨h0, h1, h2, h3⟩; exact ext_wn h0 h1 h2 h3
  · rintro rfl; exact ⟨rfl, rfl, rfl, rfl⟩
theorem eq_none (s : S) (w : World) : (Op.equalIn 10000 24 (.agg #[.int .u64 (wn s 0), .int .u64 (wn s 1), .int .u64 (wn s 2), .int .u64 (wn s 3)]) (.agg #[.int .u64 0, .int .u64 0, .int .u64 0, .int .u64 0])).run Tryd.prog w = .ok (decide (s = 0#256)) w := by
  have h := eq_sv s 0#256 w
  have z : ∀ i, (wn 0#256 i : Int) = 0 := fun i => by simp [wn, wd]
  simpa only [z] using h
end Go.Proofs.YtgopahmhniphbaaDoor
