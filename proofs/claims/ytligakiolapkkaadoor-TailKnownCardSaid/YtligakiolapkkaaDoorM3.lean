/- Texts of this claim, joined: an abstract machine over the model, proved sound; contracts of functions. -/
import Derived.Test.YtligakiolapkkaaDoorM2
set_option linter.unusedSimpArgs false
set_option linter.unusedVariables false

namespace Go.Proofs.YtligakiolapkkaaDoor
open Go GoV
set_option maxHeartbeats 8000000
set_option maxRecDepth 10000
set_option linter.unusedVariables false
set_option linter.unusedSimpArgs false
theorem mul_lt {a b A B : Nat} (ha : a < A) (hb : b < B) : a * b < A * B := Nat.mul_lt_mul_of_lt_of_lt ha hb
theorem half_bit (b k : Nat) : b / 2 ^ k = 2 * (b / 2 ^ (k + 1)) + b / 2 ^ k % 2 := by
  rw [Nat.pow_succ, ← Nat.div_div_eq_div_mul]
  omega
theorem product_pc (a b : Nat) (ha : a < 4611686018427387904) (hb : b < 4611686018427387904) : PC Tryd.prog 67 [I a, I b] (.tup [I (a * b / 4611686018427387904 : Nat), I (a * b % 4611686018427387904 : Nat)]) := by
  obtain ⟨r1, hr1⟩ : ∃ q, a * b / 4611686018427387904 = q := ⟨_, rfl⟩
  obtain ⟨r2, hr2⟩ : ∃ q, a * b % 4611686018427387904 = q := ⟨_, rfl⟩
  rw [hr1, hr2]
  refine pc_fn hmix h67 rfl ?_
  simp -implicitDefEqProofs only [c67, push_cast, Nat.reduceBEq, Nat.reduceLT, Nat.reduceLeDiff, Nat.reduceAdd, Nat.reduceSub, Nat.reduceMul, Nat.reduceEqDiff, reduceCtorEq, ↓reduceIte, Int.reduceEq, Int.reduceLT, Int.reduceLE, Int.reduceNe, Int.reduceAdd, Int.reduceSub, Int.reduceMul, Int.reduceToNat, Nat.reduceShiftRight, Nat.reduceAnd, Nat.reduceBNe]
  refine loop_w (α := Nat × Nat × Nat) (fun p => ⟨[(8, I ((p.1 : Int) - 1)), (7, I p.2.2), (6, I p.2.1), (1, I b), (0, I a)], [], []⟩)
    (fun p => p.1 ≤ 62 ∧ 4611686018427387904 * p.2.1 + p.2.2 = a * (b / 2 ^ p.1) ∧ p.2.2 < 4611686018427387904) (fun p => p.1) (62, 0, 0) (wk_cut [8, 7, 6, 1, 0] 0 rfl ⟨rfl, rfl, rfl⟩ rfl)
    ⟨Nat.le_refl _, by rw [Nat.div_eq_of_lt (by omega : b < 2 ^ 62)]; rfl, by simp only; omega⟩ ?_
  rintro ⟨j, hi, lo⟩ ⟨hj, hP, hlo⟩
  simp only at hj hP hlo
  cases j with
  | zero =>
    rw [Nat.pow_zero, Nat.div_one] at hP
    simp -implicitDefEqProofs only [c67L0, push_cast, Nat.reduceBEq, Nat.reduceLT, Nat.reduceLeDiff, Nat.reduceAdd, Nat.reduceSub, Nat.reduceMul, Nat.reduceEqDiff, reduceCtorEq, ↓reduceIte, Int.reduceEq, Int.reduceLT, Int.reduceLE, Int.reduceNe, Int.reduceAdd, Int.reduceSub, Int.reduceMul, Int.reduceToNat, Nat.reduceShiftRight, Nat.reduceAnd, Nat.reduceBNe]
    rw [show hi = r1 by omega, show lo = r2 by omega]
    exact finC rfl rfl
  | succ k =>
    have hbit := half_bit b k
    have hc : b / 2 ^ k < 4611686018427387904 := Nat.lt_of_le_of_lt (Nat.div_le_self _ _) hb
    have hP2 := mul_lt ha hc
    simp only [Nat.reduceMul] at hP2
    obtain ⟨c, hce⟩ : ∃ c, b / 2 ^ (k + 1) = c := ⟨_, rfl⟩
    obtain ⟨c', hce'⟩ : ∃ c, b / 2 ^ k = c := ⟨_, rfl⟩
    rw [hce] at hP hbit
    rw [hce'] at hbit hc hP2
    have ePc : a * c' = 2 * (a * c) + (if c' % 2 = 1 then a else 0) := by
      rw [hbit, Nat.mul_add]
      have h2 : (2 * c + c' % 2) % 2 = c' % 2 := by omega
      rw [h2]
      rcases Nat.mod_two_eq_zero_or_one c' with h | h <;> rw [h]
      · simp [Nat.mul_left_comm]
      · simp [Nat.mul_left_comm]
    obtain ⟨P, hPe⟩ : ∃ P, a * c = P := ⟨_, rfl⟩
    obtain ⟨P', hPe'⟩ : ∃ P, a * c' = P := ⟨_, rfl⟩
    rw [hPe] at hP ePc
    rw [hPe'] at ePc hP2
    have eb : (k : Int) + 1 - 1 = k := by omega
    have esh : (b : Int) / 2 ^ k = (c' : Int) := by rw [← hce']; simp
    have eP : a * (b / 2 ^ k) = P' := by
      have h0 := congrArg (fun z => a * z) hce'
      exact h0.trans hPe'
    have ek : decide (0 ≤ (k : Int)) = true := decide_eq_true (by omega)
    rcases Nat.mod_two_eq_zero_or_one c' with h2 | h2
    · have eand : c' &&& 1 = 0 := by rw [Nat.and_one_is_mod]; exact h2
      rw [h2, if_neg (by decide)] at ePc
      by_cases hh : (2305843009213693952 : Int) ≤ (lo : Int)
      · have eh : decide ((2305843009213693952 : Int) ≤ (lo : Int)) = true := decide_eq_true hh
        simp -implicitDefEqProofs only [c67L0, eb, esh, ek, eh, eand, push_cast, Nat.reduceBEq, Nat.reduceLT, Nat.reduceLeDiff, Nat.reduceAdd, Nat.reduceSub, Nat.reduceMul, Nat.reduceEqDiff, reduceCtorEq, ↓reduceIte, Int.reduceEq, Int.reduceLT, Int.reduceLE, Int.reduceNe, Int.reduceAdd, Int.reduceSub, Int.reduceMul, Int.reduceToNat, Nat.reduceShiftRight, Nat.reduceAnd, Nat.reduceBNe]
        repeat (refine ⟨by first | (simp only [inR]; omega) | (simp only [IntKind.bits]; omega), ?_⟩)
        refine ⟨(k, 2 * hi + 1, 2 * (lo - 2305843009213693952)), ⟨by show k ≤ 62; omega, by show 4611686018427387904 * (2 * hi + 1) + (2 * (lo - 2305843009213693952)) = a * (b / 2 ^ k); refine Eq.trans ?_ eP.symm; omega, by show 2 * (lo - 2305843009213693952) < 4611686018427387904; omega⟩, by show k < k + 1; omega, ?_⟩
        rw [show 2 * ((lo : Int) - 2305843009213693952) = ((2 * (lo - 2305843009213693952) : Nat) : Int) by omega, show 2 * (hi : Int) + 1 = ((2 * hi + 1 : Nat) : Int) by omega]
        exact wk_c rfl ⟨rfl, rfl, rfl⟩ rfl
      · have eh : decide ((2305843009213693952 : Int) ≤ (lo : Int)) = false := decide_eq_false hh
        simp -implicitDefEqProofs only [c67L0, eb, esh, ek, eh, eand, push_cast, Nat.reduceBEq, Nat.reduceLT, Nat.reduceLeDiff, Nat.reduceAdd, Nat.reduceSub, Nat.reduceMul, Nat.reduceEqDiff, reduceCtorEq, ↓reduceIte, Int.reduceEq, Int.reduceLT, Int.reduceLE, Int.reduceNe, Int.reduceAdd, Int.reduceSub, Int.reduceMul, Int.reduceToNat, Nat.reduceShiftRight, Nat.reduceAnd, Nat.reduceBNe]
        repeat (refine ⟨by first | (simp only [inR]; omega) | (simp only [IntKind.bits]; omega), ?_⟩)
        refine ⟨(k, 2 * hi, 2 * lo), ⟨by show k ≤ 62; omega, by show 4611686018427387904 * (2 * hi) + (2 * lo) = a * (b / 2 ^ k); refine Eq.trans ?_ eP.symm; omega, by show 2 * lo < 4611686018427387904; omega⟩, by show k < k + 1; omega, ?_⟩
        rw [show 2 * (lo : Int) = ((2 * lo : Nat) : Int) by omega, show 2 * (hi : Int) = ((2 * hi : Nat) : Int) by omega]
        exact wk_c rfl ⟨rfl, rfl, rfl⟩ rfl
    · have eand : c' &&& 1 = 1 := by rw [Nat.and_one_is_mod]; exact h2
      rw [h2, if_pos rfl] at ePc
      by_cases hh : (2305843009213693952 : Int) ≤ (lo : Int)
      · have eh : decide ((2305843009213693952 : Int) ≤ (lo : Int)) = true := decide_eq_true hh
        by_cases h3 : (4611686018427387904 : Int) - (a : Int) ≤ 2 * ((lo : Int) - 2305843009213693952)
        · have e3 : decide ((4611686018427387904 : Int) - (a : Int) ≤ 2 * ((lo : Int) - 2305843009213693952)) = true := decide_eq_true h3
          simp -implicitDefEqProofs only [c67L0, eb, esh, ek, eh, eand, e3, push_cast, Nat.reduceBEq, Nat.reduceLT, Nat.reduceLeDiff, Nat.reduceAdd, Nat.reduceSub, Nat.reduceMul, Nat.reduceEqDiff, reduceCtorEq, ↓reduceIte, Int.reduceEq, Int.reduceLT, Int.reduceLE, Int.reduceNe, Int.reduceAdd, Int.reduceSub, Int.reduceMul, Int.reduceToNat, Nat.reduceShiftRight, Nat.reduceAnd, Nat.reduceBNe]
          repeat (refine ⟨by first | (simp only [inR]; omega) | (simp only [IntKind.bits]; omega), ?_⟩)
          refine ⟨(k, 2 * hi + 1 + 1, 2 * (lo - 2305843009213693952) - (4611686018427387904 - a)), ⟨by show k ≤ 62; omega, by show 4611686018427387904 * (2 * hi + 1 + 1) + (2 * (lo - 2305843009213693952) - (4611686018427387904 - a)) = a * (b / 2 ^ k); refine Eq.trans ?_ eP.symm; omega, by show 2 * (lo - 2305843009213693952) - (4611686018427387904 - a) < 4611686018427387904; omega⟩, by show k < k + 1; omega, ?_⟩
          rw [show 2 * ((lo : Int) - 2305843009213693952) - (4611686018427387904 - (a : Int)) = ((2 * (lo - 2305843009213693952) - (4611686018427387904 - a) : Nat) : Int) by omega, show 2 * (hi : Int) + 1 + 1 = ((2 * hi + 1 + 1 : Nat) : Int) by omega]
          exact wk_c rfl ⟨rfl, rfl, rfl⟩ rfl
        · have e3 : decide ((4611686018427387904 : Int) - (a : Int) ≤ 2 * ((lo : Int) - 2305843009213693952)) = false := decide_eq_false h3
          simp -implicitDefEqProofs only [c67L0, eb, esh, ek, eh, eand, e3, push_cast, Nat.reduceBEq, Nat.reduceLT, Nat.reduceLeDiff, Nat.reduceAdd, Nat.reduceSub, Nat.reduceMul, Nat.reduceEqDiff, reduceCtorEq, ↓reduceIte, Int.reduceEq, Int.reduceLT, Int.reduceLE, Int.reduceNe, Int.reduceAdd, Int.reduceSub, Int.reduceMul, Int.reduceToNat, Nat.reduceShiftRight, Nat.reduceAnd, Nat.reduceBNe]
          repeat (refine ⟨by first | (simp only [inR]; omega) | (simp only [IntKind.bits]; omega), ?_⟩)
          refine ⟨(k, 2 * hi + 1, 2 * (lo - 2305843009213693952) + a), ⟨by show k ≤ 62; omega, by show 4611686018427387904 * (2 * hi + 1) + (2 * (lo - 2305843009213693952) + a) = a * (b / 2 ^ k); refine Eq.trans ?_ eP.symm; omega, by show 2 * (lo - 2305843009213693952) + a < 4611686018427387904; omega⟩, by show k < k + 1; omega, ?_⟩
          rw [show 2 * ((lo : Int) - 2305843009213693952) + (a : Int) = ((2 * (lo - 2305843009213693952) + a : Nat) : Int) by omega, show 2 * (hi : Int) + 1 = ((2 * hi + 1 : Nat) : Int) by omega]
          exact wk_c rfl ⟨rfl, rfl, rfl⟩ rfl
      · have eh : decide ((2305843009213693952 : Int) ≤ (lo : Int)) = false := decide_eq_false hh
        by_cases h3 : (4611686018427387904 : Int) - (a : Int) ≤ 2 * (lo : Int)
        · have e3 : decide ((4611686018427387904 : Int) - (a : Int) ≤ 2 * (lo : Int)) = true := decide_eq_true h3
          simp -implicitDefEqProofs only [c67L0, eb, esh, ek, eh, eand, e3, push_cast, Nat.reduceBEq, Nat.reduceLT, Nat.reduceLeDiff, Nat.reduceAdd, Nat.reduceSub, Nat.reduceMul, Nat.reduceEqDiff, reduceCtorEq, ↓reduceIte, Int.reduceEq, Int.reduceLT, Int.reduceLE, Int.reduceNe, Int.reduceAdd, Int.reduceSub, Int.reduceMul, Int.reduceToNat, Nat.reduceShiftRight, Nat.reduceAnd, Nat.reduceBNe]
          repeat (refine ⟨by first | (simp only [inR]; omega) | (simp only [IntKind.bits]; omega), ?_⟩)
          refine ⟨(k, 2 * hi + 1, 2 * lo - (4611686018427387904 - a)), ⟨by show k ≤ 62; omega, by show 4611686018427387904 * (2 * hi + 1) + (2 * lo - (4611686018427387904 - a)) = a * (b / 2 ^ k); refine Eq.trans ?_ eP.symm; omega, by show 2 * lo - (4611686018427387904 - a) < 4611686018427387904; omega⟩, by show k < k + 1; omega, ?_⟩
          rw [show 2 * (lo : Int) - (4611686018427387904 - (a : Int)) = ((2 * lo - (4611686018427387904 - a) : Nat) : Int) by omega, show 2 * (hi : Int) + 1 = ((2 * hi + 1 : Nat) : Int) by omega]
          exact wk_c rfl ⟨rfl, rfl, rfl⟩ rfl
        · have e3 : decide ((4611686018427387904 : Int) - (a : Int) ≤ 2 * (lo : Int)) = false := decide_eq_false h3
          simp -implicitDefEqProofs only [c67L0, eb, esh, ek, eh, eand, e3, push_cast, Nat.reduceBEq, Nat.reduceLT, Nat.reduceLeDiff, Nat.reduceAdd, Nat.reduceSub, Nat.reduceMul, Nat.reduceEqDiff, reduceCtorEq, ↓reduceIte, Int.reduceEq, Int.reduceLT, Int.reduceLE, Int.reduceNe, Int.reduceAdd, Int.reduceSub, Int.reduceMul, Int.reduceToNat, Nat.reduceShiftRight, Nat.reduceAnd, Nat.reduceBNe]
          repeat (refine ⟨by first | (simp only [inR]; omega) | (simp only [IntKind.bits]; omega), ?_⟩)
          refine ⟨(k, 2 * hi, 2 * lo + a), ⟨by show k ≤ 62; omega, by show 4611686018427387904 * (2 * hi) + (2 * lo + a) = a * (b / 2 ^ k); refine Eq.trans ?_ eP.symm; omega, by show 2 * lo + a < 4611686018427387904; omega⟩, by show k < k + 1; omega, ?_⟩
          rw [show 2 * (lo : Int) + (a : Int) = ((2 * lo + a : Nat) : Int) by omega, show 2 * (hi : Int) = ((2 * hi : Nat) : Int) by omega]
          exact wk_c rfl ⟨rfl, rfl, rfl⟩ rfl
end Go.Proofs.YtligakiolapkkaaDoor

namespace Go.Proofs.YtligakiolapkkaaDoor
open Go GoV
set_option maxHeartbeats 8000000
set_option maxRecDepth 10000
set_option linter.unusedVariables false
set_option linter.unusedSimpArgs false
theorem least_pc (a b c d : Nat) (ha : a < 4611686018427387904) (hb : b < 4611686018427387904) (hc : c < 4611686018427387904) (hd : d < 4611686018427387904) : PC Tryd.prog 51 [I a, I b, I c, I d] (B (decide (a * b ≤ c * d))) := by
  have h1 := product_pc a b ha hb
  have h2 := product_pc c d hc hd
  obtain ⟨p, hp⟩ : ∃ p, a * b = p := ⟨_, rfl⟩
  obtain ⟨q, hq⟩ : ∃ p, c * d = p := ⟨_, rfl⟩
  rw [hp] at h1
  rw [hq] at h2
  rw [hp, hq]
  obtain ⟨p1, e1⟩ : ∃ x, p / 4611686018427387904 = x := ⟨_, rfl⟩
  obtain ⟨p0, e2⟩ : ∃ x, p % 4611686018427387904 = x := ⟨_, rfl⟩
  obtain ⟨q1, e3⟩ : ∃ x, q / 4611686018427387904 = x := ⟨_, rfl⟩
  obtain ⟨q0, e4⟩ : ∃ x, q % 4611686018427387904 = x := ⟨_, rfl⟩
  rw [e1, e2] at h1
  rw [e3, e4] at h2
  refine pc_fn hmix h51 rfl ?_
  simp -implicitDefEqProofs only [c51, push_cast, Nat.reduceBEq, Nat.reduceLT, Nat.reduceLeDiff, Nat.reduceAdd, Nat.reduceSub, Nat.reduceMul, Nat.reduceEqDiff, reduceCtorEq, ↓reduceIte, Int.reduceEq, Int.reduceLT, Int.reduceLE, Int.reduceNe, Int.reduceAdd, Int.reduceSub, Int.reduceMul, Int.reduceToNat, Nat.reduceShiftRight, Nat.reduceAnd, Nat.reduceBNe]
  refine callF h1 ⟨rfl, rfl, trivial⟩ rfl rfl ?_
  simp -implicitDefEqProofs only [push_cast, Nat.reduceBEq, Nat.reduceLT, Nat.reduceLeDiff, Nat.reduceAdd, Nat.reduceSub, Nat.reduceMul, Nat.reduceEqDiff, reduceCtorEq, ↓reduceIte, Int.reduceEq, Int.reduceLT, Int.reduceLE, Int.reduceNe, Int.reduceAdd, Int.reduceSub, Int.reduceMul, Int.reduceToNat, Nat.reduceShiftRight, Nat.reduceAnd, Nat.reduceBNe]
  refine callF h2 ⟨rfl, rfl, trivial⟩ rfl rfl ?_
  simp -implicitDefEqProofs only [push_cast, Nat.reduceBEq, Nat.reduceLT, Nat.reduceLeDiff, Nat.reduceAdd, Nat.reduceSub, Nat.reduceMul, Nat.reduceEqDiff, reduceCtorEq, ↓reduceIte, Int.reduceEq, Int.reduceLT, Int.reduceLE, Int.reduceNe, Int.reduceAdd, Int.reduceSub, Int.reduceMul, Int.reduceToNat, Nat.reduceShiftRight, Nat.reduceAnd, Nat.reduceBNe]
  refine ⟨fun h => ?_, fun h => ⟨fun h3 => ?_, fun h3 => ?_⟩⟩
  · rw [decide_eq_true (by omega)]; exact finC rfl rfl
  · by_cases h4 : (p0 : Int) ≤ (q0 : Int)
    · rw [decide_eq_true h4, decide_eq_true (by omega)]; exact finC rfl rfl
    · rw [decide_eq_false h4, decide_eq_false (by omega)]; exact finC rfl rfl
  · rw [decide_eq_false (by omega)]; exact finC rfl rfl
theorem most_pc (a b c d : Nat) (ha : a < 4611686018427387904) (hb : b < 4611686018427387904) (hc : c < 4611686018427387904) (hd : d < 4611686018427387904) : PC Tryd.prog 32 [QA a b, QA c d] (B (decide (a * d ≤ c * b))) := by
  have h1 := least_pc a d c b ha hd hc hb
  obtain ⟨r, hr⟩ : ∃ r, decide (a * d ≤ c * b) = r := ⟨_, rfl⟩
  rw [hr] at h1 ⊢
  refine pc_fn hmix h32 rfl ?_
  simp -implicitDefEqProofs only [c32, push_cast, Nat.reduceBEq, Nat.reduceLT, Nat.reduceLeDiff, Nat.reduceAdd, Nat.reduceSub, Nat.reduceMul, Nat.reduceEqDiff, reduceCtorEq, ↓reduceIte, Int.reduceEq, Int.reduceLT, Int.reduceLE, Int.reduceNe, Int.reduceAdd, Int.reduceSub, Int.reduceMul, Int.reduceToNat, Nat.reduceShiftRight, Nat.reduceAnd, Nat.reduceBNe]
  refine callF h1 ⟨rfl, rfl, rfl, rfl, trivial⟩ rfl rfl ?_
  simp -implicitDefEqProofs only [push_cast, Nat.reduceBEq, Nat.reduceLT, Nat.reduceLeDiff, Nat.reduceAdd, Nat.reduceSub, Nat.reduceMul, Nat.reduceEqDiff, reduceCtorEq, ↓reduceIte, Int.reduceEq, Int.reduceLT, Int.reduceLE, Int.reduceNe, Int.reduceAdd, Int.reduceSub, Int.reduceMul, Int.reduceToNat, Nat.reduceShiftRight, Nat.reduceAnd, Nat.reduceBNe]
  exact finC rfl rfl
theorem mul64_pc (a b : Nat) (ha : a < 18446744073709551616) (hb : b < 18446744073709551616) : PC Tryd.prog 70 [U a, U b] (.tup [U (a * b / 18446744073709551616 : Nat), U (a * b % 18446744073709551616 : Nat)]) := by
  obtain ⟨hi, hhi⟩ : ∃ x, a * b / 18446744073709551616 = x := ⟨_, rfl⟩
  obtain ⟨lo, hlo⟩ : ∃ x, a * b % 18446744073709551616 = x := ⟨_, rfl⟩
  rw [hhi, hlo]
  have m1 : ∀ x : Nat, x &&& 4294967295 = x % 4294967296 := fun x => Nat.and_two_pow_sub_one_eq_mod x 32
  obtain ⟨x0, hx0⟩ : ∃ x, a % 4294967296 = x := ⟨_, rfl⟩
  obtain ⟨x1, hx1⟩ : ∃ x, a / 4294967296 = x := ⟨_, rfl⟩
  obtain ⟨y0, hy0⟩ : ∃ x, b % 4294967296 = x := ⟨_, rfl⟩
  obtain ⟨y1, hy1⟩ : ∃ x, b / 4294967296 = x := ⟨_, rfl⟩
  have bx0 : x0 < 4294967296 := by omega
  have bx1 : x1 < 4294967296 := by omega
  have by0 : y0 < 4294967296 := by omega
  have by1 : y1 < 4294967296 := by omega
  have ea : a = 4294967296 * x1 + x0 := by omega
  have eb : b = 4294967296 * y1 + y0 := by omega
  have ex1 : (a : Int) / 2 ^ 32 = (x1 : Int) := by rw [← hx1]; simp
  have ey1 : (b : Int) / 2 ^ 32 = (y1 : Int) := by rw [← hy1]; simp
  have ma : a &&& 4294967295 = x0 := (m1 a).trans hx0
  have mb : b &&& 4294967295 = y0 := (m1 b).trans hy0
  have e0 : (4294967295 : Int).toNat = 4294967295 := rfl
  have e32 : (32 : Int).toNat = 32 := rfl
  have hb0 : ∀ x y : Nat, x < 4294967296 → y < 4294967296 → x * y ≤ 18446744065119617025 := fun x y h1 h2 => Nat.mul_le_mul (Nat.le_of_lt_succ h1 : x ≤ 4294967295) (Nat.le_of_lt_succ h2 : y ≤ 4294967295)
  have h00 := hb0 x0 y0 bx0 by0
  have h01 := hb0 x0 y1 bx0 by1
  have h10 := hb0 x1 y0 bx1 by0
  have h11 := hb0 x1 y1 bx1 by1
  have hab : a * b = 4294967296 * (4294967296 * (x1 * y1)) + 4294967296 * (x0 * y1) + (4294967296 * (x1 * y0) + x0 * y0) := by
    rw [ea, eb, Nat.mul_add, Nat.add_mul, Nat.add_mul, Nat.mul_assoc 4294967296 x1 (4294967296 * y1), Nat.mul_left_comm x1 4294967296 y1, Nat.mul_left_comm x0 4294967296 y1, Nat.mul_assoc 4294967296 x1 y0]
  have c00 : (x0 : Int) * (y0 : Int) = ((x0 * y0 : Nat) : Int) := rfl
  have c01 : (x0 : Int) * (y1 : Int) = ((x0 * y1 : Nat) : Int) := rfl
  have c10 : (x1 : Int) * (y0 : Int) = ((x1 * y0 : Nat) : Int) := rfl
  have c11 : (x1 : Int) * (y1 : Int) = ((x1 * y1 : Nat) : Int) := rfl
  have cab : (a : Int) * (b : Int) = ((a * b : Nat) : Int) := rfl
  obtain ⟨p00, k00⟩ : ∃ p, x0 * y0 = p := ⟨_, rfl⟩
  obtain ⟨p01, k01⟩ : ∃ p, x0 * y1 = p := ⟨_, rfl⟩
  obtain ⟨p10, k10⟩ : ∃ p, x1 * y0 = p := ⟨_, rfl⟩
  obtain ⟨p11, k11⟩ : ∃ p, x1 * y1 = p := ⟨_, rfl⟩
  obtain ⟨ab, kab⟩ : ∃ p, a * b = p := ⟨_, rfl⟩
  rw [k00] at c00 h00 hab
  rw [k01] at c01 h01 hab
  rw [k10] at c10 h10 hab
  rw [k11] at c11 h11 hab
  rw [kab] at cab hab hhi hlo
  have p32 : ∀ z : Int, z / 2 ^ 32 = z / 4294967296 := fun z => rfl
  have f00 : (x0 : Int) * (y0 : Int) % 18446744073709551616 = p00 := by rw [c00]; omega
  have f01 : (x0 : Int) * (y1 : Int) % 18446744073709551616 = p01 := by rw [c01]; omega
  have f10 : (x1 : Int) * (y0 : Int) % 18446744073709551616 = p10 := by rw [c10]; omega
  have f11 : (x1 : Int) * (y1 : Int) % 18446744073709551616 = p11 := by rw [c11]; omega
  have fab : (a : Int) * (b : Int) % 18446744073709551616 = lo := by rw [cab]; omega
  obtain ⟨t, ht⟩ : ∃ t : Nat, (p10 : Int) + (p00 : Int) / 2 ^ 32 = t := ⟨p10 + p00 / 4294967296, by rw [p32]; omega⟩
  obtain ⟨w, hw⟩ : ∃ w : Nat, (((t &&& 4294967295 : Nat) : Int) + (p01 : Int)) = w ∧ w = t % 4294967296 + p01 := ⟨t % 4294967296 + p01, by rw [m1]; omega, rfl⟩
  have ht2 : (t : Int) = p10 + (p00 : Int) / 4294967296 := by rw [← p32, ht]
  have hz : (p11 : Int) + (t : Int) / 2 ^ 32 + (w : Int) / 2 ^ 32 = hi := by rw [p32, p32]; omega
  refine pc_fn hmix h70 rfl ?_
  simp -implicitDefEqProofs only [c70, e0, e32, ma, mb, ex1, ey1, f00, f01, f10, f11, fab, ht, hw.1, hz, push_cast, Nat.reduceBEq, Nat.reduceLT, Nat.reduceLeDiff, Nat.reduceAdd, Nat.reduceSub, Nat.reduceMul, Nat.reduceEqDiff, reduceCtorEq, ↓reduceIte, Int.reduceEq, Int.reduceLT, Int.reduceLE, Int.reduceNe, Int.reduceAdd, Int.reduceSub, Int.reduceMul, Int.reduceToNat, Nat.reduceShiftRight, Nat.reduceAnd, Nat.reduceBNe]
  refine ⟨⟨⟨by omega, by simp only [inR]; omega⟩, by simp only [inR]; omega⟩, by simp only [IntKind.bits]; omega, ⟨⟨by omega, by simp only [inR]; omega⟩, by simp only [inR]; omega⟩, by simp only [IntKind.bits]; omega, by simp only [IntKind.bits]; omega, by simp only [inR]; omega, ⟨⟨by omega, by simp only [inR]; omega⟩, by simp only [inR]; omega⟩, by simp only [IntKind.bits]; omega, by simp only [inR]; omega, ?_, by simp only [IntKind.bits]; omega, ?_, ?_⟩
  · rw [p32]; simp only [inR]; omega
  · simp only [inR]; omega
  · exact finC rfl rfl
end Go.Proofs.YtligakiolapkkaaDoor

namespace Go.Proofs.YtligakiolapkkaaDoor
open Go GoV
set_option maxHeartbeats 8000000
set_option maxRecDepth 10000
set_option linter.unusedVariables false
set_option linter.unusedSimpArgs false
theorem times_pc (a b : Nat) (ha : a < 18446744073709551616) (hb : b < 18446744073709551616) : PC Tryd.prog 65 [U a, U b] (W2 (a * b / 18446744073709551616 : Nat) (a * b % 18446744073709551616 : Nat)) := by
  have h := mul64_pc a b ha hb
  obtain ⟨hi, hhi⟩ : ∃ x, a * b / 18446744073709551616 = x := ⟨_, rfl⟩
  obtain ⟨lo, hlo⟩ : ∃ x, a * b % 18446744073709551616 = x := ⟨_, rfl⟩
  rw [hhi, hlo] at h ⊢
  refine pc_fn hmix h65 rfl ?_
  simp -implicitDefEqProofs only [c65, push_cast, Nat.reduceBEq, Nat.reduceLT, Nat.reduceLeDiff, Nat.reduceAdd, Nat.reduceSub, Nat.reduceMul, Nat.reduceEqDiff, reduceCtorEq, ↓reduceIte, Int.reduceEq, Int.reduceLT, Int.reduceLE, Int.reduceNe, Int.reduceAdd, Int.reduceSub, Int.reduceMul, Int.reduceToNat, Nat.reduceShiftRight, Nat.reduceAnd, Nat.reduceBNe]
  refine callF h ⟨rfl, rfl, trivial⟩ rfl rfl ?_
  simp -implicitDefEqProofs only [push_cast, Nat.reduceBEq, Nat.reduceLT, Nat.reduceLeDiff, Nat.reduceAdd, Nat.reduceSub, Nat.reduceMul, Nat.reduceEqDiff, reduceCtorEq, ↓reduceIte, Int.reduceEq, Int.reduceLT, Int.reduceLE, Int.reduceNe, Int.reduceAdd, Int.reduceSub, Int.reduceMul, Int.reduceToNat, Nat.reduceShiftRight, Nat.reduceAnd, Nat.reduceBNe]
  exact finC rfl rfl
def cmpQ (an ad bn bd : Nat) : Int := if an = bn ∧ ad = bd then 0 else if an * bd < bn * ad then -1 else 1
theorem cmp1_pc (an ad bn bd : Nat) (h1 : an < 9223372036854775808) (h2 : ad < 9223372036854775808) (h3 : bn < 9223372036854775808) (h4 : bd < 9223372036854775808) : PC Tryd.prog 64 [QA an ad, QA bn bd] (.tup [I (cmpQ an ad bn bd), I 0]) := by
  have s1 := size_pc an (by simp only [i63]; omega)
  have s2 := size_pc bn (by simp only [i63]; omega)
  rw [Int.natAbs_natCast] at s1 s2
  have t1 := times_pc an bd (by omega) (by omega)
  have t2 := times_pc bn ad (by omega) (by omega)
  have hc : cmpQ an ad bn bd = if an = bn ∧ ad = bd then 0 else if an * bd < bn * ad then -1 else 1 := rfl
  obtain ⟨p, hp⟩ : ∃ x, an * bd = x := ⟨_, rfl⟩
  obtain ⟨q, hq⟩ : ∃ x, bn * ad = x := ⟨_, rfl⟩
  rw [hp] at t1 hc
  rw [hq] at t2 hc
  have hl := less_pc (p / 18446744073709551616 : Nat) (p % 18446744073709551616 : Nat) (q / 18446744073709551616 : Nat) (q % 18446744073709551616 : Nat)
  rw [show decide (((p / 18446744073709551616 : Nat) : Int) < ((q / 18446744073709551616 : Nat) : Int) ∨ ((p / 18446744073709551616 : Nat) : Int) = ((q / 18446744073709551616 : Nat) : Int) ∧ ((p % 18446744073709551616 : Nat) : Int) < ((q % 18446744073709551616 : Nat) : Int)) = decide (p < q) by
    rw [decide_eq_decide]; omega] at hl
  obtain ⟨p1, e1⟩ : ∃ x, p / 18446744073709551616 = x := ⟨_, rfl⟩
  obtain ⟨p0, e2⟩ : ∃ x, p % 18446744073709551616 = x := ⟨_, rfl⟩
  obtain ⟨q1, e3⟩ : ∃ x, q / 18446744073709551616 = x := ⟨_, rfl⟩
  obtain ⟨q0, e4⟩ : ∃ x, q % 18446744073709551616 = x := ⟨_, rfl⟩
  rw [e1, e2] at t1 hl
  rw [e3, e4] at t2 hl
  have ead : (ad : Int) % 18446744073709551616 = ad := by omega
  have ebd : (bd : Int) % 18446744073709551616 = bd := by omega
  have g1 : decide ((an : Int) < 0) = false := decide_eq_false (by omega)
  have g2 : decide (0 ≤ (an : Int)) = true := decide_eq_true (by omega)
  have g3 : decide (0 ≤ (bn : Int)) = true := decide_eq_true (by omega)
  obtain ⟨r, hr⟩ : ∃ r, cmpQ an ad bn bd = r := ⟨_, rfl⟩
  rw [hr] at hc ⊢
  by_cases hE : an = bn ∧ ad = bd
  · rw [if_pos hE] at hc
    subst hc
    obtain ⟨rfl, rfl⟩ := hE
    refine pc_fn hmix h64 rfl ?_
    simp (config := {maxSteps := 400000}) -implicitDefEqProofs only [c64, g1, g2, push_cast, Nat.reduceBEq, Nat.reduceLT, Nat.reduceLeDiff, Nat.reduceAdd, Nat.reduceSub, Nat.reduceMul, Nat.reduceEqDiff, reduceCtorEq, ↓reduceIte, Int.reduceEq, Int.reduceLT, Int.reduceLE, Int.reduceNe, Int.reduceAdd, Int.reduceSub, Int.reduceMul, Int.reduceToNat, Nat.reduceShiftRight, Nat.reduceAnd, Nat.reduceBNe]
    refine qqF s1 ⟨rfl, trivial⟩ rfl rfl ?_
    simp (config := {maxSteps := 400000}) -implicitDefEqProofs only [ebd, g1, g2, beq_self_eq_true, push_cast, Nat.reduceBEq, Nat.reduceLT, Nat.reduceLeDiff, Nat.reduceAdd, Nat.reduceSub, Nat.reduceMul, Nat.reduceEqDiff, reduceCtorEq, ↓reduceIte, Int.reduceEq, Int.reduceLT, Int.reduceLE, Int.reduceNe, Int.reduceAdd, Int.reduceSub, Int.reduceMul, Int.reduceToNat, Nat.reduceShiftRight, Nat.reduceAnd, Nat.reduceBNe]
    refine qqF t1 ⟨rfl, rfl, trivial⟩ rfl rfl ?_
    simp (config := {maxSteps := 400000}) -implicitDefEqProofs only [g1, g2, beq_self_eq_true, push_cast, Nat.reduceBEq, Nat.reduceLT, Nat.reduceLeDiff, Nat.reduceAdd, Nat.reduceSub, Nat.reduceMul, Nat.reduceEqDiff, reduceCtorEq, ↓reduceIte, Int.reduceEq, Int.reduceLT, Int.reduceLE, Int.reduceNe, Int.reduceAdd, Int.reduceSub, Int.reduceMul, Int.reduceToNat, Nat.reduceShiftRight, Nat.reduceAnd, Nat.reduceBNe]
    refine qqF s2 ⟨rfl, trivial⟩ rfl rfl ?_
    simp (config := {maxSteps := 400000}) -implicitDefEqProofs only [ead, g1, g2, beq_self_eq_true, push_cast, Nat.reduceBEq, Nat.reduceLT, Nat.reduceLeDiff, Nat.reduceAdd, Nat.reduceSub, Nat.reduceMul, Nat.reduceEqDiff, reduceCtorEq, ↓reduceIte, Int.reduceEq, Int.reduceLT, Int.reduceLE, Int.reduceNe, Int.reduceAdd, Int.reduceSub, Int.reduceMul, Int.reduceToNat, Nat.reduceShiftRight, Nat.reduceAnd, Nat.reduceBNe]
    refine qqF t2 ⟨rfl, rfl, trivial⟩ rfl rfl ?_
    simp (config := {maxSteps := 400000}) -implicitDefEqProofs only [g1, g2, beq_self_eq_true, push_cast, Nat.reduceBEq, Nat.reduceLT, Nat.reduceLeDiff, Nat.reduceAdd, Nat.reduceSub, Nat.reduceMul, Nat.reduceEqDiff, reduceCtorEq, ↓reduceIte, Int.reduceEq, Int.reduceLT, Int.reduceLE, Int.reduceNe, Int.reduceAdd, Int.reduceSub, Int.reduceMul, Int.reduceToNat, Nat.reduceShiftRight, Nat.reduceAnd, Nat.reduceBNe]
    exact finC rfl rfl
  · rw [if_neg hE] at hc
    by_cases hpq : p < q
    · rw [if_pos hpq] at hc
      rw [decide_eq_true hpq] at hl
      subst hc
      by_cases hA : (an : Int) = (bn : Int)
      · have k1 : decide ((an : Int) = (bn : Int)) = true := decide_eq_true hA
        have k2 : decide ((ad : Int) = (bd : Int)) = false := decide_eq_false (by omega)
        refine pc_fn hmix h64 rfl ?_
        simp (config := {maxSteps := 400000}) -implicitDefEqProofs only [c64, g1, g2, g3, k1, k2, Bool.and_self, push_cast, Nat.reduceBEq, Nat.reduceLT, Nat.reduceLeDiff, Nat.reduceAdd, Nat.reduceSub, Nat.reduceMul, Nat.reduceEqDiff, reduceCtorEq, ↓reduceIte, Int.reduceEq, Int.reduceLT, Int.reduceLE, Int.reduceNe, Int.reduceAdd, Int.reduceSub, Int.reduceMul, Int.reduceToNat, Nat.reduceShiftRight, Nat.reduceAnd, Nat.reduceBNe]
        refine qqF s1 ⟨rfl, trivial⟩ rfl rfl ?_
        simp (config := {maxSteps := 400000}) -implicitDefEqProofs only [ebd, g1, g2, g3, k1, k2, Bool.and_self, push_cast, Nat.reduceBEq, Nat.reduceLT, Nat.reduceLeDiff, Nat.reduceAdd, Nat.reduceSub, Nat.reduceMul, Nat.reduceEqDiff, reduceCtorEq, ↓reduceIte, Int.reduceEq, Int.reduceLT, Int.reduceLE, Int.reduceNe, Int.reduceAdd, Int.reduceSub, Int.reduceMul, Int.reduceToNat, Nat.reduceShiftRight, Nat.reduceAnd, Nat.reduceBNe]
        refine qqF t1 ⟨rfl, rfl, trivial⟩ rfl rfl ?_
        simp (config := {maxSteps := 400000}) -implicitDefEqProofs only [g1, g2, g3, k1, k2, Bool.and_self, push_cast, Nat.reduceBEq, Nat.reduceLT, Nat.reduceLeDiff, Nat.reduceAdd, Nat.reduceSub, Nat.reduceMul, Nat.reduceEqDiff, reduceCtorEq, ↓reduceIte, Int.reduceEq, Int.reduceLT, Int.reduceLE, Int.reduceNe, Int.reduceAdd, Int.reduceSub, Int.reduceMul, Int.reduceToNat, Nat.reduceShiftRight, Nat.reduceAnd, Nat.reduceBNe]
        refine qqF s2 ⟨rfl, trivial⟩ rfl rfl ?_
        simp (config := {maxSteps := 400000}) -implicitDefEqProofs only [ead, g1, g2, g3, k1, k2, Bool.and_self, push_cast, Nat.reduceBEq, Nat.reduceLT, Nat.reduceLeDiff, Nat.reduceAdd, Nat.reduceSub, Nat.reduceMul, Nat.reduceEqDiff, reduceCtorEq, ↓reduceIte, Int.reduceEq, Int.reduceLT, Int.reduceLE, Int.reduceNe, Int.reduceAdd, Int.reduceSub, Int.reduceMul, Int.reduceToNat, Nat.reduceShiftRight, Nat.reduceAnd, Nat.reduceBNe]
        refine qqF t2 ⟨rfl, rfl, trivial⟩ rfl rfl ?_
        simp (config := {maxSteps := 400000}) -implicitDefEqProofs only [g1, g2, g3, k1, k2, Bool.and_self, push_cast, Nat.reduceBEq, Nat.reduceLT, Nat.reduceLeDiff, Nat.reduceAdd, Nat.reduceSub, Nat.reduceMul, Nat.reduceEqDiff, reduceCtorEq, ↓reduceIte, Int.reduceEq, Int.reduceLT, Int.reduceLE, Int.reduceNe, Int.reduceAdd, Int.reduceSub, Int.reduceMul, Int.reduceToNat, Nat.reduceShiftRight, Nat.reduceAnd, Nat.reduceBNe]
        refine callF hl ⟨⟨rfl, rfl⟩, ⟨rfl, rfl⟩, trivial⟩ rfl rfl ?_
        simp (config := {maxSteps := 400000}) -implicitDefEqProofs only [g1, g2, g3, k1, k2, Bool.and_self, push_cast, Nat.reduceBEq, Nat.reduceLT, Nat.reduceLeDiff, Nat.reduceAdd, Nat.reduceSub, Nat.reduceMul, Nat.reduceEqDiff, reduceCtorEq, ↓reduceIte, Int.reduceEq, Int.reduceLT, Int.reduceLE, Int.reduceNe, Int.reduceAdd, Int.reduceSub, Int.reduceMul, Int.reduceToNat, Nat.reduceShiftRight, Nat.reduceAnd, Nat.reduceBNe]
        exact finC rfl rfl
      · have k1 : decide ((an : Int) = (bn : Int)) = false := decide_eq_false hA
        by_cases hB : (ad : Int) = (bd : Int)
        · have k2 : decide ((ad : Int) = (bd : Int)) = true := decide_eq_true hB
          refine pc_fn hmix h64 rfl ?_
          simp (config := {maxSteps := 400000}) -implicitDefEqProofs only [c64, g1, g2, g3, k1, k2, Bool.and_self, push_cast, Nat.reduceBEq, Nat.reduceLT, Nat.reduceLeDiff, Nat.reduceAdd, Nat.reduceSub, Nat.reduceMul, Nat.reduceEqDiff, reduceCtorEq, ↓reduceIte, Int.reduceEq, Int.reduceLT, Int.reduceLE, Int.reduceNe, Int.reduceAdd, Int.reduceSub, Int.reduceMul, Int.reduceToNat, Nat.reduceShiftRight, Nat.reduceAnd, Nat.reduceBNe]
          refine qqF s1 ⟨rfl, trivial⟩ rfl rfl ?_
          simp (config := {maxSteps := 400000}) -implicitDefEqProofs only [ebd, g1, g2, g3, k1, k2, Bool.and_self, push_cast, Nat.reduceBEq, Nat.reduceLT, Nat.reduceLeDiff, Nat.reduceAdd, Nat.reduceSub, Nat.reduceMul, Nat.reduceEqDiff, reduceCtorEq, ↓reduceIte, Int.reduceEq, Int.reduceLT, Int.reduceLE, Int.reduceNe, Int.reduceAdd, Int.reduceSub, Int.reduceMul, Int.reduceToNat, Nat.reduceShiftRight, Nat.reduceAnd, Nat.reduceBNe]
          refine qqF t1 ⟨rfl, rfl, trivial⟩ rfl rfl ?_
          simp (config := {maxSteps := 400000}) -implicitDefEqProofs only [g1, g2, g3, k1, k2, Bool.and_self, push_cast, Nat.reduceBEq, Nat.reduceLT, Nat.reduceLeDiff, Nat.reduceAdd, Nat.reduceSub, Nat.reduceMul, Nat.reduceEqDiff, reduceCtorEq, ↓reduceIte, Int.reduceEq, Int.reduceLT, Int.reduceLE, Int.reduceNe, Int.reduceAdd, Int.reduceSub, Int.reduceMul, Int.reduceToNat, Nat.reduceShiftRight, Nat.reduceAnd, Nat.reduceBNe]
          refine qqF s2 ⟨rfl, trivial⟩ rfl rfl ?_
          simp (config := {maxSteps := 400000}) -implicitDefEqProofs only [ead, g1, g2, g3, k1, k2, Bool.and_self, push_cast, Nat.reduceBEq, Nat.reduceLT, Nat.reduceLeDiff, Nat.reduceAdd, Nat.reduceSub, Nat.reduceMul, Nat.reduceEqDiff, reduceCtorEq, ↓reduceIte, Int.reduceEq, Int.reduceLT, Int.reduceLE, Int.reduceNe, Int.reduceAdd, Int.reduceSub, Int.reduceMul, Int.reduceToNat, Nat.reduceShiftRight, Nat.reduceAnd, Nat.reduceBNe]
          refine qqF t2 ⟨rfl, rfl, trivial⟩ rfl rfl ?_
          simp (config := {maxSteps := 400000}) -implicitDefEqProofs only [g1, g2, g3, k1, k2, Bool.and_self, push_cast, Nat.reduceBEq, Nat.reduceLT, Nat.reduceLeDiff, Nat.reduceAdd, Nat.reduceSub, Nat.reduceMul, Nat.reduceEqDiff, reduceCtorEq, ↓reduceIte, Int.reduceEq, Int.reduceLT, Int.reduceLE, Int.reduceNe, Int.reduceAdd, Int.reduceSub, Int.reduceMul, Int.reduceToNat, Nat.reduceShiftRight, Nat.reduceAnd, Nat.reduceBNe]
          refine callF hl ⟨⟨rfl, rfl⟩, ⟨rfl, rfl⟩, trivial⟩ rfl rfl ?_
          simp (config := {maxSteps := 400000}) -implicitDefEqProofs only [g1, g2, g3, k1, k2, Bool.and_self, push_cast, Nat.reduceBEq, Nat.reduceLT, Nat.reduceLeDiff, Nat.reduceAdd, Nat.reduceSub, Nat.reduceMul, Nat.reduceEqDiff, reduceCtorEq, ↓reduceIte, Int.reduceEq, Int.reduceLT, Int.reduceLE, Int.reduceNe, Int.reduceAdd, Int.reduceSub, Int.reduceMul, Int.reduceToNat, Nat.reduceShiftRight, Nat.reduceAnd, Nat.reduceBNe]
          exact finC rfl rfl
        · have k2 : decide ((ad : Int) = (bd : Int)) = false := decide_eq_false hB
          refine pc_fn hmix h64 rfl ?_
          simp (config := {maxSteps := 400000}) -implicitDefEqProofs only [c64, g1, g2, g3, k1, k2, Bool.and_self, push_cast, Nat.reduceBEq, Nat.reduceLT, Nat.reduceLeDiff, Nat.reduceAdd, Nat.reduceSub, Nat.reduceMul, Nat.reduceEqDiff, reduceCtorEq, ↓reduceIte, Int.reduceEq, Int.reduceLT, Int.reduceLE, Int.reduceNe, Int.reduceAdd, Int.reduceSub, Int.reduceMul, Int.reduceToNat, Nat.reduceShiftRight, Nat.reduceAnd, Nat.reduceBNe]
          refine qqF s1 ⟨rfl, trivial⟩ rfl rfl ?_
          simp (config := {maxSteps := 400000}) -implicitDefEqProofs only [ebd, g1, g2, g3, k1, k2, Bool.and_self, push_cast, Nat.reduceBEq, Nat.reduceLT, Nat.reduceLeDiff, Nat.reduceAdd, Nat.reduceSub, Nat.reduceMul, Nat.reduceEqDiff, reduceCtorEq, ↓reduceIte, Int.reduceEq, Int.reduceLT, Int.reduceLE, Int.reduceNe, Int.reduceAdd, Int.reduceSub, Int.reduceMul, Int.reduceToNat, Nat.reduceShiftRight, Nat.reduceAnd, Nat.reduceBNe]
          refine qqF t1 ⟨rfl, rfl, trivial⟩ rfl rfl ?_
          simp (config := {maxSteps := 400000}) -implicitDefEqProofs only [g1, g2, g3, k1, k2, Bool.and_self, push_cast, Nat.reduceBEq, Nat.reduceLT, Nat.reduceLeDiff, Nat.reduceAdd, Nat.reduceSub, Nat.reduceMul, Nat.reduceEqDiff, reduceCtorEq, ↓reduceIte, Int.reduceEq, Int.reduceLT, Int.reduceLE, Int.reduceNe, Int.reduceAdd, Int.reduceSub, Int.reduceMul, Int.reduceToNat, Nat.reduceShiftRight, Nat.reduceAnd, Nat.reduceBNe]
          refine qqF s2 ⟨rfl, trivial⟩ rfl rfl ?_
          simp (config := {maxSteps := 400000}) -implicitDefEqProofs only [ead, g1, g2, g3, k1, k2, Bool.and_self, push_cast, Nat.reduceBEq, Nat.reduceLT, Nat.reduceLeDiff, Nat.reduceAdd, Nat.reduceSub, Nat.reduceMul, Nat.reduceEqDiff, reduceCtorEq, ↓reduceIte, Int.reduceEq, Int.reduceLT, Int.reduceLE, Int.reduceNe, Int.reduceAdd, Int.reduceSub, Int.reduceMul, Int.reduceToNat, Nat.reduceShiftRight, Nat.reduceAnd, Nat.reduceBNe]
          refine qqF t2 ⟨rfl, rfl, trivial⟩ rfl rfl ?_
          simp (config := {maxSteps := 400000}) -implicitDefEqProofs only [g1, g2, g3, k1, k2, Bool.and_self, push_cast, Nat.reduceBEq, Nat.reduceLT, Nat.reduceLeDiff, Nat.reduceAdd, Nat.reduceSub, Nat.reduceMul, Nat.reduceEqDiff, reduceCtorEq, ↓reduceIte, Int.reduceEq, Int.reduceLT, Int.reduceLE, Int.reduceNe, Int.reduceAdd, Int.reduceSub, Int.reduceMul, Int.reduceToNat, Nat.reduceShiftRight, Nat.reduceAnd, Nat.reduceBNe]
          refine callF hl ⟨⟨rfl, rfl⟩, ⟨rfl, rfl⟩, trivial⟩ rfl rfl ?_
          simp (config := {maxSteps := 400000}) -implicitDefEqProofs only [g1, g2, g3, k1, k2, Bool.and_self, push_cast, Nat.reduceBEq, Nat.reduceLT, Nat.reduceLeDiff, Nat.reduceAdd, Nat.reduceSub, Nat.reduceMul, Nat.reduceEqDiff, reduceCtorEq, ↓reduceIte, Int.reduceEq, Int.reduceLT, Int.reduceLE, Int.reduceNe, Int.reduceAdd, Int.reduceSub, Int.reduceMul, Int.reduceToNat, Nat.reduceShiftRight, Nat.reduceAnd, Nat.reduceBNe]
          exact finC rfl rfl
    · rw [if_neg hpq] at hc
      rw [decide_eq_false hpq] at hl
      subst hc
      by_cases hA : (an : Int) = (bn : Int)
      · have k1 : decide ((an : Int) = (bn : Int)) = true := decide_eq_true hA
        have k2 : decide ((ad : Int) = (bd : Int)) = false := decide_eq_false (by omega)
        refine pc_fn hmix h64 rfl ?_
        simp (config := {maxSteps := 400000}) -implicitDefEqProofs only [c64, g1, g2, g3, k1, k2, Bool.and_self, push_cast, Nat.reduceBEq, Nat.reduceLT, Nat.reduceLeDiff, Nat.reduceAdd, Nat.reduceSub, Nat.reduceMul, Nat.reduceEqDiff, reduceCtorEq, ↓reduceIte, Int.reduceEq, Int.reduceLT, Int.reduceLE, Int.reduceNe, Int.reduceAdd, Int.reduceSub, Int.reduceMul, Int.reduceToNat, Nat.reduceShiftRight, Nat.reduceAnd, Nat.reduceBNe]
        refine qqF s1 ⟨rfl, trivial⟩ rfl rfl ?_
        simp (config := {maxSteps := 400000}) -implicitDefEqProofs only [ebd, g1, g2, g3, k1, k2, Bool.and_self, push_cast, Nat.reduceBEq, Nat.reduceLT, Nat.reduceLeDiff, Nat.reduceAdd, Nat.reduceSub, Nat.reduceMul, Nat.reduceEqDiff, reduceCtorEq, ↓reduceIte, Int.reduceEq, Int.reduceLT, Int.reduceLE, Int.reduceNe, Int.reduceAdd, Int.reduceSub, Int.reduceMul, Int.reduceToNat, Nat.reduceShiftRight, Nat.reduceAnd, Nat.reduceBNe]
        refine qqF t1 ⟨rfl, rfl, trivial⟩ rfl rfl ?_
        simp (config := {maxSteps := 400000}) -implicitDefEqProofs only [g1, g2, g3, k1, k2, Bool.and_self, push_cast, Nat.reduceBEq, Nat.reduceLT, Nat.reduceLeDiff, Nat.reduceAdd, Nat.reduceSub, Nat.reduceMul, Nat.reduceEqDiff, reduceCtorEq, ↓reduceIte, Int.reduceEq, Int.reduceLT, Int.reduceLE, Int.reduceNe, Int.reduceAdd, Int.reduceSub, Int.reduceMul, Int.reduceToNat, Nat.reduceShiftRight, Nat.reduceAnd, Nat.reduceBNe]
        refine qqF s2 ⟨rfl, trivial⟩ rfl rfl ?_
        simp (config := {maxSteps := 400000}) -implicitDefEqProofs only [ead, g1, g2, g3, k1, k2, Bool.and_self, push_cast, Nat.reduceBEq, Nat.reduceLT, Nat.reduceLeDiff, Nat.reduceAdd, Nat.reduceSub, Nat.reduceMul, Nat.reduceEqDiff, reduceCtorEq, ↓reduceIte, Int.reduceEq, Int.reduceLT, Int.reduceLE, Int.reduceNe, Int.reduceAdd, Int.reduceSub, Int.reduceMul, Int.reduceToNat, Nat.reduceShiftRight, Nat.reduceAnd, Nat.reduceBNe]
        refine qqF t2 ⟨rfl, rfl, trivial⟩ rfl rfl ?_
        simp (config := {maxSteps := 400000}) -implicitDefEqProofs only [g1, g2, g3, k1, k2, Bool.and_self, push_cast, Nat.reduceBEq, Nat.reduceLT, Nat.reduceLeDiff, Nat.reduceAdd, Nat.reduceSub, Nat.reduceMul, Nat.reduceEqDiff, reduceCtorEq, ↓reduceIte, Int.reduceEq, Int.reduceLT, Int.reduceLE, Int.reduceNe, Int.reduceAdd, Int.reduceSub, Int.reduceMul, Int.reduceToNat, Nat.reduceShiftRight, Nat.reduceAnd, Nat.reduceBNe]
        refine callF hl ⟨⟨rfl, rfl⟩, ⟨rfl, rfl⟩, trivial⟩ rfl rfl ?_
        simp (config := {maxSteps := 400000}) -implicitDefEqProofs only [g1, g2, g3, k1, k2, Bool.and_self, push_cast, Nat.reduceBEq, Nat.reduceLT, Nat.reduceLeDiff, Nat.reduceAdd, Nat.reduceSub, Nat.reduceMul, Nat.reduceEqDiff, reduceCtorEq, ↓reduceIte, Int.reduceEq, Int.reduceLT, Int.reduceLE, Int.reduceNe, Int.reduceAdd, Int.reduceSub, Int.reduceMul, Int.reduceToNat, Nat.reduceShiftRight, Nat.reduceAnd, Nat.reduceBNe]
        exact finC rfl rfl
      · have k1 : decide ((an : Int) = (bn : Int)) = false := decide_eq_false hA
        by_cases hB : (ad : Int) = (bd : Int)
        · have k2 : decide ((ad : Int) = (bd : Int)) = true := decide_eq_true hB
          refine pc_fn hmix h64 rfl ?_
          simp (config := {maxSteps := 400000}) -implicitDefEqProofs only [c64, g1, g2, g3, k1, k2, Bool.and_self, push_cast, Nat.reduceBEq, Nat.reduceLT, Nat.reduceLeDiff, Nat.reduceAdd, Nat.reduceSub, Nat.reduceMul, Nat.reduceEqDiff, reduceCtorEq, ↓reduceIte, Int.reduceEq, Int.reduceLT, Int.reduceLE, Int.reduceNe, Int.reduceAdd, Int.reduceSub, Int.reduceMul, Int.reduceToNat, Nat.reduceShiftRight, Nat.reduceAnd, Nat.reduceBNe]
          refine qqF s1 ⟨rfl, trivial⟩ rfl rfl ?_
          simp (config := {maxSteps := 400000}) -implicitDefEqProofs only [ebd, g1, g2, g3, k1, k2, Bool.and_self, push_cast, Nat.reduceBEq, Nat.reduceLT, Nat.reduceLeDiff, Nat.reduceAdd, Nat.reduceSub, Nat.reduceMul, Nat.reduceEqDiff, reduceCtorEq, ↓reduceIte, Int.reduceEq, Int.reduceLT, Int.reduceLE, Int.reduceNe, Int.reduceAdd, Int.reduceSub, Int.reduceMul, Int.reduceToNat, Nat.reduceShiftRight, Nat.reduceAnd, Nat.reduceBNe]
          refine qqF t1 ⟨rfl, rfl, trivial⟩ rfl rfl ?_
          simp (config := {maxSteps := 400000}) -implicitDefEqProofs only [g1, g2, g3, k1, k2, Bool.and_self, push_cast, Nat.reduceBEq, Nat.reduceLT, Nat.reduceLeDiff, Nat.reduceAdd, Nat.reduceSub, Nat.reduceMul, Nat.reduceEqDiff, reduceCtorEq, ↓reduceIte, Int.reduceEq, Int.reduceLT, Int.reduceLE, Int.reduceNe, Int.reduceAdd, Int.reduceSub, Int.reduceMul, Int.reduceToNat, Nat.reduceShiftRight, Nat.reduceAnd, Nat.reduceBNe]
          refine qqF s2 ⟨rfl, trivial⟩ rfl rfl ?_
          simp (config := {maxSteps := 400000}) -implicitDefEqProofs only [ead, g1, g2, g3, k1, k2, Bool.and_self, push_cast, Nat.reduceBEq, Nat.reduceLT, Nat.reduceLeDiff, Nat.reduceAdd, Nat.reduceSub, Nat.reduceMul, Nat.reduceEqDiff, reduceCtorEq, ↓reduceIte, Int.reduceEq, Int.reduceLT, Int.reduceLE, Int.reduceNe, Int.reduceAdd, Int.reduceSub, Int.reduceMul, Int.reduceToNat, Nat.reduceShiftRight, Nat.reduceAnd, Nat.reduceBNe]
          refine qqF t2 ⟨rfl, rfl, trivial⟩ rfl rfl ?_
          simp (config := {maxSteps := 400000}) -implicitDefEqProofs only [g1, g2, g3, k1, k2, Bool.and_self, push_cast, Nat.reduceBEq, Nat.reduceLT, Nat.reduceLeDiff, Nat.reduceAdd, Nat.reduceSub, Nat.reduceMul, Nat.reduceEqDiff, reduceCtorEq, ↓reduceIte, Int.reduceEq, Int.reduceLT, Int.reduceLE, Int.reduceNe, Int.reduceAdd, Int.reduceSub, Int.reduceMul, Int.reduceToNat, Nat.reduceShiftRight, Nat.reduceAnd, Nat.reduceBNe]
          refine callF hl ⟨⟨rfl, rfl⟩, ⟨rfl, rfl⟩, trivial⟩ rfl rfl ?_
          simp (config := {maxSteps := 400000}) -implicitDefEqProofs only [g1, g2, g3, k1, k2, Bool.and_self, push_cast, Nat.reduceBEq, Nat.reduceLT, Nat.reduceLeDiff, Nat.reduceAdd, Nat.reduceSub, Nat.reduceMul, Nat.reduceEqDiff, reduceCtorEq, ↓reduceIte, Int.reduceEq, Int.reduceLT, Int.reduceLE, Int.reduceNe, Int.reduceAdd, Int.reduceSub, Int.reduceMul, Int.reduceToNat, Nat.reduceShiftRight, Nat.reduceAnd, Nat.reduceBNe]
          exact finC rfl rfl
        · have k2 : decide ((ad : Int) = (bd : Int)) = false := decide_eq_false hB
          refine pc_fn hmix h64 rfl ?_
          simp (config := {maxSteps := 400000}) -implicitDefEqProofs only [c64, g1, g2, g3, k1, k2, Bool.and_self, push_cast, Nat.reduceBEq, Nat.reduceLT, Nat.reduceLeDiff, Nat.reduceAdd, Nat.reduceSub, Nat.reduceMul, Nat.reduceEqDiff, reduceCtorEq, ↓reduceIte, Int.reduceEq, Int.reduceLT, Int.reduceLE, Int.reduceNe, Int.reduceAdd, Int.reduceSub, Int.reduceMul, Int.reduceToNat, Nat.reduceShiftRight, Nat.reduceAnd, Nat.reduceBNe]
          refine qqF s1 ⟨rfl, trivial⟩ rfl rfl ?_
          simp (config := {maxSteps := 400000}) -implicitDefEqProofs only [ebd, g1, g2, g3, k1, k2, Bool.and_self, push_cast, Nat.reduceBEq, Nat.reduceLT, Nat.reduceLeDiff, Nat.reduceAdd, Nat.reduceSub, Nat.reduceMul, Nat.reduceEqDiff, reduceCtorEq, ↓reduceIte, Int.reduceEq, Int.reduceLT, Int.reduceLE, Int.reduceNe, Int.reduceAdd, Int.reduceSub, Int.reduceMul, Int.reduceToNat, Nat.reduceShiftRight, Nat.reduceAnd, Nat.reduceBNe]
          refine qqF t1 ⟨rfl, rfl, trivial⟩ rfl rfl ?_
          simp (config := {maxSteps := 400000}) -implicitDefEqProofs only [g1, g2, g3, k1, k2, Bool.and_self, push_cast, Nat.reduceBEq, Nat.reduceLT, Nat.reduceLeDiff, Nat.reduceAdd, Nat.reduceSub, Nat.reduceMul, Nat.reduceEqDiff, reduceCtorEq, ↓reduceIte, Int.reduceEq, Int.reduceLT, Int.reduceLE, Int.reduceNe, Int.reduceAdd, Int.reduceSub, Int.reduceMul, Int.reduceToNat, Nat.reduceShiftRight, Nat.reduceAnd, Nat.reduceBNe]
          refine qqF s2 ⟨rfl, trivial⟩ rfl rfl ?_
          simp (config := {maxSteps := 400000}) -implicitDefEqProofs only [ead, g1, g2, g3, k1, k2, Bool.and_self, push_cast, Nat.reduceBEq, Nat.reduceLT, Nat.reduceLeDiff, Nat.reduceAdd, Nat.reduceSub, Nat.reduceMul, Nat.reduceEqDiff, reduceCtorEq, ↓reduceIte, Int.reduceEq, Int.reduceLT, Int.reduceLE, Int.reduceNe, Int.reduceAdd, Int.reduceSub, Int.reduceMul, Int.reduceToNat, Nat.reduceShiftRight, Nat.reduceAnd, Nat.reduceBNe]
          refine qqF t2 ⟨rfl, rfl, trivial⟩ rfl rfl ?_
          simp (config := {maxSteps := 400000}) -implicitDefEqProofs only [g1, g2, g3, k1, k2, Bool.and_self, push_cast, Nat.reduceBEq, Nat.reduceLT, Nat.reduceLeDiff, Nat.reduceAdd, Nat.reduceSub, Nat.reduceMul, Nat.reduceEqDiff, reduceCtorEq, ↓reduceIte, Int.reduceEq, Int.reduceLT, Int.reduceLE, Int.reduceNe, Int.reduceAdd, Int.reduceSub, Int.reduceMul, Int.reduceToNat, Nat.reduceShiftRight, Nat.reduceAnd, Nat.reduceBNe]
          refine callF hl ⟨⟨rfl, rfl⟩, ⟨rfl, rfl⟩, trivial⟩ rfl rfl ?_
          simp (config := {maxSteps := 400000}) -implicitDefEqProofs only [g1, g2, g3, k1, k2, Bool.and_self, push_cast, Nat.reduceBEq, Nat.reduceLT, Nat.reduceLeDiff, Nat.reduceAdd, Nat.reduceSub, Nat.reduceMul, Nat.reduceEqDiff, reduceCtorEq, ↓reduceIte, Int.reduceEq, Int.reduceLT, Int.reduceLE, Int.reduceNe, Int.reduceAdd, Int.reduceSub, Int.reduceMul, Int.reduceToNat, Nat.reduceShiftRight, Nat.reduceAnd, Nat.reduceBNe]
          exact finC rfl rfl
/-- the comparison, where both fractions are in form -/
theorem cmp_pc (an ad bn bd : Nat) (ha : okQ an ad) (hb : okQ bn bd) : PC Tryd.prog 50 [QA an ad, QA bn bd] (.tup [I (cmpQ an ad bn bd), I 0]) := by
  have ha' := ha
  have hb' := hb
  unfold okQ at ha' hb'
  have k1 := fcheck_pc an ad (by simp only [i63]; omega) (by simp only [i63]; omega)
  have k2 := fcheck_pc bn bd (by simp only [i63]; omega) (by simp only [i63]; omega)
  rw [if_pos ha] at k1
  rw [if_pos hb] at k2
  have hc := cmp1_pc an ad bn bd (by omega) (by omega) (by omega) (by omega)
  obtain ⟨r, hr⟩ : ∃ r, cmpQ an ad bn bd = r := ⟨_, rfl⟩
  rw [hr] at hc ⊢
  have hboth : PC Tryd.prog 63 [QA an ad, QA bn bd, .fn 64 [] []] (.tup [I r, I 0]) := by
    refine pc_fn hmix h63 rfl ?_
    simp -implicitDefEqProofs only [c63, push_cast, Nat.reduceBEq, Nat.reduceLT, Nat.reduceLeDiff, Nat.reduceAdd, Nat.reduceSub, Nat.reduceMul, Nat.reduceEqDiff, reduceCtorEq, ↓reduceIte, Int.reduceEq, Int.reduceLT, Int.reduceLE, Int.reduceNe, Int.reduceAdd, Int.reduceSub, Int.reduceMul, Int.reduceToNat, Nat.reduceShiftRight, Nat.reduceAnd, Nat.reduceBNe]
    refine callF k1 ⟨⟨rfl, rfl⟩, trivial⟩ rfl rfl ?_
    simp -implicitDefEqProofs only [push_cast, Nat.reduceBEq, Nat.reduceLT, Nat.reduceLeDiff, Nat.reduceAdd, Nat.reduceSub, Nat.reduceMul, Nat.reduceEqDiff, reduceCtorEq, ↓reduceIte, Int.reduceEq, Int.reduceLT, Int.reduceLE, Int.reduceNe, Int.reduceAdd, Int.reduceSub, Int.reduceMul, Int.reduceToNat, Nat.reduceShiftRight, Nat.reduceAnd, Nat.reduceBNe]
    refine callF k2 ⟨⟨rfl, rfl⟩, trivial⟩ rfl rfl ?_
    simp -implicitDefEqProofs only [push_cast, Nat.reduceBEq, Nat.reduceLT, Nat.reduceLeDiff, Nat.reduceAdd, Nat.reduceSub, Nat.reduceMul, Nat.reduceEqDiff, reduceCtorEq, ↓reduceIte, Int.reduceEq, Int.reduceLT, Int.reduceLE, Int.reduceNe, Int.reduceAdd, Int.reduceSub, Int.reduceMul, Int.reduceToNat, Nat.reduceShiftRight, Nat.reduceAnd, Nat.reduceBNe]
    refine callF hc ⟨⟨rfl, rfl⟩, ⟨rfl, rfl⟩, trivial⟩ rfl rfl ?_
    simp -implicitDefEqProofs only [push_cast, Nat.reduceBEq, Nat.reduceLT, Nat.reduceLeDiff, Nat.reduceAdd, Nat.reduceSub, Nat.reduceMul, Nat.reduceEqDiff, reduceCtorEq, ↓reduceIte, Int.reduceEq, Int.reduceLT, Int.reduceLE, Int.reduceNe, Int.reduceAdd, Int.reduceSub, Int.reduceMul, Int.reduceToNat, Nat.reduceShiftRight, Nat.reduceAnd, Nat.reduceBNe]
    exact finC rfl rfl
  refine pc_fn hmix h50 rfl ?_
  simp -implicitDefEqProofs only [c50, push_cast, Nat.reduceBEq, Nat.reduceLT, Nat.reduceLeDiff, Nat.reduceAdd, Nat.reduceSub, Nat.reduceMul, Nat.reduceEqDiff, reduceCtorEq, ↓reduceIte, Int.reduceEq, Int.reduceLT, Int.reduceLE, Int.reduceNe, Int.reduceAdd, Int.reduceSub, Int.reduceMul, Int.reduceToNat, Nat.reduceShiftRight, Nat.reduceAnd, Nat.reduceBNe]
  refine callF hboth ⟨⟨rfl, rfl⟩, ⟨rfl, rfl⟩, ⟨rfl, rfl⟩, trivial⟩ rfl rfl ?_
  simp -implicitDefEqProofs only [push_cast, Nat.reduceBEq, Nat.reduceLT, Nat.reduceLeDiff, Nat.reduceAdd, Nat.reduceSub, Nat.reduceMul, Nat.reduceEqDiff, reduceCtorEq, ↓reduceIte, Int.reduceEq, Int.reduceLT, Int.reduceLE, Int.reduceNe, Int.reduceAdd, Int.reduceSub, Int.reduceMul, Int.reduceToNat, Nat.reduceShiftRight, Nat.reduceAnd, Nat.reduceBNe]
  exact finC rfl rfl
/-- fractions in form that are equal are the same -/
theorem okQ_eq {an ad bn bd : Nat} (ha : okQ an ad) (hb : okQ bn bd) (h : an * bd = bn * ad) : an = bn ∧ ad = bd := by
  unfold okQ at ha hb
  simp only [Int.natAbs_natCast, Int.toNat_natCast] at ha hb
  have h1 : ad ∣ bd := by
    have : ad ∣ an * bd := by rw [h]; exact Nat.dvd_mul_left _ _
    exact (Nat.Coprime.dvd_of_dvd_mul_left (Nat.Coprime.symm ha.2.2) this)
  have h2 : bd ∣ ad := by
    have : bd ∣ bn * ad := by rw [← h]; exact Nat.dvd_mul_left _ _
    exact (Nat.Coprime.dvd_of_dvd_mul_left (Nat.Coprime.symm hb.2.2) this)
  have h3 : ad = bd := Nat.dvd_antisymm h1 h2
  subst h3
  exact ⟨Nat.eq_of_mul_eq_mul_right (by omega) h, rfl⟩
theorem cmpQ_le {an ad bn bd : Nat} (ha : okQ an ad) (hb : okQ bn bd) : cmpQ an ad bn bd ≤ 0 ↔ an * bd ≤ bn * ad := by
  unfold cmpQ
  by_cases h1 : an = bn ∧ ad = bd
  · rw [if_pos h1]; obtain ⟨rfl, rfl⟩ := h1; simp
  · rw [if_neg h1]
    by_cases h2 : an * bd < bn * ad
    · rw [if_pos h2]; exact ⟨fun _ => Nat.le_of_lt h2, fun _ => by omega⟩
    · rw [if_neg h2]
      refine ⟨fun h => by omega, fun h => ?_⟩
      exact absurd (okQ_eq ha hb (Nat.le_antisymm h (Nat.le_of_not_lt h2))) h1
end Go.Proofs.YtligakiolapkkaaDoor

namespace Go.Proofs.YtligakiolapkkaaDoor
open Go GoV
set_option maxHeartbeats 8000000
set_option maxRecDepth 10000
set_option linter.unusedVariables false
set_option linter.unusedSimpArgs false
theorem rowN_pt : ∀ (cs : List Nat) (a : Nat), ∀ r ∈ rowN a cs, ∀ j, r.getD j 0 + (subN cs r).getD j 0 = cs.getD j 0
  | [], _, r, h, _ => by simp [rowN] at h
  | [c], a, r, h, j => by
    unfold rowN at h
    split at h
    · simp at h; subst h
      cases j with
      | zero => simp [subN]; omega
      | succ j => simp [subN]
    · simp at h
  | c :: d :: cs, a, r, h, j => by
    unfold rowN at h
    simp only [List.mem_flatMap, List.mem_map] at h
    obtain ⟨x, hx, l, hl, rfl⟩ := h
    have hx := List.mem_range.1 hx
    cases j with
    | zero => simp only [subN, List.getD_cons_zero]; omega
    | succ j =>
      simp only [subN, List.getD_cons_succ]
      exact rowN_pt (d :: cs) _ l hl j
theorem all_zero {cs : List Nat} (h : cs.all (fun c => decide (c = 0)) = true) (j : Nat) : cs.getD j 0 = 0 := by
  rw [List.all_eq_true] at h
  by_cases hj : j < cs.length
  · simpa using h _ (getD_mem (d := 0) hj)
  · simp [List.getD, List.getElem?_eq_none (Nat.le_of_not_lt hj)]
theorem tabN_props : ∀ (l cs : List Nat), ∀ y ∈ tabN l cs, y.map sumN = l ∧ (∀ r ∈ y, r.length = cs.length) ∧ ∀ j, sumN (y.map fun r => r.getD j 0) = cs.getD j 0
  | [], cs, y, h => by
    unfold tabN at h
    split at h
    · rename_i hz
      simp at h; subst h
      exact ⟨rfl, by simp, fun j => (all_zero hz j).symm⟩
    · simp at h
  | a :: l, cs, y, h => by
    unfold tabN at h
    simp only [List.mem_flatMap, List.mem_map] at h
    obtain ⟨r, hr, t, ht, rfl⟩ := h
    obtain ⟨h1, h2, h3, h4, h5⟩ := rowN_props cs a r hr
    obtain ⟨k1, k2, k3⟩ := tabN_props l _ t ht
    refine ⟨by rw [List.map_cons, h1, k1], fun q hq => ?_, fun j => ?_⟩
    · rcases List.mem_cons.1 hq with rfl | hq
      · exact h4
      · rw [k2 q hq, h5]
    · show r.getD j 0 + sumN (t.map fun r => r.getD j 0) = _
      rw [k3 j, rowN_pt cs a r hr j]
theorem castL_get (r : List Nat) (j : Nat) : (castL r).getD j 0 = ((r.getD j 0 : Nat) : Int) := by
  simp only [castL, List.getD, List.getElem?_map]
  cases r[j]? <;> rfl
theorem castL_inj : ∀ {a b : List Nat}, castL a = castL b → a = b
  | [], [], _ => rfl
  | x :: a, [], h => by simp [castL] at h
  | [], x :: b, h => by simp [castL] at h
  | x :: a, y :: b, h => by
    rw [castL_cons, castL_cons, List.cons.injEq] at h
    rw [castL_inj h.2, show x = y by omega]
theorem le_sumN : ∀ {r : List Nat} {x : Nat}, x ∈ r → x ≤ sumN r
  | y :: r, x, h => by
    show x ≤ y + sumN r
    rcases List.mem_cons.1 h with rfl | h
    · omega
    · have := le_sumN h; omega
theorem map_sumL_cast (y : List (List Nat)) : (y.map castL).map sumL = castL (y.map sumN) := by
  rw [castL, List.map_map, List.map_map]
  refine List.map_congr_left (fun r _ => ?_)
  exact sumL_cast r
theorem allL_props {t x : List (List Int)} (h : Tab t) (hx : x ∈ allL t) : rowsL x = rowsL t ∧ colsL x = colsL t ∧ Tab x ∧ x.length = t.length ∧ wid x = wid t := by
  obtain ⟨h1, h2, h3, h4, h5, h6⟩ := tab_rows h
  obtain ⟨l, hl⟩ := castL_of (rowsL t) (fun x hx => (h1 x hx).1)
  obtain ⟨cs, hc⟩ := castL_of (colsL t) (fun x hx => (h2 x hx).1)
  rw [allL, hl, hc, tabE_cast] at hx
  obtain ⟨y, hy, rfl⟩ := List.mem_map.1 hx
  obtain ⟨k1, k2, k3⟩ := tabN_props l cs y hy
  have hlen : l.length = t.length := by rw [← h5, hl, castL, List.length_map]
  have hcl : cs.length = wid t := by rw [← h6, hc, castL, List.length_map]
  have hyl : y.length = t.length := by rw [← hlen, ← k1, List.length_map]
  have htl := h.len
  have htw := h.wid
  have ew : wid (y.map castL) = cs.length := by
    unfold wid
    have hm : y.getD 0 [] ∈ y := getD_mem (by omega)
    have : ((y.map castL).getD 0 []) = castL (y.getD 0 []) := by
      simp only [List.getD, List.getElem?_map]
      cases y[0]? <;> rfl
    rw [this, castL, List.length_map, k2 _ hm]
  have er : rowsL (y.map castL) = rowsL t := by
    rw [rowsL, map_sumL_cast, k1, hl]
  have ec : colsL (y.map castL) = colsL t := by
    rw [hc]
    show (trL (y.map castL)).map sumL = castL cs
    rw [trL, ew, List.map_map]
    have key : ∀ j, (sumL ∘ fun j => (y.map castL).map (·.getD j 0)) j = ((cs.getD j 0 : Nat) : Int) := by
      intro j
      show sumL ((y.map castL).map (·.getD j 0)) = _
      rw [← k3 j, ← sumL_cast, castL, List.map_map, List.map_map]
      congr 1
      refine List.map_congr_left (fun r _ => ?_)
      exact castL_get r j
    rw [List.map_congr_left (fun j _ => key j)]
    refine List.ext_getElem (by simp [castL]) (fun i hi1 hi2 => ?_)
    simp [castL]
    simp at hi1
    simp [hi1]
  refine ⟨er, ec, ⟨by rw [List.length_map]; omega, by rw [ew, hcl]; exact htw, ?_, ?_⟩, by rw [List.length_map]; exact hyl, by rw [ew, hcl]⟩
  · intro r hr
    obtain ⟨q, hq, rfl⟩ := List.mem_map.1 hr
    refine ⟨by rw [ew, castL, List.length_map]; exact k2 q hq, ?_⟩
    intro z hz
    obtain ⟨n, hn, rfl⟩ := List.mem_map.1 hz
    have h7 := le_sumN hn
    have h8 : ((sumN q : Nat) : Int) ∈ rowsL t := by
      rw [← er, rowsL, map_sumL_cast]
      exact List.mem_map_of_mem (List.mem_map_of_mem hq)
    have h9 := h1 _ h8
    omega
  · have : totL (y.map castL) = totL t := by
      show sumL (rowsL (y.map castL)) = sumL (rowsL t)
      rw [er]
    rw [this]; exact h.tot
theorem allL_same {t x : List (List Int)} (h : Tab t) (hx : x ∈ allL t) : allL x = allL t := by
  obtain ⟨h1, h2, _⟩ := allL_props h hx
  rw [allL, h1, h2]; rfl
theorem sumB_take_le {α : Type} {f : α → Nat} : ∀ (l : List α) (k : Nat), sumB f (l.take k) ≤ sumB f l
  | [], k => by simp [sumB]
  | x :: l, 0 => Nat.zero_le _
  | x :: l, k + 1 => by
    show f x + sumB f (l.take k) ≤ f x + sumB f l
    have := sumB_take_le (f := f) l k
    omega
theorem reftail_pc {t : List (List Int)} (h : Tab t) : PC Tryd.prog 28 [TT t] (tailR t) := by
  have hw := refways_pc h
  have ha := refall_pc h
  have ht := reftotal_pc h
  have htot := total_pos h
  have hsum := tsum_le h
  obtain ⟨hs1, _⟩ := allL_small h
  have hr := reduced_pc (tsum t) (totalN t) (by omega) (by omega)
  unfold tailR
  obtain ⟨q1, e1⟩ : ∃ q, tsum t / Nat.gcd (tsum t) (totalN t) = q := ⟨_, rfl⟩
  obtain ⟨q2, e2⟩ : ∃ q, totalN t / Nat.gcd (tsum t) (totalN t) = q := ⟨_, rfl⟩
  rw [e1, e2] at hr ⊢
  obtain ⟨l, hl⟩ : ∃ l, allL t = l := ⟨_, rfl⟩
  have hm : ∀ x ∈ l, Tab x := fun x hx => by rw [← hl] at hx; exact (allL_props h hx).2.2.1
  obtain ⟨own, how⟩ : ∃ n, waysN t = n := ⟨_, rfl⟩
  obtain ⟨tot, htt⟩ : ∃ n, totalN t = n := ⟨_, rfl⟩
  obtain ⟨f, hf⟩ : ∃ f : List (List Int) → Nat, (fun x => if waysN x ≤ own then waysN x else 0) = f := ⟨_, rfl⟩
  have hts : tsum t = sumB f l := by rw [tsum, how, hf, hl]
  rw [htt] at hr ht hsum htot
  rw [how] at hw
  rw [hts] at hr hsum
  rw [hl] at ha hs1
  refine pc_fn hmix h28 rfl ?_
  simp -implicitDefEqProofs only [c28, push_cast, Nat.reduceBEq, Nat.reduceLT, Nat.reduceLeDiff, Nat.reduceAdd, Nat.reduceSub, Nat.reduceMul, Nat.reduceEqDiff, reduceCtorEq, ↓reduceIte, Int.reduceEq, Int.reduceLT, Int.reduceLE, Int.reduceNe, Int.reduceAdd, Int.reduceSub, Int.reduceMul, Int.reduceToNat, Nat.reduceShiftRight, Nat.reduceAnd, Nat.reduceBNe]
  refine callF hw ⟨rfl, trivial⟩ rfl rfl ?_
  simp -implicitDefEqProofs only [push_cast, Nat.reduceBEq, Nat.reduceLT, Nat.reduceLeDiff, Nat.reduceAdd, Nat.reduceSub, Nat.reduceMul, Nat.reduceEqDiff, reduceCtorEq, ↓reduceIte, Int.reduceEq, Int.reduceLT, Int.reduceLE, Int.reduceNe, Int.reduceAdd, Int.reduceSub, Int.reduceMul, Int.reduceToNat, Nat.reduceShiftRight, Nat.reduceAnd, Nat.reduceBNe]
  refine callF ha ⟨rfl, trivial⟩ rfl rfl ?_
  simp -implicitDefEqProofs only [push_cast, Nat.reduceBEq, Nat.reduceLT, Nat.reduceLeDiff, Nat.reduceAdd, Nat.reduceSub, Nat.reduceMul, Nat.reduceEqDiff, reduceCtorEq, ↓reduceIte, Int.reduceEq, Int.reduceLT, Int.reduceLE, Int.reduceNe, Int.reduceAdd, Int.reduceSub, Int.reduceMul, Int.reduceToNat, Nat.reduceShiftRight, Nat.reduceAnd, Nat.reduceBNe]
  refine loop_w (α := Nat) (fun k => ⟨[(6, I k), (5, TTT l), (4, I (sumB f (l.take k) : Nat)), (3, I own), (2, .ptr 0 0), (0, TT t)], [.box [I 0, I 0]], []⟩) (fun k => k ≤ l.length) (fun k => l.length - k) 0 (wk_cut [6, 5, 4, 3, 2, 0] 1 rfl ⟨rfl, rfl, rfl⟩ rfl) (by omega) ?_
  intro k hk
  simp -implicitDefEqProofs only [c28L0, push_cast, Nat.reduceBEq, Nat.reduceLT, Nat.reduceLeDiff, Nat.reduceAdd, Nat.reduceSub, Nat.reduceMul, Nat.reduceEqDiff, reduceCtorEq, ↓reduceIte, Int.reduceEq, Int.reduceLT, Int.reduceLE, Int.reduceNe, Int.reduceAdd, Int.reduceSub, Int.reduceMul, Int.reduceToNat, Nat.reduceShiftRight, Nat.reduceAnd, Nat.reduceBNe]
  refine ⟨fun h7 => ⟨⟨by omega, h7⟩, ?_⟩, fun h7 => ?_⟩
  · obtain ⟨x, hx⟩ : ∃ x, l.getD k [] = x := ⟨_, rfl⟩
    have hxm : x ∈ l := by rw [← hx]; exact getD_mem (by omega)
    have hxw := refways_pc (hm x hxm)
    have hstep : sumB f (l.take (k + 1)) = sumB f (l.take k) + f x := by
      rw [take_at [] (by omega : k < l.length), sumB_app, hx]
      show _ + (f x + 0) = _
      rfl
    have hb2 := sumB_take_le (f := f) l (k + 1)
    have hb1 := ways_small (hm x hxm)
    obtain ⟨w, hwx⟩ : ∃ w, waysN x = w := ⟨_, rfl⟩
    have hfx : f x = if w ≤ own then w else 0 := by rw [← hf, ← hwx]
    rw [hwx] at hxw hb1
    obtain ⟨s, hs⟩ : ∃ s, sumB f (l.take k) = s := ⟨_, rfl⟩
    rw [hs] at hstep ⊢
    rw [hx]
    refine callF hxw ⟨rfl, trivial⟩ rfl rfl ?_
    simp -implicitDefEqProofs only [push_cast, Nat.reduceBEq, Nat.reduceLT, Nat.reduceLeDiff, Nat.reduceAdd, Nat.reduceSub, Nat.reduceMul, Nat.reduceEqDiff, reduceCtorEq, ↓reduceIte, Int.reduceEq, Int.reduceLT, Int.reduceLE, Int.reduceNe, Int.reduceAdd, Int.reduceSub, Int.reduceMul, Int.reduceToNat, Nat.reduceShiftRight, Nat.reduceAnd, Nat.reduceBNe]
    refine ⟨fun h8 => ?_, fun h8 => ?_⟩
    · rw [if_pos (by omega)] at hfx
      refine ⟨by simp only [inR]; omega, by simp only [inR]; omega, k + 1, by omega, by omega, ?_⟩
      rw [hstep, hfx]
      exact wk_c rfl ⟨rfl, rfl, rfl⟩ rfl
    · rw [if_neg (by omega)] at hfx
      refine ⟨by simp only [inR]; omega, k + 1, by omega, by omega, ?_⟩
      rw [hstep, hfx, Nat.add_zero]
      exact wk_c rfl ⟨rfl, rfl, rfl⟩ rfl
  · have : k = l.length := by omega
    subst this
    rw [List.take_length]
    refine callF ht ⟨rfl, trivial⟩ rfl rfl ?_
    simp -implicitDefEqProofs only [push_cast, Nat.reduceBEq, Nat.reduceLT, Nat.reduceLeDiff, Nat.reduceAdd, Nat.reduceSub, Nat.reduceMul, Nat.reduceEqDiff, reduceCtorEq, ↓reduceIte, Int.reduceEq, Int.reduceLT, Int.reduceLE, Int.reduceNe, Int.reduceAdd, Int.reduceSub, Int.reduceMul, Int.reduceToNat, Nat.reduceShiftRight, Nat.reduceAnd, Nat.reduceBNe]
    refine callF hr ⟨rfl, rfl, trivial⟩ rfl rfl ?_
    simp -implicitDefEqProofs only [push_cast, Nat.reduceBEq, Nat.reduceLT, Nat.reduceLeDiff, Nat.reduceAdd, Nat.reduceSub, Nat.reduceMul, Nat.reduceEqDiff, reduceCtorEq, ↓reduceIte, Int.reduceEq, Int.reduceLT, Int.reduceLE, Int.reduceNe, Int.reduceAdd, Int.reduceSub, Int.reduceMul, Int.reduceToNat, Nat.reduceShiftRight, Nat.reduceAnd, Nat.reduceBNe]
    exact finC rfl rfl
end Go.Proofs.YtligakiolapkkaaDoor

namespace Go.Proofs.YtligakiolapkkaaDoor
open Go GoV
set_option maxHeartbeats 8000000
set_option maxRecDepth 10000
set_option linter.unusedVariables false
set_option linter.unusedSimpArgs false
def tN (t : List (List Int)) : Nat := tsum t / Nat.gcd (tsum t) (totalN t)
def tD (t : List (List Int)) : Nat := totalN t / Nat.gcd (tsum t) (totalN t)
theorem tail_ok {t : List (List Int)} (h : Tab t) : okQ (tN t) (tD t) ∧ 1 ≤ tD t ∧ tD t ≤ 2432902008176640000 ∧ tN t ≤ 2432902008176640000 := by
  have htot := total_pos h
  have hsum := tsum_le h
  have hg : 0 < Nat.gcd (tsum t) (totalN t) := Nat.gcd_pos_of_pos_right _ (by omega)
  have h1 : tD t ≤ totalN t := Nat.div_le_self _ _
  have h2 : tN t ≤ tsum t := Nat.div_le_self _ _
  have h3 : 1 ≤ tD t := Nat.div_pos (Nat.le_of_dvd (by omega) (Nat.gcd_dvd_right _ _)) hg
  have h4 : Nat.gcd (tN t) (tD t) = 1 := Nat.coprime_div_gcd_div_gcd hg
  refine ⟨?_, h3, by omega, by omega⟩
  unfold okQ
  rw [Int.natAbs_natCast, Int.toNat_natCast]
  exact ⟨⟨by omega, by omega⟩, by omega, h4⟩
def rej (t : List (List Int)) (n d : Int) : Bool := if lev n d = 0 then decide (tN t * d.toNat ≤ n.toNat * tD t) else false
theorem lev_zero {n d : Int} (h : lev n d = 0) : okQ n d ∧ 0 ≤ n ∧ n ≤ d := by
  unfold lev at h
  split at h
  · rename_i hk
    split at h
    · cases h
    · exact ⟨hk, by omega, by omega⟩
  · cases h
theorem reject_pc {t : List (List Int)} (h : Tab t) (n d : Int) (hn : i63 n) (hd : i63 d) : PC Tryd.prog 30 [TT t, QA n d] (.tup [B (rej t n d), I (lev n d)]) := by
  have ht : PC Tryd.prog 27 [TT t] (.tup [QA (tN t) (tD t), I 0]) := tail_pc h
  obtain ⟨hok, hd1, hd2, hd3⟩ := tail_ok h
  have hk := fcheck_pc n d hn hd
  obtain ⟨p, hp⟩ : ∃ p, tN t = p := ⟨_, rfl⟩
  obtain ⟨q, hq⟩ : ∃ p, tD t = p := ⟨_, rfl⟩
  rw [hp, hq] at ht hok
  unfold rej lev
  rw [hp, hq]
  by_cases hQ : okQ n d
  · rw [if_pos hQ] at hk ⊢
    have hQ' := hQ
    unfold okQ at hQ'
    by_cases h1 : n < 0
    · have e1 : decide (n < 0) = true := decide_eq_true h1
      rw [if_pos (Or.inl h1), if_neg (by decide)]
      refine pc_fn hmix h30 rfl ?_
      simp -implicitDefEqProofs only [c30, e1, push_cast, Nat.reduceBEq, Nat.reduceLT, Nat.reduceLeDiff, Nat.reduceAdd, Nat.reduceSub, Nat.reduceMul, Nat.reduceEqDiff, reduceCtorEq, ↓reduceIte, Int.reduceEq, Int.reduceLT, Int.reduceLE, Int.reduceNe, Int.reduceAdd, Int.reduceSub, Int.reduceMul, Int.reduceToNat, Nat.reduceShiftRight, Nat.reduceAnd, Nat.reduceBNe]
      refine callF ht ⟨rfl, trivial⟩ rfl rfl ?_
      simp -implicitDefEqProofs only [e1, push_cast, Nat.reduceBEq, Nat.reduceLT, Nat.reduceLeDiff, Nat.reduceAdd, Nat.reduceSub, Nat.reduceMul, Nat.reduceEqDiff, reduceCtorEq, ↓reduceIte, Int.reduceEq, Int.reduceLT, Int.reduceLE, Int.reduceNe, Int.reduceAdd, Int.reduceSub, Int.reduceMul, Int.reduceToNat, Nat.reduceShiftRight, Nat.reduceAnd, Nat.reduceBNe]
      refine callF hk ⟨⟨rfl, rfl⟩, trivial⟩ rfl rfl ?_
      simp -implicitDefEqProofs only [e1, push_cast, Nat.reduceBEq, Nat.reduceLT, Nat.reduceLeDiff, Nat.reduceAdd, Nat.reduceSub, Nat.reduceMul, Nat.reduceEqDiff, reduceCtorEq, ↓reduceIte, Int.reduceEq, Int.reduceLT, Int.reduceLE, Int.reduceNe, Int.reduceAdd, Int.reduceSub, Int.reduceMul, Int.reduceToNat, Nat.reduceShiftRight, Nat.reduceAnd, Nat.reduceBNe]
      exact finC rfl rfl
    · have e1 : decide (n < 0) = false := decide_eq_false h1
      by_cases h2 : d < n
      · have e2 : decide (d < n) = true := decide_eq_true h2
        rw [if_pos (Or.inr h2), if_neg (by decide)]
        refine pc_fn hmix h30 rfl ?_
        simp -implicitDefEqProofs only [c30, e1, e2, push_cast, Nat.reduceBEq, Nat.reduceLT, Nat.reduceLeDiff, Nat.reduceAdd, Nat.reduceSub, Nat.reduceMul, Nat.reduceEqDiff, reduceCtorEq, ↓reduceIte, Int.reduceEq, Int.reduceLT, Int.reduceLE, Int.reduceNe, Int.reduceAdd, Int.reduceSub, Int.reduceMul, Int.reduceToNat, Nat.reduceShiftRight, Nat.reduceAnd, Nat.reduceBNe]
        refine callF ht ⟨rfl, trivial⟩ rfl rfl ?_
        simp -implicitDefEqProofs only [e1, e2, push_cast, Nat.reduceBEq, Nat.reduceLT, Nat.reduceLeDiff, Nat.reduceAdd, Nat.reduceSub, Nat.reduceMul, Nat.reduceEqDiff, reduceCtorEq, ↓reduceIte, Int.reduceEq, Int.reduceLT, Int.reduceLE, Int.reduceNe, Int.reduceAdd, Int.reduceSub, Int.reduceMul, Int.reduceToNat, Nat.reduceShiftRight, Nat.reduceAnd, Nat.reduceBNe]
        refine callF hk ⟨⟨rfl, rfl⟩, trivial⟩ rfl rfl ?_
        simp -implicitDefEqProofs only [e1, e2, push_cast, Nat.reduceBEq, Nat.reduceLT, Nat.reduceLeDiff, Nat.reduceAdd, Nat.reduceSub, Nat.reduceMul, Nat.reduceEqDiff, reduceCtorEq, ↓reduceIte, Int.reduceEq, Int.reduceLT, Int.reduceLE, Int.reduceNe, Int.reduceAdd, Int.reduceSub, Int.reduceMul, Int.reduceToNat, Nat.reduceShiftRight, Nat.reduceAnd, Nat.reduceBNe]
        exact finC rfl rfl
      · have e2 : decide (d < n) = false := decide_eq_false h2
        rw [show (if n < 0 ∨ d < n then (2 : Int) else 0) = 0 from if_neg (by omega), if_pos rfl]
        obtain ⟨N, rfl⟩ : ∃ N : Nat, n = N := ⟨n.toNat, by omega⟩
        obtain ⟨D, rfl⟩ : ∃ N : Nat, d = N := ⟨d.toNat, by omega⟩
        rw [Int.toNat_natCast, Int.toNat_natCast]
        have hc := cmp_pc p q N D hok hQ
        have hle := cmpQ_le hok hQ
        obtain ⟨c, hcc⟩ : ∃ c, cmpQ p q N D = c := ⟨_, rfl⟩
        rw [hcc] at hc hle
        rw [show decide (p * D ≤ N * q) = decide (c ≤ 0) by rw [decide_eq_decide]; exact hle.symm]
        refine pc_fn hmix h30 rfl ?_
        simp -implicitDefEqProofs only [c30, e1, e2, push_cast, Nat.reduceBEq, Nat.reduceLT, Nat.reduceLeDiff, Nat.reduceAdd, Nat.reduceSub, Nat.reduceMul, Nat.reduceEqDiff, reduceCtorEq, ↓reduceIte, Int.reduceEq, Int.reduceLT, Int.reduceLE, Int.reduceNe, Int.reduceAdd, Int.reduceSub, Int.reduceMul, Int.reduceToNat, Nat.reduceShiftRight, Nat.reduceAnd, Nat.reduceBNe]
        refine callF ht ⟨rfl, trivial⟩ rfl rfl ?_
        simp -implicitDefEqProofs only [e1, e2, push_cast, Nat.reduceBEq, Nat.reduceLT, Nat.reduceLeDiff, Nat.reduceAdd, Nat.reduceSub, Nat.reduceMul, Nat.reduceEqDiff, reduceCtorEq, ↓reduceIte, Int.reduceEq, Int.reduceLT, Int.reduceLE, Int.reduceNe, Int.reduceAdd, Int.reduceSub, Int.reduceMul, Int.reduceToNat, Nat.reduceShiftRight, Nat.reduceAnd, Nat.reduceBNe]
        refine callF hk ⟨⟨rfl, rfl⟩, trivial⟩ rfl rfl ?_
        simp -implicitDefEqProofs only [e1, e2, push_cast, Nat.reduceBEq, Nat.reduceLT, Nat.reduceLeDiff, Nat.reduceAdd, Nat.reduceSub, Nat.reduceMul, Nat.reduceEqDiff, reduceCtorEq, ↓reduceIte, Int.reduceEq, Int.reduceLT, Int.reduceLE, Int.reduceNe, Int.reduceAdd, Int.reduceSub, Int.reduceMul, Int.reduceToNat, Nat.reduceShiftRight, Nat.reduceAnd, Nat.reduceBNe]
        refine callF hc ⟨⟨rfl, rfl⟩, ⟨rfl, rfl⟩, trivial⟩ rfl rfl ?_
        simp -implicitDefEqProofs only [push_cast, Nat.reduceBEq, Nat.reduceLT, Nat.reduceLeDiff, Nat.reduceAdd, Nat.reduceSub, Nat.reduceMul, Nat.reduceEqDiff, reduceCtorEq, ↓reduceIte, Int.reduceEq, Int.reduceLT, Int.reduceLE, Int.reduceNe, Int.reduceAdd, Int.reduceSub, Int.reduceMul, Int.reduceToNat, Nat.reduceShiftRight, Nat.reduceAnd, Nat.reduceBNe]
        refine ⟨fun h => ?_, fun h => ?_⟩
        · rw [decide_eq_true h]; exact finC rfl rfl
        · rw [decide_eq_false h]; exact finC rfl rfl
  · rw [if_neg hQ] at hk ⊢
    rw [if_neg (by decide)]
    refine pc_fn hmix h30 rfl ?_
    simp -implicitDefEqProofs only [c30, push_cast, Nat.reduceBEq, Nat.reduceLT, Nat.reduceLeDiff, Nat.reduceAdd, Nat.reduceSub, Nat.reduceMul, Nat.reduceEqDiff, reduceCtorEq, ↓reduceIte, Int.reduceEq, Int.reduceLT, Int.reduceLE, Int.reduceNe, Int.reduceAdd, Int.reduceSub, Int.reduceMul, Int.reduceToNat, Nat.reduceShiftRight, Nat.reduceAnd, Nat.reduceBNe]
    refine callF ht ⟨rfl, trivial⟩ rfl rfl ?_
    simp -implicitDefEqProofs only [push_cast, Nat.reduceBEq, Nat.reduceLT, Nat.reduceLeDiff, Nat.reduceAdd, Nat.reduceSub, Nat.reduceMul, Nat.reduceEqDiff, reduceCtorEq, ↓reduceIte, Int.reduceEq, Int.reduceLT, Int.reduceLE, Int.reduceNe, Int.reduceAdd, Int.reduceSub, Int.reduceMul, Int.reduceToNat, Nat.reduceShiftRight, Nat.reduceAnd, Nat.reduceBNe]
    refine callF hk ⟨⟨rfl, rfl⟩, trivial⟩ rfl rfl ?_
    simp -implicitDefEqProofs only [push_cast, Nat.reduceBEq, Nat.reduceLT, Nat.reduceLeDiff, Nat.reduceAdd, Nat.reduceSub, Nat.reduceMul, Nat.reduceEqDiff, reduceCtorEq, ↓reduceIte, Int.reduceEq, Int.reduceLT, Int.reduceLE, Int.reduceNe, Int.reduceAdd, Int.reduceSub, Int.reduceMul, Int.reduceToNat, Nat.reduceShiftRight, Nat.reduceAnd, Nat.reduceBNe]
    exact finC rfl rfl
theorem reject_bad (t : List (List Int)) (hl : t.length ≤ 1000) (hr : ∀ r ∈ t, r.length ≤ 1000) (hv : validB t = false) (n d : Int) : PC Tryd.prog 30 [TT t, QA n d] (.tup [B false, I 300]) := by
  have ht := tail_bad t hl hr hv
  refine pc_fn hmix h30 rfl ?_
  simp -implicitDefEqProofs only [c30, push_cast, Nat.reduceBEq, Nat.reduceLT, Nat.reduceLeDiff, Nat.reduceAdd, Nat.reduceSub, Nat.reduceMul, Nat.reduceEqDiff, reduceCtorEq, ↓reduceIte, Int.reduceEq, Int.reduceLT, Int.reduceLE, Int.reduceNe, Int.reduceAdd, Int.reduceSub, Int.reduceMul, Int.reduceToNat, Nat.reduceShiftRight, Nat.reduceAnd, Nat.reduceBNe]
  refine callF ht ⟨rfl, trivial⟩ rfl rfl ?_
  simp -implicitDefEqProofs only [push_cast, Nat.reduceBEq, Nat.reduceLT, Nat.reduceLeDiff, Nat.reduceAdd, Nat.reduceSub, Nat.reduceMul, Nat.reduceEqDiff, reduceCtorEq, ↓reduceIte, Int.reduceEq, Int.reduceLT, Int.reduceLE, Int.reduceNe, Int.reduceAdd, Int.reduceSub, Int.reduceMul, Int.reduceToNat, Nat.reduceShiftRight, Nat.reduceAnd, Nat.reduceBNe]
  exact finC rfl rfl
end Go.Proofs.YtligakiolapkkaaDoor

namespace Go.Proofs.YtligakiolapkkaaDoor
open Go GoV
set_option maxHeartbeats 8000000
set_option maxRecDepth 10000
theorem All_pc (t : List (List Int)) (hl : t.length ≤ 1000) (hr : ∀ r ∈ t, r.length ≤ 1000) : PC Tryd.prog 23 [TT t] (if validB t then .tup [TTT (allL t), I 0] else .tup [TTT [], I 300]) := by
  cases hv : validB t with
  | false => exact all_bad t hl hr hv
  | true =>
    show PC Tryd.prog 23 [TT t] (.tup [TTT (allL t), I 0])
    exact shapes (P := fun t => PC Tryd.prog 23 [TT t] (.tup [TTT (allL t), I 0])) (tab_of hv) (fun a b c d h _ => by rw [allL_22]; exact All22 a b c d h) (fun a b c d e f h _ => by rw [allL_23]; exact All23 a b c d e f h) (fun a b c d e f h _ => by rw [allL_32]; exact All32 a b c d e f h) (fun a b c d e f g i j h _ => by rw [allL_33]; exact All33 a b c d e f g i j h)
theorem same_pc (t : List (List Int)) (hl : t.length ≤ 1000) (hr : ∀ r ∈ t, r.length ≤ 1000) : PC Tryd.prog 26 [TT t, TT t] (B true) := by
  refine pc_fn hmix h26 rfl ?_
  simp -implicitDefEqProofs only [c26, push_cast, Nat.reduceBEq, Nat.reduceLT, Nat.reduceLeDiff, Nat.reduceAdd, Nat.reduceSub, Nat.reduceMul, Nat.reduceEqDiff, reduceCtorEq, ↓reduceIte, Int.reduceEq, Int.reduceLT, Int.reduceLE, Int.reduceNe, Int.reduceAdd, Int.reduceSub, Int.reduceMul, Int.reduceToNat, Nat.reduceShiftRight, Nat.reduceAnd, Nat.reduceBNe]
  refine loop_w (α := Nat) (fun k => ⟨[(5, I k), (1, TT t), (0, TT t)], [], []⟩) (fun k => k ≤ t.length) (fun k => t.length - k) 0 (wk_cut [5, 1, 0] 0 rfl ⟨rfl, rfl, rfl⟩ rfl) (by omega) ?_
  intro k hk
  simp -implicitDefEqProofs only [c26L1, push_cast, Nat.reduceBEq, Nat.reduceLT, Nat.reduceLeDiff, Nat.reduceAdd, Nat.reduceSub, Nat.reduceMul, Nat.reduceEqDiff, reduceCtorEq, ↓reduceIte, Int.reduceEq, Int.reduceLT, Int.reduceLE, Int.reduceNe, Int.reduceAdd, Int.reduceSub, Int.reduceMul, Int.reduceToNat, Nat.reduceShiftRight, Nat.reduceAnd, Nat.reduceBNe]
  refine ⟨fun h => ⟨⟨by omega, h⟩, ⟨by omega, h⟩, ?_⟩, fun h => finC rfl rfl⟩
  obtain ⟨r, hre⟩ : ∃ r, t.getD k [] = r := ⟨_, rfl⟩
  have hrl := hr r (by rw [← hre]; exact getD_mem (by omega))
  refine loop_w (α := Nat) (fun j => ⟨[(6, I j), (5, I k), (1, TT t), (0, TT t)], [], []⟩) (fun j => j ≤ r.length) (fun j => r.length - j) 0 (wk_cut [6, 5, 1, 0] 0 rfl ⟨rfl, rfl, rfl⟩ rfl) (by omega) ?_
  intro j hj
  simp -implicitDefEqProofs only [c26L0, hre, push_cast, Nat.reduceBEq, Nat.reduceLT, Nat.reduceLeDiff, Nat.reduceAdd, Nat.reduceSub, Nat.reduceMul, Nat.reduceEqDiff, reduceCtorEq, ↓reduceIte, Int.reduceEq, Int.reduceLT, Int.reduceLE, Int.reduceNe, Int.reduceAdd, Int.reduceSub, Int.reduceMul, Int.reduceToNat, Nat.reduceShiftRight, Nat.reduceAnd, Nat.reduceBNe]
  exact ⟨⟨by omega, h⟩, fun h2 => ⟨⟨by omega, h⟩, ⟨by omega, h2⟩, ⟨by omega, h⟩, ⟨by omega, h2⟩, by simp only [inR]; omega, j + 1, by omega, by omega, wk_c rfl ⟨rfl, rfl, rfl⟩ rfl⟩, fun h2 => ⟨by simp only [inR]; omega, k + 1, by omega, by omega, wk_c rfl ⟨rfl, rfl, rfl⟩ rfl⟩⟩
theorem eqfunc_pc (l : List (List (List Int))) (hl : l.length ≤ 1000000000000) (hm : ∀ t ∈ l, t.length ≤ 1000 ∧ ∀ r ∈ t, r.length ≤ 1000) : PC Tryd.prog 24 [TTT l, TTT l, .fn 26 [] []] (B true) := by
  refine pc_fn hmix h24 rfl ?_
  simp -implicitDefEqProofs only [c24, push_cast, Nat.reduceBEq, Nat.reduceLT, Nat.reduceLeDiff, Nat.reduceAdd, Nat.reduceSub, Nat.reduceMul, Nat.reduceEqDiff, reduceCtorEq, ↓reduceIte, Int.reduceEq, Int.reduceLT, Int.reduceLE, Int.reduceNe, Int.reduceAdd, Int.reduceSub, Int.reduceMul, Int.reduceToNat, Nat.reduceShiftRight, Nat.reduceAnd, Nat.reduceBNe]
  refine loop_w (α := Nat) (fun k => ⟨[(17, I k), (16, I l.length), (15, TTT l), (2, .fn 26 [] []), (1, TTT l)], [], []⟩) (fun k => k ≤ l.length) (fun k => l.length - k) 0 (wk_cut [17, 16, 15, 2, 1] 0 rfl ⟨rfl, rfl, rfl⟩ rfl) (by omega) ?_
  intro k hk
  simp -implicitDefEqProofs only [c24L0, push_cast, Nat.reduceBEq, Nat.reduceLT, Nat.reduceLeDiff, Nat.reduceAdd, Nat.reduceSub, Nat.reduceMul, Nat.reduceEqDiff, reduceCtorEq, ↓reduceIte, Int.reduceEq, Int.reduceLT, Int.reduceLE, Int.reduceNe, Int.reduceAdd, Int.reduceSub, Int.reduceMul, Int.reduceToNat, Nat.reduceShiftRight, Nat.reduceAnd, Nat.reduceBNe]
  refine ⟨fun h => ⟨⟨by omega, h⟩, ⟨by omega, h⟩, ?_⟩, fun h => finC rfl rfl⟩
  have hx := hm _ (getD_mem (k := k) (d := []) (by omega : k < l.length))
  refine callF (same_pc _ hx.1 hx.2) ⟨rfl, rfl, trivial⟩ rfl rfl ?_
  simp -implicitDefEqProofs only [push_cast, Nat.reduceBEq, Nat.reduceLT, Nat.reduceLeDiff, Nat.reduceAdd, Nat.reduceSub, Nat.reduceMul, Nat.reduceEqDiff, reduceCtorEq, ↓reduceIte, Int.reduceEq, Int.reduceLT, Int.reduceLE, Int.reduceNe, Int.reduceAdd, Int.reduceSub, Int.reduceMul, Int.reduceToNat, Nat.reduceShiftRight, Nat.reduceAnd, Nat.reduceBNe]
  exact ⟨by simp only [inR]; omega, k + 1, by omega, by omega, wk_c rfl ⟨rfl, rfl, rfl⟩ rfl⟩
end Go.Proofs.YtligakiolapkkaaDoor

namespace Go.Proofs.YtligakiolapkkaaDoor
open Go GoV
set_option maxRecDepth 1000000
abbrev diag : List (List Int) := [[7, 0, 0], [0, 7, 0], [0, 0, 6]]
abbrev tea : List (List Int) := [[1, 0], [0, 0]]
abbrev five : List (List Int) := [[5, 5], [5, 5]]
abbrev twenty : List (List Int) := [[20, 0], [0, 0]]
theorem tab_diag : Tab diag := tab_of (by kernel_rfl)
theorem tab_tea : Tab tea := tab_of (by kernel_rfl)
theorem tab_five : Tab five := tab_of (by kernel_rfl)
theorem tab_twenty : Tab twenty := tab_of (by kernel_rfl)
theorem kAll : PC Tryd.prog 23 [TT diag] (.tup [TTT (allL diag), I 0]) := by
  have h := All_pc diag (by simp) (by simp)
  rw [tab_valid tab_diag] at h
  exact h
theorem rej_at {t : List (List Int)} (h : Tab t) {n d : Int} {b : Bool} {e : Int} (hn : i63 n) (hd : i63 d) (hb : rej t n d = b) (he : lev n d = e) : PC Tryd.prog 30 [TT t, QA n d] (.tup [B b, I e]) := by
  have h1 := reject_pc h n d hn hd
  rw [hb, he] at h1
  exact h1
theorem tail_at {t : List (List Int)} (h : Tab t) {n d : Nat} (hn : tN t = n) (hd : tD t = d) : PC Tryd.prog 27 [TT t] (TQ n d) := by
  have h1 : PC Tryd.prog 27 [TT t] (.tup [QA (tN t) (tD t), I 0]) := tail_pc h
  rw [hn, hd] at h1
  exact h1
theorem k1 : PC Tryd.prog 30 [TT diag, QA 1 133024320] (.tup [B false, I 0]) := rej_at tab_diag (by simp only [i63]; omega) (by simp only [i63]; omega) (by kernel_rfl) (by kernel_rfl)
theorem k2 : PC Tryd.prog 30 [TT tea, QA 0 1] (.tup [B false, I 0]) := rej_at tab_tea (by simp only [i63]; omega) (by simp only [i63]; omega) (by kernel_rfl) (by kernel_rfl)
theorem k3 : PC Tryd.prog 30 [.nils, QA 0 0] (.tup [B false, I 300]) := by
  have h := reject_bad [] (by simp) (by simp) (by kernel_rfl) 0 0
  exact VC.mono (.fn 30) _ _ _ _ (fun v h' e => e) (pc_frame (h := []) h rfl ⟨trivial, ⟨rfl, rfl⟩, trivial⟩ rfl)
theorem k4 : PC Tryd.prog 30 [TT diag, QA 2 4] (.tup [B false, I 5]) := rej_at tab_diag (by simp only [i63]; omega) (by simp only [i63]; omega) (by kernel_rfl) (by kernel_rfl)
theorem k5 : PC Tryd.prog 30 [TT diag, QA (-1) 2] (.tup [B false, I 2]) := rej_at tab_diag (by simp only [i63]; omega) (by simp only [i63]; omega) (by kernel_rfl) (by kernel_rfl)
theorem k6 : PC Tryd.prog 30 [TT diag, QA 0 0] (.tup [B false, I 5]) := rej_at tab_diag (by simp only [i63]; omega) (by simp only [i63]; omega) (by kernel_rfl) (by kernel_rfl)
theorem k7 : PC Tryd.prog 30 [TT diag, QA 4611686018427387903 4611686018427387904] (.tup [B false, I 5]) := rej_at tab_diag (by simp only [i63]; omega) (by simp only [i63]; omega) (by kernel_rfl) (by kernel_rfl)
theorem k8 : PC Tryd.prog 30 [TT five, QA 4611686018427387902 4611686018427387903] (.tup [B false, I 0]) := rej_at tab_five (by simp only [i63]; omega) (by simp only [i63]; omega) (by kernel_rfl) (by kernel_rfl)
theorem k9 : PC Tryd.prog 27 [TT tea] (TQ (1 : Nat) (1 : Nat)) := tail_at tab_tea (by kernel_rfl) (by kernel_rfl)
theorem k10 : PC Tryd.prog 27 [TT twenty] (TQ (1 : Nat) (1 : Nat)) := tail_at tab_twenty (by kernel_rfl) (by kernel_rfl)
def orcK : Orc :=
  orc1 22 [] (B true) <| orc1 23 [TT diag] (.tup [TTT (allL diag), I 0]) <| orc1 30 [TT diag, QA 1 133024320] (.tup [B false, I 0]) <| orc1 30 [TT tea, QA 0 1] (.tup [B false, I 0]) <|
  orc1 30 [.nils, QA 0 0] (.tup [B false, I 300]) <| orc1 30 [TT diag, QA 2 4] (.tup [B false, I 5]) <| orc1 30 [TT diag, QA (-1) 2] (.tup [B false, I 2]) <| orc1 30 [TT diag, QA 0 0] (.tup [B false, I 5]) <|
  orc1 30 [TT diag, QA 4611686018427387903 4611686018427387904] (.tup [B false, I 5]) <| orc1 30 [TT five, QA 4611686018427387902 4611686018427387903] (.tup [B false, I 0]) <|
  orc1 27 [TT tea] (TQ (1 : Nat) (1 : Nat)) <| orc1 27 [TT twenty] (TQ (1 : Nat) (1 : Nat)) <| orcT orcNone
theorem orcK_ok : OrcOK Tryd.prog orcK :=
  orc1_ok (orc1_ok (orc1_ok (orc1_ok (orc1_ok (orc1_ok (orc1_ok (orc1_ok (orc1_ok (orc1_ok (orc1_ok (orc1_ok (orcT_ok orcNone_ok) k10 rfl rfl) k9 rfl rfl) k8 rfl rfl) k7 rfl rfl) k6 rfl rfl) k5 rfl rfl) k4 rfl rfl) k3 rfl rfl) k2 rfl rfl) k1 rfl rfl) kAll rfl rfl) works_pc rfl rfl
theorem known_pc : PC Tryd.prog 8 [] (.dat .bool true) := pc_run hmix orcK_ok 400 (by kernel_rfl)
end Go.Proofs.YtligakiolapkkaaDoor
