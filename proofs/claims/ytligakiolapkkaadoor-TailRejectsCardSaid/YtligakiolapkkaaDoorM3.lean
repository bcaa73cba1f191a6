/- Texts of this claim, joined: an abstract machine over the model, proved sound; contracts of functions. -/
import Derived.Test.YtligakiolapkkaaDoorM2
set_option linter.unusedSimpArgs false
set_option linter.unusedVariables false

namespace Go.Proofs.YtligakiolapkkaaDoor
open Go GoV
set_option maxHeartbeats 8000000
set_option maxRecDepth 10000
set_option linter.unusedVariables false
set_option linter.unusedSimpArgs false
theorem times_pc (a b : Nat) (ha : a < 18446744073709551616) (hb : b < 18446744073709551616) : PC Tryd.prog 65 [U a, U b] (W2 (a * b / 18446744073709551616 : Nat) (a * b % 18446744073709551616 : Nat)) := by
  have h := mul64_pc a b ha hb
  obtain ⟨hi, hhi⟩ : ∃ x, a * b / 18446744073709551616 = x := ⟨_, rfl⟩
  obtain ⟨lo, hlo⟩ : ∃ x, a * b % 18446744073709551616 = x := ⟨_, rfl⟩
  rw [hhi, hlo] at h ⊢
  refine pc_fn hmix h65 rfl ?_
  simp -implicitDefEqProofs only [c65, push_cast, Nat.reduceBEq, Nat.reduceLT, Nat.reduceLeDiff, Nat.reduceAdd, Nat.reduceSub, Nat.reduceMul, Nat.reduceEqDiff, reduceCtorEq, ↓reduceIte, Int.reduceEq, Int.reduceLT, Int.reduceLE, Int.reduceNe, Int.reduceAdd, Int.reduceSub, Int.reduceMul, Int.reduceToNat, Nat.reduceShiftRight, Nat.reduceAnd, Nat.reduceBNe]
  refine callF h ⟨rfl, rfl, trivial⟩ rfl rfl ?_
  simp -implicitDefEqProofs only [push_cast, Nat.reduceBEq, Nat.reduceLT, Nat.reduceLeDiff, Nat.reduceAdd, Nat.reduceSub, Nat.reduceMul, Nat.reduceEqDiff, reduceCtorEq, ↓reduceIte, Int.reduceEq, Int.reduceLT, Int.reduceLE, Int.reduceNe, Int.reduceAdd, Int.reduceSub, Int.reduceMul, Int.reduceToNat, Nat.reduceShiftRight, Nat.reduceAnd, Nat.reduceBNe]
  exact finC rfl rfl
def cmpQ (an ad bn bd : Nat) : Int := if an = bn ∧ ad = bd then 0 else if an * bd < bn * ad then -1 else 1
theorem cmp1_pc (an ad bn bd : Nat) (h1 : an < 9223372036854775808) (h2 : ad < 9223372036854775808) (h3 : bn < 9223372036854775808) (h4 : bd < 9223372036854775808) : PC Tryd.prog 64 [QA an ad, QA bn bd] (.tup [I (cmpQ an ad bn bd), I 0]) := by
  have s1 := size_pc an (by simp only [i63]; omega)
  have s2 := size_pc bn (by simp only [i63]; omega)
  rw [Int.natAbs_natCast] at s1 s2
  have t1 := times_pc an bd (by omega) (by omega)
  have t2 := times_pc bn ad (by omega) (by omega)
  have hc : cmpQ an ad bn bd = if an = bn ∧ ad = bd then 0 else if an * bd < bn * ad then -1 else 1 := rfl
  obtain ⟨p, hp⟩ : ∃ x, an * bd = x := ⟨_, rfl⟩
  obtain ⟨q, hq⟩ : ∃ x, bn * ad = x := ⟨_, rfl⟩
  rw [hp] at t1 hc
  rw [hq] at t2 hc
  have hl := less_pc (p / 18446744073709551616 : Nat) (p % 18446744073709551616 : Nat) (q / 18446744073709551616 : Nat) (q % 18446744073709551616 : Nat)
  rw [show decide (((p / 18446744073709551616 : Nat) : Int) < ((q / 18446744073709551616 : Nat) : Int) ∨ ((p / 18446744073709551616 : Nat) : Int) = ((q / 18446744073709551616 : Nat) : Int) ∧ ((p % 18446744073709551616 : Nat) : Int) < ((q % 18446744073709551616 : Nat) : Int)) = decide (p < q) by
    rw [decide_eq_decide]; omega] at hl
  obtain ⟨p1, e1⟩ : ∃ x, p / 18446744073709551616 = x := ⟨_, rfl⟩
  obtain ⟨p0, e2⟩ : ∃ x, p % 18446744073709551616 = x := ⟨_, rfl⟩
  obtain ⟨q1, e3⟩ : ∃ x, q / 18446744073709551616 = x := ⟨_, rfl⟩
  obtain ⟨q0, e4⟩ : ∃ x, q % 18446744073709551616 = x := ⟨_, rfl⟩
  rw [e1, e2] at t1 hl
  rw [e3, e4] at t2 hl
  have ead : (ad : Int) % 18446744073709551616 = ad := by omega
  have ebd : (bd : Int) % 18446744073709551616 = bd := by omega
  have g1 : decide ((an : Int) < 0) = false := decide_eq_false (by omega)
  have g2 : decide (0 ≤ (an : Int)) = true := decide_eq_true (by omega)
  have g3 : decide (0 ≤ (bn : Int)) = true := decide_eq_true (by omega)
  obtain ⟨r, hr⟩ : ∃ r, cmpQ an ad bn bd = r := ⟨_, rfl⟩
  rw [hr] at hc ⊢
  by_cases hE : an = bn ∧ ad = bd
  · rw [if_pos hE] at hc
    subst hc
    obtain ⟨rfl, rfl⟩ := hE
    refine pc_fn hmix h64 rfl ?_
    simp (config := {maxSteps := 400000}) -implicitDefEqProofs only [c64, g1, g2, push_cast, Nat.reduceBEq, Nat.reduceLT, Nat.reduceLeDiff, Nat.reduceAdd, Nat.reduceSub, Nat.reduceMul, Nat.reduceEqDiff, reduceCtorEq, ↓reduceIte, Int.reduceEq, Int.reduceLT, Int.reduceLE, Int.reduceNe, Int.reduceAdd, Int.reduceSub, Int.reduceMul, Int.reduceToNat, Nat.reduceShiftRight, Nat.reduceAnd, Nat.reduceBNe]
    refine qqF s1 ⟨rfl, trivial⟩ rfl rfl ?_
    simp (config := {maxSteps := 400000}) -implicitDefEqProofs only [ebd, g1, g2, beq_self_eq_true, push_cast, Nat.reduceBEq, Nat.reduceLT, Nat.reduceLeDiff, Nat.reduceAdd, Nat.reduceSub, Nat.reduceMul, Nat.reduceEqDiff, reduceCtorEq, ↓reduceIte, Int.reduceEq, Int.reduceLT, Int.reduceLE, Int.reduceNe, Int.reduceAdd, Int.reduceSub, Int.reduceMul, Int.reduceToNat, Nat.reduceShiftRight, Nat.reduceAnd, Nat.reduceBNe]
    refine qqF t1 ⟨rfl, rfl, trivial⟩ rfl rfl ?_
    simp (config := {maxSteps := 400000}) -implicitDefEqProofs only [g1, g2, beq_self_eq_true, push_cast, Nat.reduceBEq, Nat.reduceLT, Nat.reduceLeDiff, Nat.reduceAdd, Nat.reduceSub, Nat.reduceMul, Nat.reduceEqDiff, reduceCtorEq, ↓reduceIte, Int.reduceEq, Int.reduceLT, Int.reduceLE, Int.reduceNe, Int.reduceAdd, Int.reduceSub, Int.reduceMul, Int.reduceToNat, Nat.reduceShiftRight, Nat.reduceAnd, Nat.reduceBNe]
    refine qqF s2 ⟨rfl, trivial⟩ rfl rfl ?_
    simp (config := {maxSteps := 400000}) -implicitDefEqProofs only [ead, g1, g2, beq_self_eq_true, push_cast, Nat.reduceBEq, Nat.reduceLT, Nat.reduceLeDiff, Nat.reduceAdd, Nat.reduceSub, Nat.reduceMul, Nat.reduceEqDiff, reduceCtorEq, ↓reduceIte, Int.reduceEq, Int.reduceLT, Int.reduceLE, Int.reduceNe, Int.reduceAdd, Int.reduceSub, Int.reduceMul, Int.reduceToNat, Nat.reduceShiftRight, Nat.reduceAnd, Nat.reduceBNe]
    refine qqF t2 ⟨rfl, rfl, trivial⟩ rfl rfl ?_
    simp (config := {maxSteps := 400000}) -implicitDefEqProofs only [g1, g2, beq_self_eq_true, push_cast, Nat.reduceBEq, Nat.reduceLT, Nat.reduceLeDiff, Nat.reduceAdd, Nat.reduceSub, Nat.reduceMul, Nat.reduceEqDiff, reduceCtorEq, ↓reduceIte, Int.reduceEq, Int.reduceLT, Int.reduceLE, Int.reduceNe, Int.reduceAdd, Int.reduceSub, Int.reduceMul, Int.reduceToNat, Nat.reduceShiftRight, Nat.reduceAnd, Nat.reduceBNe]
    exact finC rfl rfl
  · rw [if_neg hE] at hc
    by_cases hpq : p < q
    · rw [if_pos hpq] at hc
      rw [decide_eq_true hpq] at hl
      subst hc
      by_cases hA : (an : Int) = (bn : Int)
      · have k1 : decide ((an : Int) = (bn : Int)) = true := decide_eq_true hA
        have k2 : decide ((ad : Int) = (bd : Int)) = false := decide_eq_false (by omega)
        refine pc_fn hmix h64 rfl ?_
        simp (config := {maxSteps := 400000}) -implicitDefEqProofs only [c64, g1, g2, g3, k1, k2, Bool.and_self, push_cast, Nat.reduceBEq, Nat.reduceLT, Nat.reduceLeDiff, Nat.reduceAdd, Nat.reduceSub, Nat.reduceMul, Nat.reduceEqDiff, reduceCtorEq, ↓reduceIte, Int.reduceEq, Int.reduceLT, Int.reduceLE, Int.reduceNe, Int.reduceAdd, Int.reduceSub, Int.reduceMul, Int.reduceToNat, Nat.reduceShiftRight, Nat.reduceAnd, Nat.reduceBNe]
        refine qqF s1 ⟨rfl, trivial⟩ rfl rfl ?_
        simp (config := {maxSteps := 400000}) -implicitDefEqProofs only [ebd, g1, g2, g3, k1, k2, Bool.and_self, push_cast, Nat.reduceBEq, Nat.reduceLT, Nat.reduceLeDiff, Nat.reduceAdd, Nat.reduceSub, Nat.reduceMul, Nat.reduceEqDiff, reduceCtorEq, ↓reduceIte, Int.reduceEq, Int.reduceLT, Int.reduceLE, Int.reduceNe, Int.reduceAdd, Int.reduceSub, Int.reduceMul, Int.reduceToNat, Nat.reduceShiftRight, Nat.reduceAnd, Nat.reduceBNe]
        refine qqF t1 ⟨rfl, rfl, trivial⟩ rfl rfl ?_
        simp (config := {maxSteps := 400000}) -implicitDefEqProofs only [g1, g2, g3, k1, k2, Bool.and_self, push_cast, Nat.reduceBEq, Nat.reduceLT, Nat.reduceLeDiff, Nat.reduceAdd, Nat.reduceSub, Nat.reduceMul, Nat.reduceEqDiff, reduceCtorEq, ↓reduceIte, Int.reduceEq, Int.reduceLT, Int.reduceLE, Int.reduceNe, Int.reduceAdd, Int.reduceSub, Int.reduceMul, Int.reduceToNat, Nat.reduceShiftRight, Nat.reduceAnd, Nat.reduceBNe]
        refine qqF s2 ⟨rfl, trivial⟩ rfl rfl ?_
        simp (config := {maxSteps := 400000}) -implicitDefEqProofs only [ead, g1, g2, g3, k1, k2, Bool.and_self, push_cast, Nat.reduceBEq, Nat.reduceLT, Nat.reduceLeDiff, Nat.reduceAdd, Nat.reduceSub, Nat.reduceMul, Nat.reduceEqDiff, reduceCtorEq, ↓reduceIte, Int.reduceEq, Int.reduceLT, Int.reduceLE, Int.reduceNe, Int.reduceAdd, Int.reduceSub, Int.reduceMul, Int.reduceToNat, Nat.reduceShiftRight, Nat.reduceAnd, Nat.reduceBNe]
        refine qqF t2 ⟨rfl, rfl, trivial⟩ rfl rfl ?_
        simp (config := {maxSteps := 400000}) -implicitDefEqProofs only [g1, g2, g3, k1, k2, Bool.and_self, push_cast, Nat.reduceBEq, Nat.reduceLT, Nat.reduceLeDiff, Nat.reduceAdd, Nat.reduceSub, Nat.reduceMul, Nat.reduceEqDiff, reduceCtorEq, ↓reduceIte, Int.reduceEq, Int.reduceLT, Int.reduceLE, Int.reduceNe, Int.reduceAdd, Int.reduceSub, Int.reduceMul, Int.reduceToNat, Nat.reduceShiftRight, Nat.reduceAnd, Nat.reduceBNe]
        refine callF hl ⟨⟨rfl, rfl⟩, ⟨rfl, rfl⟩, trivial⟩ rfl rfl ?_
        simp (config := {maxSteps := 400000}) -implicitDefEqProofs only [g1, g2, g3, k1, k2, Bool.and_self, push_cast, Nat.reduceBEq, Nat.reduceLT, Nat.reduceLeDiff, Nat.reduceAdd, Nat.reduceSub, Nat.reduceMul, Nat.reduceEqDiff, reduceCtorEq, ↓reduceIte, Int.reduceEq, Int.reduceLT, Int.reduceLE, Int.reduceNe, Int.reduceAdd, Int.reduceSub, Int.reduceMul, Int.reduceToNat, Nat.reduceShiftRight, Nat.reduceAnd, Nat.reduceBNe]
        exact finC rfl rfl
      · have k1 : decide ((an : Int) = (bn : Int)) = false := decide_eq_false hA
        by_cases hB : (ad : Int) = (bd : Int)
        · have k2 : decide ((ad : Int) = (bd : Int)) = true := decide_eq_true hB
          refine pc_fn hmix h64 rfl ?_
          simp (config := {maxSteps := 400000}) -implicitDefEqProofs only [c64, g1, g2, g3, k1, k2, Bool.and_self, push_cast, Nat.reduceBEq, Nat.reduceLT, Nat.reduceLeDiff, Nat.reduceAdd, Nat.reduceSub, Nat.reduceMul, Nat.reduceEqDiff, reduceCtorEq, ↓reduceIte, Int.reduceEq, Int.reduceLT, Int.reduceLE, Int.reduceNe, Int.reduceAdd, Int.reduceSub, Int.reduceMul, Int.reduceToNat, Nat.reduceShiftRight, Nat.reduceAnd, Nat.reduceBNe]
          refine qqF s1 ⟨rfl, trivial⟩ rfl rfl ?_
          simp (config := {maxSteps := 400000}) -implicitDefEqProofs only [ebd, g1, g2, g3, k1, k2, Bool.and_self, push_cast, Nat.reduceBEq, Nat.reduceLT, Nat.reduceLeDiff, Nat.reduceAdd, Nat.reduceSub, Nat.reduceMul, Nat.reduceEqDiff, reduceCtorEq, ↓reduceIte, Int.reduceEq, Int.reduceLT, Int.reduceLE, Int.reduceNe, Int.reduceAdd, Int.reduceSub, Int.reduceMul, Int.reduceToNat, Nat.reduceShiftRight, Nat.reduceAnd, Nat.reduceBNe]
          refine qqF t1 ⟨rfl, rfl, trivial⟩ rfl rfl ?_
          simp (config := {maxSteps := 400000}) -implicitDefEqProofs only [g1, g2, g3, k1, k2, Bool.and_self, push_cast, Nat.reduceBEq, Nat.reduceLT, Nat.reduceLeDiff, Nat.reduceAdd, Nat.reduceSub, Nat.reduceMul, Nat.reduceEqDiff, reduceCtorEq, ↓reduceIte, Int.reduceEq, Int.reduceLT, Int.reduceLE, Int.reduceNe, Int.reduceAdd, Int.reduceSub, Int.reduceMul, Int.reduceToNat, Nat.reduceShiftRight, Nat.reduceAnd, Nat.reduceBNe]
          refine qqF s2 ⟨rfl, trivial⟩ rfl rfl ?_
          simp (config := {maxSteps := 400000}) -implicitDefEqProofs only [ead, g1, g2, g3, k1, k2, Bool.and_self, push_cast, Nat.reduceBEq, Nat.reduceLT, Nat.reduceLeDiff, Nat.reduceAdd, Nat.reduceSub, Nat.reduceMul, Nat.reduceEqDiff, reduceCtorEq, ↓reduceIte, Int.reduceEq, Int.reduceLT, Int.reduceLE, Int.reduceNe, Int.reduceAdd, Int.reduceSub, Int.reduceMul, Int.reduceToNat, Nat.reduceShiftRight, Nat.reduceAnd, Nat.reduceBNe]
          refine qqF t2 ⟨rfl, rfl, trivial⟩ rfl rfl ?_
          simp (config := {maxSteps := 400000}) -implicitDefEqProofs only [g1, g2, g3, k1, k2, Bool.and_self, push_cast, Nat.reduceBEq, Nat.reduceLT, Nat.reduceLeDiff, Nat.reduceAdd, Nat.reduceSub, Nat.reduceMul, Nat.reduceEqDiff, reduceCtorEq, ↓reduceIte, Int.reduceEq, Int.reduceLT, Int.reduceLE, Int.reduceNe, Int.reduceAdd, Int.reduceSub, Int.reduceMul, Int.reduceToNat, Nat.reduceShiftRight, Nat.reduceAnd, Nat.reduceBNe]
          refine callF hl ⟨⟨rfl, rfl⟩, ⟨rfl, rfl⟩, trivial⟩ rfl rfl ?_
          simp (config := {maxSteps := 400000}) -implicitDefEqProofs only [g1, g2, g3, k1, k2, Bool.and_self, push_cast, Nat.reduceBEq, Nat.reduceLT, Nat.reduceLeDiff, Nat.reduceAdd, Nat.reduceSub, Nat.reduceMul, Nat.reduceEqDiff, reduceCtorEq, ↓reduceIte, Int.reduceEq, Int.reduceLT, Int.reduceLE, Int.reduceNe, Int.reduceAdd, Int.reduceSub, Int.reduceMul, Int.reduceToNat, Nat.reduceShiftRight, Nat.reduceAnd, Nat.reduceBNe]
          exact finC rfl rfl
        · have k2 : decide ((ad : Int) = (bd : Int)) = false := decide_eq_false hB
          refine pc_fn hmix h64 rfl ?_
          simp (config := {maxSteps := 400000}) -implicitDefEqProofs only [c64, g1, g2, g3, k1, k2, Bool.and_self, push_cast, Nat.reduceBEq, Nat.reduceLT, Nat.reduceLeDiff, Nat.reduceAdd, Nat.reduceSub, Nat.reduceMul, Nat.reduceEqDiff, reduceCtorEq, ↓reduceIte, Int.reduceEq, Int.reduceLT, Int.reduceLE, Int.reduceNe, Int.reduceAdd, Int.reduceSub, Int.reduceMul, Int.reduceToNat, Nat.reduceShiftRight, Nat.reduceAnd, Nat.reduceBNe]
          refine qqF s1 ⟨rfl, trivial⟩ rfl rfl ?_
          simp (config := {maxSteps := 400000}) -implicitDefEqProofs only [ebd, g1, g2, g3, k1, k2, Bool.and_self, push_cast, Nat.reduceBEq, Nat.reduceLT, Nat.reduceLeDiff, Nat.reduceAdd, Nat.reduceSub, Nat.reduceMul, Nat.reduceEqDiff, reduceCtorEq, ↓reduceIte, Int.reduceEq, Int.reduceLT, Int.reduceLE, Int.reduceNe, Int.reduceAdd, Int.reduceSub, Int.reduceMul, Int.reduceToNat, Nat.reduceShiftRight, Nat.reduceAnd, Nat.reduceBNe]
          refine qqF t1 ⟨rfl, rfl, trivial⟩ rfl rfl ?_
          simp (config := {maxSteps := 400000}) -implicitDefEqProofs only [g1, g2, g3, k1, k2, Bool.and_self, push_cast, Nat.reduceBEq, Nat.reduceLT, Nat.reduceLeDiff, Nat.reduceAdd, Nat.reduceSub, Nat.reduceMul, Nat.reduceEqDiff, reduceCtorEq, ↓reduceIte, Int.reduceEq, Int.reduceLT, Int.reduceLE, Int.reduceNe, Int.reduceAdd, Int.reduceSub, Int.reduceMul, Int.reduceToNat, Nat.reduceShiftRight, Nat.reduceAnd, Nat.reduceBNe]
          refine qqF s2 ⟨rfl, trivial⟩ rfl rfl ?_
          simp (config := {maxSteps := 400000}) -implicitDefEqProofs only [ead, g1, g2, g3, k1, k2, Bool.and_self, push_cast, Nat.reduceBEq, Nat.reduceLT, Nat.reduceLeDiff, Nat.reduceAdd, Nat.reduceSub, Nat.reduceMul, Nat.reduceEqDiff, reduceCtorEq, ↓reduceIte, Int.reduceEq, Int.reduceLT, Int.reduceLE, Int.reduceNe, Int.reduceAdd, Int.reduceSub, Int.reduceMul, Int.reduceToNat, Nat.reduceShiftRight, Nat.reduceAnd, Nat.reduceBNe]
          refine qqF t2 ⟨rfl, rfl, trivial⟩ rfl rfl ?_
          simp (config := {maxSteps := 400000}) -implicitDefEqProofs only [g1, g2, g3, k1, k2, Bool.and_self, push_cast, Nat.reduceBEq, Nat.reduceLT, Nat.reduceLeDiff, Nat.reduceAdd, Nat.reduceSub, Nat.reduceMul, Nat.reduceEqDiff, reduceCtorEq, ↓reduceIte, Int.reduceEq, Int.reduceLT, Int.reduceLE, Int.reduceNe, Int.reduceAdd, Int.reduceSub, Int.reduceMul, Int.reduceToNat, Nat.reduceShiftRight, Nat.reduceAnd, Nat.reduceBNe]
          refine callF hl ⟨⟨rfl, rfl⟩, ⟨rfl, rfl⟩, trivial⟩ rfl rfl ?_
          simp (config := {maxSteps := 400000}) -implicitDefEqProofs only [g1, g2, g3, k1, k2, Bool.and_self, push_cast, Nat.reduceBEq, Nat.reduceLT, Nat.reduceLeDiff, Nat.reduceAdd, Nat.reduceSub, Nat.reduceMul, Nat.reduceEqDiff, reduceCtorEq, ↓reduceIte, Int.reduceEq, Int.reduceLT, Int.reduceLE, Int.reduceNe, Int.reduceAdd, Int.reduceSub, Int.reduceMul, Int.reduceToNat, Nat.reduceShiftRight, Nat.reduceAnd, Nat.reduceBNe]
          exact finC rfl rfl
    · rw [if_neg hpq] at hc
      rw [decide_eq_false hpq] at hl
      subst hc
      by_cases hA : (an : Int) = (bn : Int)
      · have k1 : decide ((an : Int) = (bn : Int)) = true := decide_eq_true hA
        have k2 : decide ((ad : Int) = (bd : Int)) = false := decide_eq_false (by omega)
        refine pc_fn hmix h64 rfl ?_
        simp (config := {maxSteps := 400000}) -implicitDefEqProofs only [c64, g1, g2, g3, k1, k2, Bool.and_self, push_cast, Nat.reduceBEq, Nat.reduceLT, Nat.reduceLeDiff, Nat.reduceAdd, Nat.reduceSub, Nat.reduceMul, Nat.reduceEqDiff, reduceCtorEq, ↓reduceIte, Int.reduceEq, Int.reduceLT, Int.reduceLE, Int.reduceNe, Int.reduceAdd, Int.reduceSub, Int.reduceMul, Int.reduceToNat, Nat.reduceShiftRight, Nat.reduceAnd, Nat.reduceBNe]
        refine qqF s1 ⟨rfl, trivial⟩ rfl rfl ?_
        simp (config := {maxSteps := 400000}) -implicitDefEqProofs only [ebd, g1, g2, g3, k1, k2, Bool.and_self, push_cast, Nat.reduceBEq, Nat.reduceLT, Nat.reduceLeDiff, Nat.reduceAdd, Nat.reduceSub, Nat.reduceMul, Nat.reduceEqDiff, reduceCtorEq, ↓reduceIte, Int.reduceEq, Int.reduceLT, Int.reduceLE, Int.reduceNe, Int.reduceAdd, Int.reduceSub, Int.reduceMul, Int.reduceToNat, Nat.reduceShiftRight, Nat.reduceAnd, Nat.reduceBNe]
        refine qqF t1 ⟨rfl, rfl, trivial⟩ rfl rfl ?_
        simp (config := {maxSteps := 400000}) -implicitDefEqProofs only [g1, g2, g3, k1, k2, Bool.and_self, push_cast, Nat.reduceBEq, Nat.reduceLT, Nat.reduceLeDiff, Nat.reduceAdd, Nat.reduceSub, Nat.reduceMul, Nat.reduceEqDiff, reduceCtorEq, ↓reduceIte, Int.reduceEq, Int.reduceLT, Int.reduceLE, Int.reduceNe, Int.reduceAdd, Int.reduceSub, Int.reduceMul, Int.reduceToNat, Nat.reduceShiftRight, Nat.reduceAnd, Nat.reduceBNe]
        refine qqF s2 ⟨rfl, trivial⟩ rfl rfl ?_
        simp (config := {maxSteps := 400000}) -implicitDefEqProofs only [ead, g1, g2, g3, k1, k2, Bool.and_self, push_cast, Nat.reduceBEq, Nat.reduceLT, Nat.reduceLeDiff, Nat.reduceAdd, Nat.reduceSub, Nat.reduceMul, Nat.reduceEqDiff, reduceCtorEq, ↓reduceIte, Int.reduceEq, Int.reduceLT, Int.reduceLE, Int.reduceNe, Int.reduceAdd, Int.reduceSub, Int.reduceMul, Int.reduceToNat, Nat.reduceShiftRight, Nat.reduceAnd, Nat.reduceBNe]
        refine qqF t2 ⟨rfl, rfl, trivial⟩ rfl rfl ?_
        simp (config := {maxSteps := 400000}) -implicitDefEqProofs only [g1, g2, g3, k1, k2, Bool.and_self, push_cast, Nat.reduceBEq, Nat.reduceLT, Nat.reduceLeDiff, Nat.reduceAdd, Nat.reduceSub, Nat.reduceMul, Nat.reduceEqDiff, reduceCtorEq, ↓reduceIte, Int.reduceEq, Int.reduceLT, Int.reduceLE, Int.reduceNe, Int.reduceAdd, Int.reduceSub, Int.reduceMul, Int.reduceToNat, Nat.reduceShiftRight, Nat.reduceAnd, Nat.reduceBNe]
        refine callF hl ⟨⟨rfl, rfl⟩, ⟨rfl, rfl⟩, trivial⟩ rfl rfl ?_
        simp (config := {maxSteps := 400000}) -implicitDefEqProofs only [g1, g2, g3, k1, k2, Bool.and_self, push_cast, Nat.reduceBEq, Nat.reduceLT, Nat.reduceLeDiff, Nat.reduceAdd, Nat.reduceSub, Nat.reduceMul, Nat.reduceEqDiff, reduceCtorEq, ↓reduceIte, Int.reduceEq, Int.reduceLT, Int.reduceLE, Int.reduceNe, Int.reduceAdd, Int.reduceSub, Int.reduceMul, Int.reduceToNat, Nat.reduceShiftRight, Nat.reduceAnd, Nat.reduceBNe]
        exact finC rfl rfl
      · have k1 : decide ((an : Int) = (bn : Int)) = false := decide_eq_false hA
        by_cases hB : (ad : Int) = (bd : Int)
        · have k2 : decide ((ad : Int) = (bd : Int)) = true := decide_eq_true hB
          refine pc_fn hmix h64 rfl ?_
          simp (config := {maxSteps := 400000}) -implicitDefEqProofs only [c64, g1, g2, g3, k1, k2, Bool.and_self, push_cast, Nat.reduceBEq, Nat.reduceLT, Nat.reduceLeDiff, Nat.reduceAdd, Nat.reduceSub, Nat.reduceMul, Nat.reduceEqDiff, reduceCtorEq, ↓reduceIte, Int.reduceEq, Int.reduceLT, Int.reduceLE, Int.reduceNe, Int.reduceAdd, Int.reduceSub, Int.reduceMul, Int.reduceToNat, Nat.reduceShiftRight, Nat.reduceAnd, Nat.reduceBNe]
          refine qqF s1 ⟨rfl, trivial⟩ rfl rfl ?_
          simp (config := {maxSteps := 400000}) -implicitDefEqProofs only [ebd, g1, g2, g3, k1, k2, Bool.and_self, push_cast, Nat.reduceBEq, Nat.reduceLT, Nat.reduceLeDiff, Nat.reduceAdd, Nat.reduceSub, Nat.reduceMul, Nat.reduceEqDiff, reduceCtorEq, ↓reduceIte, Int.reduceEq, Int.reduceLT, Int.reduceLE, Int.reduceNe, Int.reduceAdd, Int.reduceSub, Int.reduceMul, Int.reduceToNat, Nat.reduceShiftRight, Nat.reduceAnd, Nat.reduceBNe]
          refine qqF t1 ⟨rfl, rfl, trivial⟩ rfl rfl ?_
          simp (config := {maxSteps := 400000}) -implicitDefEqProofs only [g1, g2, g3, k1, k2, Bool.and_self, push_cast, Nat.reduceBEq, Nat.reduceLT, Nat.reduceLeDiff, Nat.reduceAdd, Nat.reduceSub, Nat.reduceMul, Nat.reduceEqDiff, reduceCtorEq, ↓reduceIte, Int.reduceEq, Int.reduceLT, Int.reduceLE, Int.reduceNe, Int.reduceAdd, Int.reduceSub, Int.reduceMul, Int.reduceToNat, Nat.reduceShiftRight, Nat.reduceAnd, Nat.reduceBNe]
          refine qqF s2 ⟨rfl, trivial⟩ rfl rfl ?_
          simp (config := {maxSteps := 400000}) -implicitDefEqProofs only [ead, g1, g2, g3, k1, k2, Bool.and_self, push_cast, Nat.reduceBEq, Nat.reduceLT, Nat.reduceLeDiff, Nat.reduceAdd, Nat.reduceSub, Nat.reduceMul, Nat.reduceEqDiff, reduceCtorEq, ↓reduceIte, Int.reduceEq, Int.reduceLT, Int.reduceLE, Int.reduceNe, Int.reduceAdd, Int.reduceSub, Int.reduceMul, Int.reduceToNat, Nat.reduceShiftRight, Nat.reduceAnd, Nat.reduceBNe]
          refine qqF t2 ⟨rfl, rfl, trivial⟩ rfl rfl ?_
          simp (config := {maxSteps := 400000}) -implicitDefEqProofs only [g1, g2, g3, k1, k2, Bool.and_self, push_cast, Nat.reduceBEq, Nat.reduceLT, Nat.reduceLeDiff, Nat.reduceAdd, Nat.reduceSub, Nat.reduceMul, Nat.reduceEqDiff, reduceCtorEq, ↓reduceIte, Int.reduceEq, Int.reduceLT, Int.reduceLE, Int.reduceNe, Int.reduceAdd, Int.reduceSub, Int.reduceMul, Int.reduceToNat, Nat.reduceShiftRight, Nat.reduceAnd, Nat.reduceBNe]
          refine callF hl ⟨⟨rfl, rfl⟩, ⟨rfl, rfl⟩, trivial⟩ rfl rfl ?_
          simp (config := {maxSteps := 400000}) -implicitDefEqProofs only [g1, g2, g3, k1, k2, Bool.and_self, push_cast, Nat.reduceBEq, Nat.reduceLT, Nat.reduceLeDiff, Nat.reduceAdd, Nat.reduceSub, Nat.reduceMul, Nat.reduceEqDiff, reduceCtorEq, ↓reduceIte, Int.reduceEq, Int.reduceLT, Int.reduceLE, Int.reduceNe, Int.reduceAdd, Int.reduceSub, Int.reduceMul, Int.reduceToNat, Nat.reduceShiftRight, Nat.reduceAnd, Nat.reduceBNe]
          exact finC rfl rfl
        · have k2 : decide ((ad : Int) = (bd : Int)) = false := decide_eq_false hB
          refine pc_fn hmix h64 rfl ?_
          simp (config := {maxSteps := 400000}) -implicitDefEqProofs only [c64, g1, g2, g3, k1, k2, Bool.and_self, push_cast, Nat.reduceBEq, Nat.reduceLT, Nat.reduceLeDiff, Nat.reduceAdd, Nat.reduceSub, Nat.reduceMul, Nat.reduceEqDiff, reduceCtorEq, ↓reduceIte, Int.reduceEq, Int.reduceLT, Int.reduceLE, Int.reduceNe, Int.reduceAdd, Int.reduceSub, Int.reduceMul, Int.reduceToNat, Nat.reduceShiftRight, Nat.reduceAnd, Nat.reduceBNe]
          refine qqF s1 ⟨rfl, trivial⟩ rfl rfl ?_
          simp (config := {maxSteps := 400000}) -implicitDefEqProofs only [ebd, g1, g2, g3, k1, k2, Bool.and_self, push_cast, Nat.reduceBEq, Nat.reduceLT, Nat.reduceLeDiff, Nat.reduceAdd, Nat.reduceSub, Nat.reduceMul, Nat.reduceEqDiff, reduceCtorEq, ↓reduceIte, Int.reduceEq, Int.reduceLT, Int.reduceLE, Int.reduceNe, Int.reduceAdd, Int.reduceSub, Int.reduceMul, Int.reduceToNat, Nat.reduceShiftRight, Nat.reduceAnd, Nat.reduceBNe]
          refine qqF t1 ⟨rfl, rfl, trivial⟩ rfl rfl ?_
          simp (config := {maxSteps := 400000}) -implicitDefEqProofs only [g1, g2, g3, k1, k2, Bool.and_self, push_cast, Nat.reduceBEq, Nat.reduceLT, Nat.reduceLeDiff, Nat.reduceAdd, Nat.reduceSub, Nat.reduceMul, Nat.reduceEqDiff, reduceCtorEq, ↓reduceIte, Int.reduceEq, Int.reduceLT, Int.reduceLE, Int.reduceNe, Int.reduceAdd, Int.reduceSub, Int.reduceMul, Int.reduceToNat, Nat.reduceShiftRight, Nat.reduceAnd, Nat.reduceBNe]
          refine qqF s2 ⟨rfl, trivial⟩ rfl rfl ?_
          simp (config := {maxSteps := 400000}) -implicitDefEqProofs only [ead, g1, g2, g3, k1, k2, Bool.and_self, push_cast, Nat.reduceBEq, Nat.reduceLT, Nat.reduceLeDiff, Nat.reduceAdd, Nat.reduceSub, Nat.reduceMul, Nat.reduceEqDiff, reduceCtorEq, ↓reduceIte, Int.reduceEq, Int.reduceLT, Int.reduceLE, Int.reduceNe, Int.reduceAdd, Int.reduceSub, Int.reduceMul, Int.reduceToNat, Nat.reduceShiftRight, Nat.reduceAnd, Nat.reduceBNe]
          refine qqF t2 ⟨rfl, rfl, trivial⟩ rfl rfl ?_
          simp (config := {maxSteps := 400000}) -implicitDefEqProofs only [g1, g2, g3, k1, k2, Bool.and_self, push_cast, Nat.reduceBEq, Nat.reduceLT, Nat.reduceLeDiff, Nat.reduceAdd, Nat.reduceSub, Nat.reduceMul, Nat.reduceEqDiff, reduceCtorEq, ↓reduceIte, Int.reduceEq, Int.reduceLT, Int.reduceLE, Int.reduceNe, Int.reduceAdd, Int.reduceSub, Int.reduceMul, Int.reduceToNat, Nat.reduceShiftRight, Nat.reduceAnd, Nat.reduceBNe]
          refine callF hl ⟨⟨rfl, rfl⟩, ⟨rfl, rfl⟩, trivial⟩ rfl rfl ?_
          simp (config := {maxSteps := 400000}) -implicitDefEqProofs only [g1, g2, g3, k1, k2, Bool.and_self, push_cast, Nat.reduceBEq, Nat.reduceLT, Nat.reduceLeDiff, Nat.reduceAdd, Nat.reduceSub, Nat.reduceMul, Nat.reduceEqDiff, reduceCtorEq, ↓reduceIte, Int.reduceEq, Int.reduceLT, Int.reduceLE, Int.reduceNe, Int.reduceAdd, Int.reduceSub, Int.reduceMul, Int.reduceToNat, Nat.reduceShiftRight, Nat.reduceAnd, Nat.reduceBNe]
          exact finC rfl rfl
/-- the comparison, where both fractions are in form -/
theorem cmp_pc (an ad bn bd : Nat) (ha : okQ an ad) (hb : okQ bn bd) : PC Tryd.prog 50 [QA an ad, QA bn bd] (.tup [I (cmpQ an ad bn bd), I 0]) := by
  have ha' := ha
  have hb' := hb
  unfold okQ at ha' hb'
  have k1 := fcheck_pc an ad (by simp only [i63]; omega) (by simp only [i63]; omega)
  have k2 := fcheck_pc bn bd (by simp only [i63]; omega) (by simp only [i63]; omega)
  rw [if_pos ha] at k1
  rw [if_pos hb] at k2
  have hc := cmp1_pc an ad bn bd (by omega) (by omega) (by omega) (by omega)
  obtain ⟨r, hr⟩ : ∃ r, cmpQ an ad bn bd = r := ⟨_, rfl⟩
  rw [hr] at hc ⊢
  have hboth : PC Tryd.prog 63 [QA an ad, QA bn bd, .fn 64 [] []] (.tup [I r, I 0]) := by
    refine pc_fn hmix h63 rfl ?_
    simp -implicitDefEqProofs only [c63, push_cast, Nat.reduceBEq, Nat.reduceLT, Nat.reduceLeDiff, Nat.reduceAdd, Nat.reduceSub, Nat.reduceMul, Nat.reduceEqDiff, reduceCtorEq, ↓reduceIte, Int.reduceEq, Int.reduceLT, Int.reduceLE, Int.reduceNe, Int.reduceAdd, Int.reduceSub, Int.reduceMul, Int.reduceToNat, Nat.reduceShiftRight, Nat.reduceAnd, Nat.reduceBNe]
    refine callF k1 ⟨⟨rfl, rfl⟩, trivial⟩ rfl rfl ?_
    simp -implicitDefEqProofs only [push_cast, Nat.reduceBEq, Nat.reduceLT, Nat.reduceLeDiff, Nat.reduceAdd, Nat.reduceSub, Nat.reduceMul, Nat.reduceEqDiff, reduceCtorEq, ↓reduceIte, Int.reduceEq, Int.reduceLT, Int.reduceLE, Int.reduceNe, Int.reduceAdd, Int.reduceSub, Int.reduceMul, Int.reduceToNat, Nat.reduceShiftRight, Nat.reduceAnd, Nat.reduceBNe]
    refine callF k2 ⟨⟨rfl, rfl⟩, trivial⟩ rfl rfl ?_
    simp -implicitDefEqProofs only [push_cast, Nat.reduceBEq, Nat.reduceLT, Nat.reduceLeDiff, Nat.reduceAdd, Nat.reduceSub, Nat.reduceMul, Nat.reduceEqDiff, reduceCtorEq, ↓reduceIte, Int.reduceEq, Int.reduceLT, Int.reduceLE, Int.reduceNe, Int.reduceAdd, Int.reduceSub, Int.reduceMul, Int.reduceToNat, Nat.reduceShiftRight, Nat.reduceAnd, Nat.reduceBNe]
    refine callF hc ⟨⟨rfl, rfl⟩, ⟨rfl, rfl⟩, trivial⟩ rfl rfl ?_
    simp -implicitDefEqProofs only [push_cast, Nat.reduceBEq, Nat.reduceLT, Nat.reduceLeDiff, Nat.reduceAdd, Nat.reduceSub, Nat.reduceMul, Nat.reduceEqDiff, reduceCtorEq, ↓reduceIte, Int.reduceEq, Int.reduceLT, Int.reduceLE, Int.reduceNe, Int.reduceAdd, Int.reduceSub, Int.reduceMul, Int.reduceToNat, Nat.reduceShiftRight, Nat.reduceAnd, Nat.reduceBNe]
    exact finC rfl rfl
  refine pc_fn hmix h50 rfl ?_
  simp -implicitDefEqProofs only [c50, push_cast, Nat.reduceBEq, Nat.reduceLT, Nat.reduceLeDiff, Nat.reduceAdd, Nat.reduceSub, Nat.reduceMul, Nat.reduceEqDiff, reduceCtorEq, ↓reduceIte, Int.reduceEq, Int.reduceLT, Int.reduceLE, Int.reduceNe, Int.reduceAdd, Int.reduceSub, Int.reduceMul, Int.reduceToNat, Nat.reduceShiftRight, Nat.reduceAnd, Nat.reduceBNe]
  refine callF hboth ⟨⟨rfl, rfl⟩, ⟨rfl, rfl⟩, ⟨rfl, rfl⟩, trivial⟩ rfl rfl ?_
  simp -implicitDefEqProofs only [push_cast, Nat.reduceBEq, Nat.reduceLT, Nat.reduceLeDiff, Nat.reduceAdd, Nat.reduceSub, Nat.reduceMul, Nat.reduceEqDiff, reduceCtorEq, ↓reduceIte, Int.reduceEq, Int.reduceLT, Int.reduceLE, Int.reduceNe, Int.reduceAdd, Int.reduceSub, Int.reduceMul, Int.reduceToNat, Nat.reduceShiftRight, Nat.reduceAnd, Nat.reduceBNe]
  exact finC rfl rfl
/-- fractions in form that are equal are the same -/
theorem okQ_eq {an ad bn bd : Nat} (ha : okQ an ad) (hb : okQ bn bd) (h : an * bd = bn * ad) : an = bn ∧ ad = bd := by
  unfold okQ at ha hb
  simp only [Int.natAbs_natCast, Int.toNat_natCast] at ha hb
  have h1 : ad ∣ bd := by
    have : ad ∣ an * bd := by rw [h]; exact Nat.dvd_mul_left _ _
    exact (Nat.Coprime.dvd_of_dvd_mul_left (Nat.Coprime.symm ha.2.2) this)
  have h2 : bd ∣ ad := by
    have : bd ∣ bn * ad := by rw [← h]; exact Nat.dvd_mul_left _ _
    exact (Nat.Coprime.dvd_of_dvd_mul_left (Nat.Coprime.symm hb.2.2) this)
  have h3 : ad = bd := Nat.dvd_antisymm h1 h2
  subst h3
  exact ⟨Nat.eq_of_mul_eq_mul_right (by omega) h, rfl⟩
theorem cmpQ_le {an ad bn bd : Nat} (ha : okQ an ad) (hb : okQ bn bd) : cmpQ an ad bn bd ≤ 0 ↔ an * bd ≤ bn * ad := by
  unfold cmpQ
  by_cases h1 : an = bn ∧ ad = bd
  · rw [if_pos h1]; obtain ⟨rfl, rfl⟩ := h1; simp
  · rw [if_neg h1]
    by_cases h2 : an * bd < bn * ad
    · rw [if_pos h2]; exact ⟨fun _ => Nat.le_of_lt h2, fun _ => by omega⟩
    · rw [if_neg h2]
      refine ⟨fun h => by omega, fun h => ?_⟩
      exact absurd (okQ_eq ha hb (Nat.le_antisymm h (Nat.le_of_not_lt h2))) h1
end Go.Proofs.YtligakiolapkkaaDoor

namespace Go.Proofs.YtligakiolapkkaaDoor
open Go GoV
set_option maxHeartbeats 8000000
set_option maxRecDepth 10000
set_option linter.unusedVariables false
set_option linter.unusedSimpArgs false
theorem rowN_pt : ∀ (cs : List Nat) (a : Nat), ∀ r ∈ rowN a cs, ∀ j, r.getD j 0 + (subN cs r).getD j 0 = cs.getD j 0
  | [], _, r, h, _ => by simp [rowN] at h
  | [c], a, r, h, j => by
    unfold rowN at h
    split at h
    · simp at h; subst h
      cases j with
      | zero => simp [subN]; omega
      | succ j => simp [subN]
    · simp at h
  | c :: d :: cs, a, r, h, j => by
    unfold rowN at h
    simp only [List.mem_flatMap, List.mem_map] at h
    obtain ⟨x, hx, l, hl, rfl⟩ := h
    have hx := List.mem_range.1 hx
    cases j with
    | zero => simp only [subN, List.getD_cons_zero]; omega
    | succ j =>
      simp only [subN, List.getD_cons_succ]
      exact rowN_pt (d :: cs) _ l hl j
theorem all_zero {cs : List Nat} (h : cs.all (fun c => decide (c = 0)) = true) (j : Nat) : cs.getD j 0 = 0 := by
  rw [List.all_eq_true] at h
  by_cases hj : j < cs.length
  · simpa using h _ (getD_mem (d := 0) hj)
  · simp [List.getD, List.getElem?_eq_none (Nat.le_of_not_lt hj)]
theorem tabN_props : ∀ (l cs : List Nat), ∀ y ∈ tabN l cs, y.map sumN = l ∧ (∀ r ∈ y, r.length = cs.length) ∧ ∀ j, sumN (y.map fun r => r.getD j 0) = cs.getD j 0
  | [], cs, y, h => by
    unfold tabN at h
    split at h
    · rename_i hz
      simp at h; subst h
      exact ⟨rfl, by simp, fun j => (all_zero hz j).symm⟩
    · simp at h
  | a :: l, cs, y, h => by
    unfold tabN at h
    simp only [List.mem_flatMap, List.mem_map] at h
    obtain ⟨r, hr, t, ht, rfl⟩ := h
    obtain ⟨h1, h2, h3, h4, h5⟩ := rowN_props cs a r hr
    obtain ⟨k1, k2, k3⟩ := tabN_props l _ t ht
    refine ⟨by rw [List.map_cons, h1, k1], fun q hq => ?_, fun j => ?_⟩
    · rcases List.mem_cons.1 hq with rfl | hq
      · exact h4
      · rw [k2 q hq, h5]
    · show r.getD j 0 + sumN (t.map fun r => r.getD j 0) = _
      rw [k3 j, rowN_pt cs a r hr j]
theorem castL_get (r : List Nat) (j : Nat) : (castL r).getD j 0 = ((r.getD j 0 : Nat) : Int) := by
  simp only [castL, List.getD, List.getElem?_map]
  cases r[j]? <;> rfl
theorem castL_inj : ∀ {a b : List Nat}, castL a = castL b → a = b
  | [], [], _ => rfl
  | x :: a, [], h => by simp [castL] at h
  | [], x :: b, h => by simp [castL] at h
  | x :: a, y :: b, h => by
    rw [castL_cons, castL_cons, List.cons.injEq] at h
    rw [castL_inj h.2, show x = y by omega]
theorem le_sumN : ∀ {r : List Nat} {x : Nat}, x ∈ r → x ≤ sumN r
  | y :: r, x, h => by
    show x ≤ y + sumN r
    rcases List.mem_cons.1 h with rfl | h
    · omega
    · have := le_sumN h; omega
theorem map_sumL_cast (y : List (List Nat)) : (y.map castL).map sumL = castL (y.map sumN) := by
  rw [castL, List.map_map, List.map_map]
  refine List.map_congr_left (fun r _ => ?_)
  exact sumL_cast r
theorem allL_props {t x : List (List Int)} (h : Tab t) (hx : x ∈ allL t) : rowsL x = rowsL t ∧ colsL x = colsL t ∧ Tab x ∧ x.length = t.length ∧ wid x = wid t := by
  obtain ⟨h1, h2, h3, h4, h5, h6⟩ := tab_rows h
  obtain ⟨l, hl⟩ := castL_of (rowsL t) (fun x hx => (h1 x hx).1)
  obtain ⟨cs, hc⟩ := castL_of (colsL t) (fun x hx => (h2 x hx).1)
  rw [allL, hl, hc, tabE_cast] at hx
  obtain ⟨y, hy, rfl⟩ := List.mem_map.1 hx
  obtain ⟨k1, k2, k3⟩ := tabN_props l cs y hy
  have hlen : l.length = t.length := by rw [← h5, hl, castL, List.length_map]
  have hcl : cs.length = wid t := by rw [← h6, hc, castL, List.length_map]
  have hyl : y.length = t.length := by rw [← hlen, ← k1, List.length_map]
  have htl := h.len
  have htw := h.wid
  have ew : wid (y.map castL) = cs.length := by
    unfold wid
    have hm : y.getD 0 [] ∈ y := getD_mem (by omega)
    have : ((y.map castL).getD 0 []) = castL (y.getD 0 []) := by
      simp only [List.getD, List.getElem?_map]
      cases y[0]? <;> rfl
    rw [this, castL, List.length_map, k2 _ hm]
  have er : rowsL (y.map castL) = rowsL t := by
    rw [rowsL, map_sumL_cast, k1, hl]
  have ec : colsL (y.map castL) = colsL t := by
    rw [hc]
    show (trL (y.map castL)).map sumL = castL cs
    rw [trL, ew, List.map_map]
    have key : ∀ j, (sumL ∘ fun j => (y.map castL).map (·.getD j 0)) j = ((cs.getD j 0 : Nat) : Int) := by
      intro j
      show sumL ((y.map castL).map (·.getD j 0)) = _
      rw [← k3 j, ← sumL_cast, castL, List.map_map, List.map_map]
      congr 1
      refine List.map_congr_left (fun r _ => ?_)
      exact castL_get r j
    rw [List.map_congr_left (fun j _ => key j)]
    refine List.ext_getElem (by simp [castL]) (fun i hi1 hi2 => ?_)
    simp [castL]
    simp at hi1
    simp [hi1]
  refine ⟨er, ec, ⟨by rw [List.length_map]; omega, by rw [ew, hcl]; exact htw, ?_, ?_⟩, by rw [List.length_map]; exact hyl, by rw [ew, hcl]⟩
  · intro r hr
    obtain ⟨q, hq, rfl⟩ := List.mem_map.1 hr
    refine ⟨by rw [ew, castL, List.length_map]; exact k2 q hq, ?_⟩
    intro z hz
    obtain ⟨n, hn, rfl⟩ := List.mem_map.1 hz
    have h7 := le_sumN hn
    have h8 : ((sumN q : Nat) : Int) ∈ rowsL t := by
      rw [← er, rowsL, map_sumL_cast]
      exact List.mem_map_of_mem (List.mem_map_of_mem hq)
    have h9 := h1 _ h8
    omega
  · have : totL (y.map castL) = totL t := by
      show sumL (rowsL (y.map castL)) = sumL (rowsL t)
      rw [er]
    rw [this]; exact h.tot
theorem allL_same {t x : List (List Int)} (h : Tab t) (hx : x ∈ allL t) : allL x = allL t := by
  obtain ⟨h1, h2, _⟩ := allL_props h hx
  rw [allL, h1, h2]; rfl
theorem sumB_take_le {α : Type} {f : α → Nat} : ∀ (l : List α) (k : Nat), sumB f (l.take k) ≤ sumB f l
  | [], k => by simp [sumB]
  | x :: l, 0 => Nat.zero_le _
  | x :: l, k + 1 => by
    show f x + sumB f (l.take k) ≤ f x + sumB f l
    have := sumB_take_le (f := f) l k
    omega
theorem reftail_pc {t : List (List Int)} (h : Tab t) : PC Tryd.prog 28 [TT t] (tailR t) := by
  have hw := refways_pc h
  have ha := refall_pc h
  have ht := reftotal_pc h
  have htot := total_pos h
  have hsum := tsum_le h
  obtain ⟨hs1, _⟩ := allL_small h
  have hr := reduced_pc (tsum t) (totalN t) (by omega) (by omega)
  unfold tailR
  obtain ⟨q1, e1⟩ : ∃ q, tsum t / Nat.gcd (tsum t) (totalN t) = q := ⟨_, rfl⟩
  obtain ⟨q2, e2⟩ : ∃ q, totalN t / Nat.gcd (tsum t) (totalN t) = q := ⟨_, rfl⟩
  rw [e1, e2] at hr ⊢
  obtain ⟨l, hl⟩ : ∃ l, allL t = l := ⟨_, rfl⟩
  have hm : ∀ x ∈ l, Tab x := fun x hx => by rw [← hl] at hx; exact (allL_props h hx).2.2.1
  obtain ⟨own, how⟩ : ∃ n, waysN t = n := ⟨_, rfl⟩
  obtain ⟨tot, htt⟩ : ∃ n, totalN t = n := ⟨_, rfl⟩
  obtain ⟨f, hf⟩ : ∃ f : List (List Int) → Nat, (fun x => if waysN x ≤ own then waysN x else 0) = f := ⟨_, rfl⟩
  have hts : tsum t = sumB f l := by rw [tsum, how, hf, hl]
  rw [htt] at hr ht hsum htot
  rw [how] at hw
  rw [hts] at hr hsum
  rw [hl] at ha hs1
  refine pc_fn hmix h28 rfl ?_
  simp -implicitDefEqProofs only [c28, push_cast, Nat.reduceBEq, Nat.reduceLT, Nat.reduceLeDiff, Nat.reduceAdd, Nat.reduceSub, Nat.reduceMul, Nat.reduceEqDiff, reduceCtorEq, ↓reduceIte, Int.reduceEq, Int.reduceLT, Int.reduceLE, Int.reduceNe, Int.reduceAdd, Int.reduceSub, Int.reduceMul, Int.reduceToNat, Nat.reduceShiftRight, Nat.reduceAnd, Nat.reduceBNe]
  refine callF hw ⟨rfl, trivial⟩ rfl rfl ?_
  simp -implicitDefEqProofs only [push_cast, Nat.reduceBEq, Nat.reduceLT, Nat.reduceLeDiff, Nat.reduceAdd, Nat.reduceSub, Nat.reduceMul, Nat.reduceEqDiff, reduceCtorEq, ↓reduceIte, Int.reduceEq, Int.reduceLT, Int.reduceLE, Int.reduceNe, Int.reduceAdd, Int.reduceSub, Int.reduceMul, Int.reduceToNat, Nat.reduceShiftRight, Nat.reduceAnd, Nat.reduceBNe]
  refine callF ha ⟨rfl, trivial⟩ rfl rfl ?_
  simp -implicitDefEqProofs only [push_cast, Nat.reduceBEq, Nat.reduceLT, Nat.reduceLeDiff, Nat.reduceAdd, Nat.reduceSub, Nat.reduceMul, Nat.reduceEqDiff, reduceCtorEq, ↓reduceIte, Int.reduceEq, Int.reduceLT, Int.reduceLE, Int.reduceNe, Int.reduceAdd, Int.reduceSub, Int.reduceMul, Int.reduceToNat, Nat.reduceShiftRight, Nat.reduceAnd, Nat.reduceBNe]
  refine loop_w (α := Nat) (fun k => ⟨[(6, I k), (5, TTT l), (4, I (sumB f (l.take k) : Nat)), (3, I own), (2, .ptr 0 0), (0, TT t)], [.box [I 0, I 0]], []⟩) (fun k => k ≤ l.length) (fun k => l.length - k) 0 (wk_cut [6, 5, 4, 3, 2, 0] 1 rfl ⟨rfl, rfl, rfl⟩ rfl) (by omega) ?_
  intro k hk
  simp -implicitDefEqProofs only [c28L0, push_cast, Nat.reduceBEq, Nat.reduceLT, Nat.reduceLeDiff, Nat.reduceAdd, Nat.reduceSub, Nat.reduceMul, Nat.reduceEqDiff, reduceCtorEq, ↓reduceIte, Int.reduceEq, Int.reduceLT, Int.reduceLE, Int.reduceNe, Int.reduceAdd, Int.reduceSub, Int.reduceMul, Int.reduceToNat, Nat.reduceShiftRight, Nat.reduceAnd, Nat.reduceBNe]
  refine ⟨fun h7 => ⟨⟨by omega, h7⟩, ?_⟩, fun h7 => ?_⟩
  · obtain ⟨x, hx⟩ : ∃ x, l.getD k [] = x := ⟨_, rfl⟩
    have hxm : x ∈ l := by rw [← hx]; exact getD_mem (by omega)
    have hxw := refways_pc (hm x hxm)
    have hstep : sumB f (l.take (k + 1)) = sumB f (l.take k) + f x := by
      rw [take_at [] (by omega : k < l.length), sumB_app, hx]
      show _ + (f x + 0) = _
      rfl
    have hb2 := sumB_take_le (f := f) l (k + 1)
    have hb1 := ways_small (hm x hxm)
    obtain ⟨w, hwx⟩ : ∃ w, waysN x = w := ⟨_, rfl⟩
    have hfx : f x = if w ≤ own then w else 0 := by rw [← hf, ← hwx]
    rw [hwx] at hxw hb1
    obtain ⟨s, hs⟩ : ∃ s, sumB f (l.take k) = s := ⟨_, rfl⟩
    rw [hs] at hstep ⊢
    rw [hx]
    refine callF hxw ⟨rfl, trivial⟩ rfl rfl ?_
    simp -implicitDefEqProofs only [push_cast, Nat.reduceBEq, Nat.reduceLT, Nat.reduceLeDiff, Nat.reduceAdd, Nat.reduceSub, Nat.reduceMul, Nat.reduceEqDiff, reduceCtorEq, ↓reduceIte, Int.reduceEq, Int.reduceLT, Int.reduceLE, Int.reduceNe, Int.reduceAdd, Int.reduceSub, Int.reduceMul, Int.reduceToNat, Nat.reduceShiftRight, Nat.reduceAnd, Nat.reduceBNe]
    refine ⟨fun h8 => ?_, fun h8 => ?_⟩
    · rw [if_pos (by omega)] at hfx
      refine ⟨by simp only [inR]; omega, by simp only [inR]; omega, k + 1, by omega, by omega, ?_⟩
      rw [hstep, hfx]
      exact wk_c rfl ⟨rfl, rfl, rfl⟩ rfl
    · rw [if_neg (by omega)] at hfx
      refine ⟨by simp only [inR]; omega, k + 1, by omega, by omega, ?_⟩
      rw [hstep, hfx, Nat.add_zero]
      exact wk_c rfl ⟨rfl, rfl, rfl⟩ rfl
  · have : k = l.length := by omega
    subst this
    rw [List.take_length]
    refine callF ht ⟨rfl, trivial⟩ rfl rfl ?_
    simp -implicitDefEqProofs only [push_cast, Nat.reduceBEq, Nat.reduceLT, Nat.reduceLeDiff, Nat.reduceAdd, Nat.reduceSub, Nat.reduceMul, Nat.reduceEqDiff, reduceCtorEq, ↓reduceIte, Int.reduceEq, Int.reduceLT, Int.reduceLE, Int.reduceNe, Int.reduceAdd, Int.reduceSub, Int.reduceMul, Int.reduceToNat, Nat.reduceShiftRight, Nat.reduceAnd, Nat.reduceBNe]
    refine callF hr ⟨rfl, rfl, trivial⟩ rfl rfl ?_
    simp -implicitDefEqProofs only [push_cast, Nat.reduceBEq, Nat.reduceLT, Nat.reduceLeDiff, Nat.reduceAdd, Nat.reduceSub, Nat.reduceMul, Nat.reduceEqDiff, reduceCtorEq, ↓reduceIte, Int.reduceEq, Int.reduceLT, Int.reduceLE, Int.reduceNe, Int.reduceAdd, Int.reduceSub, Int.reduceMul, Int.reduceToNat, Nat.reduceShiftRight, Nat.reduceAnd, Nat.reduceBNe]
    exact finC rfl rfl
end Go.Proofs.YtligakiolapkkaaDoor

namespace Go.Proofs.YtligakiolapkkaaDoor
open Go GoV
set_option maxHeartbeats 8000000
set_option maxRecDepth 10000
set_option linter.unusedVariables false
set_option linter.unusedSimpArgs false
def tN (t : List (List Int)) : Nat := tsum t / Nat.gcd (tsum t) (totalN t)
def tD (t : List (List Int)) : Nat := totalN t / Nat.gcd (tsum t) (totalN t)
theorem tail_ok {t : List (List Int)} (h : Tab t) : okQ (tN t) (tD t) ∧ 1 ≤ tD t ∧ tD t ≤ 2432902008176640000 ∧ tN t ≤ 2432902008176640000 := by
  have htot := total_pos h
  have hsum := tsum_le h
  have hg : 0 < Nat.gcd (tsum t) (totalN t) := Nat.gcd_pos_of_pos_right _ (by omega)
  have h1 : tD t ≤ totalN t := Nat.div_le_self _ _
  have h2 : tN t ≤ tsum t := Nat.div_le_self _ _
  have h3 : 1 ≤ tD t := Nat.div_pos (Nat.le_of_dvd (by omega) (Nat.gcd_dvd_right _ _)) hg
  have h4 : Nat.gcd (tN t) (tD t) = 1 := Nat.coprime_div_gcd_div_gcd hg
  refine ⟨?_, h3, by omega, by omega⟩
  unfold okQ
  rw [Int.natAbs_natCast, Int.toNat_natCast]
  exact ⟨⟨by omega, by omega⟩, by omega, h4⟩
def rej (t : List (List Int)) (n d : Int) : Bool := if lev n d = 0 then decide (tN t * d.toNat ≤ n.toNat * tD t) else false
theorem lev_zero {n d : Int} (h : lev n d = 0) : okQ n d ∧ 0 ≤ n ∧ n ≤ d := by
  unfold lev at h
  split at h
  · rename_i hk
    split at h
    · cases h
    · exact ⟨hk, by omega, by omega⟩
  · cases h
theorem reject_pc {t : List (List Int)} (h : Tab t) (n d : Int) (hn : i63 n) (hd : i63 d) : PC Tryd.prog 30 [TT t, QA n d] (.tup [B (rej t n d), I (lev n d)]) := by
  have ht : PC Tryd.prog 27 [TT t] (.tup [QA (tN t) (tD t), I 0]) := tail_pc h
  obtain ⟨hok, hd1, hd2, hd3⟩ := tail_ok h
  have hk := fcheck_pc n d hn hd
  obtain ⟨p, hp⟩ : ∃ p, tN t = p := ⟨_, rfl⟩
  obtain ⟨q, hq⟩ : ∃ p, tD t = p := ⟨_, rfl⟩
  rw [hp, hq] at ht hok
  unfold rej lev
  rw [hp, hq]
  by_cases hQ : okQ n d
  · rw [if_pos hQ] at hk ⊢
    have hQ' := hQ
    unfold okQ at hQ'
    by_cases h1 : n < 0
    · have e1 : decide (n < 0) = true := decide_eq_true h1
      rw [if_pos (Or.inl h1), if_neg (by decide)]
      refine pc_fn hmix h30 rfl ?_
      simp -implicitDefEqProofs only [c30, e1, push_cast, Nat.reduceBEq, Nat.reduceLT, Nat.reduceLeDiff, Nat.reduceAdd, Nat.reduceSub, Nat.reduceMul, Nat.reduceEqDiff, reduceCtorEq, ↓reduceIte, Int.reduceEq, Int.reduceLT, Int.reduceLE, Int.reduceNe, Int.reduceAdd, Int.reduceSub, Int.reduceMul, Int.reduceToNat, Nat.reduceShiftRight, Nat.reduceAnd, Nat.reduceBNe]
      refine callF ht ⟨rfl, trivial⟩ rfl rfl ?_
      simp -implicitDefEqProofs only [e1, push_cast, Nat.reduceBEq, Nat.reduceLT, Nat.reduceLeDiff, Nat.reduceAdd, Nat.reduceSub, Nat.reduceMul, Nat.reduceEqDiff, reduceCtorEq, ↓reduceIte, Int.reduceEq, Int.reduceLT, Int.reduceLE, Int.reduceNe, Int.reduceAdd, Int.reduceSub, Int.reduceMul, Int.reduceToNat, Nat.reduceShiftRight, Nat.reduceAnd, Nat.reduceBNe]
      refine callF hk ⟨⟨rfl, rfl⟩, trivial⟩ rfl rfl ?_
      simp -implicitDefEqProofs only [e1, push_cast, Nat.reduceBEq, Nat.reduceLT, Nat.reduceLeDiff, Nat.reduceAdd, Nat.reduceSub, Nat.reduceMul, Nat.reduceEqDiff, reduceCtorEq, ↓reduceIte, Int.reduceEq, Int.reduceLT, Int.reduceLE, Int.reduceNe, Int.reduceAdd, Int.reduceSub, Int.reduceMul, Int.reduceToNat, Nat.reduceShiftRight, Nat.reduceAnd, Nat.reduceBNe]
      exact finC rfl rfl
    · have e1 : decide (n < 0) = false := decide_eq_false h1
      by_cases h2 : d < n
      · have e2 : decide (d < n) = true := decide_eq_true h2
        rw [if_pos (Or.inr h2), if_neg (by decide)]
        refine pc_fn hmix h30 rfl ?_
        simp -implicitDefEqProofs only [c30, e1, e2, push_cast, Nat.reduceBEq, Nat.reduceLT, Nat.reduceLeDiff, Nat.reduceAdd, Nat.reduceSub, Nat.reduceMul, Nat.reduceEqDiff, reduceCtorEq, ↓reduceIte, Int.reduceEq, Int.reduceLT, Int.reduceLE, Int.reduceNe, Int.reduceAdd, Int.reduceSub, Int.reduceMul, Int.reduceToNat, Nat.reduceShiftRight, Nat.reduceAnd, Nat.reduceBNe]
        refine callF ht ⟨rfl, trivial⟩ rfl rfl ?_
        simp -implicitDefEqProofs only [e1, e2, push_cast, Nat.reduceBEq, Nat.reduceLT, Nat.reduceLeDiff, Nat.reduceAdd, Nat.reduceSub, Nat.reduceMul, Nat.reduceEqDiff, reduceCtorEq, ↓reduceIte, Int.reduceEq, Int.reduceLT, Int.reduceLE, Int.reduceNe, Int.reduceAdd, Int.reduceSub, Int.reduceMul, Int.reduceToNat, Nat.reduceShiftRight, Nat.reduceAnd, Nat.reduceBNe]
        refine callF hk ⟨⟨rfl, rfl⟩, trivial⟩ rfl rfl ?_
        simp -implicitDefEqProofs only [e1, e2, push_cast, Nat.reduceBEq, Nat.reduceLT, Nat.reduceLeDiff, Nat.reduceAdd, Nat.reduceSub, Nat.reduceMul, Nat.reduceEqDiff, reduceCtorEq, ↓reduceIte, Int.reduceEq, Int.reduceLT, Int.reduceLE, Int.reduceNe, Int.reduceAdd, Int.reduceSub, Int.reduceMul, Int.reduceToNat, Nat.reduceShiftRight, Nat.reduceAnd, Nat.reduceBNe]
        exact finC rfl rfl
      · have e2 : decide (d < n) = false := decide_eq_false h2
        rw [show (if n < 0 ∨ d < n then (2 : Int) else 0) = 0 from if_neg (by omega), if_pos rfl]
        obtain ⟨N, rfl⟩ : ∃ N : Nat, n = N := ⟨n.toNat, by omega⟩
        obtain ⟨D, rfl⟩ : ∃ N : Nat, d = N := ⟨d.toNat, by omega⟩
        rw [Int.toNat_natCast, Int.toNat_natCast]
        have hc := cmp_pc p q N D hok hQ
        have hle := cmpQ_le hok hQ
        obtain ⟨c, hcc⟩ : ∃ c, cmpQ p q N D = c := ⟨_, rfl⟩
        rw [hcc] at hc hle
        rw [show decide (p * D ≤ N * q) = decide (c ≤ 0) by rw [decide_eq_decide]; exact hle.symm]
        refine pc_fn hmix h30 rfl ?_
        simp -implicitDefEqProofs only [c30, e1, e2, push_cast, Nat.reduceBEq, Nat.reduceLT, Nat.reduceLeDiff, Nat.reduceAdd, Nat.reduceSub, Nat.reduceMul, Nat.reduceEqDiff, reduceCtorEq, ↓reduceIte, Int.reduceEq, Int.reduceLT, Int.reduceLE, Int.reduceNe, Int.reduceAdd, Int.reduceSub, Int.reduceMul, Int.reduceToNat, Nat.reduceShiftRight, Nat.reduceAnd, Nat.reduceBNe]
        refine callF ht ⟨rfl, trivial⟩ rfl rfl ?_
        simp -implicitDefEqProofs only [e1, e2, push_cast, Nat.reduceBEq, Nat.reduceLT, Nat.reduceLeDiff, Nat.reduceAdd, Nat.reduceSub, Nat.reduceMul, Nat.reduceEqDiff, reduceCtorEq, ↓reduceIte, Int.reduceEq, Int.reduceLT, Int.reduceLE, Int.reduceNe, Int.reduceAdd, Int.reduceSub, Int.reduceMul, Int.reduceToNat, Nat.reduceShiftRight, Nat.reduceAnd, Nat.reduceBNe]
        refine callF hk ⟨⟨rfl, rfl⟩, trivial⟩ rfl rfl ?_
        simp -implicitDefEqProofs only [e1, e2, push_cast, Nat.reduceBEq, Nat.reduceLT, Nat.reduceLeDiff, Nat.reduceAdd, Nat.reduceSub, Nat.reduceMul, Nat.reduceEqDiff, reduceCtorEq, ↓reduceIte, Int.reduceEq, Int.reduceLT, Int.reduceLE, Int.reduceNe, Int.reduceAdd, Int.reduceSub, Int.reduceMul, Int.reduceToNat, Nat.reduceShiftRight, Nat.reduceAnd, Nat.reduceBNe]
        refine callF hc ⟨⟨rfl, rfl⟩, ⟨rfl, rfl⟩, trivial⟩ rfl rfl ?_
        simp -implicitDefEqProofs only [push_cast, Nat.reduceBEq, Nat.reduceLT, Nat.reduceLeDiff, Nat.reduceAdd, Nat.reduceSub, Nat.reduceMul, Nat.reduceEqDiff, reduceCtorEq, ↓reduceIte, Int.reduceEq, Int.reduceLT, Int.reduceLE, Int.reduceNe, Int.reduceAdd, Int.reduceSub, Int.reduceMul, Int.reduceToNat, Nat.reduceShiftRight, Nat.reduceAnd, Nat.reduceBNe]
        refine ⟨fun h => ?_, fun h => ?_⟩
        · rw [decide_eq_true h]; exact finC rfl rfl
        · rw [decide_eq_false h]; exact finC rfl rfl
  · rw [if_neg hQ] at hk ⊢
    rw [if_neg (by decide)]
    refine pc_fn hmix h30 rfl ?_
    simp -implicitDefEqProofs only [c30, push_cast, Nat.reduceBEq, Nat.reduceLT, Nat.reduceLeDiff, Nat.reduceAdd, Nat.reduceSub, Nat.reduceMul, Nat.reduceEqDiff, reduceCtorEq, ↓reduceIte, Int.reduceEq, Int.reduceLT, Int.reduceLE, Int.reduceNe, Int.reduceAdd, Int.reduceSub, Int.reduceMul, Int.reduceToNat, Nat.reduceShiftRight, Nat.reduceAnd, Nat.reduceBNe]
    refine callF ht ⟨rfl, trivial⟩ rfl rfl ?_
    simp -implicitDefEqProofs only [push_cast, Nat.reduceBEq, Nat.reduceLT, Nat.reduceLeDiff, Nat.reduceAdd, Nat.reduceSub, Nat.reduceMul, Nat.reduceEqDiff, reduceCtorEq, ↓reduceIte, Int.reduceEq, Int.reduceLT, Int.reduceLE, Int.reduceNe, Int.reduceAdd, Int.reduceSub, Int.reduceMul, Int.reduceToNat, Nat.reduceShiftRight, Nat.reduceAnd, Nat.reduceBNe]
    refine callF hk ⟨⟨rfl, rfl⟩, trivial⟩ rfl rfl ?_
    simp -implicitDefEqProofs only [push_cast, Nat.reduceBEq, Nat.reduceLT, Nat.reduceLeDiff, Nat.reduceAdd, Nat.reduceSub, Nat.reduceMul, Nat.reduceEqDiff, reduceCtorEq, ↓reduceIte, Int.reduceEq, Int.reduceLT, Int.reduceLE, Int.reduceNe, Int.reduceAdd, Int.reduceSub, Int.reduceMul, Int.reduceToNat, Nat.reduceShiftRight, Nat.reduceAnd, Nat.reduceBNe]
    exact finC rfl rfl
theorem reject_bad (t : List (List Int)) (hl : t.length ≤ 1000) (hr : ∀ r ∈ t, r.length ≤ 1000) (hv : validB t = false) (n d : Int) : PC Tryd.prog 30 [TT t, QA n d] (.tup [B false, I 300]) := by
  have ht := tail_bad t hl hr hv
  refine pc_fn hmix h30 rfl ?_
  simp -implicitDefEqProofs only [c30, push_cast, Nat.reduceBEq, Nat.reduceLT, Nat.reduceLeDiff, Nat.reduceAdd, Nat.reduceSub, Nat.reduceMul, Nat.reduceEqDiff, reduceCtorEq, ↓reduceIte, Int.reduceEq, Int.reduceLT, Int.reduceLE, Int.reduceNe, Int.reduceAdd, Int.reduceSub, Int.reduceMul, Int.reduceToNat, Nat.reduceShiftRight, Nat.reduceAnd, Nat.reduceBNe]
  refine callF ht ⟨rfl, trivial⟩ rfl rfl ?_
  simp -implicitDefEqProofs only [push_cast, Nat.reduceBEq, Nat.reduceLT, Nat.reduceLeDiff, Nat.reduceAdd, Nat.reduceSub, Nat.reduceMul, Nat.reduceEqDiff, reduceCtorEq, ↓reduceIte, Int.reduceEq, Int.reduceLT, Int.reduceLE, Int.reduceNe, Int.reduceAdd, Int.reduceSub, Int.reduceMul, Int.reduceToNat, Nat.reduceShiftRight, Nat.reduceAnd, Nat.reduceBNe]
  exact finC rfl rfl
end Go.Proofs.YtligakiolapkkaaDoor

namespace Go.Proofs.YtligakiolapkkaaDoor
open Go GoV
set_option maxHeartbeats 8000000
set_option maxRecDepth 10000
set_option linter.unusedVariables false
set_option linter.unusedSimpArgs false
abbrev QT : Ty := .pair (.int .i64) (.pair (.int .i64) .unit)
abbrev QD (n d : Int) : AV := .dat QT (n, d, ())
abbrev okT (x : List (List Int)) : Prop := x.length ≤ 1000 ∧ ∀ r ∈ x, r.length ≤ 1000
/-- what Most says of a level, where it has no error -/
theorem most_lev {t : List (List Int)} (h : Tab t) {n d : Int} (hz : lev n d = 0) : PC Tryd.prog 32 [QA (tN t) (tD t), QA n d] (B (rej t n d)) := by
  obtain ⟨hk, h1, h2⟩ := lev_zero hz
  obtain ⟨hok, hd1, hd2, hd3⟩ := tail_ok h
  unfold okQ at hk
  obtain ⟨N, rfl⟩ : ∃ N : Nat, n = N := ⟨n.toNat, by omega⟩
  obtain ⟨D, rfl⟩ : ∃ N : Nat, d = N := ⟨d.toNat, by omega⟩
  rw [rej, if_pos hz, Int.toNat_natCast, Int.toNat_natCast]
  exact most_pc (tN t) (tD t) N D (by omega) (by omega) (by omega) (by omega)
theorem rej_no {t : List (List Int)} {n d : Int} (hz : lev n d ≠ 0) : rej t n d = false := by rw [rej, if_neg hz]
theorem lev_300 (n d : Int) : (lev n d = 0 ∨ lev n d = 2 ∨ lev n d = 5) := by
  unfold lev
  split
  · split
    · exact .inr (.inl rfl)
    · exact .inl rfl
  · exact .inr (.inr rfl)
abbrev Row3 (z0 z1 z2 z3 z4 z5 z6 z7 z8 z9 z10 z11 ln ld s0 s1 : Int) : Heap := [.box [.dat (.int .u8) z0, .dat (.int .u8) z1, .dat (.int .u8) z2, .dat (.int .u8) z3, .dat (.int .u8) z4, .dat (.int .u8) z5, .dat (.int .u8) z6, .dat (.int .u8) z7, .dat (.int .u8) z8, .dat (.int .u8) z9, .dat (.int .u8) z10, .dat (.int .u8) z11], .box [I ln, I ld], .box [.dat (.int .u8) s0, .dat (.int .u8) s1]]
theorem law5_loop (z0 z1 z2 z3 z4 z5 z6 z7 z8 z9 z10 z11 : Int) (t fw : List (List Int)) (ln ld s0 s1 : Int) (ht : okT t) (hf : okT fw) (hln : i63 ln) (hld : i63 ld) (hs0 : 0 ≤ s0 ∧ s0 ≤ 255) (hs1 : 0 ≤ s1 ∧ s1 ≤ 255) :
    LoopW 0 (awp Tryd.prog 93 0 c5L1 none)
    (brk
      (thn
        (awp Tryd.prog 93 0
          ((AC.reg false
                [{ dst := some 92, ins := GoV.Instr.call (Opd.c (AV.fn 22 [] [])) [], guard := none },
                  { dst := some 8, ins := GoV.Instr.mov (Opd.t 92), guard := none }]).seq
            AC.ret)
          none (finW Tryd.prog 0 [RV.tmp 8] fun v fr => Fz fr v (B true)))
        (finW Tryd.prog 0 [RV.tmp 8] fun v fr => Fz fr v (B true)))
      0) ⟨[(26, I 0), (25, .agg [TT t, TT fw]), (7, .ptr 2 0), (6, .ptr 1 0)], Row3 z0 z1 z2 z3 z4 z5 z6 z7 z8 z9 z10 z11 ln ld s0 s1, []⟩ := by
  obtain ⟨S0, rfl⟩ : ∃ n : Nat, s0 = n := ⟨s0.toNat, by omega⟩
  obtain ⟨S1, rfl⟩ : ∃ n : Nat, s1 = n := ⟨s1.toNat, by omega⟩
  have hred := reduced_pc S0 (1 + S1) (by omega) (by omega)
  have hq1 : S0 / Nat.gcd S0 (1 + S1) ≤ S0 := Nat.div_le_self _ _
  have hq2 : (1 + S1) / Nat.gcd S0 (1 + S1) ≤ 1 + S1 := Nat.div_le_self _ _
  obtain ⟨q1, e1⟩ : ∃ q, S0 / Nat.gcd S0 (1 + S1) = q := ⟨_, rfl⟩
  obtain ⟨q2, e2⟩ : ∃ q, (1 + S1) / Nat.gcd S0 (1 + S1) = q := ⟨_, rfl⟩
  rw [e1, e2] at hred
  rw [e1] at hq1
  rw [e2] at hq2
  have e1S : ((1 + S1 : Nat) : Int) = 1 + (S1 : Int) := by omega
  rw [e1S] at hred
  refine loop_w (α := Nat) (fun k => ⟨[(26, I k), (25, .agg [TT t, TT fw]), (7, .ptr 2 0), (6, .ptr 1 0)], Row3 z0 z1 z2 z3 z4 z5 z6 z7 z8 z9 z10 z11 ln ld S0 S1, []⟩) (fun k => k ≤ 2) (fun k => 2 - k) 0 (Wk.refl _ _) (by omega) ?_
  intro k hk
  have : k = 0 ∨ k = 1 ∨ k = 2 := by omega
  rcases this with rfl | rfl | rfl

  · have hr := right_pc t ht.1
    cases hv : validB t with
    | false =>
      rw [hv] at hr
      have htl := tail_bad t ht.1 ht.2 hv
      simp -implicitDefEqProofs only [c5L1, push_cast, Nat.reduceBEq, Nat.reduceLT, Nat.reduceLeDiff, Nat.reduceAdd, Nat.reduceSub, Nat.reduceMul, Nat.reduceEqDiff, reduceCtorEq, ↓reduceIte, Int.reduceEq, Int.reduceLT, Int.reduceLE, Int.reduceNe, Int.reduceAdd, Int.reduceSub, Int.reduceMul, Int.reduceToNat, Nat.reduceShiftRight, Nat.reduceAnd, Nat.reduceBNe]
      refine callF htl ⟨rfl, trivial⟩ rfl rfl ?_
      simp -implicitDefEqProofs only [push_cast, Nat.reduceBEq, Nat.reduceLT, Nat.reduceLeDiff, Nat.reduceAdd, Nat.reduceSub, Nat.reduceMul, Nat.reduceEqDiff, reduceCtorEq, ↓reduceIte, Int.reduceEq, Int.reduceLT, Int.reduceLE, Int.reduceNe, Int.reduceAdd, Int.reduceSub, Int.reduceMul, Int.reduceToNat, Nat.reduceShiftRight, Nat.reduceAnd, Nat.reduceBNe]
      refine callF hr ⟨rfl, trivial⟩ rfl rfl ?_
      simp -implicitDefEqProofs only [push_cast, Nat.reduceBEq, Nat.reduceLT, Nat.reduceLeDiff, Nat.reduceAdd, Nat.reduceSub, Nat.reduceMul, Nat.reduceEqDiff, reduceCtorEq, ↓reduceIte, Int.reduceEq, Int.reduceLT, Int.reduceLE, Int.reduceNe, Int.reduceAdd, Int.reduceSub, Int.reduceMul, Int.reduceToNat, Nat.reduceShiftRight, Nat.reduceAnd, Nat.reduceBNe]
      refine ⟨by simp only [inR]; omega, by simp only [inR]; omega, by simp only [inR]; omega, ?_⟩
      refine ppF hred ⟨rfl, rfl, trivial⟩ rfl rfl ?_
      simp -implicitDefEqProofs only [push_cast, Nat.reduceBEq, Nat.reduceLT, Nat.reduceLeDiff, Nat.reduceAdd, Nat.reduceSub, Nat.reduceMul, Nat.reduceEqDiff, reduceCtorEq, ↓reduceIte, Int.reduceEq, Int.reduceLT, Int.reduceLE, Int.reduceNe, Int.reduceAdd, Int.reduceSub, Int.reduceMul, Int.reduceToNat, Nat.reduceShiftRight, Nat.reduceAnd, Nat.reduceBNe]
      refine loop_w (α := Nat) (fun j => ⟨[(64, I j), (63, .agg [I ln, I ld, I q1, I q2, I 0, I 0]), (26, I 0), (25, .agg [TT t, TT fw]), (14, .ptr 4 0), (13, B false), (10, TT t), (7, .ptr 2 0), (6, .ptr 1 0)], Row3 z0 z1 z2 z3 z4 z5 z6 z7 z8 z9 z10 z11 ln ld S0 S1 ++ [.box [I 0, I 0], .box [I 0, I 0]], []⟩) (fun j => j ≤ 3) (fun j => 3 - j) 0 (wk_c rfl ⟨rfl, rfl, rfl⟩ rfl) (by omega) ?_
      intro j hj
      have : j = 0 ∨ j = 1 ∨ j = 2 ∨ j = 3 := by omega
      rcases this with rfl | rfl | rfl | rfl
      · have hi1 : i63 ln := by simp only [i63] at hln hld ⊢; omega
        have hi2 : i63 ld := by simp only [i63] at hln hld ⊢; omega
        have hlv := level_pc ln ld hi1 hi2
        have hj := reject_bad t ht.1 ht.2 hv ln ld
        obtain ⟨lv, hlve⟩ : ∃ lv, lev ln ld = lv := ⟨_, rfl⟩
        rw [hlve] at hlv
        simp -implicitDefEqProofs only [c5L0, push_cast, Nat.reduceBEq, Nat.reduceLT, Nat.reduceLeDiff, Nat.reduceAdd, Nat.reduceSub, Nat.reduceMul, Nat.reduceEqDiff, reduceCtorEq, ↓reduceIte, Int.reduceEq, Int.reduceLT, Int.reduceLE, Int.reduceNe, Int.reduceAdd, Int.reduceSub, Int.reduceMul, Int.reduceToNat, Nat.reduceShiftRight, Nat.reduceAnd, Nat.reduceBNe]
        refine callF hj ⟨rfl, ⟨rfl, rfl⟩, trivial⟩ rfl rfl ?_
        simp -implicitDefEqProofs only [push_cast, Nat.reduceBEq, Nat.reduceLT, Nat.reduceLeDiff, Nat.reduceAdd, Nat.reduceSub, Nat.reduceMul, Nat.reduceEqDiff, reduceCtorEq, ↓reduceIte, Int.reduceEq, Int.reduceLT, Int.reduceLE, Int.reduceNe, Int.reduceAdd, Int.reduceSub, Int.reduceMul, Int.reduceToNat, Nat.reduceShiftRight, Nat.reduceAnd, Nat.reduceBNe]
        refine callF hlv ⟨⟨rfl, rfl⟩, trivial⟩ rfl rfl ?_
        simp -implicitDefEqProofs only [beq_self_eq_true, push_cast, Nat.reduceBEq, Nat.reduceLT, Nat.reduceLeDiff, Nat.reduceAdd, Nat.reduceSub, Nat.reduceMul, Nat.reduceEqDiff, reduceCtorEq, ↓reduceIte, Int.reduceEq, Int.reduceLT, Int.reduceLE, Int.reduceNe, Int.reduceAdd, Int.reduceSub, Int.reduceMul, Int.reduceToNat, Nat.reduceShiftRight, Nat.reduceAnd, Nat.reduceBNe]
        exact ⟨by simp only [inR]; omega, 1, by omega, by omega, wk_c rfl ⟨rfl, rfl, rfl⟩ rfl⟩
      · have hi1 : i63 (q1 : Int) := by simp only [i63] at hln hld ⊢; omega
        have hi2 : i63 (q2 : Int) := by simp only [i63] at hln hld ⊢; omega
        have hlv := level_pc (q1 : Int) (q2 : Int) hi1 hi2
        have hj := reject_bad t ht.1 ht.2 hv (q1 : Int) (q2 : Int)
        obtain ⟨lv, hlve⟩ : ∃ lv, lev (q1 : Int) (q2 : Int) = lv := ⟨_, rfl⟩
        rw [hlve] at hlv
        simp -implicitDefEqProofs only [c5L0, push_cast, Nat.reduceBEq, Nat.reduceLT, Nat.reduceLeDiff, Nat.reduceAdd, Nat.reduceSub, Nat.reduceMul, Nat.reduceEqDiff, reduceCtorEq, ↓reduceIte, Int.reduceEq, Int.reduceLT, Int.reduceLE, Int.reduceNe, Int.reduceAdd, Int.reduceSub, Int.reduceMul, Int.reduceToNat, Nat.reduceShiftRight, Nat.reduceAnd, Nat.reduceBNe]
        refine callF hj ⟨rfl, ⟨rfl, rfl⟩, trivial⟩ rfl rfl ?_
        simp -implicitDefEqProofs only [push_cast, Nat.reduceBEq, Nat.reduceLT, Nat.reduceLeDiff, Nat.reduceAdd, Nat.reduceSub, Nat.reduceMul, Nat.reduceEqDiff, reduceCtorEq, ↓reduceIte, Int.reduceEq, Int.reduceLT, Int.reduceLE, Int.reduceNe, Int.reduceAdd, Int.reduceSub, Int.reduceMul, Int.reduceToNat, Nat.reduceShiftRight, Nat.reduceAnd, Nat.reduceBNe]
        refine callF hlv ⟨⟨rfl, rfl⟩, trivial⟩ rfl rfl ?_
        simp -implicitDefEqProofs only [beq_self_eq_true, push_cast, Nat.reduceBEq, Nat.reduceLT, Nat.reduceLeDiff, Nat.reduceAdd, Nat.reduceSub, Nat.reduceMul, Nat.reduceEqDiff, reduceCtorEq, ↓reduceIte, Int.reduceEq, Int.reduceLT, Int.reduceLE, Int.reduceNe, Int.reduceAdd, Int.reduceSub, Int.reduceMul, Int.reduceToNat, Nat.reduceShiftRight, Nat.reduceAnd, Nat.reduceBNe]
        exact ⟨by simp only [inR]; omega, 2, by omega, by omega, wk_c rfl ⟨rfl, rfl, rfl⟩ rfl⟩
      · have hi1 : i63 (0 : Int) := by simp only [i63] at hln hld ⊢; omega
        have hi2 : i63 (0 : Int) := by simp only [i63] at hln hld ⊢; omega
        have hlv := level_pc (0 : Int) (0 : Int) hi1 hi2
        have hj := reject_bad t ht.1 ht.2 hv (0 : Int) (0 : Int)
        obtain ⟨lv, hlve⟩ : ∃ lv, lev (0 : Int) (0 : Int) = lv := ⟨_, rfl⟩
        rw [hlve] at hlv
        simp -implicitDefEqProofs only [c5L0, push_cast, Nat.reduceBEq, Nat.reduceLT, Nat.reduceLeDiff, Nat.reduceAdd, Nat.reduceSub, Nat.reduceMul, Nat.reduceEqDiff, reduceCtorEq, ↓reduceIte, Int.reduceEq, Int.reduceLT, Int.reduceLE, Int.reduceNe, Int.reduceAdd, Int.reduceSub, Int.reduceMul, Int.reduceToNat, Nat.reduceShiftRight, Nat.reduceAnd, Nat.reduceBNe]
        refine callF hj ⟨rfl, ⟨rfl, rfl⟩, trivial⟩ rfl rfl ?_
        simp -implicitDefEqProofs only [push_cast, Nat.reduceBEq, Nat.reduceLT, Nat.reduceLeDiff, Nat.reduceAdd, Nat.reduceSub, Nat.reduceMul, Nat.reduceEqDiff, reduceCtorEq, ↓reduceIte, Int.reduceEq, Int.reduceLT, Int.reduceLE, Int.reduceNe, Int.reduceAdd, Int.reduceSub, Int.reduceMul, Int.reduceToNat, Nat.reduceShiftRight, Nat.reduceAnd, Nat.reduceBNe]
        refine callF hlv ⟨⟨rfl, rfl⟩, trivial⟩ rfl rfl ?_
        simp -implicitDefEqProofs only [beq_self_eq_true, push_cast, Nat.reduceBEq, Nat.reduceLT, Nat.reduceLeDiff, Nat.reduceAdd, Nat.reduceSub, Nat.reduceMul, Nat.reduceEqDiff, reduceCtorEq, ↓reduceIte, Int.reduceEq, Int.reduceLT, Int.reduceLE, Int.reduceNe, Int.reduceAdd, Int.reduceSub, Int.reduceMul, Int.reduceToNat, Nat.reduceShiftRight, Nat.reduceAnd, Nat.reduceBNe]
        exact ⟨by simp only [inR]; omega, 3, by omega, by omega, wk_c rfl ⟨rfl, rfl, rfl⟩ rfl⟩
      · simp -implicitDefEqProofs only [c5L0, push_cast, Nat.reduceBEq, Nat.reduceLT, Nat.reduceLeDiff, Nat.reduceAdd, Nat.reduceSub, Nat.reduceMul, Nat.reduceEqDiff, reduceCtorEq, ↓reduceIte, Int.reduceEq, Int.reduceLT, Int.reduceLE, Int.reduceNe, Int.reduceAdd, Int.reduceSub, Int.reduceMul, Int.reduceToNat, Nat.reduceShiftRight, Nat.reduceAnd, Nat.reduceBNe]
        exact ⟨by simp only [inR]; omega, 1, by omega, by omega, wk_c rfl ⟨rfl, rfl, rfl⟩ rfl⟩
    | true =>
      rw [hv] at hr
      have hT := tab_of hv
      have htl : PC Tryd.prog 27 [TT t] (.tup [QA (tN t) (tD t), I 0]) := tail_pc hT
      have hrt : PC Tryd.prog 28 [TT t] (QA (tN t) (tD t)) := reftail_pc hT
      obtain ⟨hok, hd1, hd2, hd3⟩ := tail_ok hT
      have hrj := reject_pc hT
      have hml := @most_lev t hT
      obtain ⟨p, hp⟩ : ∃ p, tN t = p := ⟨_, rfl⟩
      obtain ⟨q, hq⟩ : ∃ p, tD t = p := ⟨_, rfl⟩
      rw [hp, hq] at htl hrt hml
      rw [hp] at hd3
      rw [hq] at hd2
      simp -implicitDefEqProofs only [c5L1, push_cast, Nat.reduceBEq, Nat.reduceLT, Nat.reduceLeDiff, Nat.reduceAdd, Nat.reduceSub, Nat.reduceMul, Nat.reduceEqDiff, reduceCtorEq, ↓reduceIte, Int.reduceEq, Int.reduceLT, Int.reduceLE, Int.reduceNe, Int.reduceAdd, Int.reduceSub, Int.reduceMul, Int.reduceToNat, Nat.reduceShiftRight, Nat.reduceAnd, Nat.reduceBNe]
      refine callF htl ⟨rfl, trivial⟩ rfl rfl ?_
      simp -implicitDefEqProofs only [push_cast, Nat.reduceBEq, Nat.reduceLT, Nat.reduceLeDiff, Nat.reduceAdd, Nat.reduceSub, Nat.reduceMul, Nat.reduceEqDiff, reduceCtorEq, ↓reduceIte, Int.reduceEq, Int.reduceLT, Int.reduceLE, Int.reduceNe, Int.reduceAdd, Int.reduceSub, Int.reduceMul, Int.reduceToNat, Nat.reduceShiftRight, Nat.reduceAnd, Nat.reduceBNe]
      refine callF hr ⟨rfl, trivial⟩ rfl rfl ?_
      simp -implicitDefEqProofs only [push_cast, Nat.reduceBEq, Nat.reduceLT, Nat.reduceLeDiff, Nat.reduceAdd, Nat.reduceSub, Nat.reduceMul, Nat.reduceEqDiff, reduceCtorEq, ↓reduceIte, Int.reduceEq, Int.reduceLT, Int.reduceLE, Int.reduceNe, Int.reduceAdd, Int.reduceSub, Int.reduceMul, Int.reduceToNat, Nat.reduceShiftRight, Nat.reduceAnd, Nat.reduceBNe]
      refine callF hrt ⟨rfl, trivial⟩ rfl rfl ?_
      simp -implicitDefEqProofs only [beq_self_eq_true, push_cast, Nat.reduceBEq, Nat.reduceLT, Nat.reduceLeDiff, Nat.reduceAdd, Nat.reduceSub, Nat.reduceMul, Nat.reduceEqDiff, reduceCtorEq, ↓reduceIte, Int.reduceEq, Int.reduceLT, Int.reduceLE, Int.reduceNe, Int.reduceAdd, Int.reduceSub, Int.reduceMul, Int.reduceToNat, Nat.reduceShiftRight, Nat.reduceAnd, Nat.reduceBNe]
      refine ⟨by simp only [inR]; omega, by simp only [inR]; omega, by simp only [inR]; omega, ?_⟩
      refine ppF hred ⟨rfl, rfl, trivial⟩ rfl rfl ?_
      simp -implicitDefEqProofs only [push_cast, Nat.reduceBEq, Nat.reduceLT, Nat.reduceLeDiff, Nat.reduceAdd, Nat.reduceSub, Nat.reduceMul, Nat.reduceEqDiff, reduceCtorEq, ↓reduceIte, Int.reduceEq, Int.reduceLT, Int.reduceLE, Int.reduceNe, Int.reduceAdd, Int.reduceSub, Int.reduceMul, Int.reduceToNat, Nat.reduceShiftRight, Nat.reduceAnd, Nat.reduceBNe]
      refine loop_w (α := Nat) (fun j => ⟨[(64, I j), (63, .agg [I ln, I ld, I q1, I q2, I p, I q]), (26, I 0), (25, .agg [TT t, TT fw]), (14, .ptr 4 0), (13, B true), (10, TT t), (7, .ptr 2 0), (6, .ptr 1 0)], Row3 z0 z1 z2 z3 z4 z5 z6 z7 z8 z9 z10 z11 ln ld S0 S1 ++ [.box [I p, I q], .box [I p, I q]], []⟩) (fun j => j ≤ 3) (fun j => 3 - j) 0 (wk_c rfl ⟨rfl, rfl, rfl⟩ rfl) (by omega) ?_
      intro j hj
      have : j = 0 ∨ j = 1 ∨ j = 2 ∨ j = 3 := by omega
      rcases this with rfl | rfl | rfl | rfl
      · have hi1 : i63 ln := by simp only [i63] at hln hld ⊢; omega
        have hi2 : i63 ld := by simp only [i63] at hln hld ⊢; omega
        have hlv := level_pc ln ld hi1 hi2
        have hj := hrj ln ld hi1 hi2
        have hmo := @hml ln ld
        have hno := @rej_no t ln ld
        obtain ⟨lv, hlve⟩ : ∃ lv, lev ln ld = lv := ⟨_, rfl⟩
        obtain ⟨rj, hrje⟩ : ∃ rj, rej t ln ld = rj := ⟨_, rfl⟩
        rw [hlve] at hlv hj hmo hno
        rw [hrje] at hj hmo hno
        by_cases hz : lv = 0
        · have hm := hmo hz
          subst hz
          simp -implicitDefEqProofs only [c5L0, push_cast, Nat.reduceBEq, Nat.reduceLT, Nat.reduceLeDiff, Nat.reduceAdd, Nat.reduceSub, Nat.reduceMul, Nat.reduceEqDiff, reduceCtorEq, ↓reduceIte, Int.reduceEq, Int.reduceLT, Int.reduceLE, Int.reduceNe, Int.reduceAdd, Int.reduceSub, Int.reduceMul, Int.reduceToNat, Nat.reduceShiftRight, Nat.reduceAnd, Nat.reduceBNe]
          refine callF hj ⟨rfl, ⟨rfl, rfl⟩, trivial⟩ rfl rfl ?_
          simp -implicitDefEqProofs only [push_cast, Nat.reduceBEq, Nat.reduceLT, Nat.reduceLeDiff, Nat.reduceAdd, Nat.reduceSub, Nat.reduceMul, Nat.reduceEqDiff, reduceCtorEq, ↓reduceIte, Int.reduceEq, Int.reduceLT, Int.reduceLE, Int.reduceNe, Int.reduceAdd, Int.reduceSub, Int.reduceMul, Int.reduceToNat, Nat.reduceShiftRight, Nat.reduceAnd, Nat.reduceBNe]
          refine callF hlv ⟨⟨rfl, rfl⟩, trivial⟩ rfl rfl ?_
          simp -implicitDefEqProofs only [beq_self_eq_true, push_cast, Nat.reduceBEq, Nat.reduceLT, Nat.reduceLeDiff, Nat.reduceAdd, Nat.reduceSub, Nat.reduceMul, Nat.reduceEqDiff, reduceCtorEq, ↓reduceIte, Int.reduceEq, Int.reduceLT, Int.reduceLE, Int.reduceNe, Int.reduceAdd, Int.reduceSub, Int.reduceMul, Int.reduceToNat, Nat.reduceShiftRight, Nat.reduceAnd, Nat.reduceBNe]
          refine callF hm ⟨⟨rfl, rfl⟩, ⟨rfl, rfl⟩, trivial⟩ rfl rfl ?_
          simp -implicitDefEqProofs only [beq_self_eq_true, push_cast, Nat.reduceBEq, Nat.reduceLT, Nat.reduceLeDiff, Nat.reduceAdd, Nat.reduceSub, Nat.reduceMul, Nat.reduceEqDiff, reduceCtorEq, ↓reduceIte, Int.reduceEq, Int.reduceLT, Int.reduceLE, Int.reduceNe, Int.reduceAdd, Int.reduceSub, Int.reduceMul, Int.reduceToNat, Nat.reduceShiftRight, Nat.reduceAnd, Nat.reduceBNe]
          exact ⟨by simp only [inR]; omega, 1, by omega, by omega, wk_c rfl ⟨rfl, rfl, rfl⟩ rfl⟩
        · have hm := hno hz
          subst hm
          have hz2 : decide (lv = 0) = false := decide_eq_false hz
          simp -implicitDefEqProofs only [c5L0, hz2, push_cast, Nat.reduceBEq, Nat.reduceLT, Nat.reduceLeDiff, Nat.reduceAdd, Nat.reduceSub, Nat.reduceMul, Nat.reduceEqDiff, reduceCtorEq, ↓reduceIte, Int.reduceEq, Int.reduceLT, Int.reduceLE, Int.reduceNe, Int.reduceAdd, Int.reduceSub, Int.reduceMul, Int.reduceToNat, Nat.reduceShiftRight, Nat.reduceAnd, Nat.reduceBNe]
          refine callF hj ⟨rfl, ⟨rfl, rfl⟩, trivial⟩ rfl rfl ?_
          simp -implicitDefEqProofs only [hz2, push_cast, Nat.reduceBEq, Nat.reduceLT, Nat.reduceLeDiff, Nat.reduceAdd, Nat.reduceSub, Nat.reduceMul, Nat.reduceEqDiff, reduceCtorEq, ↓reduceIte, Int.reduceEq, Int.reduceLT, Int.reduceLE, Int.reduceNe, Int.reduceAdd, Int.reduceSub, Int.reduceMul, Int.reduceToNat, Nat.reduceShiftRight, Nat.reduceAnd, Nat.reduceBNe]
          refine callF hlv ⟨⟨rfl, rfl⟩, trivial⟩ rfl rfl ?_
          simp -implicitDefEqProofs only [hz2, beq_self_eq_true, push_cast, Nat.reduceBEq, Nat.reduceLT, Nat.reduceLeDiff, Nat.reduceAdd, Nat.reduceSub, Nat.reduceMul, Nat.reduceEqDiff, reduceCtorEq, ↓reduceIte, Int.reduceEq, Int.reduceLT, Int.reduceLE, Int.reduceNe, Int.reduceAdd, Int.reduceSub, Int.reduceMul, Int.reduceToNat, Nat.reduceShiftRight, Nat.reduceAnd, Nat.reduceBNe]
          exact ⟨by simp only [inR]; omega, 1, by omega, by omega, wk_c rfl ⟨rfl, rfl, rfl⟩ rfl⟩
      · have hi1 : i63 (q1 : Int) := by simp only [i63] at hln hld ⊢; omega
        have hi2 : i63 (q2 : Int) := by simp only [i63] at hln hld ⊢; omega
        have hlv := level_pc (q1 : Int) (q2 : Int) hi1 hi2
        have hj := hrj (q1 : Int) (q2 : Int) hi1 hi2
        have hmo := @hml (q1 : Int) (q2 : Int)
        have hno := @rej_no t (q1 : Int) (q2 : Int)
        obtain ⟨lv, hlve⟩ : ∃ lv, lev (q1 : Int) (q2 : Int) = lv := ⟨_, rfl⟩
        obtain ⟨rj, hrje⟩ : ∃ rj, rej t (q1 : Int) (q2 : Int) = rj := ⟨_, rfl⟩
        rw [hlve] at hlv hj hmo hno
        rw [hrje] at hj hmo hno
        by_cases hz : lv = 0
        · have hm := hmo hz
          subst hz
          simp -implicitDefEqProofs only [c5L0, push_cast, Nat.reduceBEq, Nat.reduceLT, Nat.reduceLeDiff, Nat.reduceAdd, Nat.reduceSub, Nat.reduceMul, Nat.reduceEqDiff, reduceCtorEq, ↓reduceIte, Int.reduceEq, Int.reduceLT, Int.reduceLE, Int.reduceNe, Int.reduceAdd, Int.reduceSub, Int.reduceMul, Int.reduceToNat, Nat.reduceShiftRight, Nat.reduceAnd, Nat.reduceBNe]
          refine callF hj ⟨rfl, ⟨rfl, rfl⟩, trivial⟩ rfl rfl ?_
          simp -implicitDefEqProofs only [push_cast, Nat.reduceBEq, Nat.reduceLT, Nat.reduceLeDiff, Nat.reduceAdd, Nat.reduceSub, Nat.reduceMul, Nat.reduceEqDiff, reduceCtorEq, ↓reduceIte, Int.reduceEq, Int.reduceLT, Int.reduceLE, Int.reduceNe, Int.reduceAdd, Int.reduceSub, Int.reduceMul, Int.reduceToNat, Nat.reduceShiftRight, Nat.reduceAnd, Nat.reduceBNe]
          refine callF hlv ⟨⟨rfl, rfl⟩, trivial⟩ rfl rfl ?_
          simp -implicitDefEqProofs only [beq_self_eq_true, push_cast, Nat.reduceBEq, Nat.reduceLT, Nat.reduceLeDiff, Nat.reduceAdd, Nat.reduceSub, Nat.reduceMul, Nat.reduceEqDiff, reduceCtorEq, ↓reduceIte, Int.reduceEq, Int.reduceLT, Int.reduceLE, Int.reduceNe, Int.reduceAdd, Int.reduceSub, Int.reduceMul, Int.reduceToNat, Nat.reduceShiftRight, Nat.reduceAnd, Nat.reduceBNe]
          refine callF hm ⟨⟨rfl, rfl⟩, ⟨rfl, rfl⟩, trivial⟩ rfl rfl ?_
          simp -implicitDefEqProofs only [beq_self_eq_true, push_cast, Nat.reduceBEq, Nat.reduceLT, Nat.reduceLeDiff, Nat.reduceAdd, Nat.reduceSub, Nat.reduceMul, Nat.reduceEqDiff, reduceCtorEq, ↓reduceIte, Int.reduceEq, Int.reduceLT, Int.reduceLE, Int.reduceNe, Int.reduceAdd, Int.reduceSub, Int.reduceMul, Int.reduceToNat, Nat.reduceShiftRight, Nat.reduceAnd, Nat.reduceBNe]
          exact ⟨by simp only [inR]; omega, 2, by omega, by omega, wk_c rfl ⟨rfl, rfl, rfl⟩ rfl⟩
        · have hm := hno hz
          subst hm
          have hz2 : decide (lv = 0) = false := decide_eq_false hz
          simp -implicitDefEqProofs only [c5L0, hz2, push_cast, Nat.reduceBEq, Nat.reduceLT, Nat.reduceLeDiff, Nat.reduceAdd, Nat.reduceSub, Nat.reduceMul, Nat.reduceEqDiff, reduceCtorEq, ↓reduceIte, Int.reduceEq, Int.reduceLT, Int.reduceLE, Int.reduceNe, Int.reduceAdd, Int.reduceSub, Int.reduceMul, Int.reduceToNat, Nat.reduceShiftRight, Nat.reduceAnd, Nat.reduceBNe]
          refine callF hj ⟨rfl, ⟨rfl, rfl⟩, trivial⟩ rfl rfl ?_
          simp -implicitDefEqProofs only [hz2, push_cast, Nat.reduceBEq, Nat.reduceLT, Nat.reduceLeDiff, Nat.reduceAdd, Nat.reduceSub, Nat.reduceMul, Nat.reduceEqDiff, reduceCtorEq, ↓reduceIte, Int.reduceEq, Int.reduceLT, Int.reduceLE, Int.reduceNe, Int.reduceAdd, Int.reduceSub, Int.reduceMul, Int.reduceToNat, Nat.reduceShiftRight, Nat.reduceAnd, Nat.reduceBNe]
          refine callF hlv ⟨⟨rfl, rfl⟩, trivial⟩ rfl rfl ?_
          simp -implicitDefEqProofs only [hz2, beq_self_eq_true, push_cast, Nat.reduceBEq, Nat.reduceLT, Nat.reduceLeDiff, Nat.reduceAdd, Nat.reduceSub, Nat.reduceMul, Nat.reduceEqDiff, reduceCtorEq, ↓reduceIte, Int.reduceEq, Int.reduceLT, Int.reduceLE, Int.reduceNe, Int.reduceAdd, Int.reduceSub, Int.reduceMul, Int.reduceToNat, Nat.reduceShiftRight, Nat.reduceAnd, Nat.reduceBNe]
          exact ⟨by simp only [inR]; omega, 2, by omega, by omega, wk_c rfl ⟨rfl, rfl, rfl⟩ rfl⟩
      · have hi1 : i63 (p : Int) := by simp only [i63] at hln hld ⊢; omega
        have hi2 : i63 (q : Int) := by simp only [i63] at hln hld ⊢; omega
        have hlv := level_pc (p : Int) (q : Int) hi1 hi2
        have hj := hrj (p : Int) (q : Int) hi1 hi2
        have hmo := @hml (p : Int) (q : Int)
        have hno := @rej_no t (p : Int) (q : Int)
        obtain ⟨lv, hlve⟩ : ∃ lv, lev (p : Int) (q : Int) = lv := ⟨_, rfl⟩
        obtain ⟨rj, hrje⟩ : ∃ rj, rej t (p : Int) (q : Int) = rj := ⟨_, rfl⟩
        rw [hlve] at hlv hj hmo hno
        rw [hrje] at hj hmo hno
        by_cases hz : lv = 0
        · have hm := hmo hz
          subst hz
          simp -implicitDefEqProofs only [c5L0, push_cast, Nat.reduceBEq, Nat.reduceLT, Nat.reduceLeDiff, Nat.reduceAdd, Nat.reduceSub, Nat.reduceMul, Nat.reduceEqDiff, reduceCtorEq, ↓reduceIte, Int.reduceEq, Int.reduceLT, Int.reduceLE, Int.reduceNe, Int.reduceAdd, Int.reduceSub, Int.reduceMul, Int.reduceToNat, Nat.reduceShiftRight, Nat.reduceAnd, Nat.reduceBNe]
          refine callF hj ⟨rfl, ⟨rfl, rfl⟩, trivial⟩ rfl rfl ?_
          simp -implicitDefEqProofs only [push_cast, Nat.reduceBEq, Nat.reduceLT, Nat.reduceLeDiff, Nat.reduceAdd, Nat.reduceSub, Nat.reduceMul, Nat.reduceEqDiff, reduceCtorEq, ↓reduceIte, Int.reduceEq, Int.reduceLT, Int.reduceLE, Int.reduceNe, Int.reduceAdd, Int.reduceSub, Int.reduceMul, Int.reduceToNat, Nat.reduceShiftRight, Nat.reduceAnd, Nat.reduceBNe]
          refine callF hlv ⟨⟨rfl, rfl⟩, trivial⟩ rfl rfl ?_
          simp -implicitDefEqProofs only [beq_self_eq_true, push_cast, Nat.reduceBEq, Nat.reduceLT, Nat.reduceLeDiff, Nat.reduceAdd, Nat.reduceSub, Nat.reduceMul, Nat.reduceEqDiff, reduceCtorEq, ↓reduceIte, Int.reduceEq, Int.reduceLT, Int.reduceLE, Int.reduceNe, Int.reduceAdd, Int.reduceSub, Int.reduceMul, Int.reduceToNat, Nat.reduceShiftRight, Nat.reduceAnd, Nat.reduceBNe]
          refine callF hm ⟨⟨rfl, rfl⟩, ⟨rfl, rfl⟩, trivial⟩ rfl rfl ?_
          simp -implicitDefEqProofs only [beq_self_eq_true, push_cast, Nat.reduceBEq, Nat.reduceLT, Nat.reduceLeDiff, Nat.reduceAdd, Nat.reduceSub, Nat.reduceMul, Nat.reduceEqDiff, reduceCtorEq, ↓reduceIte, Int.reduceEq, Int.reduceLT, Int.reduceLE, Int.reduceNe, Int.reduceAdd, Int.reduceSub, Int.reduceMul, Int.reduceToNat, Nat.reduceShiftRight, Nat.reduceAnd, Nat.reduceBNe]
          exact ⟨by simp only [inR]; omega, 3, by omega, by omega, wk_c rfl ⟨rfl, rfl, rfl⟩ rfl⟩
        · have hm := hno hz
          subst hm
          have hz2 : decide (lv = 0) = false := decide_eq_false hz
          simp -implicitDefEqProofs only [c5L0, hz2, push_cast, Nat.reduceBEq, Nat.reduceLT, Nat.reduceLeDiff, Nat.reduceAdd, Nat.reduceSub, Nat.reduceMul, Nat.reduceEqDiff, reduceCtorEq, ↓reduceIte, Int.reduceEq, Int.reduceLT, Int.reduceLE, Int.reduceNe, Int.reduceAdd, Int.reduceSub, Int.reduceMul, Int.reduceToNat, Nat.reduceShiftRight, Nat.reduceAnd, Nat.reduceBNe]
          refine callF hj ⟨rfl, ⟨rfl, rfl⟩, trivial⟩ rfl rfl ?_
          simp -implicitDefEqProofs only [hz2, push_cast, Nat.reduceBEq, Nat.reduceLT, Nat.reduceLeDiff, Nat.reduceAdd, Nat.reduceSub, Nat.reduceMul, Nat.reduceEqDiff, reduceCtorEq, ↓reduceIte, Int.reduceEq, Int.reduceLT, Int.reduceLE, Int.reduceNe, Int.reduceAdd, Int.reduceSub, Int.reduceMul, Int.reduceToNat, Nat.reduceShiftRight, Nat.reduceAnd, Nat.reduceBNe]
          refine callF hlv ⟨⟨rfl, rfl⟩, trivial⟩ rfl rfl ?_
          simp -implicitDefEqProofs only [hz2, beq_self_eq_true, push_cast, Nat.reduceBEq, Nat.reduceLT, Nat.reduceLeDiff, Nat.reduceAdd, Nat.reduceSub, Nat.reduceMul, Nat.reduceEqDiff, reduceCtorEq, ↓reduceIte, Int.reduceEq, Int.reduceLT, Int.reduceLE, Int.reduceNe, Int.reduceAdd, Int.reduceSub, Int.reduceMul, Int.reduceToNat, Nat.reduceShiftRight, Nat.reduceAnd, Nat.reduceBNe]
          exact ⟨by simp only [inR]; omega, 3, by omega, by omega, wk_c rfl ⟨rfl, rfl, rfl⟩ rfl⟩
      · simp -implicitDefEqProofs only [c5L0, push_cast, Nat.reduceBEq, Nat.reduceLT, Nat.reduceLeDiff, Nat.reduceAdd, Nat.reduceSub, Nat.reduceMul, Nat.reduceEqDiff, reduceCtorEq, ↓reduceIte, Int.reduceEq, Int.reduceLT, Int.reduceLE, Int.reduceNe, Int.reduceAdd, Int.reduceSub, Int.reduceMul, Int.reduceToNat, Nat.reduceShiftRight, Nat.reduceAnd, Nat.reduceBNe]
        exact ⟨by simp only [inR]; omega, 1, by omega, by omega, wk_c rfl ⟨rfl, rfl, rfl⟩ rfl⟩
  · have hr := right_pc fw hf.1
    cases hv : validB fw with
    | false =>
      rw [hv] at hr
      have htl := tail_bad fw hf.1 hf.2 hv
      simp -implicitDefEqProofs only [c5L1, push_cast, Nat.reduceBEq, Nat.reduceLT, Nat.reduceLeDiff, Nat.reduceAdd, Nat.reduceSub, Nat.reduceMul, Nat.reduceEqDiff, reduceCtorEq, ↓reduceIte, Int.reduceEq, Int.reduceLT, Int.reduceLE, Int.reduceNe, Int.reduceAdd, Int.reduceSub, Int.reduceMul, Int.reduceToNat, Nat.reduceShiftRight, Nat.reduceAnd, Nat.reduceBNe]
      refine callF htl ⟨rfl, trivial⟩ rfl rfl ?_
      simp -implicitDefEqProofs only [push_cast, Nat.reduceBEq, Nat.reduceLT, Nat.reduceLeDiff, Nat.reduceAdd, Nat.reduceSub, Nat.reduceMul, Nat.reduceEqDiff, reduceCtorEq, ↓reduceIte, Int.reduceEq, Int.reduceLT, Int.reduceLE, Int.reduceNe, Int.reduceAdd, Int.reduceSub, Int.reduceMul, Int.reduceToNat, Nat.reduceShiftRight, Nat.reduceAnd, Nat.reduceBNe]
      refine callF hr ⟨rfl, trivial⟩ rfl rfl ?_
      simp -implicitDefEqProofs only [push_cast, Nat.reduceBEq, Nat.reduceLT, Nat.reduceLeDiff, Nat.reduceAdd, Nat.reduceSub, Nat.reduceMul, Nat.reduceEqDiff, reduceCtorEq, ↓reduceIte, Int.reduceEq, Int.reduceLT, Int.reduceLE, Int.reduceNe, Int.reduceAdd, Int.reduceSub, Int.reduceMul, Int.reduceToNat, Nat.reduceShiftRight, Nat.reduceAnd, Nat.reduceBNe]
      refine ⟨by simp only [inR]; omega, by simp only [inR]; omega, by simp only [inR]; omega, ?_⟩
      refine ppF hred ⟨rfl, rfl, trivial⟩ rfl rfl ?_
      simp -implicitDefEqProofs only [push_cast, Nat.reduceBEq, Nat.reduceLT, Nat.reduceLeDiff, Nat.reduceAdd, Nat.reduceSub, Nat.reduceMul, Nat.reduceEqDiff, reduceCtorEq, ↓reduceIte, Int.reduceEq, Int.reduceLT, Int.reduceLE, Int.reduceNe, Int.reduceAdd, Int.reduceSub, Int.reduceMul, Int.reduceToNat, Nat.reduceShiftRight, Nat.reduceAnd, Nat.reduceBNe]
      refine loop_w (α := Nat) (fun j => ⟨[(64, I j), (63, .agg [I ln, I ld, I q1, I q2, I 0, I 0]), (26, I 1), (25, .agg [TT t, TT fw]), (14, .ptr 4 0), (13, B false), (10, TT fw), (7, .ptr 2 0), (6, .ptr 1 0)], Row3 z0 z1 z2 z3 z4 z5 z6 z7 z8 z9 z10 z11 ln ld S0 S1 ++ [.box [I 0, I 0], .box [I 0, I 0]], []⟩) (fun j => j ≤ 3) (fun j => 3 - j) 0 (wk_c rfl ⟨rfl, rfl, rfl⟩ rfl) (by omega) ?_
      intro j hj
      have : j = 0 ∨ j = 1 ∨ j = 2 ∨ j = 3 := by omega
      rcases this with rfl | rfl | rfl | rfl
      · have hi1 : i63 ln := by simp only [i63] at hln hld ⊢; omega
        have hi2 : i63 ld := by simp only [i63] at hln hld ⊢; omega
        have hlv := level_pc ln ld hi1 hi2
        have hj := reject_bad fw hf.1 hf.2 hv ln ld
        obtain ⟨lv, hlve⟩ : ∃ lv, lev ln ld = lv := ⟨_, rfl⟩
        rw [hlve] at hlv
        simp -implicitDefEqProofs only [c5L0, push_cast, Nat.reduceBEq, Nat.reduceLT, Nat.reduceLeDiff, Nat.reduceAdd, Nat.reduceSub, Nat.reduceMul, Nat.reduceEqDiff, reduceCtorEq, ↓reduceIte, Int.reduceEq, Int.reduceLT, Int.reduceLE, Int.reduceNe, Int.reduceAdd, Int.reduceSub, Int.reduceMul, Int.reduceToNat, Nat.reduceShiftRight, Nat.reduceAnd, Nat.reduceBNe]
        refine callF hj ⟨rfl, ⟨rfl, rfl⟩, trivial⟩ rfl rfl ?_
        simp -implicitDefEqProofs only [push_cast, Nat.reduceBEq, Nat.reduceLT, Nat.reduceLeDiff, Nat.reduceAdd, Nat.reduceSub, Nat.reduceMul, Nat.reduceEqDiff, reduceCtorEq, ↓reduceIte, Int.reduceEq, Int.reduceLT, Int.reduceLE, Int.reduceNe, Int.reduceAdd, Int.reduceSub, Int.reduceMul, Int.reduceToNat, Nat.reduceShiftRight, Nat.reduceAnd, Nat.reduceBNe]
        refine callF hlv ⟨⟨rfl, rfl⟩, trivial⟩ rfl rfl ?_
        simp -implicitDefEqProofs only [beq_self_eq_true, push_cast, Nat.reduceBEq, Nat.reduceLT, Nat.reduceLeDiff, Nat.reduceAdd, Nat.reduceSub, Nat.reduceMul, Nat.reduceEqDiff, reduceCtorEq, ↓reduceIte, Int.reduceEq, Int.reduceLT, Int.reduceLE, Int.reduceNe, Int.reduceAdd, Int.reduceSub, Int.reduceMul, Int.reduceToNat, Nat.reduceShiftRight, Nat.reduceAnd, Nat.reduceBNe]
        exact ⟨by simp only [inR]; omega, 1, by omega, by omega, wk_c rfl ⟨rfl, rfl, rfl⟩ rfl⟩
      · have hi1 : i63 (q1 : Int) := by simp only [i63] at hln hld ⊢; omega
        have hi2 : i63 (q2 : Int) := by simp only [i63] at hln hld ⊢; omega
        have hlv := level_pc (q1 : Int) (q2 : Int) hi1 hi2
        have hj := reject_bad fw hf.1 hf.2 hv (q1 : Int) (q2 : Int)
        obtain ⟨lv, hlve⟩ : ∃ lv, lev (q1 : Int) (q2 : Int) = lv := ⟨_, rfl⟩
        rw [hlve] at hlv
        simp -implicitDefEqProofs only [c5L0, push_cast, Nat.reduceBEq, Nat.reduceLT, Nat.reduceLeDiff, Nat.reduceAdd, Nat.reduceSub, Nat.reduceMul, Nat.reduceEqDiff, reduceCtorEq, ↓reduceIte, Int.reduceEq, Int.reduceLT, Int.reduceLE, Int.reduceNe, Int.reduceAdd, Int.reduceSub, Int.reduceMul, Int.reduceToNat, Nat.reduceShiftRight, Nat.reduceAnd, Nat.reduceBNe]
        refine callF hj ⟨rfl, ⟨rfl, rfl⟩, trivial⟩ rfl rfl ?_
        simp -implicitDefEqProofs only [push_cast, Nat.reduceBEq, Nat.reduceLT, Nat.reduceLeDiff, Nat.reduceAdd, Nat.reduceSub, Nat.reduceMul, Nat.reduceEqDiff, reduceCtorEq, ↓reduceIte, Int.reduceEq, Int.reduceLT, Int.reduceLE, Int.reduceNe, Int.reduceAdd, Int.reduceSub, Int.reduceMul, Int.reduceToNat, Nat.reduceShiftRight, Nat.reduceAnd, Nat.reduceBNe]
        refine callF hlv ⟨⟨rfl, rfl⟩, trivial⟩ rfl rfl ?_
        simp -implicitDefEqProofs only [beq_self_eq_true, push_cast, Nat.reduceBEq, Nat.reduceLT, Nat.reduceLeDiff, Nat.reduceAdd, Nat.reduceSub, Nat.reduceMul, Nat.reduceEqDiff, reduceCtorEq, ↓reduceIte, Int.reduceEq, Int.reduceLT, Int.reduceLE, Int.reduceNe, Int.reduceAdd, Int.reduceSub, Int.reduceMul, Int.reduceToNat, Nat.reduceShiftRight, Nat.reduceAnd, Nat.reduceBNe]
        exact ⟨by simp only [inR]; omega, 2, by omega, by omega, wk_c rfl ⟨rfl, rfl, rfl⟩ rfl⟩
      · have hi1 : i63 (0 : Int) := by simp only [i63] at hln hld ⊢; omega
        have hi2 : i63 (0 : Int) := by simp only [i63] at hln hld ⊢; omega
        have hlv := level_pc (0 : Int) (0 : Int) hi1 hi2
        have hj := reject_bad fw hf.1 hf.2 hv (0 : Int) (0 : Int)
        obtain ⟨lv, hlve⟩ : ∃ lv, lev (0 : Int) (0 : Int) = lv := ⟨_, rfl⟩
        rw [hlve] at hlv
        simp -implicitDefEqProofs only [c5L0, push_cast, Nat.reduceBEq, Nat.reduceLT, Nat.reduceLeDiff, Nat.reduceAdd, Nat.reduceSub, Nat.reduceMul, Nat.reduceEqDiff, reduceCtorEq, ↓reduceIte, Int.reduceEq, Int.reduceLT, Int.reduceLE, Int.reduceNe, Int.reduceAdd, Int.reduceSub, Int.reduceMul, Int.reduceToNat, Nat.reduceShiftRight, Nat.reduceAnd, Nat.reduceBNe]
        refine callF hj ⟨rfl, ⟨rfl, rfl⟩, trivial⟩ rfl rfl ?_
        simp -implicitDefEqProofs only [push_cast, Nat.reduceBEq, Nat.reduceLT, Nat.reduceLeDiff, Nat.reduceAdd, Nat.reduceSub, Nat.reduceMul, Nat.reduceEqDiff, reduceCtorEq, ↓reduceIte, Int.reduceEq, Int.reduceLT, Int.reduceLE, Int.reduceNe, Int.reduceAdd, Int.reduceSub, Int.reduceMul, Int.reduceToNat, Nat.reduceShiftRight, Nat.reduceAnd, Nat.reduceBNe]
        refine callF hlv ⟨⟨rfl, rfl⟩, trivial⟩ rfl rfl ?_
        simp -implicitDefEqProofs only [beq_self_eq_true, push_cast, Nat.reduceBEq, Nat.reduceLT, Nat.reduceLeDiff, Nat.reduceAdd, Nat.reduceSub, Nat.reduceMul, Nat.reduceEqDiff, reduceCtorEq, ↓reduceIte, Int.reduceEq, Int.reduceLT, Int.reduceLE, Int.reduceNe, Int.reduceAdd, Int.reduceSub, Int.reduceMul, Int.reduceToNat, Nat.reduceShiftRight, Nat.reduceAnd, Nat.reduceBNe]
        exact ⟨by simp only [inR]; omega, 3, by omega, by omega, wk_c rfl ⟨rfl, rfl, rfl⟩ rfl⟩
      · simp -implicitDefEqProofs only [c5L0, push_cast, Nat.reduceBEq, Nat.reduceLT, Nat.reduceLeDiff, Nat.reduceAdd, Nat.reduceSub, Nat.reduceMul, Nat.reduceEqDiff, reduceCtorEq, ↓reduceIte, Int.reduceEq, Int.reduceLT, Int.reduceLE, Int.reduceNe, Int.reduceAdd, Int.reduceSub, Int.reduceMul, Int.reduceToNat, Nat.reduceShiftRight, Nat.reduceAnd, Nat.reduceBNe]
        exact ⟨by simp only [inR]; omega, 2, by omega, by omega, wk_c rfl ⟨rfl, rfl, rfl⟩ rfl⟩
    | true =>
      rw [hv] at hr
      have hT := tab_of hv
      have htl : PC Tryd.prog 27 [TT fw] (.tup [QA (tN fw) (tD fw), I 0]) := tail_pc hT
      have hrt : PC Tryd.prog 28 [TT fw] (QA (tN fw) (tD fw)) := reftail_pc hT
      obtain ⟨hok, hd1, hd2, hd3⟩ := tail_ok hT
      have hrj := reject_pc hT
      have hml := @most_lev fw hT
      obtain ⟨p, hp⟩ : ∃ p, tN fw = p := ⟨_, rfl⟩
      obtain ⟨q, hq⟩ : ∃ p, tD fw = p := ⟨_, rfl⟩
      rw [hp, hq] at htl hrt hml
      rw [hp] at hd3
      rw [hq] at hd2
      simp -implicitDefEqProofs only [c5L1, push_cast, Nat.reduceBEq, Nat.reduceLT, Nat.reduceLeDiff, Nat.reduceAdd, Nat.reduceSub, Nat.reduceMul, Nat.reduceEqDiff, reduceCtorEq, ↓reduceIte, Int.reduceEq, Int.reduceLT, Int.reduceLE, Int.reduceNe, Int.reduceAdd, Int.reduceSub, Int.reduceMul, Int.reduceToNat, Nat.reduceShiftRight, Nat.reduceAnd, Nat.reduceBNe]
      refine callF htl ⟨rfl, trivial⟩ rfl rfl ?_
      simp -implicitDefEqProofs only [push_cast, Nat.reduceBEq, Nat.reduceLT, Nat.reduceLeDiff, Nat.reduceAdd, Nat.reduceSub, Nat.reduceMul, Nat.reduceEqDiff, reduceCtorEq, ↓reduceIte, Int.reduceEq, Int.reduceLT, Int.reduceLE, Int.reduceNe, Int.reduceAdd, Int.reduceSub, Int.reduceMul, Int.reduceToNat, Nat.reduceShiftRight, Nat.reduceAnd, Nat.reduceBNe]
      refine callF hr ⟨rfl, trivial⟩ rfl rfl ?_
      simp -implicitDefEqProofs only [push_cast, Nat.reduceBEq, Nat.reduceLT, Nat.reduceLeDiff, Nat.reduceAdd, Nat.reduceSub, Nat.reduceMul, Nat.reduceEqDiff, reduceCtorEq, ↓reduceIte, Int.reduceEq, Int.reduceLT, Int.reduceLE, Int.reduceNe, Int.reduceAdd, Int.reduceSub, Int.reduceMul, Int.reduceToNat, Nat.reduceShiftRight, Nat.reduceAnd, Nat.reduceBNe]
      refine callF hrt ⟨rfl, trivial⟩ rfl rfl ?_
      simp -implicitDefEqProofs only [beq_self_eq_true, push_cast, Nat.reduceBEq, Nat.reduceLT, Nat.reduceLeDiff, Nat.reduceAdd, Nat.reduceSub, Nat.reduceMul, Nat.reduceEqDiff, reduceCtorEq, ↓reduceIte, Int.reduceEq, Int.reduceLT, Int.reduceLE, Int.reduceNe, Int.reduceAdd, Int.reduceSub, Int.reduceMul, Int.reduceToNat, Nat.reduceShiftRight, Nat.reduceAnd, Nat.reduceBNe]
      refine ⟨by simp only [inR]; omega, by simp only [inR]; omega, by simp only [inR]; omega, ?_⟩
      refine ppF hred ⟨rfl, rfl, trivial⟩ rfl rfl ?_
      simp -implicitDefEqProofs only [push_cast, Nat.reduceBEq, Nat.reduceLT, Nat.reduceLeDiff, Nat.reduceAdd, Nat.reduceSub, Nat.reduceMul, Nat.reduceEqDiff, reduceCtorEq, ↓reduceIte, Int.reduceEq, Int.reduceLT, Int.reduceLE, Int.reduceNe, Int.reduceAdd, Int.reduceSub, Int.reduceMul, Int.reduceToNat, Nat.reduceShiftRight, Nat.reduceAnd, Nat.reduceBNe]
      refine loop_w (α := Nat) (fun j => ⟨[(64, I j), (63, .agg [I ln, I ld, I q1, I q2, I p, I q]), (26, I 1), (25, .agg [TT t, TT fw]), (14, .ptr 4 0), (13, B true), (10, TT fw), (7, .ptr 2 0), (6, .ptr 1 0)], Row3 z0 z1 z2 z3 z4 z5 z6 z7 z8 z9 z10 z11 ln ld S0 S1 ++ [.box [I p, I q], .box [I p, I q]], []⟩) (fun j => j ≤ 3) (fun j => 3 - j) 0 (wk_c rfl ⟨rfl, rfl, rfl⟩ rfl) (by omega) ?_
      intro j hj
      have : j = 0 ∨ j = 1 ∨ j = 2 ∨ j = 3 := by omega
      rcases this with rfl | rfl | rfl | rfl
      · have hi1 : i63 ln := by simp only [i63] at hln hld ⊢; omega
        have hi2 : i63 ld := by simp only [i63] at hln hld ⊢; omega
        have hlv := level_pc ln ld hi1 hi2
        have hj := hrj ln ld hi1 hi2
        have hmo := @hml ln ld
        have hno := @rej_no fw ln ld
        obtain ⟨lv, hlve⟩ : ∃ lv, lev ln ld = lv := ⟨_, rfl⟩
        obtain ⟨rj, hrje⟩ : ∃ rj, rej fw ln ld = rj := ⟨_, rfl⟩
        rw [hlve] at hlv hj hmo hno
        rw [hrje] at hj hmo hno
        by_cases hz : lv = 0
        · have hm := hmo hz
          subst hz
          simp -implicitDefEqProofs only [c5L0, push_cast, Nat.reduceBEq, Nat.reduceLT, Nat.reduceLeDiff, Nat.reduceAdd, Nat.reduceSub, Nat.reduceMul, Nat.reduceEqDiff, reduceCtorEq, ↓reduceIte, Int.reduceEq, Int.reduceLT, Int.reduceLE, Int.reduceNe, Int.reduceAdd, Int.reduceSub, Int.reduceMul, Int.reduceToNat, Nat.reduceShiftRight, Nat.reduceAnd, Nat.reduceBNe]
          refine callF hj ⟨rfl, ⟨rfl, rfl⟩, trivial⟩ rfl rfl ?_
          simp -implicitDefEqProofs only [push_cast, Nat.reduceBEq, Nat.reduceLT, Nat.reduceLeDiff, Nat.reduceAdd, Nat.reduceSub, Nat.reduceMul, Nat.reduceEqDiff, reduceCtorEq, ↓reduceIte, Int.reduceEq, Int.reduceLT, Int.reduceLE, Int.reduceNe, Int.reduceAdd, Int.reduceSub, Int.reduceMul, Int.reduceToNat, Nat.reduceShiftRight, Nat.reduceAnd, Nat.reduceBNe]
          refine callF hlv ⟨⟨rfl, rfl⟩, trivial⟩ rfl rfl ?_
          simp -implicitDefEqProofs only [beq_self_eq_true, push_cast, Nat.reduceBEq, Nat.reduceLT, Nat.reduceLeDiff, Nat.reduceAdd, Nat.reduceSub, Nat.reduceMul, Nat.reduceEqDiff, reduceCtorEq, ↓reduceIte, Int.reduceEq, Int.reduceLT, Int.reduceLE, Int.reduceNe, Int.reduceAdd, Int.reduceSub, Int.reduceMul, Int.reduceToNat, Nat.reduceShiftRight, Nat.reduceAnd, Nat.reduceBNe]
          refine callF hm ⟨⟨rfl, rfl⟩, ⟨rfl, rfl⟩, trivial⟩ rfl rfl ?_
          simp -implicitDefEqProofs only [beq_self_eq_true, push_cast, Nat.reduceBEq, Nat.reduceLT, Nat.reduceLeDiff, Nat.reduceAdd, Nat.reduceSub, Nat.reduceMul, Nat.reduceEqDiff, reduceCtorEq, ↓reduceIte, Int.reduceEq, Int.reduceLT, Int.reduceLE, Int.reduceNe, Int.reduceAdd, Int.reduceSub, Int.reduceMul, Int.reduceToNat, Nat.reduceShiftRight, Nat.reduceAnd, Nat.reduceBNe]
          exact ⟨by simp only [inR]; omega, 1, by omega, by omega, wk_c rfl ⟨rfl, rfl, rfl⟩ rfl⟩
        · have hm := hno hz
          subst hm
          have hz2 : decide (lv = 0) = false := decide_eq_false hz
          simp -implicitDefEqProofs only [c5L0, hz2, push_cast, Nat.reduceBEq, Nat.reduceLT, Nat.reduceLeDiff, Nat.reduceAdd, Nat.reduceSub, Nat.reduceMul, Nat.reduceEqDiff, reduceCtorEq, ↓reduceIte, Int.reduceEq, Int.reduceLT, Int.reduceLE, Int.reduceNe, Int.reduceAdd, Int.reduceSub, Int.reduceMul, Int.reduceToNat, Nat.reduceShiftRight, Nat.reduceAnd, Nat.reduceBNe]
          refine callF hj ⟨rfl, ⟨rfl, rfl⟩, trivial⟩ rfl rfl ?_
          simp -implicitDefEqProofs only [hz2, push_cast, Nat.reduceBEq, Nat.reduceLT, Nat.reduceLeDiff, Nat.reduceAdd, Nat.reduceSub, Nat.reduceMul, Nat.reduceEqDiff, reduceCtorEq, ↓reduceIte, Int.reduceEq, Int.reduceLT, Int.reduceLE, Int.reduceNe, Int.reduceAdd, Int.reduceSub, Int.reduceMul, Int.reduceToNat, Nat.reduceShiftRight, Nat.reduceAnd, Nat.reduceBNe]
          refine callF hlv ⟨⟨rfl, rfl⟩, trivial⟩ rfl rfl ?_
          simp -implicitDefEqProofs only [hz2, beq_self_eq_true, push_cast, Nat.reduceBEq, Nat.reduceLT, Nat.reduceLeDiff, Nat.reduceAdd, Nat.reduceSub, Nat.reduceMul, Nat.reduceEqDiff, reduceCtorEq, ↓reduceIte, Int.reduceEq, Int.reduceLT, Int.reduceLE, Int.reduceNe, Int.reduceAdd, Int.reduceSub, Int.reduceMul, Int.reduceToNat, Nat.reduceShiftRight, Nat.reduceAnd, Nat.reduceBNe]
          exact ⟨by simp only [inR]; omega, 1, by omega, by omega, wk_c rfl ⟨rfl, rfl, rfl⟩ rfl⟩
      · have hi1 : i63 (q1 : Int) := by simp only [i63] at hln hld ⊢; omega
        have hi2 : i63 (q2 : Int) := by simp only [i63] at hln hld ⊢; omega
        have hlv := level_pc (q1 : Int) (q2 : Int) hi1 hi2
        have hj := hrj (q1 : Int) (q2 : Int) hi1 hi2
        have hmo := @hml (q1 : Int) (q2 : Int)
        have hno := @rej_no fw (q1 : Int) (q2 : Int)
        obtain ⟨lv, hlve⟩ : ∃ lv, lev (q1 : Int) (q2 : Int) = lv := ⟨_, rfl⟩
        obtain ⟨rj, hrje⟩ : ∃ rj, rej fw (q1 : Int) (q2 : Int) = rj := ⟨_, rfl⟩
        rw [hlve] at hlv hj hmo hno
        rw [hrje] at hj hmo hno
        by_cases hz : lv = 0
        · have hm := hmo hz
          subst hz
          simp -implicitDefEqProofs only [c5L0, push_cast, Nat.reduceBEq, Nat.reduceLT, Nat.reduceLeDiff, Nat.reduceAdd, Nat.reduceSub, Nat.reduceMul, Nat.reduceEqDiff, reduceCtorEq, ↓reduceIte, Int.reduceEq, Int.reduceLT, Int.reduceLE, Int.reduceNe, Int.reduceAdd, Int.reduceSub, Int.reduceMul, Int.reduceToNat, Nat.reduceShiftRight, Nat.reduceAnd, Nat.reduceBNe]
          refine callF hj ⟨rfl, ⟨rfl, rfl⟩, trivial⟩ rfl rfl ?_
          simp -implicitDefEqProofs only [push_cast, Nat.reduceBEq, Nat.reduceLT, Nat.reduceLeDiff, Nat.reduceAdd, Nat.reduceSub, Nat.reduceMul, Nat.reduceEqDiff, reduceCtorEq, ↓reduceIte, Int.reduceEq, Int.reduceLT, Int.reduceLE, Int.reduceNe, Int.reduceAdd, Int.reduceSub, Int.reduceMul, Int.reduceToNat, Nat.reduceShiftRight, Nat.reduceAnd, Nat.reduceBNe]
          refine callF hlv ⟨⟨rfl, rfl⟩, trivial⟩ rfl rfl ?_
          simp -implicitDefEqProofs only [beq_self_eq_true, push_cast, Nat.reduceBEq, Nat.reduceLT, Nat.reduceLeDiff, Nat.reduceAdd, Nat.reduceSub, Nat.reduceMul, Nat.reduceEqDiff, reduceCtorEq, ↓reduceIte, Int.reduceEq, Int.reduceLT, Int.reduceLE, Int.reduceNe, Int.reduceAdd, Int.reduceSub, Int.reduceMul, Int.reduceToNat, Nat.reduceShiftRight, Nat.reduceAnd, Nat.reduceBNe]
          refine callF hm ⟨⟨rfl, rfl⟩, ⟨rfl, rfl⟩, trivial⟩ rfl rfl ?_
          simp -implicitDefEqProofs only [beq_self_eq_true, push_cast, Nat.reduceBEq, Nat.reduceLT, Nat.reduceLeDiff, Nat.reduceAdd, Nat.reduceSub, Nat.reduceMul, Nat.reduceEqDiff, reduceCtorEq, ↓reduceIte, Int.reduceEq, Int.reduceLT, Int.reduceLE, Int.reduceNe, Int.reduceAdd, Int.reduceSub, Int.reduceMul, Int.reduceToNat, Nat.reduceShiftRight, Nat.reduceAnd, Nat.reduceBNe]
          exact ⟨by simp only [inR]; omega, 2, by omega, by omega, wk_c rfl ⟨rfl, rfl, rfl⟩ rfl⟩
        · have hm := hno hz
          subst hm
          have hz2 : decide (lv = 0) = false := decide_eq_false hz
          simp -implicitDefEqProofs only [c5L0, hz2, push_cast, Nat.reduceBEq, Nat.reduceLT, Nat.reduceLeDiff, Nat.reduceAdd, Nat.reduceSub, Nat.reduceMul, Nat.reduceEqDiff, reduceCtorEq, ↓reduceIte, Int.reduceEq, Int.reduceLT, Int.reduceLE, Int.reduceNe, Int.reduceAdd, Int.reduceSub, Int.reduceMul, Int.reduceToNat, Nat.reduceShiftRight, Nat.reduceAnd, Nat.reduceBNe]
          refine callF hj ⟨rfl, ⟨rfl, rfl⟩, trivial⟩ rfl rfl ?_
          simp -implicitDefEqProofs only [hz2, push_cast, Nat.reduceBEq, Nat.reduceLT, Nat.reduceLeDiff, Nat.reduceAdd, Nat.reduceSub, Nat.reduceMul, Nat.reduceEqDiff, reduceCtorEq, ↓reduceIte, Int.reduceEq, Int.reduceLT, Int.reduceLE, Int.reduceNe, Int.reduceAdd, Int.reduceSub, Int.reduceMul, Int.reduceToNat, Nat.reduceShiftRight, Nat.reduceAnd, Nat.reduceBNe]
          refine callF hlv ⟨⟨rfl, rfl⟩, trivial⟩ rfl rfl ?_
          simp -implicitDefEqProofs only [hz2, beq_self_eq_true, push_cast, Nat.reduceBEq, Nat.reduceLT, Nat.reduceLeDiff, Nat.reduceAdd, Nat.reduceSub, Nat.reduceMul, Nat.reduceEqDiff, reduceCtorEq, ↓reduceIte, Int.reduceEq, Int.reduceLT, Int.reduceLE, Int.reduceNe, Int.reduceAdd, Int.reduceSub, Int.reduceMul, Int.reduceToNat, Nat.reduceShiftRight, Nat.reduceAnd, Nat.reduceBNe]
          exact ⟨by simp only [inR]; omega, 2, by omega, by omega, wk_c rfl ⟨rfl, rfl, rfl⟩ rfl⟩
      · have hi1 : i63 (p : Int) := by simp only [i63] at hln hld ⊢; omega
        have hi2 : i63 (q : Int) := by simp only [i63] at hln hld ⊢; omega
        have hlv := level_pc (p : Int) (q : Int) hi1 hi2
        have hj := hrj (p : Int) (q : Int) hi1 hi2
        have hmo := @hml (p : Int) (q : Int)
        have hno := @rej_no fw (p : Int) (q : Int)
        obtain ⟨lv, hlve⟩ : ∃ lv, lev (p : Int) (q : Int) = lv := ⟨_, rfl⟩
        obtain ⟨rj, hrje⟩ : ∃ rj, rej fw (p : Int) (q : Int) = rj := ⟨_, rfl⟩
        rw [hlve] at hlv hj hmo hno
        rw [hrje] at hj hmo hno
        by_cases hz : lv = 0
        · have hm := hmo hz
          subst hz
          simp -implicitDefEqProofs only [c5L0, push_cast, Nat.reduceBEq, Nat.reduceLT, Nat.reduceLeDiff, Nat.reduceAdd, Nat.reduceSub, Nat.reduceMul, Nat.reduceEqDiff, reduceCtorEq, ↓reduceIte, Int.reduceEq, Int.reduceLT, Int.reduceLE, Int.reduceNe, Int.reduceAdd, Int.reduceSub, Int.reduceMul, Int.reduceToNat, Nat.reduceShiftRight, Nat.reduceAnd, Nat.reduceBNe]
          refine callF hj ⟨rfl, ⟨rfl, rfl⟩, trivial⟩ rfl rfl ?_
          simp -implicitDefEqProofs only [push_cast, Nat.reduceBEq, Nat.reduceLT, Nat.reduceLeDiff, Nat.reduceAdd, Nat.reduceSub, Nat.reduceMul, Nat.reduceEqDiff, reduceCtorEq, ↓reduceIte, Int.reduceEq, Int.reduceLT, Int.reduceLE, Int.reduceNe, Int.reduceAdd, Int.reduceSub, Int.reduceMul, Int.reduceToNat, Nat.reduceShiftRight, Nat.reduceAnd, Nat.reduceBNe]
          refine callF hlv ⟨⟨rfl, rfl⟩, trivial⟩ rfl rfl ?_
          simp -implicitDefEqProofs only [beq_self_eq_true, push_cast, Nat.reduceBEq, Nat.reduceLT, Nat.reduceLeDiff, Nat.reduceAdd, Nat.reduceSub, Nat.reduceMul, Nat.reduceEqDiff, reduceCtorEq, ↓reduceIte, Int.reduceEq, Int.reduceLT, Int.reduceLE, Int.reduceNe, Int.reduceAdd, Int.reduceSub, Int.reduceMul, Int.reduceToNat, Nat.reduceShiftRight, Nat.reduceAnd, Nat.reduceBNe]
          refine callF hm ⟨⟨rfl, rfl⟩, ⟨rfl, rfl⟩, trivial⟩ rfl rfl ?_
          simp -implicitDefEqProofs only [beq_self_eq_true, push_cast, Nat.reduceBEq, Nat.reduceLT, Nat.reduceLeDiff, Nat.reduceAdd, Nat.reduceSub, Nat.reduceMul, Nat.reduceEqDiff, reduceCtorEq, ↓reduceIte, Int.reduceEq, Int.reduceLT, Int.reduceLE, Int.reduceNe, Int.reduceAdd, Int.reduceSub, Int.reduceMul, Int.reduceToNat, Nat.reduceShiftRight, Nat.reduceAnd, Nat.reduceBNe]
          exact ⟨by simp only [inR]; omega, 3, by omega, by omega, wk_c rfl ⟨rfl, rfl, rfl⟩ rfl⟩
        · have hm := hno hz
          subst hm
          have hz2 : decide (lv = 0) = false := decide_eq_false hz
          simp -implicitDefEqProofs only [c5L0, hz2, push_cast, Nat.reduceBEq, Nat.reduceLT, Nat.reduceLeDiff, Nat.reduceAdd, Nat.reduceSub, Nat.reduceMul, Nat.reduceEqDiff, reduceCtorEq, ↓reduceIte, Int.reduceEq, Int.reduceLT, Int.reduceLE, Int.reduceNe, Int.reduceAdd, Int.reduceSub, Int.reduceMul, Int.reduceToNat, Nat.reduceShiftRight, Nat.reduceAnd, Nat.reduceBNe]
          refine callF hj ⟨rfl, ⟨rfl, rfl⟩, trivial⟩ rfl rfl ?_
          simp -implicitDefEqProofs only [hz2, push_cast, Nat.reduceBEq, Nat.reduceLT, Nat.reduceLeDiff, Nat.reduceAdd, Nat.reduceSub, Nat.reduceMul, Nat.reduceEqDiff, reduceCtorEq, ↓reduceIte, Int.reduceEq, Int.reduceLT, Int.reduceLE, Int.reduceNe, Int.reduceAdd, Int.reduceSub, Int.reduceMul, Int.reduceToNat, Nat.reduceShiftRight, Nat.reduceAnd, Nat.reduceBNe]
          refine callF hlv ⟨⟨rfl, rfl⟩, trivial⟩ rfl rfl ?_
          simp -implicitDefEqProofs only [hz2, beq_self_eq_true, push_cast, Nat.reduceBEq, Nat.reduceLT, Nat.reduceLeDiff, Nat.reduceAdd, Nat.reduceSub, Nat.reduceMul, Nat.reduceEqDiff, reduceCtorEq, ↓reduceIte, Int.reduceEq, Int.reduceLT, Int.reduceLE, Int.reduceNe, Int.reduceAdd, Int.reduceSub, Int.reduceMul, Int.reduceToNat, Nat.reduceShiftRight, Nat.reduceAnd, Nat.reduceBNe]
          exact ⟨by simp only [inR]; omega, 3, by omega, by omega, wk_c rfl ⟨rfl, rfl, rfl⟩ rfl⟩
      · simp -implicitDefEqProofs only [c5L0, push_cast, Nat.reduceBEq, Nat.reduceLT, Nat.reduceLeDiff, Nat.reduceAdd, Nat.reduceSub, Nat.reduceMul, Nat.reduceEqDiff, reduceCtorEq, ↓reduceIte, Int.reduceEq, Int.reduceLT, Int.reduceLE, Int.reduceNe, Int.reduceAdd, Int.reduceSub, Int.reduceMul, Int.reduceToNat, Nat.reduceShiftRight, Nat.reduceAnd, Nat.reduceBNe]
        exact ⟨by simp only [inR]; omega, 2, by omega, by omega, wk_c rfl ⟨rfl, rfl, rfl⟩ rfl⟩
  · simp -implicitDefEqProofs only [c5L1, push_cast, Nat.reduceBEq, Nat.reduceLT, Nat.reduceLeDiff, Nat.reduceAdd, Nat.reduceSub, Nat.reduceMul, Nat.reduceEqDiff, reduceCtorEq, ↓reduceIte, Int.reduceEq, Int.reduceLT, Int.reduceLE, Int.reduceNe, Int.reduceAdd, Int.reduceSub, Int.reduceMul, Int.reduceToNat, Nat.reduceShiftRight, Nat.reduceAnd, Nat.reduceBNe]
    refine callF works_pc trivial rfl rfl ?_
    simp -implicitDefEqProofs only [push_cast, Nat.reduceBEq, Nat.reduceLT, Nat.reduceLeDiff, Nat.reduceAdd, Nat.reduceSub, Nat.reduceMul, Nat.reduceEqDiff, reduceCtorEq, ↓reduceIte, Int.reduceEq, Int.reduceLT, Int.reduceLE, Int.reduceNe, Int.reduceAdd, Int.reduceSub, Int.reduceMul, Int.reduceToNat, Nat.reduceShiftRight, Nat.reduceAnd, Nat.reduceBNe]
    exact finC rfl rfl
theorem law5_pc {a b m n0 n1 n2 n3 n4 n5 n6 n7 n8 : Int} (hr : r8 a ∧ r8 b ∧ r8 m ∧ r8 n0 ∧ r8 n1 ∧ r8 n2 ∧ r8 n3 ∧ r8 n4 ∧ r8 n5 ∧ r8 n6 ∧ r8 n7 ∧ r8 n8) (raw : List (List Int)) (ln ld s0 s1 : Int) (hln : i63 ln) (hld : i63 ld) (hs0 : r8 s0) (hs1 : r8 s1) :
    PC Tryd.prog 5 [DD a b [n0, n1, n2, n3, n4, n5, n6, n7, n8] m, TT raw, QD ln ld, .dat (.arr 2 (.int .u8)) [s0, s1]] (B true) := by
  obtain ⟨t, ht, hd⟩ := draft_pc hr
  have hs : okT (fewL raw) := ⟨by simp [fewL]; omega, by intro r hr; simp only [fewL, List.mem_map] at hr; obtain ⟨s, _, rfl⟩ := hr; simp; omega⟩
  have hto : okT t := ⟨by have := ht.len; omega, fun r hr => by have := (ht.row r hr).1; have := ht.wid; omega⟩
  refine pc_fn hmix h5 rfl ?_
  simp -implicitDefEqProofs only [c5, mapN, List.headD_cons, List.tail_cons, push_cast, Nat.reduceBEq, Nat.reduceLT, Nat.reduceLeDiff, Nat.reduceAdd, Nat.reduceSub, Nat.reduceMul, Nat.reduceEqDiff, reduceCtorEq, ↓reduceIte, Int.reduceEq, Int.reduceLT, Int.reduceLE, Int.reduceNe, Int.reduceAdd, Int.reduceSub, Int.reduceMul, Int.reduceToNat, Nat.reduceShiftRight, Nat.reduceAnd, Nat.reduceBNe]
  refine callF hd ⟨⟨rfl, ⟨rfl, rfl⟩, ⟨rfl, rfl⟩, ⟨⟨rfl, rfl⟩, ⟨rfl, rfl⟩, ⟨rfl, rfl⟩, ⟨rfl, rfl⟩, ⟨rfl, rfl⟩, ⟨rfl, rfl⟩, ⟨rfl, rfl⟩, ⟨rfl, rfl⟩, ⟨rfl, rfl⟩, ⟨rfl, rfl⟩, trivial⟩, ⟨rfl, rfl⟩, rfl⟩, trivial⟩ rfl rfl ?_
  simp -implicitDefEqProofs only [push_cast, Nat.reduceBEq, Nat.reduceLT, Nat.reduceLeDiff, Nat.reduceAdd, Nat.reduceSub, Nat.reduceMul, Nat.reduceEqDiff, reduceCtorEq, ↓reduceIte, Int.reduceEq, Int.reduceLT, Int.reduceLE, Int.reduceNe, Int.reduceAdd, Int.reduceSub, Int.reduceMul, Int.reduceToNat, Nat.reduceShiftRight, Nat.reduceAnd, Nat.reduceBNe]
  refine callF (few_pc raw) ⟨rfl, trivial⟩ rfl rfl ?_
  simp -implicitDefEqProofs only [push_cast, Nat.reduceBEq, Nat.reduceLT, Nat.reduceLeDiff, Nat.reduceAdd, Nat.reduceSub, Nat.reduceMul, Nat.reduceEqDiff, reduceCtorEq, ↓reduceIte, Int.reduceEq, Int.reduceLT, Int.reduceLE, Int.reduceNe, Int.reduceAdd, Int.reduceSub, Int.reduceMul, Int.reduceToNat, Nat.reduceShiftRight, Nat.reduceAnd, Nat.reduceBNe]
  refine LoopW.wk (wk_c (s' := ⟨[(26, I 0), (25, .agg [TT t, TT (fewL raw)]), (7, .ptr 2 0), (6, .ptr 1 0)], Row3 a b n0 n1 n2 n3 n4 n5 n6 n7 n8 m ln ld s0 s1, []⟩) rfl ⟨rfl, rfl, rfl⟩ rfl) ?_
  exact law5_loop _ _ _ _ _ _ _ _ _ _ _ _ _ _ _ _ _ _ hto hs hln hld hs0 hs1

end Go.Proofs.YtligakiolapkkaaDoor
