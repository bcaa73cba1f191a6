/- Texts of this claim, joined: an abstract machine over the model, proved sound; contracts of functions. -/
import Derived.Test.YtligakiolapkkaaDoorV32
import Derived.Test.YtligakiolapkkaaDoorM2
set_option linter.unusedSimpArgs false
set_option linter.unusedVariables false

namespace Go.Proofs.YtligakiolapkkaaDoor
open Go GoV
set_option maxHeartbeats 4000000
set_option maxRecDepth 10000

theorem eqself_pc (a : List Int) (hl : a.length ≤ 1000) : PC Tryd.prog 17 [IL a, IL a] (B true) := by
  refine pc_fn hmix h17 rfl ?_
  simp -implicitDefEqProofs only [c17, push_cast, Nat.reduceBEq, Nat.reduceLT, Nat.reduceLeDiff, Nat.reduceAdd, Nat.reduceSub, Nat.reduceMul, Nat.reduceEqDiff, reduceCtorEq, ↓reduceIte, Int.reduceEq, Int.reduceLT, Int.reduceLE, Int.reduceNe, Int.reduceAdd, Int.reduceSub, Int.reduceMul, Int.reduceToNat, Nat.reduceShiftRight, Nat.reduceAnd, Nat.reduceBNe]
  refine loop_k (α := Nat) [13, 12, 1, 0] 0 (fun k => [(13, I k)]) (fun _ => []) (fun k => k ≤ a.length) (fun k => a.length - k) 0 rfl ⟨rfl, rfl, rfl⟩ rfl (by omega) ?_
  intro k hk
  simp -implicitDefEqProofs only [c17L0, push_cast, Nat.reduceBEq, Nat.reduceLT, Nat.reduceLeDiff, Nat.reduceAdd, Nat.reduceSub, Nat.reduceMul, Nat.reduceEqDiff, reduceCtorEq, ↓reduceIte, Int.reduceEq, Int.reduceLT, Int.reduceLE, Int.reduceNe, Int.reduceAdd, Int.reduceSub, Int.reduceMul, Int.reduceToNat, Nat.reduceShiftRight, Nat.reduceAnd, Nat.reduceBNe]
  exact ⟨fun h => ⟨⟨by omega, h⟩, ⟨by omega, h⟩, by simp only [inR]; omega, k + 1, by omega, by omega, wk_c rfl ⟨rfl, rfl, rfl⟩ rfl⟩, fun _ => finC rfl rfl⟩

theorem clone_pc (s : List Int) (hs : s.length ≤ 100000) : PC Tryd.prog 39 [IL s] (IL s) := by
  refine pc_fn hmix h39 rfl ?_
  cases s with
  | nil =>
    simp -implicitDefEqProofs only [c39, push_cast, Nat.reduceBEq, Nat.reduceLT, Nat.reduceLeDiff, Nat.reduceAdd, Nat.reduceSub, Nat.reduceMul, Nat.reduceEqDiff, reduceCtorEq, ↓reduceIte, Int.reduceEq, Int.reduceLT, Int.reduceLE, Int.reduceNe, Int.reduceAdd, Int.reduceSub, Int.reduceMul, Int.reduceToNat, Nat.reduceShiftRight, Nat.reduceAnd, Nat.reduceBNe]
    exact ⟨finR 0 rfl trivial, by simp only [two47]; omega, finR 1 rfl (fz_seq rfl rfl)⟩
  | cons y ys =>
    simp -implicitDefEqProofs only [c39, push_cast, Nat.reduceBEq, Nat.reduceLT, Nat.reduceLeDiff, Nat.reduceAdd, Nat.reduceSub, Nat.reduceMul, Nat.reduceEqDiff, reduceCtorEq, ↓reduceIte, Int.reduceEq, Int.reduceLT, Int.reduceLE, Int.reduceNe, Int.reduceAdd, Int.reduceSub, Int.reduceMul, Int.reduceToNat, Nat.reduceShiftRight, Nat.reduceAnd, Nat.reduceBNe]
    simp only [List.length_cons] at hs
    exact ⟨⟨by simp only [two47]; omega, by simp only [two47]; omega⟩, finR 2 rfl (fz_seq rfl rfl)⟩
theorem clone_new (s : List Int) (h0 : s ≠ []) (hs : s.length ≤ 100000) : VCalls Tryd.prog 39 [IL s] [] (fun v fr => v = .slc 1 s.length 0 s.length ∧ fr = [.seq (.int .i64) [] true, .seq (.int .i64) s false]) := by
  refine vcalls_fn hmix h39 rfl ?_
  cases s with
  | nil => exact absurd rfl h0
  | cons y ys =>
    simp -implicitDefEqProofs only [c39, push_cast, Nat.reduceBEq, Nat.reduceLT, Nat.reduceLeDiff, Nat.reduceAdd, Nat.reduceSub, Nat.reduceMul, Nat.reduceEqDiff, reduceCtorEq, ↓reduceIte, Int.reduceEq, Int.reduceLT, Int.reduceLE, Int.reduceNe, Int.reduceAdd, Int.reduceSub, Int.reduceMul, Int.reduceToNat, Nat.reduceShiftRight, Nat.reduceAnd, Nat.reduceBNe]
    simp only [List.length_cons] at hs
    exact ⟨⟨by simp only [two47]; omega, by simp only [two47]; omega⟩, fin1 2 rfl ⟨rfl, rfl⟩⟩

theorem margins_bad (t : List (List Int)) (hl : t.length ≤ 1000) (hr : ∀ r ∈ t, r.length ≤ 1000) (hv : validB t = false) : PC Tryd.prog 13 [TT t] (.tup [IL [], IL [], I 300]) := by
  have hc := check_pc t hl hr
  rw [hv] at hc
  refine pc_fn hmix h13 rfl ?_
  simp -implicitDefEqProofs only [c13, push_cast, Nat.reduceBEq, Nat.reduceLT, Nat.reduceLeDiff, Nat.reduceAdd, Nat.reduceSub, Nat.reduceMul, Nat.reduceEqDiff, reduceCtorEq, ↓reduceIte, Int.reduceEq, Int.reduceLT, Int.reduceLE, Int.reduceNe, Int.reduceAdd, Int.reduceSub, Int.reduceMul, Int.reduceToNat, Nat.reduceShiftRight, Nat.reduceAnd, Nat.reduceBNe]
  refine callF hc ⟨rfl, trivial⟩ rfl rfl ?_
  simp -implicitDefEqProofs only [push_cast, Nat.reduceBEq, Nat.reduceLT, Nat.reduceLeDiff, Nat.reduceAdd, Nat.reduceSub, Nat.reduceMul, Nat.reduceEqDiff, reduceCtorEq, ↓reduceIte, Int.reduceEq, Int.reduceLT, Int.reduceLE, Int.reduceNe, Int.reduceAdd, Int.reduceSub, Int.reduceMul, Int.reduceToNat, Nat.reduceShiftRight, Nat.reduceAnd, Nat.reduceBNe]
  exact finR 0 rfl ⟨trivial, trivial, rfl, trivial⟩

def fewL (t : List (List Int)) : List (List Int) := (t.take 4).map (·.take 4)
theorem sub4 {α : Type} (l : List α) : subL l 0 (min (l.length : Int) 4).toNat = l.take 4 := by
  have e : (min (l.length : Int) 4).toNat = min l.length 4 := by omega
  rw [e, subL, List.drop_zero]
  rcases Nat.le_total l.length 4 with h | h
  · rw [Nat.min_eq_left h, List.take_length, List.take_of_length_le h]
  · rw [Nat.min_eq_right h]
theorem few_pc (t : List (List Int)) : PC Tryd.prog 11 [TT t] (TT (fewL t)) := by
  have hcl := fun (r : List Int) => clone_pc (r.take 4) (by rw [List.length_take]; omega)
  obtain ⟨u, hu⟩ : ∃ u, t.take 4 = u := ⟨_, rfl⟩
  have hul : u.length ≤ 4 := by rw [← hu, List.length_take]; omega
  have hf : fewL t = u.map (·.take 4) := by rw [← hu]; rfl
  refine pc_fn hmix h11 rfl ?_
  simp -implicitDefEqProofs only [c11, sub4, hu, push_cast, Nat.reduceBEq, Nat.reduceLT, Nat.reduceLeDiff, Nat.reduceAdd, Nat.reduceSub, Nat.reduceMul, Nat.reduceEqDiff, reduceCtorEq, ↓reduceIte, Int.reduceEq, Int.reduceLT, Int.reduceLE, Int.reduceNe, Int.reduceAdd, Int.reduceSub, Int.reduceMul, Int.reduceToNat, Nat.reduceShiftRight, Nat.reduceAnd, Nat.reduceBNe]
  refine ⟨by omega, ⟨by omega, by omega⟩, ?_⟩
  refine loop_w (α := Nat) (fun k => ⟨[(12, I k), (11, I u.length), (10, TT u), (3, .slc 0 ((u.take k).map (·.take 4)).length 0 ((u.take k).map (·.take 4)).length)], [.lst (.list (.int .i64)) ((u.take k).map (·.take 4))], []⟩) (fun k => k ≤ u.length) (fun k => u.length - k) 0
    ((wk_cut [12, 11, 10, 3] 0 rfl ⟨rfl, rfl, rfl⟩ rfl).trans (wk_own 3 (.list (.int .i64)) rfl)) (by omega) ?_
  intro k hk
  simp -implicitDefEqProofs only [c11L0, sub4, push_cast, Nat.reduceBEq, Nat.reduceLT, Nat.reduceLeDiff, Nat.reduceAdd, Nat.reduceSub, Nat.reduceMul, Nat.reduceEqDiff, reduceCtorEq, ↓reduceIte, Int.reduceEq, Int.reduceLT, Int.reduceLE, Int.reduceNe, Int.reduceAdd, Int.reduceSub, Int.reduceMul, Int.reduceToNat, Nat.reduceShiftRight, Nat.reduceAnd, Nat.reduceBNe]
  refine ⟨fun h => ⟨⟨by omega, h⟩, by omega, ⟨by omega, by omega⟩, ?_⟩, fun h => ?_⟩
  · refine callF (hcl _) ⟨rfl, trivial⟩ rfl rfl ?_
    simp -implicitDefEqProofs only [push_cast, Nat.reduceBEq, Nat.reduceLT, Nat.reduceLeDiff, Nat.reduceAdd, Nat.reduceSub, Nat.reduceMul, Nat.reduceEqDiff, reduceCtorEq, ↓reduceIte, Int.reduceEq, Int.reduceLT, Int.reduceLE, Int.reduceNe, Int.reduceAdd, Int.reduceSub, Int.reduceMul, Int.reduceToNat, Nat.reduceShiftRight, Nat.reduceAnd, Nat.reduceBNe]
    have e : (u.take (k + 1)).map (fun x => x.take 4) = (u.take k).map (fun x => x.take 4) ++ [(u.getD k []).take 4] := by
      rw [take_at [] (by omega), List.map_append]; rfl
    have hl9 : ((u.take k).map (fun x => x.take 4)).length ≤ 4 := by rw [List.length_map, List.length_take]; omega
    refine ⟨⟨by simp only [two47]; omega, by simp only [two47]; omega⟩, by simp only [inR]; omega, k + 1, by omega, by omega, ?_⟩
    rw [e]
    exact wk_c rfl ⟨rfl, rfl, rfl⟩ rfl
  · have : k = u.length := by omega
    subst this
    rw [hf]
    rw [List.take_length]
    exact finR 1 rfl (fz_lst rfl rfl)

theorem margins22 (a b c d : Int) (h : Tab [[a, b], [c, d]]) : PC Tryd.prog 13 [TT [[a, b], [c, d]]] (.tup [IL (rowsL [[a, b], [c, d]]), IL (colsL [[a, b], [c, d]]), I 0]) := by
  have hc := check_pc [[a, b], [c, d]] (by simp) (by simp)
  rw [tab_valid h] at hc
  have hs : PC Tryd.prog 42 [TT [[a, b], [c, d]]] (.tup [.agg [I (sumL [a, b]), I (sumL [c, d]), I 0], .agg [I (sumL [a, c]), I (sumL [b, d]), I 0]]) := sums_pc h
  refine pc_fn hmix h13 rfl ?_
  simp -implicitDefEqProofs only [c13, push_cast, Nat.reduceBEq, Nat.reduceLT, Nat.reduceLeDiff, Nat.reduceAdd, Nat.reduceSub, Nat.reduceMul, Nat.reduceEqDiff, reduceCtorEq, ↓reduceIte, Int.reduceEq, Int.reduceLT, Int.reduceLE, Int.reduceNe, Int.reduceAdd, Int.reduceSub, Int.reduceMul, Int.reduceToNat, Nat.reduceShiftRight, Nat.reduceAnd, Nat.reduceBNe]
  refine callF hc ⟨rfl, trivial⟩ rfl rfl ?_
  simp -implicitDefEqProofs only [push_cast, Nat.reduceBEq, Nat.reduceLT, Nat.reduceLeDiff, Nat.reduceAdd, Nat.reduceSub, Nat.reduceMul, Nat.reduceEqDiff, reduceCtorEq, ↓reduceIte, Int.reduceEq, Int.reduceLT, Int.reduceLE, Int.reduceNe, Int.reduceAdd, Int.reduceSub, Int.reduceMul, Int.reduceToNat, Nat.reduceShiftRight, Nat.reduceAnd, Nat.reduceBNe]
  refine callF hs ⟨rfl, trivial⟩ rfl rfl ?_
  simp -implicitDefEqProofs only [push_cast, Nat.reduceBEq, Nat.reduceLT, Nat.reduceLeDiff, Nat.reduceAdd, Nat.reduceSub, Nat.reduceMul, Nat.reduceEqDiff, reduceCtorEq, ↓reduceIte, Int.reduceEq, Int.reduceLT, Int.reduceLE, Int.reduceNe, Int.reduceAdd, Int.reduceSub, Int.reduceMul, Int.reduceToNat, Nat.reduceShiftRight, Nat.reduceAnd, Nat.reduceBNe]
  refine ppN (clone_new [sumL [a, b], sumL [c, d]] (by simp) (by simp)) ⟨⟨rfl, ⟨rfl, rfl⟩, ⟨rfl, rfl⟩, trivial⟩, trivial⟩ rfl rfl (fz_seq rfl rfl) rfl ?_
  simp -implicitDefEqProofs only [List.getD_cons_zero, push_cast, Nat.reduceBEq, Nat.reduceLT, Nat.reduceLeDiff, Nat.reduceAdd, Nat.reduceSub, Nat.reduceMul, Nat.reduceEqDiff, reduceCtorEq, ↓reduceIte, Int.reduceEq, Int.reduceLT, Int.reduceLE, Int.reduceNe, Int.reduceAdd, Int.reduceSub, Int.reduceMul, Int.reduceToNat, Nat.reduceShiftRight, Nat.reduceAnd, Nat.reduceBNe]
  refine ppN (clone_new [sumL [a, c], sumL [b, d]] (by simp) (by simp)) ⟨⟨rfl, ⟨rfl, rfl⟩, ⟨rfl, rfl⟩, trivial⟩, trivial⟩ rfl rfl (fz_seq rfl rfl) rfl ?_
  simp -implicitDefEqProofs only [push_cast, Nat.reduceBEq, Nat.reduceLT, Nat.reduceLeDiff, Nat.reduceAdd, Nat.reduceSub, Nat.reduceMul, Nat.reduceEqDiff, reduceCtorEq, ↓reduceIte, Int.reduceEq, Int.reduceLT, Int.reduceLE, Int.reduceNe, Int.reduceAdd, Int.reduceSub, Int.reduceMul, Int.reduceToNat, Nat.reduceShiftRight, Nat.reduceAnd, Nat.reduceBNe]
  exact finR 0 rfl ⟨rfl, rfl, rfl, trivial⟩
theorem margins23 (a b c d e f : Int) (h : Tab [[a, b, c], [d, e, f]]) : PC Tryd.prog 13 [TT [[a, b, c], [d, e, f]]] (.tup [IL (rowsL [[a, b, c], [d, e, f]]), IL (colsL [[a, b, c], [d, e, f]]), I 0]) := by
  have hc := check_pc [[a, b, c], [d, e, f]] (by simp) (by simp)
  rw [tab_valid h] at hc
  have hs : PC Tryd.prog 42 [TT [[a, b, c], [d, e, f]]] (.tup [.agg [I (sumL [a, b, c]), I (sumL [d, e, f]), I 0], .agg [I (sumL [a, d]), I (sumL [b, e]), I (sumL [c, f])]]) := sums_pc h
  refine pc_fn hmix h13 rfl ?_
  simp -implicitDefEqProofs only [c13, push_cast, Nat.reduceBEq, Nat.reduceLT, Nat.reduceLeDiff, Nat.reduceAdd, Nat.reduceSub, Nat.reduceMul, Nat.reduceEqDiff, reduceCtorEq, ↓reduceIte, Int.reduceEq, Int.reduceLT, Int.reduceLE, Int.reduceNe, Int.reduceAdd, Int.reduceSub, Int.reduceMul, Int.reduceToNat, Nat.reduceShiftRight, Nat.reduceAnd, Nat.reduceBNe]
  refine callF hc ⟨rfl, trivial⟩ rfl rfl ?_
  simp -implicitDefEqProofs only [push_cast, Nat.reduceBEq, Nat.reduceLT, Nat.reduceLeDiff, Nat.reduceAdd, Nat.reduceSub, Nat.reduceMul, Nat.reduceEqDiff, reduceCtorEq, ↓reduceIte, Int.reduceEq, Int.reduceLT, Int.reduceLE, Int.reduceNe, Int.reduceAdd, Int.reduceSub, Int.reduceMul, Int.reduceToNat, Nat.reduceShiftRight, Nat.reduceAnd, Nat.reduceBNe]
  refine callF hs ⟨rfl, trivial⟩ rfl rfl ?_
  simp -implicitDefEqProofs only [push_cast, Nat.reduceBEq, Nat.reduceLT, Nat.reduceLeDiff, Nat.reduceAdd, Nat.reduceSub, Nat.reduceMul, Nat.reduceEqDiff, reduceCtorEq, ↓reduceIte, Int.reduceEq, Int.reduceLT, Int.reduceLE, Int.reduceNe, Int.reduceAdd, Int.reduceSub, Int.reduceMul, Int.reduceToNat, Nat.reduceShiftRight, Nat.reduceAnd, Nat.reduceBNe]
  refine ppN (clone_new [sumL [a, b, c], sumL [d, e, f]] (by simp) (by simp)) ⟨⟨rfl, ⟨rfl, rfl⟩, ⟨rfl, rfl⟩, trivial⟩, trivial⟩ rfl rfl (fz_seq rfl rfl) rfl ?_
  simp -implicitDefEqProofs only [List.getD_cons_zero, push_cast, Nat.reduceBEq, Nat.reduceLT, Nat.reduceLeDiff, Nat.reduceAdd, Nat.reduceSub, Nat.reduceMul, Nat.reduceEqDiff, reduceCtorEq, ↓reduceIte, Int.reduceEq, Int.reduceLT, Int.reduceLE, Int.reduceNe, Int.reduceAdd, Int.reduceSub, Int.reduceMul, Int.reduceToNat, Nat.reduceShiftRight, Nat.reduceAnd, Nat.reduceBNe]
  refine ppN (clone_new [sumL [a, d], sumL [b, e], sumL [c, f]] (by simp) (by simp)) ⟨⟨rfl, ⟨rfl, rfl⟩, ⟨rfl, rfl⟩, ⟨rfl, rfl⟩, trivial⟩, trivial⟩ rfl rfl (fz_seq rfl rfl) rfl ?_
  simp -implicitDefEqProofs only [push_cast, Nat.reduceBEq, Nat.reduceLT, Nat.reduceLeDiff, Nat.reduceAdd, Nat.reduceSub, Nat.reduceMul, Nat.reduceEqDiff, reduceCtorEq, ↓reduceIte, Int.reduceEq, Int.reduceLT, Int.reduceLE, Int.reduceNe, Int.reduceAdd, Int.reduceSub, Int.reduceMul, Int.reduceToNat, Nat.reduceShiftRight, Nat.reduceAnd, Nat.reduceBNe]
  exact finR 0 rfl ⟨rfl, rfl, rfl, trivial⟩
theorem margins32 (a b c d e f : Int) (h : Tab [[a, b], [c, d], [e, f]]) : PC Tryd.prog 13 [TT [[a, b], [c, d], [e, f]]] (.tup [IL (rowsL [[a, b], [c, d], [e, f]]), IL (colsL [[a, b], [c, d], [e, f]]), I 0]) := by
  have hc := check_pc [[a, b], [c, d], [e, f]] (by simp) (by simp)
  rw [tab_valid h] at hc
  have hs : PC Tryd.prog 42 [TT [[a, b], [c, d], [e, f]]] (.tup [.agg [I (sumL [a, b]), I (sumL [c, d]), I (sumL [e, f])], .agg [I (sumL [a, c, e]), I (sumL [b, d, f]), I 0]]) := sums_pc h
  refine pc_fn hmix h13 rfl ?_
  simp -implicitDefEqProofs only [c13, push_cast, Nat.reduceBEq, Nat.reduceLT, Nat.reduceLeDiff, Nat.reduceAdd, Nat.reduceSub, Nat.reduceMul, Nat.reduceEqDiff, reduceCtorEq, ↓reduceIte, Int.reduceEq, Int.reduceLT, Int.reduceLE, Int.reduceNe, Int.reduceAdd, Int.reduceSub, Int.reduceMul, Int.reduceToNat, Nat.reduceShiftRight, Nat.reduceAnd, Nat.reduceBNe]
  refine callF hc ⟨rfl, trivial⟩ rfl rfl ?_
  simp -implicitDefEqProofs only [push_cast, Nat.reduceBEq, Nat.reduceLT, Nat.reduceLeDiff, Nat.reduceAdd, Nat.reduceSub, Nat.reduceMul, Nat.reduceEqDiff, reduceCtorEq, ↓reduceIte, Int.reduceEq, Int.reduceLT, Int.reduceLE, Int.reduceNe, Int.reduceAdd, Int.reduceSub, Int.reduceMul, Int.reduceToNat, Nat.reduceShiftRight, Nat.reduceAnd, Nat.reduceBNe]
  refine callF hs ⟨rfl, trivial⟩ rfl rfl ?_
  simp -implicitDefEqProofs only [push_cast, Nat.reduceBEq, Nat.reduceLT, Nat.reduceLeDiff, Nat.reduceAdd, Nat.reduceSub, Nat.reduceMul, Nat.reduceEqDiff, reduceCtorEq, ↓reduceIte, Int.reduceEq, Int.reduceLT, Int.reduceLE, Int.reduceNe, Int.reduceAdd, Int.reduceSub, Int.reduceMul, Int.reduceToNat, Nat.reduceShiftRight, Nat.reduceAnd, Nat.reduceBNe]
  refine ppN (clone_new [sumL [a, b], sumL [c, d], sumL [e, f]] (by simp) (by simp)) ⟨⟨rfl, ⟨rfl, rfl⟩, ⟨rfl, rfl⟩, ⟨rfl, rfl⟩, trivial⟩, trivial⟩ rfl rfl (fz_seq rfl rfl) rfl ?_
  simp -implicitDefEqProofs only [List.getD_cons_zero, push_cast, Nat.reduceBEq, Nat.reduceLT, Nat.reduceLeDiff, Nat.reduceAdd, Nat.reduceSub, Nat.reduceMul, Nat.reduceEqDiff, reduceCtorEq, ↓reduceIte, Int.reduceEq, Int.reduceLT, Int.reduceLE, Int.reduceNe, Int.reduceAdd, Int.reduceSub, Int.reduceMul, Int.reduceToNat, Nat.reduceShiftRight, Nat.reduceAnd, Nat.reduceBNe]
  refine ppN (clone_new [sumL [a, c, e], sumL [b, d, f]] (by simp) (by simp)) ⟨⟨rfl, ⟨rfl, rfl⟩, ⟨rfl, rfl⟩, trivial⟩, trivial⟩ rfl rfl (fz_seq rfl rfl) rfl ?_
  simp -implicitDefEqProofs only [push_cast, Nat.reduceBEq, Nat.reduceLT, Nat.reduceLeDiff, Nat.reduceAdd, Nat.reduceSub, Nat.reduceMul, Nat.reduceEqDiff, reduceCtorEq, ↓reduceIte, Int.reduceEq, Int.reduceLT, Int.reduceLE, Int.reduceNe, Int.reduceAdd, Int.reduceSub, Int.reduceMul, Int.reduceToNat, Nat.reduceShiftRight, Nat.reduceAnd, Nat.reduceBNe]
  exact finR 0 rfl ⟨rfl, rfl, rfl, trivial⟩
theorem margins33 (a b c d e f g i j : Int) (h : Tab [[a, b, c], [d, e, f], [g, i, j]]) : PC Tryd.prog 13 [TT [[a, b, c], [d, e, f], [g, i, j]]] (.tup [IL (rowsL [[a, b, c], [d, e, f], [g, i, j]]), IL (colsL [[a, b, c], [d, e, f], [g, i, j]]), I 0]) := by
  have hc := check_pc [[a, b, c], [d, e, f], [g, i, j]] (by simp) (by simp)
  rw [tab_valid h] at hc
  have hs : PC Tryd.prog 42 [TT [[a, b, c], [d, e, f], [g, i, j]]] (.tup [.agg [I (sumL [a, b, c]), I (sumL [d, e, f]), I (sumL [g, i, j])], .agg [I (sumL [a, d, g]), I (sumL [b, e, i]), I (sumL [c, f, j])]]) := sums_pc h
  refine pc_fn hmix h13 rfl ?_
  simp -implicitDefEqProofs only [c13, push_cast, Nat.reduceBEq, Nat.reduceLT, Nat.reduceLeDiff, Nat.reduceAdd, Nat.reduceSub, Nat.reduceMul, Nat.reduceEqDiff, reduceCtorEq, ↓reduceIte, Int.reduceEq, Int.reduceLT, Int.reduceLE, Int.reduceNe, Int.reduceAdd, Int.reduceSub, Int.reduceMul, Int.reduceToNat, Nat.reduceShiftRight, Nat.reduceAnd, Nat.reduceBNe]
  refine callF hc ⟨rfl, trivial⟩ rfl rfl ?_
  simp -implicitDefEqProofs only [push_cast, Nat.reduceBEq, Nat.reduceLT, Nat.reduceLeDiff, Nat.reduceAdd, Nat.reduceSub, Nat.reduceMul, Nat.reduceEqDiff, reduceCtorEq, ↓reduceIte, Int.reduceEq, Int.reduceLT, Int.reduceLE, Int.reduceNe, Int.reduceAdd, Int.reduceSub, Int.reduceMul, Int.reduceToNat, Nat.reduceShiftRight, Nat.reduceAnd, Nat.reduceBNe]
  refine callF hs ⟨rfl, trivial⟩ rfl rfl ?_
  simp -implicitDefEqProofs only [push_cast, Nat.reduceBEq, Nat.reduceLT, Nat.reduceLeDiff, Nat.reduceAdd, Nat.reduceSub, Nat.reduceMul, Nat.reduceEqDiff, reduceCtorEq, ↓reduceIte, Int.reduceEq, Int.reduceLT, Int.reduceLE, Int.reduceNe, Int.reduceAdd, Int.reduceSub, Int.reduceMul, Int.reduceToNat, Nat.reduceShiftRight, Nat.reduceAnd, Nat.reduceBNe]
  refine ppN (clone_new [sumL [a, b, c], sumL [d, e, f], sumL [g, i, j]] (by simp) (by simp)) ⟨⟨rfl, ⟨rfl, rfl⟩, ⟨rfl, rfl⟩, ⟨rfl, rfl⟩, trivial⟩, trivial⟩ rfl rfl (fz_seq rfl rfl) rfl ?_
  simp -implicitDefEqProofs only [List.getD_cons_zero, push_cast, Nat.reduceBEq, Nat.reduceLT, Nat.reduceLeDiff, Nat.reduceAdd, Nat.reduceSub, Nat.reduceMul, Nat.reduceEqDiff, reduceCtorEq, ↓reduceIte, Int.reduceEq, Int.reduceLT, Int.reduceLE, Int.reduceNe, Int.reduceAdd, Int.reduceSub, Int.reduceMul, Int.reduceToNat, Nat.reduceShiftRight, Nat.reduceAnd, Nat.reduceBNe]
  refine ppN (clone_new [sumL [a, d, g], sumL [b, e, i], sumL [c, f, j]] (by simp) (by simp)) ⟨⟨rfl, ⟨rfl, rfl⟩, ⟨rfl, rfl⟩, ⟨rfl, rfl⟩, trivial⟩, trivial⟩ rfl rfl (fz_seq rfl rfl) rfl ?_
  simp -implicitDefEqProofs only [push_cast, Nat.reduceBEq, Nat.reduceLT, Nat.reduceLeDiff, Nat.reduceAdd, Nat.reduceSub, Nat.reduceMul, Nat.reduceEqDiff, reduceCtorEq, ↓reduceIte, Int.reduceEq, Int.reduceLT, Int.reduceLE, Int.reduceNe, Int.reduceAdd, Int.reduceSub, Int.reduceMul, Int.reduceToNat, Nat.reduceShiftRight, Nat.reduceAnd, Nat.reduceBNe]
  exact finR 0 rfl ⟨rfl, rfl, rfl, trivial⟩

theorem margins_pc (t : List (List Int)) (hl : t.length ≤ 1000) (hr : ∀ r ∈ t, r.length ≤ 1000) : PC Tryd.prog 13 [TT t] (if validB t then .tup [IL (rowsL t), IL (colsL t), I 0] else .tup [IL [], IL [], I 300]) := by
  cases hv : validB t with
  | false => exact margins_bad t hl hr hv
  | true =>
    show PC Tryd.prog 13 [TT t] (.tup [IL (rowsL t), IL (colsL t), I 0])
    exact shapes (P := fun t => PC Tryd.prog 13 [TT t] (.tup [IL (rowsL t), IL (colsL t), I 0])) (tab_of hv) (fun a b c d h _ => margins22 a b c d h) (fun a b c d e f h _ => margins23 a b c d e f h) (fun a b c d e f h _ => margins32 a b c d e f h) (fun a b c d e f g i j h _ => margins33 a b c d e f g i j h)
end Go.Proofs.YtligakiolapkkaaDoor

namespace Go.Proofs.YtligakiolapkkaaDoor
open Go GoV
set_option maxHeartbeats 8000000
set_option maxRecDepth 10000

def few22H (a b c d : Int) : Heap := [.seq (.int .i64) [] true, .seq (.int .i64) [a, b] false, .box [.slc 1 2 0 2], .dead, .seq (.int .i64) [] true, .seq (.int .i64) [c, d] false, .box [.slc 5 2 0 2], .box [.slc 1 2 0 2, .slc 5 2 0 2]]
theorem few22 (a b c d : Int) : VCalls Tryd.prog 11 [TT [[a, b], [c, d]]] [] (fun v fr => v = .slc 7 1 0 2 ∧ fr = few22H a b c d) := by
  refine vcalls_fn hmix h11 rfl ?_
  have e2 : (min (2 : Int) 4) = 2 := by decide
  have e3 : (min (3 : Int) 4) = 3 := by decide
  simp -implicitDefEqProofs only [c11, e2, e3, Int.reduceToNat, push_cast, Nat.reduceBEq, Nat.reduceLT, Nat.reduceLeDiff, Nat.reduceAdd, Nat.reduceSub, Nat.reduceMul, Nat.reduceEqDiff, reduceCtorEq, ↓reduceIte, Int.reduceEq, Int.reduceLT, Int.reduceLE, Int.reduceNe, Int.reduceAdd, Int.reduceSub, Int.reduceMul, Int.reduceToNat, Nat.reduceShiftRight, Nat.reduceAnd, Nat.reduceBNe]
  refine LoopW.wk (wk_t [12, 11, 10, 3] rfl) (LoopW.unroll ?_)
  simp -implicitDefEqProofs only [c11L0, e2, e3, List.getD_cons_zero, List.getD_cons_succ, Int.zero_add, push_cast, Nat.reduceBEq, Nat.reduceLT, Nat.reduceLeDiff, Nat.reduceAdd, Nat.reduceSub, Nat.reduceMul, Nat.reduceEqDiff, reduceCtorEq, ↓reduceIte, Int.reduceEq, Int.reduceLT, Int.reduceLE, Int.reduceNe, Int.reduceAdd, Int.reduceSub, Int.reduceMul, Int.reduceToNat, Nat.reduceShiftRight, Nat.reduceAnd, Nat.reduceBNe]
  refine callA (clone_new [a, b] (by simp) (by simp)) ⟨rfl, trivial⟩ rfl ?_
  simp -implicitDefEqProofs only [shA, shB, shRowB, List.map_cons, List.map_nil, push_cast, Nat.reduceBEq, Nat.reduceLT, Nat.reduceLeDiff, Nat.reduceAdd, Nat.reduceSub, Nat.reduceMul, Nat.reduceEqDiff, reduceCtorEq, ↓reduceIte, Int.reduceEq, Int.reduceLT, Int.reduceLE, Int.reduceNe, Int.reduceAdd, Int.reduceSub, Int.reduceMul, Int.reduceToNat, Nat.reduceShiftRight, Nat.reduceAnd, Nat.reduceBNe]
  refine ⟨by first | (simp only [two47]; omega) | (simp only [inR]; omega), ?_⟩
  repeat (refine ⟨by first | (simp only [two47]; omega) | (simp only [inR]; omega), ?_⟩)
  refine LoopW.wk (wk_t [12, 11, 10, 3] rfl) (LoopW.unroll ?_)
  simp -implicitDefEqProofs only [c11L0, e2, e3, List.getD_cons_zero, List.getD_cons_succ, Int.zero_add, push_cast, Nat.reduceBEq, Nat.reduceLT, Nat.reduceLeDiff, Nat.reduceAdd, Nat.reduceSub, Nat.reduceMul, Nat.reduceEqDiff, reduceCtorEq, ↓reduceIte, Int.reduceEq, Int.reduceLT, Int.reduceLE, Int.reduceNe, Int.reduceAdd, Int.reduceSub, Int.reduceMul, Int.reduceToNat, Nat.reduceShiftRight, Nat.reduceAnd, Nat.reduceBNe]
  refine callA (clone_new [c, d] (by simp) (by simp)) ⟨rfl, trivial⟩ rfl ?_
  simp -implicitDefEqProofs only [shA, shB, shRowB, List.map_cons, List.map_nil, push_cast, Nat.reduceBEq, Nat.reduceLT, Nat.reduceLeDiff, Nat.reduceAdd, Nat.reduceSub, Nat.reduceMul, Nat.reduceEqDiff, reduceCtorEq, ↓reduceIte, Int.reduceEq, Int.reduceLT, Int.reduceLE, Int.reduceNe, Int.reduceAdd, Int.reduceSub, Int.reduceMul, Int.reduceToNat, Nat.reduceShiftRight, Nat.reduceAnd, Nat.reduceBNe]
  refine ⟨by first | (simp only [two47]; omega) | (simp only [inR]; omega), ?_⟩
  repeat (refine ⟨by first | (simp only [two47]; omega) | (simp only [inR]; omega), ?_⟩)
  refine LoopW.wk (wk_t [12, 11, 10, 3] rfl) (LoopW.unroll ?_)
  simp -implicitDefEqProofs only [c11L0, push_cast, Nat.reduceBEq, Nat.reduceLT, Nat.reduceLeDiff, Nat.reduceAdd, Nat.reduceSub, Nat.reduceMul, Nat.reduceEqDiff, reduceCtorEq, ↓reduceIte, Int.reduceEq, Int.reduceLT, Int.reduceLE, Int.reduceNe, Int.reduceAdd, Int.reduceSub, Int.reduceMul, Int.reduceToNat, Nat.reduceShiftRight, Nat.reduceAnd, Nat.reduceBNe]
  exact fin1 8 rfl ⟨rfl, rfl⟩

def few23H (a b c d e f : Int) : Heap := [.seq (.int .i64) [] true, .seq (.int .i64) [a, b, c] false, .box [.slc 1 3 0 3], .dead, .seq (.int .i64) [] true, .seq (.int .i64) [d, e, f] false, .box [.slc 5 3 0 3], .box [.slc 1 3 0 3, .slc 5 3 0 3]]
theorem few23 (a b c d e f : Int) : VCalls Tryd.prog 11 [TT [[a, b, c], [d, e, f]]] [] (fun v fr => v = .slc 7 1 0 2 ∧ fr = few23H a b c d e f) := by
  refine vcalls_fn hmix h11 rfl ?_
  have e2 : (min (2 : Int) 4) = 2 := by decide
  have e3 : (min (3 : Int) 4) = 3 := by decide
  simp -implicitDefEqProofs only [c11, e2, e3, Int.reduceToNat, push_cast, Nat.reduceBEq, Nat.reduceLT, Nat.reduceLeDiff, Nat.reduceAdd, Nat.reduceSub, Nat.reduceMul, Nat.reduceEqDiff, reduceCtorEq, ↓reduceIte, Int.reduceEq, Int.reduceLT, Int.reduceLE, Int.reduceNe, Int.reduceAdd, Int.reduceSub, Int.reduceMul, Int.reduceToNat, Nat.reduceShiftRight, Nat.reduceAnd, Nat.reduceBNe]
  refine LoopW.wk (wk_t [12, 11, 10, 3] rfl) (LoopW.unroll ?_)
  simp -implicitDefEqProofs only [c11L0, e2, e3, List.getD_cons_zero, List.getD_cons_succ, Int.zero_add, push_cast, Nat.reduceBEq, Nat.reduceLT, Nat.reduceLeDiff, Nat.reduceAdd, Nat.reduceSub, Nat.reduceMul, Nat.reduceEqDiff, reduceCtorEq, ↓reduceIte, Int.reduceEq, Int.reduceLT, Int.reduceLE, Int.reduceNe, Int.reduceAdd, Int.reduceSub, Int.reduceMul, Int.reduceToNat, Nat.reduceShiftRight, Nat.reduceAnd, Nat.reduceBNe]
  refine callA (clone_new [a, b, c] (by simp) (by simp)) ⟨rfl, trivial⟩ rfl ?_
  simp -implicitDefEqProofs only [shA, shB, shRowB, List.map_cons, List.map_nil, push_cast, Nat.reduceBEq, Nat.reduceLT, Nat.reduceLeDiff, Nat.reduceAdd, Nat.reduceSub, Nat.reduceMul, Nat.reduceEqDiff, reduceCtorEq, ↓reduceIte, Int.reduceEq, Int.reduceLT, Int.reduceLE, Int.reduceNe, Int.reduceAdd, Int.reduceSub, Int.reduceMul, Int.reduceToNat, Nat.reduceShiftRight, Nat.reduceAnd, Nat.reduceBNe]
  refine ⟨by first | (simp only [two47]; omega) | (simp only [inR]; omega), ?_⟩
  repeat (refine ⟨by first | (simp only [two47]; omega) | (simp only [inR]; omega), ?_⟩)
  refine LoopW.wk (wk_t [12, 11, 10, 3] rfl) (LoopW.unroll ?_)
  simp -implicitDefEqProofs only [c11L0, e2, e3, List.getD_cons_zero, List.getD_cons_succ, Int.zero_add, push_cast, Nat.reduceBEq, Nat.reduceLT, Nat.reduceLeDiff, Nat.reduceAdd, Nat.reduceSub, Nat.reduceMul, Nat.reduceEqDiff, reduceCtorEq, ↓reduceIte, Int.reduceEq, Int.reduceLT, Int.reduceLE, Int.reduceNe, Int.reduceAdd, Int.reduceSub, Int.reduceMul, Int.reduceToNat, Nat.reduceShiftRight, Nat.reduceAnd, Nat.reduceBNe]
  refine callA (clone_new [d, e, f] (by simp) (by simp)) ⟨rfl, trivial⟩ rfl ?_
  simp -implicitDefEqProofs only [shA, shB, shRowB, List.map_cons, List.map_nil, push_cast, Nat.reduceBEq, Nat.reduceLT, Nat.reduceLeDiff, Nat.reduceAdd, Nat.reduceSub, Nat.reduceMul, Nat.reduceEqDiff, reduceCtorEq, ↓reduceIte, Int.reduceEq, Int.reduceLT, Int.reduceLE, Int.reduceNe, Int.reduceAdd, Int.reduceSub, Int.reduceMul, Int.reduceToNat, Nat.reduceShiftRight, Nat.reduceAnd, Nat.reduceBNe]
  refine ⟨by first | (simp only [two47]; omega) | (simp only [inR]; omega), ?_⟩
  repeat (refine ⟨by first | (simp only [two47]; omega) | (simp only [inR]; omega), ?_⟩)
  refine LoopW.wk (wk_t [12, 11, 10, 3] rfl) (LoopW.unroll ?_)
  simp -implicitDefEqProofs only [c11L0, push_cast, Nat.reduceBEq, Nat.reduceLT, Nat.reduceLeDiff, Nat.reduceAdd, Nat.reduceSub, Nat.reduceMul, Nat.reduceEqDiff, reduceCtorEq, ↓reduceIte, Int.reduceEq, Int.reduceLT, Int.reduceLE, Int.reduceNe, Int.reduceAdd, Int.reduceSub, Int.reduceMul, Int.reduceToNat, Nat.reduceShiftRight, Nat.reduceAnd, Nat.reduceBNe]
  exact fin1 8 rfl ⟨rfl, rfl⟩

def few32H (a b c d e f : Int) : Heap := [.seq (.int .i64) [] true, .seq (.int .i64) [a, b] false, .box [.slc 1 2 0 2], .dead, .seq (.int .i64) [] true, .seq (.int .i64) [c, d] false, .box [.slc 5 2 0 2], .dead, .seq (.int .i64) [] true, .seq (.int .i64) [e, f] false, .box [.slc 9 2 0 2], .box [.slc 1 2 0 2, .slc 5 2 0 2, .slc 9 2 0 2]]
theorem few32 (a b c d e f : Int) : VCalls Tryd.prog 11 [TT [[a, b], [c, d], [e, f]]] [] (fun v fr => v = .slc 11 1 0 3 ∧ fr = few32H a b c d e f) := by
  refine vcalls_fn hmix h11 rfl ?_
  have e2 : (min (2 : Int) 4) = 2 := by decide
  have e3 : (min (3 : Int) 4) = 3 := by decide
  simp -implicitDefEqProofs only [c11, e2, e3, Int.reduceToNat, push_cast, Nat.reduceBEq, Nat.reduceLT, Nat.reduceLeDiff, Nat.reduceAdd, Nat.reduceSub, Nat.reduceMul, Nat.reduceEqDiff, reduceCtorEq, ↓reduceIte, Int.reduceEq, Int.reduceLT, Int.reduceLE, Int.reduceNe, Int.reduceAdd, Int.reduceSub, Int.reduceMul, Int.reduceToNat, Nat.reduceShiftRight, Nat.reduceAnd, Nat.reduceBNe]
  refine LoopW.wk (wk_t [12, 11, 10, 3] rfl) (LoopW.unroll ?_)
  simp -implicitDefEqProofs only [c11L0, e2, e3, List.getD_cons_zero, List.getD_cons_succ, Int.zero_add, push_cast, Nat.reduceBEq, Nat.reduceLT, Nat.reduceLeDiff, Nat.reduceAdd, Nat.reduceSub, Nat.reduceMul, Nat.reduceEqDiff, reduceCtorEq, ↓reduceIte, Int.reduceEq, Int.reduceLT, Int.reduceLE, Int.reduceNe, Int.reduceAdd, Int.reduceSub, Int.reduceMul, Int.reduceToNat, Nat.reduceShiftRight, Nat.reduceAnd, Nat.reduceBNe]
  refine callA (clone_new [a, b] (by simp) (by simp)) ⟨rfl, trivial⟩ rfl ?_
  simp -implicitDefEqProofs only [shA, shB, shRowB, List.map_cons, List.map_nil, push_cast, Nat.reduceBEq, Nat.reduceLT, Nat.reduceLeDiff, Nat.reduceAdd, Nat.reduceSub, Nat.reduceMul, Nat.reduceEqDiff, reduceCtorEq, ↓reduceIte, Int.reduceEq, Int.reduceLT, Int.reduceLE, Int.reduceNe, Int.reduceAdd, Int.reduceSub, Int.reduceMul, Int.reduceToNat, Nat.reduceShiftRight, Nat.reduceAnd, Nat.reduceBNe]
  refine ⟨by first | (simp only [two47]; omega) | (simp only [inR]; omega), ?_⟩
  repeat (refine ⟨by first | (simp only [two47]; omega) | (simp only [inR]; omega), ?_⟩)
  refine LoopW.wk (wk_t [12, 11, 10, 3] rfl) (LoopW.unroll ?_)
  simp -implicitDefEqProofs only [c11L0, e2, e3, List.getD_cons_zero, List.getD_cons_succ, Int.zero_add, push_cast, Nat.reduceBEq, Nat.reduceLT, Nat.reduceLeDiff, Nat.reduceAdd, Nat.reduceSub, Nat.reduceMul, Nat.reduceEqDiff, reduceCtorEq, ↓reduceIte, Int.reduceEq, Int.reduceLT, Int.reduceLE, Int.reduceNe, Int.reduceAdd, Int.reduceSub, Int.reduceMul, Int.reduceToNat, Nat.reduceShiftRight, Nat.reduceAnd, Nat.reduceBNe]
  refine callA (clone_new [c, d] (by simp) (by simp)) ⟨rfl, trivial⟩ rfl ?_
  simp -implicitDefEqProofs only [shA, shB, shRowB, List.map_cons, List.map_nil, push_cast, Nat.reduceBEq, Nat.reduceLT, Nat.reduceLeDiff, Nat.reduceAdd, Nat.reduceSub, Nat.reduceMul, Nat.reduceEqDiff, reduceCtorEq, ↓reduceIte, Int.reduceEq, Int.reduceLT, Int.reduceLE, Int.reduceNe, Int.reduceAdd, Int.reduceSub, Int.reduceMul, Int.reduceToNat, Nat.reduceShiftRight, Nat.reduceAnd, Nat.reduceBNe]
  refine ⟨by first | (simp only [two47]; omega) | (simp only [inR]; omega), ?_⟩
  repeat (refine ⟨by first | (simp only [two47]; omega) | (simp only [inR]; omega), ?_⟩)
  refine LoopW.wk (wk_t [12, 11, 10, 3] rfl) (LoopW.unroll ?_)
  simp -implicitDefEqProofs only [c11L0, e2, e3, List.getD_cons_zero, List.getD_cons_succ, Int.zero_add, push_cast, Nat.reduceBEq, Nat.reduceLT, Nat.reduceLeDiff, Nat.reduceAdd, Nat.reduceSub, Nat.reduceMul, Nat.reduceEqDiff, reduceCtorEq, ↓reduceIte, Int.reduceEq, Int.reduceLT, Int.reduceLE, Int.reduceNe, Int.reduceAdd, Int.reduceSub, Int.reduceMul, Int.reduceToNat, Nat.reduceShiftRight, Nat.reduceAnd, Nat.reduceBNe]
  refine callA (clone_new [e, f] (by simp) (by simp)) ⟨rfl, trivial⟩ rfl ?_
  simp -implicitDefEqProofs only [shA, shB, shRowB, List.map_cons, List.map_nil, push_cast, Nat.reduceBEq, Nat.reduceLT, Nat.reduceLeDiff, Nat.reduceAdd, Nat.reduceSub, Nat.reduceMul, Nat.reduceEqDiff, reduceCtorEq, ↓reduceIte, Int.reduceEq, Int.reduceLT, Int.reduceLE, Int.reduceNe, Int.reduceAdd, Int.reduceSub, Int.reduceMul, Int.reduceToNat, Nat.reduceShiftRight, Nat.reduceAnd, Nat.reduceBNe]
  refine ⟨by first | (simp only [two47]; omega) | (simp only [inR]; omega), ?_⟩
  repeat (refine ⟨by first | (simp only [two47]; omega) | (simp only [inR]; omega), ?_⟩)
  refine LoopW.wk (wk_t [12, 11, 10, 3] rfl) (LoopW.unroll ?_)
  simp -implicitDefEqProofs only [c11L0, push_cast, Nat.reduceBEq, Nat.reduceLT, Nat.reduceLeDiff, Nat.reduceAdd, Nat.reduceSub, Nat.reduceMul, Nat.reduceEqDiff, reduceCtorEq, ↓reduceIte, Int.reduceEq, Int.reduceLT, Int.reduceLE, Int.reduceNe, Int.reduceAdd, Int.reduceSub, Int.reduceMul, Int.reduceToNat, Nat.reduceShiftRight, Nat.reduceAnd, Nat.reduceBNe]
  exact fin1 12 rfl ⟨rfl, rfl⟩

def few33H (a b c d e f g i j : Int) : Heap := [.seq (.int .i64) [] true, .seq (.int .i64) [a, b, c] false, .box [.slc 1 3 0 3], .dead, .seq (.int .i64) [] true, .seq (.int .i64) [d, e, f] false, .box [.slc 5 3 0 3], .dead, .seq (.int .i64) [] true, .seq (.int .i64) [g, i, j] false, .box [.slc 9 3 0 3], .box [.slc 1 3 0 3, .slc 5 3 0 3, .slc 9 3 0 3]]
theorem few33 (a b c d e f g i j : Int) : VCalls Tryd.prog 11 [TT [[a, b, c], [d, e, f], [g, i, j]]] [] (fun v fr => v = .slc 11 1 0 3 ∧ fr = few33H a b c d e f g i j) := by
  refine vcalls_fn hmix h11 rfl ?_
  have e2 : (min (2 : Int) 4) = 2 := by decide
  have e3 : (min (3 : Int) 4) = 3 := by decide
  simp -implicitDefEqProofs only [c11, e2, e3, Int.reduceToNat, push_cast, Nat.reduceBEq, Nat.reduceLT, Nat.reduceLeDiff, Nat.reduceAdd, Nat.reduceSub, Nat.reduceMul, Nat.reduceEqDiff, reduceCtorEq, ↓reduceIte, Int.reduceEq, Int.reduceLT, Int.reduceLE, Int.reduceNe, Int.reduceAdd, Int.reduceSub, Int.reduceMul, Int.reduceToNat, Nat.reduceShiftRight, Nat.reduceAnd, Nat.reduceBNe]
  refine LoopW.wk (wk_t [12, 11, 10, 3] rfl) (LoopW.unroll ?_)
  simp -implicitDefEqProofs only [c11L0, e2, e3, List.getD_cons_zero, List.getD_cons_succ, Int.zero_add, push_cast, Nat.reduceBEq, Nat.reduceLT, Nat.reduceLeDiff, Nat.reduceAdd, Nat.reduceSub, Nat.reduceMul, Nat.reduceEqDiff, reduceCtorEq, ↓reduceIte, Int.reduceEq, Int.reduceLT, Int.reduceLE, Int.reduceNe, Int.reduceAdd, Int.reduceSub, Int.reduceMul, Int.reduceToNat, Nat.reduceShiftRight, Nat.reduceAnd, Nat.reduceBNe]
  refine callA (clone_new [a, b, c] (by simp) (by simp)) ⟨rfl, trivial⟩ rfl ?_
  simp -implicitDefEqProofs only [shA, shB, shRowB, List.map_cons, List.map_nil, push_cast, Nat.reduceBEq, Nat.reduceLT, Nat.reduceLeDiff, Nat.reduceAdd, Nat.reduceSub, Nat.reduceMul, Nat.reduceEqDiff, reduceCtorEq, ↓reduceIte, Int.reduceEq, Int.reduceLT, Int.reduceLE, Int.reduceNe, Int.reduceAdd, Int.reduceSub, Int.reduceMul, Int.reduceToNat, Nat.reduceShiftRight, Nat.reduceAnd, Nat.reduceBNe]
  refine ⟨by first | (simp only [two47]; omega) | (simp only [inR]; omega), ?_⟩
  repeat (refine ⟨by first | (simp only [two47]; omega) | (simp only [inR]; omega), ?_⟩)
  refine LoopW.wk (wk_t [12, 11, 10, 3] rfl) (LoopW.unroll ?_)
  simp -implicitDefEqProofs only [c11L0, e2, e3, List.getD_cons_zero, List.getD_cons_succ, Int.zero_add, push_cast, Nat.reduceBEq, Nat.reduceLT, Nat.reduceLeDiff, Nat.reduceAdd, Nat.reduceSub, Nat.reduceMul, Nat.reduceEqDiff, reduceCtorEq, ↓reduceIte, Int.reduceEq, Int.reduceLT, Int.reduceLE, Int.reduceNe, Int.reduceAdd, Int.reduceSub, Int.reduceMul, Int.reduceToNat, Nat.reduceShiftRight, Nat.reduceAnd, Nat.reduceBNe]
  refine callA (clone_new [d, e, f] (by simp) (by simp)) ⟨rfl, trivial⟩ rfl ?_
  simp -implicitDefEqProofs only [shA, shB, shRowB, List.map_cons, List.map_nil, push_cast, Nat.reduceBEq, Nat.reduceLT, Nat.reduceLeDiff, Nat.reduceAdd, Nat.reduceSub, Nat.reduceMul, Nat.reduceEqDiff, reduceCtorEq, ↓reduceIte, Int.reduceEq, Int.reduceLT, Int.reduceLE, Int.reduceNe, Int.reduceAdd, Int.reduceSub, Int.reduceMul, Int.reduceToNat, Nat.reduceShiftRight, Nat.reduceAnd, Nat.reduceBNe]
  refine ⟨by first | (simp only [two47]; omega) | (simp only [inR]; omega), ?_⟩
  repeat (refine ⟨by first | (simp only [two47]; omega) | (simp only [inR]; omega), ?_⟩)
  refine LoopW.wk (wk_t [12, 11, 10, 3] rfl) (LoopW.unroll ?_)
  simp -implicitDefEqProofs only [c11L0, e2, e3, List.getD_cons_zero, List.getD_cons_succ, Int.zero_add, push_cast, Nat.reduceBEq, Nat.reduceLT, Nat.reduceLeDiff, Nat.reduceAdd, Nat.reduceSub, Nat.reduceMul, Nat.reduceEqDiff, reduceCtorEq, ↓reduceIte, Int.reduceEq, Int.reduceLT, Int.reduceLE, Int.reduceNe, Int.reduceAdd, Int.reduceSub, Int.reduceMul, Int.reduceToNat, Nat.reduceShiftRight, Nat.reduceAnd, Nat.reduceBNe]
  refine callA (clone_new [g, i, j] (by simp) (by simp)) ⟨rfl, trivial⟩ rfl ?_
  simp -implicitDefEqProofs only [shA, shB, shRowB, List.map_cons, List.map_nil, push_cast, Nat.reduceBEq, Nat.reduceLT, Nat.reduceLeDiff, Nat.reduceAdd, Nat.reduceSub, Nat.reduceMul, Nat.reduceEqDiff, reduceCtorEq, ↓reduceIte, Int.reduceEq, Int.reduceLT, Int.reduceLE, Int.reduceNe, Int.reduceAdd, Int.reduceSub, Int.reduceMul, Int.reduceToNat, Nat.reduceShiftRight, Nat.reduceAnd, Nat.reduceBNe]
  refine ⟨by first | (simp only [two47]; omega) | (simp only [inR]; omega), ?_⟩
  repeat (refine ⟨by first | (simp only [two47]; omega) | (simp only [inR]; omega), ?_⟩)
  refine LoopW.wk (wk_t [12, 11, 10, 3] rfl) (LoopW.unroll ?_)
  simp -implicitDefEqProofs only [c11L0, push_cast, Nat.reduceBEq, Nat.reduceLT, Nat.reduceLeDiff, Nat.reduceAdd, Nat.reduceSub, Nat.reduceMul, Nat.reduceEqDiff, reduceCtorEq, ↓reduceIte, Int.reduceEq, Int.reduceLT, Int.reduceLE, Int.reduceNe, Int.reduceAdd, Int.reduceSub, Int.reduceMul, Int.reduceToNat, Nat.reduceShiftRight, Nat.reduceAnd, Nat.reduceBNe]
  exact fin1 12 rfl ⟨rfl, rfl⟩

end Go.Proofs.YtligakiolapkkaaDoor

namespace Go.Proofs.YtligakiolapkkaaDoor
open Go GoV
set_option maxHeartbeats 8000000
set_option maxRecDepth 10000
abbrev okT (x : List (List Int)) : Prop := x.length ≤ 1000 ∧ ∀ r ∈ x, r.length ≤ 1000
abbrev Q3 : Ex → St → Prop := (brk
      (thn
        (awp Tryd.prog 146 0
          ((AC.reg false
                [{ dst := some 145, ins := GoV.Instr.call (Opd.c (AV.fn 22 [] [])) [], guard := none },
                  { dst := some 8, ins := GoV.Instr.mov (Opd.t 145), guard := none }]).seq
            AC.ret)
          none (finW Tryd.prog 0 [RV.tmp 8] fun v fr => Fz fr v (B true)))
        (finW Tryd.prog 0 [RV.tmp 8] fun v fr => Fz fr v (B true)))
      0)
theorem law3_loop (t b f : List (List Int)) (ht : okT t) (hb : okT b) (hf : okT f) :
    LoopW 0 (awp Tryd.prog 146 0 c3L0 none) Q3 ⟨[(48, I 0), (47, .agg [TT t, TT b, TT f])], [], []⟩ := by
  unfold Q3
  refine loop_w (α := Nat) (fun k => ⟨[(48, I k), (47, .agg [TT t, TT b, TT f])], [], []⟩) (fun k => k ≤ 3) (fun k => 3 - k) 0 (Wk.refl _ _) (by omega) ?_
  intro k hk
  have : k = 0 ∨ k = 1 ∨ k = 2 ∨ k = 3 := by omega
  rcases this with rfl | rfl | rfl | rfl

  · have hc := check_pc t ht.1 ht.2
    have hm := margins_pc t ht.1 ht.2
    have hw := ways_pc t ht.1 ht.2
    have ho := total_pc t ht.1 ht.2
    have hr := right_pc t ht.1
    cases hv : validB t with
    | false =>
      rw [hv] at hc hm hw ho hr
      simp -implicitDefEqProofs only [c3L0, push_cast, Nat.reduceBEq, Nat.reduceLT, Nat.reduceLeDiff, Nat.reduceAdd, Nat.reduceSub, Nat.reduceMul, Nat.reduceEqDiff, reduceCtorEq, ↓reduceIte, Int.reduceEq, Int.reduceLT, Int.reduceLE, Int.reduceNe, Int.reduceAdd, Int.reduceSub, Int.reduceMul, Int.reduceToNat, Nat.reduceShiftRight, Nat.reduceAnd, Nat.reduceBNe]
      refine callF hc ⟨rfl, trivial⟩ rfl rfl ?_
      simp -implicitDefEqProofs only [push_cast, Nat.reduceBEq, Nat.reduceLT, Nat.reduceLeDiff, Nat.reduceAdd, Nat.reduceSub, Nat.reduceMul, Nat.reduceEqDiff, reduceCtorEq, ↓reduceIte, Int.reduceEq, Int.reduceLT, Int.reduceLE, Int.reduceNe, Int.reduceAdd, Int.reduceSub, Int.reduceMul, Int.reduceToNat, Nat.reduceShiftRight, Nat.reduceAnd, Nat.reduceBNe]
      refine callF hm ⟨rfl, trivial⟩ rfl rfl ?_
      simp -implicitDefEqProofs only [push_cast, Nat.reduceBEq, Nat.reduceLT, Nat.reduceLeDiff, Nat.reduceAdd, Nat.reduceSub, Nat.reduceMul, Nat.reduceEqDiff, reduceCtorEq, ↓reduceIte, Int.reduceEq, Int.reduceLT, Int.reduceLE, Int.reduceNe, Int.reduceAdd, Int.reduceSub, Int.reduceMul, Int.reduceToNat, Nat.reduceShiftRight, Nat.reduceAnd, Nat.reduceBNe]
      refine callF hw ⟨rfl, trivial⟩ rfl rfl ?_
      simp -implicitDefEqProofs only [push_cast, Nat.reduceBEq, Nat.reduceLT, Nat.reduceLeDiff, Nat.reduceAdd, Nat.reduceSub, Nat.reduceMul, Nat.reduceEqDiff, reduceCtorEq, ↓reduceIte, Int.reduceEq, Int.reduceLT, Int.reduceLE, Int.reduceNe, Int.reduceAdd, Int.reduceSub, Int.reduceMul, Int.reduceToNat, Nat.reduceShiftRight, Nat.reduceAnd, Nat.reduceBNe]
      refine callF ho ⟨rfl, trivial⟩ rfl rfl ?_
      simp -implicitDefEqProofs only [push_cast, Nat.reduceBEq, Nat.reduceLT, Nat.reduceLeDiff, Nat.reduceAdd, Nat.reduceSub, Nat.reduceMul, Nat.reduceEqDiff, reduceCtorEq, ↓reduceIte, Int.reduceEq, Int.reduceLT, Int.reduceLE, Int.reduceNe, Int.reduceAdd, Int.reduceSub, Int.reduceMul, Int.reduceToNat, Nat.reduceShiftRight, Nat.reduceAnd, Nat.reduceBNe]
      refine callF hr ⟨rfl, trivial⟩ rfl rfl ?_
      simp -implicitDefEqProofs only [push_cast, Nat.reduceBEq, Nat.reduceLT, Nat.reduceLeDiff, Nat.reduceAdd, Nat.reduceSub, Nat.reduceMul, Nat.reduceEqDiff, reduceCtorEq, ↓reduceIte, Int.reduceEq, Int.reduceLT, Int.reduceLE, Int.reduceNe, Int.reduceAdd, Int.reduceSub, Int.reduceMul, Int.reduceToNat, Nat.reduceShiftRight, Nat.reduceAnd, Nat.reduceBNe]
      exact ⟨by simp only [inR]; omega, 1, by omega, by omega, wk_c rfl ⟨rfl, rfl, rfl⟩ rfl⟩
    | true =>
      have h := tab_of hv
      rw [hv] at hc hm hw ho hr
      have hl1 : (rowsL t).length ≤ 1000 := by rw [rowsL, List.length_map]; exact ht.1
      have hl2 : (colsL t).length ≤ 1000 := by have := (tab_rows h).2.2.2.2.2; have := h.wid; omega
      simp -implicitDefEqProofs only [c3L0, push_cast, Nat.reduceBEq, Nat.reduceLT, Nat.reduceLeDiff, Nat.reduceAdd, Nat.reduceSub, Nat.reduceMul, Nat.reduceEqDiff, reduceCtorEq, ↓reduceIte, Int.reduceEq, Int.reduceLT, Int.reduceLE, Int.reduceNe, Int.reduceAdd, Int.reduceSub, Int.reduceMul, Int.reduceToNat, Nat.reduceShiftRight, Nat.reduceAnd, Nat.reduceBNe]
      refine callF hc ⟨rfl, trivial⟩ rfl rfl ?_
      simp -implicitDefEqProofs only [push_cast, Nat.reduceBEq, Nat.reduceLT, Nat.reduceLeDiff, Nat.reduceAdd, Nat.reduceSub, Nat.reduceMul, Nat.reduceEqDiff, reduceCtorEq, ↓reduceIte, Int.reduceEq, Int.reduceLT, Int.reduceLE, Int.reduceNe, Int.reduceAdd, Int.reduceSub, Int.reduceMul, Int.reduceToNat, Nat.reduceShiftRight, Nat.reduceAnd, Nat.reduceBNe]
      refine callF hm ⟨rfl, trivial⟩ rfl rfl ?_
      simp -implicitDefEqProofs only [push_cast, Nat.reduceBEq, Nat.reduceLT, Nat.reduceLeDiff, Nat.reduceAdd, Nat.reduceSub, Nat.reduceMul, Nat.reduceEqDiff, reduceCtorEq, ↓reduceIte, Int.reduceEq, Int.reduceLT, Int.reduceLE, Int.reduceNe, Int.reduceAdd, Int.reduceSub, Int.reduceMul, Int.reduceToNat, Nat.reduceShiftRight, Nat.reduceAnd, Nat.reduceBNe]
      refine callF hw ⟨rfl, trivial⟩ rfl rfl ?_
      simp -implicitDefEqProofs only [push_cast, Nat.reduceBEq, Nat.reduceLT, Nat.reduceLeDiff, Nat.reduceAdd, Nat.reduceSub, Nat.reduceMul, Nat.reduceEqDiff, reduceCtorEq, ↓reduceIte, Int.reduceEq, Int.reduceLT, Int.reduceLE, Int.reduceNe, Int.reduceAdd, Int.reduceSub, Int.reduceMul, Int.reduceToNat, Nat.reduceShiftRight, Nat.reduceAnd, Nat.reduceBNe]
      refine callF ho ⟨rfl, trivial⟩ rfl rfl ?_
      simp -implicitDefEqProofs only [push_cast, Nat.reduceBEq, Nat.reduceLT, Nat.reduceLeDiff, Nat.reduceAdd, Nat.reduceSub, Nat.reduceMul, Nat.reduceEqDiff, reduceCtorEq, ↓reduceIte, Int.reduceEq, Int.reduceLT, Int.reduceLE, Int.reduceNe, Int.reduceAdd, Int.reduceSub, Int.reduceMul, Int.reduceToNat, Nat.reduceShiftRight, Nat.reduceAnd, Nat.reduceBNe]
      refine callF hr ⟨rfl, trivial⟩ rfl rfl ?_
      simp -implicitDefEqProofs only [push_cast, Nat.reduceBEq, Nat.reduceLT, Nat.reduceLeDiff, Nat.reduceAdd, Nat.reduceSub, Nat.reduceMul, Nat.reduceEqDiff, reduceCtorEq, ↓reduceIte, Int.reduceEq, Int.reduceLT, Int.reduceLE, Int.reduceNe, Int.reduceAdd, Int.reduceSub, Int.reduceMul, Int.reduceToNat, Nat.reduceShiftRight, Nat.reduceAnd, Nat.reduceBNe]
      refine callF (refrows_pc h) ⟨rfl, trivial⟩ rfl rfl ?_
      simp -implicitDefEqProofs only [push_cast, Nat.reduceBEq, Nat.reduceLT, Nat.reduceLeDiff, Nat.reduceAdd, Nat.reduceSub, Nat.reduceMul, Nat.reduceEqDiff, reduceCtorEq, ↓reduceIte, Int.reduceEq, Int.reduceLT, Int.reduceLE, Int.reduceNe, Int.reduceAdd, Int.reduceSub, Int.reduceMul, Int.reduceToNat, Nat.reduceShiftRight, Nat.reduceAnd, Nat.reduceBNe]
      refine callF (eqself_pc (rowsL t) hl1) ⟨rfl, rfl, trivial⟩ rfl rfl ?_
      simp -implicitDefEqProofs only [push_cast, Nat.reduceBEq, Nat.reduceLT, Nat.reduceLeDiff, Nat.reduceAdd, Nat.reduceSub, Nat.reduceMul, Nat.reduceEqDiff, reduceCtorEq, ↓reduceIte, Int.reduceEq, Int.reduceLT, Int.reduceLE, Int.reduceNe, Int.reduceAdd, Int.reduceSub, Int.reduceMul, Int.reduceToNat, Nat.reduceShiftRight, Nat.reduceAnd, Nat.reduceBNe]
      refine callF (refcols_pc h (tab_tr h)) ⟨rfl, trivial⟩ rfl rfl ?_
      simp -implicitDefEqProofs only [push_cast, Nat.reduceBEq, Nat.reduceLT, Nat.reduceLeDiff, Nat.reduceAdd, Nat.reduceSub, Nat.reduceMul, Nat.reduceEqDiff, reduceCtorEq, ↓reduceIte, Int.reduceEq, Int.reduceLT, Int.reduceLE, Int.reduceNe, Int.reduceAdd, Int.reduceSub, Int.reduceMul, Int.reduceToNat, Nat.reduceShiftRight, Nat.reduceAnd, Nat.reduceBNe]
      refine callF (eqself_pc (colsL t) hl2) ⟨rfl, rfl, trivial⟩ rfl rfl ?_
      simp -implicitDefEqProofs only [push_cast, Nat.reduceBEq, Nat.reduceLT, Nat.reduceLeDiff, Nat.reduceAdd, Nat.reduceSub, Nat.reduceMul, Nat.reduceEqDiff, reduceCtorEq, ↓reduceIte, Int.reduceEq, Int.reduceLT, Int.reduceLE, Int.reduceNe, Int.reduceAdd, Int.reduceSub, Int.reduceMul, Int.reduceToNat, Nat.reduceShiftRight, Nat.reduceAnd, Nat.reduceBNe]
      refine callF (refways_pc h) ⟨rfl, trivial⟩ rfl rfl ?_
      simp -implicitDefEqProofs only [push_cast, Nat.reduceBEq, Nat.reduceLT, Nat.reduceLeDiff, Nat.reduceAdd, Nat.reduceSub, Nat.reduceMul, Nat.reduceEqDiff, reduceCtorEq, ↓reduceIte, Int.reduceEq, Int.reduceLT, Int.reduceLE, Int.reduceNe, Int.reduceAdd, Int.reduceSub, Int.reduceMul, Int.reduceToNat, Nat.reduceShiftRight, Nat.reduceAnd, Nat.reduceBNe]
      refine callF (reftotal_pc h) ⟨rfl, trivial⟩ rfl rfl ?_
      simp -implicitDefEqProofs only [push_cast, Nat.reduceBEq, Nat.reduceLT, Nat.reduceLeDiff, Nat.reduceAdd, Nat.reduceSub, Nat.reduceMul, Nat.reduceEqDiff, reduceCtorEq, ↓reduceIte, Int.reduceEq, Int.reduceLT, Int.reduceLE, Int.reduceNe, Int.reduceAdd, Int.reduceSub, Int.reduceMul, Int.reduceToNat, Nat.reduceShiftRight, Nat.reduceAnd, Nat.reduceBNe]
      exact ⟨by simp only [inR]; omega, 1, by omega, by omega, wk_c rfl ⟨rfl, rfl, rfl⟩ rfl⟩
  · have hc := check_pc b hb.1 hb.2
    have hm := margins_pc b hb.1 hb.2
    have hw := ways_pc b hb.1 hb.2
    have ho := total_pc b hb.1 hb.2
    have hr := right_pc b hb.1
    cases hv : validB b with
    | false =>
      rw [hv] at hc hm hw ho hr
      simp -implicitDefEqProofs only [c3L0, push_cast, Nat.reduceBEq, Nat.reduceLT, Nat.reduceLeDiff, Nat.reduceAdd, Nat.reduceSub, Nat.reduceMul, Nat.reduceEqDiff, reduceCtorEq, ↓reduceIte, Int.reduceEq, Int.reduceLT, Int.reduceLE, Int.reduceNe, Int.reduceAdd, Int.reduceSub, Int.reduceMul, Int.reduceToNat, Nat.reduceShiftRight, Nat.reduceAnd, Nat.reduceBNe]
      refine callF hc ⟨rfl, trivial⟩ rfl rfl ?_
      simp -implicitDefEqProofs only [push_cast, Nat.reduceBEq, Nat.reduceLT, Nat.reduceLeDiff, Nat.reduceAdd, Nat.reduceSub, Nat.reduceMul, Nat.reduceEqDiff, reduceCtorEq, ↓reduceIte, Int.reduceEq, Int.reduceLT, Int.reduceLE, Int.reduceNe, Int.reduceAdd, Int.reduceSub, Int.reduceMul, Int.reduceToNat, Nat.reduceShiftRight, Nat.reduceAnd, Nat.reduceBNe]
      refine callF hm ⟨rfl, trivial⟩ rfl rfl ?_
      simp -implicitDefEqProofs only [push_cast, Nat.reduceBEq, Nat.reduceLT, Nat.reduceLeDiff, Nat.reduceAdd, Nat.reduceSub, Nat.reduceMul, Nat.reduceEqDiff, reduceCtorEq, ↓reduceIte, Int.reduceEq, Int.reduceLT, Int.reduceLE, Int.reduceNe, Int.reduceAdd, Int.reduceSub, Int.reduceMul, Int.reduceToNat, Nat.reduceShiftRight, Nat.reduceAnd, Nat.reduceBNe]
      refine callF hw ⟨rfl, trivial⟩ rfl rfl ?_
      simp -implicitDefEqProofs only [push_cast, Nat.reduceBEq, Nat.reduceLT, Nat.reduceLeDiff, Nat.reduceAdd, Nat.reduceSub, Nat.reduceMul, Nat.reduceEqDiff, reduceCtorEq, ↓reduceIte, Int.reduceEq, Int.reduceLT, Int.reduceLE, Int.reduceNe, Int.reduceAdd, Int.reduceSub, Int.reduceMul, Int.reduceToNat, Nat.reduceShiftRight, Nat.reduceAnd, Nat.reduceBNe]
      refine callF ho ⟨rfl, trivial⟩ rfl rfl ?_
      simp -implicitDefEqProofs only [push_cast, Nat.reduceBEq, Nat.reduceLT, Nat.reduceLeDiff, Nat.reduceAdd, Nat.reduceSub, Nat.reduceMul, Nat.reduceEqDiff, reduceCtorEq, ↓reduceIte, Int.reduceEq, Int.reduceLT, Int.reduceLE, Int.reduceNe, Int.reduceAdd, Int.reduceSub, Int.reduceMul, Int.reduceToNat, Nat.reduceShiftRight, Nat.reduceAnd, Nat.reduceBNe]
      refine callF hr ⟨rfl, trivial⟩ rfl rfl ?_
      simp -implicitDefEqProofs only [push_cast, Nat.reduceBEq, Nat.reduceLT, Nat.reduceLeDiff, Nat.reduceAdd, Nat.reduceSub, Nat.reduceMul, Nat.reduceEqDiff, reduceCtorEq, ↓reduceIte, Int.reduceEq, Int.reduceLT, Int.reduceLE, Int.reduceNe, Int.reduceAdd, Int.reduceSub, Int.reduceMul, Int.reduceToNat, Nat.reduceShiftRight, Nat.reduceAnd, Nat.reduceBNe]
      exact ⟨by simp only [inR]; omega, 2, by omega, by omega, wk_c rfl ⟨rfl, rfl, rfl⟩ rfl⟩
    | true =>
      have h := tab_of hv
      rw [hv] at hc hm hw ho hr
      have hl1 : (rowsL b).length ≤ 1000 := by rw [rowsL, List.length_map]; exact hb.1
      have hl2 : (colsL b).length ≤ 1000 := by have := (tab_rows h).2.2.2.2.2; have := h.wid; omega
      simp -implicitDefEqProofs only [c3L0, push_cast, Nat.reduceBEq, Nat.reduceLT, Nat.reduceLeDiff, Nat.reduceAdd, Nat.reduceSub, Nat.reduceMul, Nat.reduceEqDiff, reduceCtorEq, ↓reduceIte, Int.reduceEq, Int.reduceLT, Int.reduceLE, Int.reduceNe, Int.reduceAdd, Int.reduceSub, Int.reduceMul, Int.reduceToNat, Nat.reduceShiftRight, Nat.reduceAnd, Nat.reduceBNe]
      refine callF hc ⟨rfl, trivial⟩ rfl rfl ?_
      simp -implicitDefEqProofs only [push_cast, Nat.reduceBEq, Nat.reduceLT, Nat.reduceLeDiff, Nat.reduceAdd, Nat.reduceSub, Nat.reduceMul, Nat.reduceEqDiff, reduceCtorEq, ↓reduceIte, Int.reduceEq, Int.reduceLT, Int.reduceLE, Int.reduceNe, Int.reduceAdd, Int.reduceSub, Int.reduceMul, Int.reduceToNat, Nat.reduceShiftRight, Nat.reduceAnd, Nat.reduceBNe]
      refine callF hm ⟨rfl, trivial⟩ rfl rfl ?_
      simp -implicitDefEqProofs only [push_cast, Nat.reduceBEq, Nat.reduceLT, Nat.reduceLeDiff, Nat.reduceAdd, Nat.reduceSub, Nat.reduceMul, Nat.reduceEqDiff, reduceCtorEq, ↓reduceIte, Int.reduceEq, Int.reduceLT, Int.reduceLE, Int.reduceNe, Int.reduceAdd, Int.reduceSub, Int.reduceMul, Int.reduceToNat, Nat.reduceShiftRight, Nat.reduceAnd, Nat.reduceBNe]
      refine callF hw ⟨rfl, trivial⟩ rfl rfl ?_
      simp -implicitDefEqProofs only [push_cast, Nat.reduceBEq, Nat.reduceLT, Nat.reduceLeDiff, Nat.reduceAdd, Nat.reduceSub, Nat.reduceMul, Nat.reduceEqDiff, reduceCtorEq, ↓reduceIte, Int.reduceEq, Int.reduceLT, Int.reduceLE, Int.reduceNe, Int.reduceAdd, Int.reduceSub, Int.reduceMul, Int.reduceToNat, Nat.reduceShiftRight, Nat.reduceAnd, Nat.reduceBNe]
      refine callF ho ⟨rfl, trivial⟩ rfl rfl ?_
      simp -implicitDefEqProofs only [push_cast, Nat.reduceBEq, Nat.reduceLT, Nat.reduceLeDiff, Nat.reduceAdd, Nat.reduceSub, Nat.reduceMul, Nat.reduceEqDiff, reduceCtorEq, ↓reduceIte, Int.reduceEq, Int.reduceLT, Int.reduceLE, Int.reduceNe, Int.reduceAdd, Int.reduceSub, Int.reduceMul, Int.reduceToNat, Nat.reduceShiftRight, Nat.reduceAnd, Nat.reduceBNe]
      refine callF hr ⟨rfl, trivial⟩ rfl rfl ?_
      simp -implicitDefEqProofs only [push_cast, Nat.reduceBEq, Nat.reduceLT, Nat.reduceLeDiff, Nat.reduceAdd, Nat.reduceSub, Nat.reduceMul, Nat.reduceEqDiff, reduceCtorEq, ↓reduceIte, Int.reduceEq, Int.reduceLT, Int.reduceLE, Int.reduceNe, Int.reduceAdd, Int.reduceSub, Int.reduceMul, Int.reduceToNat, Nat.reduceShiftRight, Nat.reduceAnd, Nat.reduceBNe]
      refine callF (refrows_pc h) ⟨rfl, trivial⟩ rfl rfl ?_
      simp -implicitDefEqProofs only [push_cast, Nat.reduceBEq, Nat.reduceLT, Nat.reduceLeDiff, Nat.reduceAdd, Nat.reduceSub, Nat.reduceMul, Nat.reduceEqDiff, reduceCtorEq, ↓reduceIte, Int.reduceEq, Int.reduceLT, Int.reduceLE, Int.reduceNe, Int.reduceAdd, Int.reduceSub, Int.reduceMul, Int.reduceToNat, Nat.reduceShiftRight, Nat.reduceAnd, Nat.reduceBNe]
      refine callF (eqself_pc (rowsL b) hl1) ⟨rfl, rfl, trivial⟩ rfl rfl ?_
      simp -implicitDefEqProofs only [push_cast, Nat.reduceBEq, Nat.reduceLT, Nat.reduceLeDiff, Nat.reduceAdd, Nat.reduceSub, Nat.reduceMul, Nat.reduceEqDiff, reduceCtorEq, ↓reduceIte, Int.reduceEq, Int.reduceLT, Int.reduceLE, Int.reduceNe, Int.reduceAdd, Int.reduceSub, Int.reduceMul, Int.reduceToNat, Nat.reduceShiftRight, Nat.reduceAnd, Nat.reduceBNe]
      refine callF (refcols_pc h (tab_tr h)) ⟨rfl, trivial⟩ rfl rfl ?_
      simp -implicitDefEqProofs only [push_cast, Nat.reduceBEq, Nat.reduceLT, Nat.reduceLeDiff, Nat.reduceAdd, Nat.reduceSub, Nat.reduceMul, Nat.reduceEqDiff, reduceCtorEq, ↓reduceIte, Int.reduceEq, Int.reduceLT, Int.reduceLE, Int.reduceNe, Int.reduceAdd, Int.reduceSub, Int.reduceMul, Int.reduceToNat, Nat.reduceShiftRight, Nat.reduceAnd, Nat.reduceBNe]
      refine callF (eqself_pc (colsL b) hl2) ⟨rfl, rfl, trivial⟩ rfl rfl ?_
      simp -implicitDefEqProofs only [push_cast, Nat.reduceBEq, Nat.reduceLT, Nat.reduceLeDiff, Nat.reduceAdd, Nat.reduceSub, Nat.reduceMul, Nat.reduceEqDiff, reduceCtorEq, ↓reduceIte, Int.reduceEq, Int.reduceLT, Int.reduceLE, Int.reduceNe, Int.reduceAdd, Int.reduceSub, Int.reduceMul, Int.reduceToNat, Nat.reduceShiftRight, Nat.reduceAnd, Nat.reduceBNe]
      refine callF (refways_pc h) ⟨rfl, trivial⟩ rfl rfl ?_
      simp -implicitDefEqProofs only [push_cast, Nat.reduceBEq, Nat.reduceLT, Nat.reduceLeDiff, Nat.reduceAdd, Nat.reduceSub, Nat.reduceMul, Nat.reduceEqDiff, reduceCtorEq, ↓reduceIte, Int.reduceEq, Int.reduceLT, Int.reduceLE, Int.reduceNe, Int.reduceAdd, Int.reduceSub, Int.reduceMul, Int.reduceToNat, Nat.reduceShiftRight, Nat.reduceAnd, Nat.reduceBNe]
      refine callF (reftotal_pc h) ⟨rfl, trivial⟩ rfl rfl ?_
      simp -implicitDefEqProofs only [push_cast, Nat.reduceBEq, Nat.reduceLT, Nat.reduceLeDiff, Nat.reduceAdd, Nat.reduceSub, Nat.reduceMul, Nat.reduceEqDiff, reduceCtorEq, ↓reduceIte, Int.reduceEq, Int.reduceLT, Int.reduceLE, Int.reduceNe, Int.reduceAdd, Int.reduceSub, Int.reduceMul, Int.reduceToNat, Nat.reduceShiftRight, Nat.reduceAnd, Nat.reduceBNe]
      exact ⟨by simp only [inR]; omega, 2, by omega, by omega, wk_c rfl ⟨rfl, rfl, rfl⟩ rfl⟩
  · have hc := check_pc f hf.1 hf.2
    have hm := margins_pc f hf.1 hf.2
    have hw := ways_pc f hf.1 hf.2
    have ho := total_pc f hf.1 hf.2
    have hr := right_pc f hf.1
    cases hv : validB f with
    | false =>
      rw [hv] at hc hm hw ho hr
      simp -implicitDefEqProofs only [c3L0, push_cast, Nat.reduceBEq, Nat.reduceLT, Nat.reduceLeDiff, Nat.reduceAdd, Nat.reduceSub, Nat.reduceMul, Nat.reduceEqDiff, reduceCtorEq, ↓reduceIte, Int.reduceEq, Int.reduceLT, Int.reduceLE, Int.reduceNe, Int.reduceAdd, Int.reduceSub, Int.reduceMul, Int.reduceToNat, Nat.reduceShiftRight, Nat.reduceAnd, Nat.reduceBNe]
      refine callF hc ⟨rfl, trivial⟩ rfl rfl ?_
      simp -implicitDefEqProofs only [push_cast, Nat.reduceBEq, Nat.reduceLT, Nat.reduceLeDiff, Nat.reduceAdd, Nat.reduceSub, Nat.reduceMul, Nat.reduceEqDiff, reduceCtorEq, ↓reduceIte, Int.reduceEq, Int.reduceLT, Int.reduceLE, Int.reduceNe, Int.reduceAdd, Int.reduceSub, Int.reduceMul, Int.reduceToNat, Nat.reduceShiftRight, Nat.reduceAnd, Nat.reduceBNe]
      refine callF hm ⟨rfl, trivial⟩ rfl rfl ?_
      simp -implicitDefEqProofs only [push_cast, Nat.reduceBEq, Nat.reduceLT, Nat.reduceLeDiff, Nat.reduceAdd, Nat.reduceSub, Nat.reduceMul, Nat.reduceEqDiff, reduceCtorEq, ↓reduceIte, Int.reduceEq, Int.reduceLT, Int.reduceLE, Int.reduceNe, Int.reduceAdd, Int.reduceSub, Int.reduceMul, Int.reduceToNat, Nat.reduceShiftRight, Nat.reduceAnd, Nat.reduceBNe]
      refine callF hw ⟨rfl, trivial⟩ rfl rfl ?_
      simp -implicitDefEqProofs only [push_cast, Nat.reduceBEq, Nat.reduceLT, Nat.reduceLeDiff, Nat.reduceAdd, Nat.reduceSub, Nat.reduceMul, Nat.reduceEqDiff, reduceCtorEq, ↓reduceIte, Int.reduceEq, Int.reduceLT, Int.reduceLE, Int.reduceNe, Int.reduceAdd, Int.reduceSub, Int.reduceMul, Int.reduceToNat, Nat.reduceShiftRight, Nat.reduceAnd, Nat.reduceBNe]
      refine callF ho ⟨rfl, trivial⟩ rfl rfl ?_
      simp -implicitDefEqProofs only [push_cast, Nat.reduceBEq, Nat.reduceLT, Nat.reduceLeDiff, Nat.reduceAdd, Nat.reduceSub, Nat.reduceMul, Nat.reduceEqDiff, reduceCtorEq, ↓reduceIte, Int.reduceEq, Int.reduceLT, Int.reduceLE, Int.reduceNe, Int.reduceAdd, Int.reduceSub, Int.reduceMul, Int.reduceToNat, Nat.reduceShiftRight, Nat.reduceAnd, Nat.reduceBNe]
      refine callF hr ⟨rfl, trivial⟩ rfl rfl ?_
      simp -implicitDefEqProofs only [push_cast, Nat.reduceBEq, Nat.reduceLT, Nat.reduceLeDiff, Nat.reduceAdd, Nat.reduceSub, Nat.reduceMul, Nat.reduceEqDiff, reduceCtorEq, ↓reduceIte, Int.reduceEq, Int.reduceLT, Int.reduceLE, Int.reduceNe, Int.reduceAdd, Int.reduceSub, Int.reduceMul, Int.reduceToNat, Nat.reduceShiftRight, Nat.reduceAnd, Nat.reduceBNe]
      exact ⟨by simp only [inR]; omega, 3, by omega, by omega, wk_c rfl ⟨rfl, rfl, rfl⟩ rfl⟩
    | true =>
      have h := tab_of hv
      rw [hv] at hc hm hw ho hr
      have hl1 : (rowsL f).length ≤ 1000 := by rw [rowsL, List.length_map]; exact hf.1
      have hl2 : (colsL f).length ≤ 1000 := by have := (tab_rows h).2.2.2.2.2; have := h.wid; omega
      simp -implicitDefEqProofs only [c3L0, push_cast, Nat.reduceBEq, Nat.reduceLT, Nat.reduceLeDiff, Nat.reduceAdd, Nat.reduceSub, Nat.reduceMul, Nat.reduceEqDiff, reduceCtorEq, ↓reduceIte, Int.reduceEq, Int.reduceLT, Int.reduceLE, Int.reduceNe, Int.reduceAdd, Int.reduceSub, Int.reduceMul, Int.reduceToNat, Nat.reduceShiftRight, Nat.reduceAnd, Nat.reduceBNe]
      refine callF hc ⟨rfl, trivial⟩ rfl rfl ?_
      simp -implicitDefEqProofs only [push_cast, Nat.reduceBEq, Nat.reduceLT, Nat.reduceLeDiff, Nat.reduceAdd, Nat.reduceSub, Nat.reduceMul, Nat.reduceEqDiff, reduceCtorEq, ↓reduceIte, Int.reduceEq, Int.reduceLT, Int.reduceLE, Int.reduceNe, Int.reduceAdd, Int.reduceSub, Int.reduceMul, Int.reduceToNat, Nat.reduceShiftRight, Nat.reduceAnd, Nat.reduceBNe]
      refine callF hm ⟨rfl, trivial⟩ rfl rfl ?_
      simp -implicitDefEqProofs only [push_cast, Nat.reduceBEq, Nat.reduceLT, Nat.reduceLeDiff, Nat.reduceAdd, Nat.reduceSub, Nat.reduceMul, Nat.reduceEqDiff, reduceCtorEq, ↓reduceIte, Int.reduceEq, Int.reduceLT, Int.reduceLE, Int.reduceNe, Int.reduceAdd, Int.reduceSub, Int.reduceMul, Int.reduceToNat, Nat.reduceShiftRight, Nat.reduceAnd, Nat.reduceBNe]
      refine callF hw ⟨rfl, trivial⟩ rfl rfl ?_
      simp -implicitDefEqProofs only [push_cast, Nat.reduceBEq, Nat.reduceLT, Nat.reduceLeDiff, Nat.reduceAdd, Nat.reduceSub, Nat.reduceMul, Nat.reduceEqDiff, reduceCtorEq, ↓reduceIte, Int.reduceEq, Int.reduceLT, Int.reduceLE, Int.reduceNe, Int.reduceAdd, Int.reduceSub, Int.reduceMul, Int.reduceToNat, Nat.reduceShiftRight, Nat.reduceAnd, Nat.reduceBNe]
      refine callF ho ⟨rfl, trivial⟩ rfl rfl ?_
      simp -implicitDefEqProofs only [push_cast, Nat.reduceBEq, Nat.reduceLT, Nat.reduceLeDiff, Nat.reduceAdd, Nat.reduceSub, Nat.reduceMul, Nat.reduceEqDiff, reduceCtorEq, ↓reduceIte, Int.reduceEq, Int.reduceLT, Int.reduceLE, Int.reduceNe, Int.reduceAdd, Int.reduceSub, Int.reduceMul, Int.reduceToNat, Nat.reduceShiftRight, Nat.reduceAnd, Nat.reduceBNe]
      refine callF hr ⟨rfl, trivial⟩ rfl rfl ?_
      simp -implicitDefEqProofs only [push_cast, Nat.reduceBEq, Nat.reduceLT, Nat.reduceLeDiff, Nat.reduceAdd, Nat.reduceSub, Nat.reduceMul, Nat.reduceEqDiff, reduceCtorEq, ↓reduceIte, Int.reduceEq, Int.reduceLT, Int.reduceLE, Int.reduceNe, Int.reduceAdd, Int.reduceSub, Int.reduceMul, Int.reduceToNat, Nat.reduceShiftRight, Nat.reduceAnd, Nat.reduceBNe]
      refine callF (refrows_pc h) ⟨rfl, trivial⟩ rfl rfl ?_
      simp -implicitDefEqProofs only [push_cast, Nat.reduceBEq, Nat.reduceLT, Nat.reduceLeDiff, Nat.reduceAdd, Nat.reduceSub, Nat.reduceMul, Nat.reduceEqDiff, reduceCtorEq, ↓reduceIte, Int.reduceEq, Int.reduceLT, Int.reduceLE, Int.reduceNe, Int.reduceAdd, Int.reduceSub, Int.reduceMul, Int.reduceToNat, Nat.reduceShiftRight, Nat.reduceAnd, Nat.reduceBNe]
      refine callF (eqself_pc (rowsL f) hl1) ⟨rfl, rfl, trivial⟩ rfl rfl ?_
      simp -implicitDefEqProofs only [push_cast, Nat.reduceBEq, Nat.reduceLT, Nat.reduceLeDiff, Nat.reduceAdd, Nat.reduceSub, Nat.reduceMul, Nat.reduceEqDiff, reduceCtorEq, ↓reduceIte, Int.reduceEq, Int.reduceLT, Int.reduceLE, Int.reduceNe, Int.reduceAdd, Int.reduceSub, Int.reduceMul, Int.reduceToNat, Nat.reduceShiftRight, Nat.reduceAnd, Nat.reduceBNe]
      refine callF (refcols_pc h (tab_tr h)) ⟨rfl, trivial⟩ rfl rfl ?_
      simp -implicitDefEqProofs only [push_cast, Nat.reduceBEq, Nat.reduceLT, Nat.reduceLeDiff, Nat.reduceAdd, Nat.reduceSub, Nat.reduceMul, Nat.reduceEqDiff, reduceCtorEq, ↓reduceIte, Int.reduceEq, Int.reduceLT, Int.reduceLE, Int.reduceNe, Int.reduceAdd, Int.reduceSub, Int.reduceMul, Int.reduceToNat, Nat.reduceShiftRight, Nat.reduceAnd, Nat.reduceBNe]
      refine callF (eqself_pc (colsL f) hl2) ⟨rfl, rfl, trivial⟩ rfl rfl ?_
      simp -implicitDefEqProofs only [push_cast, Nat.reduceBEq, Nat.reduceLT, Nat.reduceLeDiff, Nat.reduceAdd, Nat.reduceSub, Nat.reduceMul, Nat.reduceEqDiff, reduceCtorEq, ↓reduceIte, Int.reduceEq, Int.reduceLT, Int.reduceLE, Int.reduceNe, Int.reduceAdd, Int.reduceSub, Int.reduceMul, Int.reduceToNat, Nat.reduceShiftRight, Nat.reduceAnd, Nat.reduceBNe]
      refine callF (refways_pc h) ⟨rfl, trivial⟩ rfl rfl ?_
      simp -implicitDefEqProofs only [push_cast, Nat.reduceBEq, Nat.reduceLT, Nat.reduceLeDiff, Nat.reduceAdd, Nat.reduceSub, Nat.reduceMul, Nat.reduceEqDiff, reduceCtorEq, ↓reduceIte, Int.reduceEq, Int.reduceLT, Int.reduceLE, Int.reduceNe, Int.reduceAdd, Int.reduceSub, Int.reduceMul, Int.reduceToNat, Nat.reduceShiftRight, Nat.reduceAnd, Nat.reduceBNe]
      refine callF (reftotal_pc h) ⟨rfl, trivial⟩ rfl rfl ?_
      simp -implicitDefEqProofs only [push_cast, Nat.reduceBEq, Nat.reduceLT, Nat.reduceLeDiff, Nat.reduceAdd, Nat.reduceSub, Nat.reduceMul, Nat.reduceEqDiff, reduceCtorEq, ↓reduceIte, Int.reduceEq, Int.reduceLT, Int.reduceLE, Int.reduceNe, Int.reduceAdd, Int.reduceSub, Int.reduceMul, Int.reduceToNat, Nat.reduceShiftRight, Nat.reduceAnd, Nat.reduceBNe]
      exact ⟨by simp only [inR]; omega, 3, by omega, by omega, wk_c rfl ⟨rfl, rfl, rfl⟩ rfl⟩
  · simp -implicitDefEqProofs only [c3L0, push_cast, Nat.reduceBEq, Nat.reduceLT, Nat.reduceLeDiff, Nat.reduceAdd, Nat.reduceSub, Nat.reduceMul, Nat.reduceEqDiff, reduceCtorEq, ↓reduceIte, Int.reduceEq, Int.reduceLT, Int.reduceLE, Int.reduceNe, Int.reduceAdd, Int.reduceSub, Int.reduceMul, Int.reduceToNat, Nat.reduceShiftRight, Nat.reduceAnd, Nat.reduceBNe]
    refine callF works_pc trivial rfl rfl ?_
    simp -implicitDefEqProofs only [push_cast, Nat.reduceBEq, Nat.reduceLT, Nat.reduceLeDiff, Nat.reduceAdd, Nat.reduceSub, Nat.reduceMul, Nat.reduceEqDiff, reduceCtorEq, ↓reduceIte, Int.reduceEq, Int.reduceLT, Int.reduceLE, Int.reduceNe, Int.reduceAdd, Int.reduceSub, Int.reduceMul, Int.reduceToNat, Nat.reduceShiftRight, Nat.reduceAnd, Nat.reduceBNe]
    exact finC rfl rfl

theorem law3_22 (a b m n0 n1 n2 n3 n4 n5 n6 n7 n8 : Int) (x y z u : Int) (at_ n : Int) (raw : List (List Int)) (h : Tab [[x, y], [z, u]]) (ha : r8 at_) (hd : PC Tryd.prog 10 [DD a b [n0, n1, n2, n3, n4, n5, n6, n7, n8] m] (TT [[x, y], [z, u]])) :
    PC Tryd.prog 3 [DD a b [n0, n1, n2, n3, n4, n5, n6, n7, n8] m, .dat (.int .u8) at_, I n, TT raw] (B true) := by
  have hq : 0 ≤ at_.tdiv 4 ∧ at_.tdiv 4 ≤ 255 := by
    have h1 := Int.tdiv_nonneg ha.1 (show (0 : Int) ≤ 4 by omega)
    have h2 := Int.tdiv_le_self 4 ha.1
    have := ha.2
    omega
  have hq2 := ha
  simp only [r8] at hq2
  have hs : okT (fewL raw) := ⟨by simp [fewL]; omega, by intro r hr; simp only [fewL, List.mem_map] at hr; obtain ⟨s, _, rfl⟩ := hr; simp; omega⟩
  have c1 : at_.tmod 2 = 0 ∨ at_.tmod 2 = 1 := by
    have := Int.tmod_nonneg 2 ha.1
    have := Int.tmod_lt_of_pos at_ (b := 2) (by omega)
    omega
  have c2 : (at_.tdiv 4).tmod 2 = 0 ∨ (at_.tdiv 4).tmod 2 = 1 := by
    have := Int.tmod_nonneg 2 hq.1
    have := Int.tmod_lt_of_pos (at_.tdiv 4) (b := 2) (by omega)
    omega
  refine pc_fn hmix h3 rfl ?_
  simp -implicitDefEqProofs only [c3, mapN, List.headD_cons, List.tail_cons, push_cast, Nat.reduceBEq, Nat.reduceLT, Nat.reduceLeDiff, Nat.reduceAdd, Nat.reduceSub, Nat.reduceMul, Nat.reduceEqDiff, reduceCtorEq, ↓reduceIte, Int.reduceEq, Int.reduceLT, Int.reduceLE, Int.reduceNe, Int.reduceAdd, Int.reduceSub, Int.reduceMul, Int.reduceToNat, Nat.reduceShiftRight, Nat.reduceAnd, Nat.reduceBNe]
  refine callF hd ⟨⟨rfl, ⟨rfl, rfl⟩, ⟨rfl, rfl⟩, ⟨⟨rfl, rfl⟩, ⟨rfl, rfl⟩, ⟨rfl, rfl⟩, ⟨rfl, rfl⟩, ⟨rfl, rfl⟩, ⟨rfl, rfl⟩, ⟨rfl, rfl⟩, ⟨rfl, rfl⟩, ⟨rfl, rfl⟩, ⟨rfl, rfl⟩, trivial⟩, ⟨rfl, rfl⟩, rfl⟩, trivial⟩ rfl rfl ?_
  simp -implicitDefEqProofs only [push_cast, Nat.reduceBEq, Nat.reduceLT, Nat.reduceLeDiff, Nat.reduceAdd, Nat.reduceSub, Nat.reduceMul, Nat.reduceEqDiff, reduceCtorEq, ↓reduceIte, Int.reduceEq, Int.reduceLT, Int.reduceLE, Int.reduceNe, Int.reduceAdd, Int.reduceSub, Int.reduceMul, Int.reduceToNat, Nat.reduceShiftRight, Nat.reduceAnd, Nat.reduceBNe]
  refine callA (few22 x y z u) ⟨rfl, trivial⟩ rfl ?_
  rcases c1 with e1 | e1 <;> rcases c2 with e2 | e2
  · simp -implicitDefEqProofs only [few22H, shA, shAs, shB, shRowB, List.map_cons, List.map_nil, e1, e2, push_cast, Nat.reduceBEq, Nat.reduceLT, Nat.reduceLeDiff, Nat.reduceAdd, Nat.reduceSub, Nat.reduceMul, Nat.reduceEqDiff, reduceCtorEq, ↓reduceIte, Int.reduceEq, Int.reduceLT, Int.reduceLE, Int.reduceNe, Int.reduceAdd, Int.reduceSub, Int.reduceMul, Int.reduceToNat, Nat.reduceShiftRight, Nat.reduceAnd, Nat.reduceBNe]
    refine ⟨by simp only [inR]; omega, by simp only [inR]; omega, by simp only [inR]; omega, ?_⟩
    refine callF (few_pc raw) ⟨rfl, trivial⟩ rfl rfl ?_
    simp -implicitDefEqProofs only [push_cast, Nat.reduceBEq, Nat.reduceLT, Nat.reduceLeDiff, Nat.reduceAdd, Nat.reduceSub, Nat.reduceMul, Nat.reduceEqDiff, reduceCtorEq, ↓reduceIte, Int.reduceEq, Int.reduceLT, Int.reduceLE, Int.reduceNe, Int.reduceAdd, Int.reduceSub, Int.reduceMul, Int.reduceToNat, Nat.reduceShiftRight, Nat.reduceAnd, Nat.reduceBNe]
    refine LoopW.wk (wk_all (tm' := [(48, I 0), (47, .agg [TT [[x, y], [z, u]], TT [[n, y], [z, u]], TT (fewL raw)])]) ⟨rfl, ⟨rfl, ⟨rfl, ⟨⟨rfl, Nat.le_refl _⟩, rfl⟩, ⟨⟨rfl, Nat.le_refl _⟩, rfl⟩, trivial⟩, rfl, trivial⟩, trivial⟩) ?_
    exact law3_loop _ _ _ ⟨by simp, by simp⟩ ⟨by simp, by simp⟩ hs
  · simp -implicitDefEqProofs only [few22H, shA, shAs, shB, shRowB, List.map_cons, List.map_nil, e1, e2, push_cast, Nat.reduceBEq, Nat.reduceLT, Nat.reduceLeDiff, Nat.reduceAdd, Nat.reduceSub, Nat.reduceMul, Nat.reduceEqDiff, reduceCtorEq, ↓reduceIte, Int.reduceEq, Int.reduceLT, Int.reduceLE, Int.reduceNe, Int.reduceAdd, Int.reduceSub, Int.reduceMul, Int.reduceToNat, Nat.reduceShiftRight, Nat.reduceAnd, Nat.reduceBNe]
    refine ⟨by simp only [inR]; omega, by simp only [inR]; omega, by simp only [inR]; omega, ?_⟩
    refine callF (few_pc raw) ⟨rfl, trivial⟩ rfl rfl ?_
    simp -implicitDefEqProofs only [push_cast, Nat.reduceBEq, Nat.reduceLT, Nat.reduceLeDiff, Nat.reduceAdd, Nat.reduceSub, Nat.reduceMul, Nat.reduceEqDiff, reduceCtorEq, ↓reduceIte, Int.reduceEq, Int.reduceLT, Int.reduceLE, Int.reduceNe, Int.reduceAdd, Int.reduceSub, Int.reduceMul, Int.reduceToNat, Nat.reduceShiftRight, Nat.reduceAnd, Nat.reduceBNe]
    refine LoopW.wk (wk_all (tm' := [(48, I 0), (47, .agg [TT [[x, y], [z, u]], TT [[x, n], [z, u]], TT (fewL raw)])]) ⟨rfl, ⟨rfl, ⟨rfl, ⟨⟨rfl, Nat.le_refl _⟩, rfl⟩, ⟨⟨rfl, Nat.le_refl _⟩, rfl⟩, trivial⟩, rfl, trivial⟩, trivial⟩) ?_
    exact law3_loop _ _ _ ⟨by simp, by simp⟩ ⟨by simp, by simp⟩ hs
  · simp -implicitDefEqProofs only [few22H, shA, shAs, shB, shRowB, List.map_cons, List.map_nil, e1, e2, push_cast, Nat.reduceBEq, Nat.reduceLT, Nat.reduceLeDiff, Nat.reduceAdd, Nat.reduceSub, Nat.reduceMul, Nat.reduceEqDiff, reduceCtorEq, ↓reduceIte, Int.reduceEq, Int.reduceLT, Int.reduceLE, Int.reduceNe, Int.reduceAdd, Int.reduceSub, Int.reduceMul, Int.reduceToNat, Nat.reduceShiftRight, Nat.reduceAnd, Nat.reduceBNe]
    refine ⟨by simp only [inR]; omega, by simp only [inR]; omega, by simp only [inR]; omega, ?_⟩
    refine callF (few_pc raw) ⟨rfl, trivial⟩ rfl rfl ?_
    simp -implicitDefEqProofs only [push_cast, Nat.reduceBEq, Nat.reduceLT, Nat.reduceLeDiff, Nat.reduceAdd, Nat.reduceSub, Nat.reduceMul, Nat.reduceEqDiff, reduceCtorEq, ↓reduceIte, Int.reduceEq, Int.reduceLT, Int.reduceLE, Int.reduceNe, Int.reduceAdd, Int.reduceSub, Int.reduceMul, Int.reduceToNat, Nat.reduceShiftRight, Nat.reduceAnd, Nat.reduceBNe]
    refine LoopW.wk (wk_all (tm' := [(48, I 0), (47, .agg [TT [[x, y], [z, u]], TT [[x, y], [n, u]], TT (fewL raw)])]) ⟨rfl, ⟨rfl, ⟨rfl, ⟨⟨rfl, Nat.le_refl _⟩, rfl⟩, ⟨⟨rfl, Nat.le_refl _⟩, rfl⟩, trivial⟩, rfl, trivial⟩, trivial⟩) ?_
    exact law3_loop _ _ _ ⟨by simp, by simp⟩ ⟨by simp, by simp⟩ hs
  · simp -implicitDefEqProofs only [few22H, shA, shAs, shB, shRowB, List.map_cons, List.map_nil, e1, e2, push_cast, Nat.reduceBEq, Nat.reduceLT, Nat.reduceLeDiff, Nat.reduceAdd, Nat.reduceSub, Nat.reduceMul, Nat.reduceEqDiff, reduceCtorEq, ↓reduceIte, Int.reduceEq, Int.reduceLT, Int.reduceLE, Int.reduceNe, Int.reduceAdd, Int.reduceSub, Int.reduceMul, Int.reduceToNat, Nat.reduceShiftRight, Nat.reduceAnd, Nat.reduceBNe]
    refine ⟨by simp only [inR]; omega, by simp only [inR]; omega, by simp only [inR]; omega, ?_⟩
    refine callF (few_pc raw) ⟨rfl, trivial⟩ rfl rfl ?_
    simp -implicitDefEqProofs only [push_cast, Nat.reduceBEq, Nat.reduceLT, Nat.reduceLeDiff, Nat.reduceAdd, Nat.reduceSub, Nat.reduceMul, Nat.reduceEqDiff, reduceCtorEq, ↓reduceIte, Int.reduceEq, Int.reduceLT, Int.reduceLE, Int.reduceNe, Int.reduceAdd, Int.reduceSub, Int.reduceMul, Int.reduceToNat, Nat.reduceShiftRight, Nat.reduceAnd, Nat.reduceBNe]
    refine LoopW.wk (wk_all (tm' := [(48, I 0), (47, .agg [TT [[x, y], [z, u]], TT [[x, y], [z, n]], TT (fewL raw)])]) ⟨rfl, ⟨rfl, ⟨rfl, ⟨⟨rfl, Nat.le_refl _⟩, rfl⟩, ⟨⟨rfl, Nat.le_refl _⟩, rfl⟩, trivial⟩, rfl, trivial⟩, trivial⟩) ?_
    exact law3_loop _ _ _ ⟨by simp, by simp⟩ ⟨by simp, by simp⟩ hs
theorem law3_23 (a b m n0 n1 n2 n3 n4 n5 n6 n7 n8 : Int) (x y z u v w : Int) (at_ n : Int) (raw : List (List Int)) (h : Tab [[x, y, z], [u, v, w]]) (ha : r8 at_) (hd : PC Tryd.prog 10 [DD a b [n0, n1, n2, n3, n4, n5, n6, n7, n8] m] (TT [[x, y, z], [u, v, w]])) :
    PC Tryd.prog 3 [DD a b [n0, n1, n2, n3, n4, n5, n6, n7, n8] m, .dat (.int .u8) at_, I n, TT raw] (B true) := by
  have hq : 0 ≤ at_.tdiv 4 ∧ at_.tdiv 4 ≤ 255 := by
    have h1 := Int.tdiv_nonneg ha.1 (show (0 : Int) ≤ 4 by omega)
    have h2 := Int.tdiv_le_self 4 ha.1
    have := ha.2
    omega
  have hq2 := ha
  simp only [r8] at hq2
  have hs : okT (fewL raw) := ⟨by simp [fewL]; omega, by intro r hr; simp only [fewL, List.mem_map] at hr; obtain ⟨s, _, rfl⟩ := hr; simp; omega⟩
  have c1 : at_.tmod 2 = 0 ∨ at_.tmod 2 = 1 := by
    have := Int.tmod_nonneg 2 ha.1
    have := Int.tmod_lt_of_pos at_ (b := 2) (by omega)
    omega
  have c2 : (at_.tdiv 4).tmod 3 = 0 ∨ (at_.tdiv 4).tmod 3 = 1 ∨ (at_.tdiv 4).tmod 3 = 2 := by
    have := Int.tmod_nonneg 3 hq.1
    have := Int.tmod_lt_of_pos (at_.tdiv 4) (b := 3) (by omega)
    omega
  refine pc_fn hmix h3 rfl ?_
  simp -implicitDefEqProofs only [c3, mapN, List.headD_cons, List.tail_cons, push_cast, Nat.reduceBEq, Nat.reduceLT, Nat.reduceLeDiff, Nat.reduceAdd, Nat.reduceSub, Nat.reduceMul, Nat.reduceEqDiff, reduceCtorEq, ↓reduceIte, Int.reduceEq, Int.reduceLT, Int.reduceLE, Int.reduceNe, Int.reduceAdd, Int.reduceSub, Int.reduceMul, Int.reduceToNat, Nat.reduceShiftRight, Nat.reduceAnd, Nat.reduceBNe]
  refine callF hd ⟨⟨rfl, ⟨rfl, rfl⟩, ⟨rfl, rfl⟩, ⟨⟨rfl, rfl⟩, ⟨rfl, rfl⟩, ⟨rfl, rfl⟩, ⟨rfl, rfl⟩, ⟨rfl, rfl⟩, ⟨rfl, rfl⟩, ⟨rfl, rfl⟩, ⟨rfl, rfl⟩, ⟨rfl, rfl⟩, ⟨rfl, rfl⟩, trivial⟩, ⟨rfl, rfl⟩, rfl⟩, trivial⟩ rfl rfl ?_
  simp -implicitDefEqProofs only [push_cast, Nat.reduceBEq, Nat.reduceLT, Nat.reduceLeDiff, Nat.reduceAdd, Nat.reduceSub, Nat.reduceMul, Nat.reduceEqDiff, reduceCtorEq, ↓reduceIte, Int.reduceEq, Int.reduceLT, Int.reduceLE, Int.reduceNe, Int.reduceAdd, Int.reduceSub, Int.reduceMul, Int.reduceToNat, Nat.reduceShiftRight, Nat.reduceAnd, Nat.reduceBNe]
  refine callA (few23 x y z u v w) ⟨rfl, trivial⟩ rfl ?_
  rcases c1 with e1 | e1 <;> rcases c2 with e2 | e2 | e2
  · simp -implicitDefEqProofs only [few23H, shA, shAs, shB, shRowB, List.map_cons, List.map_nil, e1, e2, push_cast, Nat.reduceBEq, Nat.reduceLT, Nat.reduceLeDiff, Nat.reduceAdd, Nat.reduceSub, Nat.reduceMul, Nat.reduceEqDiff, reduceCtorEq, ↓reduceIte, Int.reduceEq, Int.reduceLT, Int.reduceLE, Int.reduceNe, Int.reduceAdd, Int.reduceSub, Int.reduceMul, Int.reduceToNat, Nat.reduceShiftRight, Nat.reduceAnd, Nat.reduceBNe]
    refine ⟨by simp only [inR]; omega, by simp only [inR]; omega, by simp only [inR]; omega, ?_⟩
    refine callF (few_pc raw) ⟨rfl, trivial⟩ rfl rfl ?_
    simp -implicitDefEqProofs only [push_cast, Nat.reduceBEq, Nat.reduceLT, Nat.reduceLeDiff, Nat.reduceAdd, Nat.reduceSub, Nat.reduceMul, Nat.reduceEqDiff, reduceCtorEq, ↓reduceIte, Int.reduceEq, Int.reduceLT, Int.reduceLE, Int.reduceNe, Int.reduceAdd, Int.reduceSub, Int.reduceMul, Int.reduceToNat, Nat.reduceShiftRight, Nat.reduceAnd, Nat.reduceBNe]
    refine LoopW.wk (wk_all (tm' := [(48, I 0), (47, .agg [TT [[x, y, z], [u, v, w]], TT [[n, y, z], [u, v, w]], TT (fewL raw)])]) ⟨rfl, ⟨rfl, ⟨rfl, ⟨⟨rfl, Nat.le_refl _⟩, rfl⟩, ⟨⟨rfl, Nat.le_refl _⟩, rfl⟩, trivial⟩, rfl, trivial⟩, trivial⟩) ?_
    exact law3_loop _ _ _ ⟨by simp, by simp⟩ ⟨by simp, by simp⟩ hs
  · simp -implicitDefEqProofs only [few23H, shA, shAs, shB, shRowB, List.map_cons, List.map_nil, e1, e2, push_cast, Nat.reduceBEq, Nat.reduceLT, Nat.reduceLeDiff, Nat.reduceAdd, Nat.reduceSub, Nat.reduceMul, Nat.reduceEqDiff, reduceCtorEq, ↓reduceIte, Int.reduceEq, Int.reduceLT, Int.reduceLE, Int.reduceNe, Int.reduceAdd, Int.reduceSub, Int.reduceMul, Int.reduceToNat, Nat.reduceShiftRight, Nat.reduceAnd, Nat.reduceBNe]
    refine ⟨by simp only [inR]; omega, by simp only [inR]; omega, by simp only [inR]; omega, ?_⟩
    refine callF (few_pc raw) ⟨rfl, trivial⟩ rfl rfl ?_
    simp -implicitDefEqProofs only [push_cast, Nat.reduceBEq, Nat.reduceLT, Nat.reduceLeDiff, Nat.reduceAdd, Nat.reduceSub, Nat.reduceMul, Nat.reduceEqDiff, reduceCtorEq, ↓reduceIte, Int.reduceEq, Int.reduceLT, Int.reduceLE, Int.reduceNe, Int.reduceAdd, Int.reduceSub, Int.reduceMul, Int.reduceToNat, Nat.reduceShiftRight, Nat.reduceAnd, Nat.reduceBNe]
    refine LoopW.wk (wk_all (tm' := [(48, I 0), (47, .agg [TT [[x, y, z], [u, v, w]], TT [[x, n, z], [u, v, w]], TT (fewL raw)])]) ⟨rfl, ⟨rfl, ⟨rfl, ⟨⟨rfl, Nat.le_refl _⟩, rfl⟩, ⟨⟨rfl, Nat.le_refl _⟩, rfl⟩, trivial⟩, rfl, trivial⟩, trivial⟩) ?_
    exact law3_loop _ _ _ ⟨by simp, by simp⟩ ⟨by simp, by simp⟩ hs
  · simp -implicitDefEqProofs only [few23H, shA, shAs, shB, shRowB, List.map_cons, List.map_nil, e1, e2, push_cast, Nat.reduceBEq, Nat.reduceLT, Nat.reduceLeDiff, Nat.reduceAdd, Nat.reduceSub, Nat.reduceMul, Nat.reduceEqDiff, reduceCtorEq, ↓reduceIte, Int.reduceEq, Int.reduceLT, Int.reduceLE, Int.reduceNe, Int.reduceAdd, Int.reduceSub, Int.reduceMul, Int.reduceToNat, Nat.reduceShiftRight, Nat.reduceAnd, Nat.reduceBNe]
    refine ⟨by simp only [inR]; omega, by simp only [inR]; omega, by simp only [inR]; omega, ?_⟩
    refine callF (few_pc raw) ⟨rfl, trivial⟩ rfl rfl ?_
    simp -implicitDefEqProofs only [push_cast, Nat.reduceBEq, Nat.reduceLT, Nat.reduceLeDiff, Nat.reduceAdd, Nat.reduceSub, Nat.reduceMul, Nat.reduceEqDiff, reduceCtorEq, ↓reduceIte, Int.reduceEq, Int.reduceLT, Int.reduceLE, Int.reduceNe, Int.reduceAdd, Int.reduceSub, Int.reduceMul, Int.reduceToNat, Nat.reduceShiftRight, Nat.reduceAnd, Nat.reduceBNe]
    refine LoopW.wk (wk_all (tm' := [(48, I 0), (47, .agg [TT [[x, y, z], [u, v, w]], TT [[x, y, n], [u, v, w]], TT (fewL raw)])]) ⟨rfl, ⟨rfl, ⟨rfl, ⟨⟨rfl, Nat.le_refl _⟩, rfl⟩, ⟨⟨rfl, Nat.le_refl _⟩, rfl⟩, trivial⟩, rfl, trivial⟩, trivial⟩) ?_
    exact law3_loop _ _ _ ⟨by simp, by simp⟩ ⟨by simp, by simp⟩ hs
  · simp -implicitDefEqProofs only [few23H, shA, shAs, shB, shRowB, List.map_cons, List.map_nil, e1, e2, push_cast, Nat.reduceBEq, Nat.reduceLT, Nat.reduceLeDiff, Nat.reduceAdd, Nat.reduceSub, Nat.reduceMul, Nat.reduceEqDiff, reduceCtorEq, ↓reduceIte, Int.reduceEq, Int.reduceLT, Int.reduceLE, Int.reduceNe, Int.reduceAdd, Int.reduceSub, Int.reduceMul, Int.reduceToNat, Nat.reduceShiftRight, Nat.reduceAnd, Nat.reduceBNe]
    refine ⟨by simp only [inR]; omega, by simp only [inR]; omega, by simp only [inR]; omega, ?_⟩
    refine callF (few_pc raw) ⟨rfl, trivial⟩ rfl rfl ?_
    simp -implicitDefEqProofs only [push_cast, Nat.reduceBEq, Nat.reduceLT, Nat.reduceLeDiff, Nat.reduceAdd, Nat.reduceSub, Nat.reduceMul, Nat.reduceEqDiff, reduceCtorEq, ↓reduceIte, Int.reduceEq, Int.reduceLT, Int.reduceLE, Int.reduceNe, Int.reduceAdd, Int.reduceSub, Int.reduceMul, Int.reduceToNat, Nat.reduceShiftRight, Nat.reduceAnd, Nat.reduceBNe]
    refine LoopW.wk (wk_all (tm' := [(48, I 0), (47, .agg [TT [[x, y, z], [u, v, w]], TT [[x, y, z], [n, v, w]], TT (fewL raw)])]) ⟨rfl, ⟨rfl, ⟨rfl, ⟨⟨rfl, Nat.le_refl _⟩, rfl⟩, ⟨⟨rfl, Nat.le_refl _⟩, rfl⟩, trivial⟩, rfl, trivial⟩, trivial⟩) ?_
    exact law3_loop _ _ _ ⟨by simp, by simp⟩ ⟨by simp, by simp⟩ hs
  · simp -implicitDefEqProofs only [few23H, shA, shAs, shB, shRowB, List.map_cons, List.map_nil, e1, e2, push_cast, Nat.reduceBEq, Nat.reduceLT, Nat.reduceLeDiff, Nat.reduceAdd, Nat.reduceSub, Nat.reduceMul, Nat.reduceEqDiff, reduceCtorEq, ↓reduceIte, Int.reduceEq, Int.reduceLT, Int.reduceLE, Int.reduceNe, Int.reduceAdd, Int.reduceSub, Int.reduceMul, Int.reduceToNat, Nat.reduceShiftRight, Nat.reduceAnd, Nat.reduceBNe]
    refine ⟨by simp only [inR]; omega, by simp only [inR]; omega, by simp only [inR]; omega, ?_⟩
    refine callF (few_pc raw) ⟨rfl, trivial⟩ rfl rfl ?_
    simp -implicitDefEqProofs only [push_cast, Nat.reduceBEq, Nat.reduceLT, Nat.reduceLeDiff, Nat.reduceAdd, Nat.reduceSub, Nat.reduceMul, Nat.reduceEqDiff, reduceCtorEq, ↓reduceIte, Int.reduceEq, Int.reduceLT, Int.reduceLE, Int.reduceNe, Int.reduceAdd, Int.reduceSub, Int.reduceMul, Int.reduceToNat, Nat.reduceShiftRight, Nat.reduceAnd, Nat.reduceBNe]
    refine LoopW.wk (wk_all (tm' := [(48, I 0), (47, .agg [TT [[x, y, z], [u, v, w]], TT [[x, y, z], [u, n, w]], TT (fewL raw)])]) ⟨rfl, ⟨rfl, ⟨rfl, ⟨⟨rfl, Nat.le_refl _⟩, rfl⟩, ⟨⟨rfl, Nat.le_refl _⟩, rfl⟩, trivial⟩, rfl, trivial⟩, trivial⟩) ?_
    exact law3_loop _ _ _ ⟨by simp, by simp⟩ ⟨by simp, by simp⟩ hs
  · simp -implicitDefEqProofs only [few23H, shA, shAs, shB, shRowB, List.map_cons, List.map_nil, e1, e2, push_cast, Nat.reduceBEq, Nat.reduceLT, Nat.reduceLeDiff, Nat.reduceAdd, Nat.reduceSub, Nat.reduceMul, Nat.reduceEqDiff, reduceCtorEq, ↓reduceIte, Int.reduceEq, Int.reduceLT, Int.reduceLE, Int.reduceNe, Int.reduceAdd, Int.reduceSub, Int.reduceMul, Int.reduceToNat, Nat.reduceShiftRight, Nat.reduceAnd, Nat.reduceBNe]
    refine ⟨by simp only [inR]; omega, by simp only [inR]; omega, by simp only [inR]; omega, ?_⟩
    refine callF (few_pc raw) ⟨rfl, trivial⟩ rfl rfl ?_
    simp -implicitDefEqProofs only [push_cast, Nat.reduceBEq, Nat.reduceLT, Nat.reduceLeDiff, Nat.reduceAdd, Nat.reduceSub, Nat.reduceMul, Nat.reduceEqDiff, reduceCtorEq, ↓reduceIte, Int.reduceEq, Int.reduceLT, Int.reduceLE, Int.reduceNe, Int.reduceAdd, Int.reduceSub, Int.reduceMul, Int.reduceToNat, Nat.reduceShiftRight, Nat.reduceAnd, Nat.reduceBNe]
    refine LoopW.wk (wk_all (tm' := [(48, I 0), (47, .agg [TT [[x, y, z], [u, v, w]], TT [[x, y, z], [u, v, n]], TT (fewL raw)])]) ⟨rfl, ⟨rfl, ⟨rfl, ⟨⟨rfl, Nat.le_refl _⟩, rfl⟩, ⟨⟨rfl, Nat.le_refl _⟩, rfl⟩, trivial⟩, rfl, trivial⟩, trivial⟩) ?_
    exact law3_loop _ _ _ ⟨by simp, by simp⟩ ⟨by simp, by simp⟩ hs
theorem law3_32 (a b m n0 n1 n2 n3 n4 n5 n6 n7 n8 : Int) (x y z u v w : Int) (at_ n : Int) (raw : List (List Int)) (h : Tab [[x, y], [z, u], [v, w]]) (ha : r8 at_) (hd : PC Tryd.prog 10 [DD a b [n0, n1, n2, n3, n4, n5, n6, n7, n8] m] (TT [[x, y], [z, u], [v, w]])) :
    PC Tryd.prog 3 [DD a b [n0, n1, n2, n3, n4, n5, n6, n7, n8] m, .dat (.int .u8) at_, I n, TT raw] (B true) := by
  have hq : 0 ≤ at_.tdiv 4 ∧ at_.tdiv 4 ≤ 255 := by
    have h1 := Int.tdiv_nonneg ha.1 (show (0 : Int) ≤ 4 by omega)
    have h2 := Int.tdiv_le_self 4 ha.1
    have := ha.2
    omega
  have hq2 := ha
  simp only [r8] at hq2
  have hs : okT (fewL raw) := ⟨by simp [fewL]; omega, by intro r hr; simp only [fewL, List.mem_map] at hr; obtain ⟨s, _, rfl⟩ := hr; simp; omega⟩
  have c1 : at_.tmod 3 = 0 ∨ at_.tmod 3 = 1 ∨ at_.tmod 3 = 2 := by
    have := Int.tmod_nonneg 3 ha.1
    have := Int.tmod_lt_of_pos at_ (b := 3) (by omega)
    omega
  have c2 : (at_.tdiv 4).tmod 2 = 0 ∨ (at_.tdiv 4).tmod 2 = 1 := by
    have := Int.tmod_nonneg 2 hq.1
    have := Int.tmod_lt_of_pos (at_.tdiv 4) (b := 2) (by omega)
    omega
  refine pc_fn hmix h3 rfl ?_
  simp -implicitDefEqProofs only [c3, mapN, List.headD_cons, List.tail_cons, push_cast, Nat.reduceBEq, Nat.reduceLT, Nat.reduceLeDiff, Nat.reduceAdd, Nat.reduceSub, Nat.reduceMul, Nat.reduceEqDiff, reduceCtorEq, ↓reduceIte, Int.reduceEq, Int.reduceLT, Int.reduceLE, Int.reduceNe, Int.reduceAdd, Int.reduceSub, Int.reduceMul, Int.reduceToNat, Nat.reduceShiftRight, Nat.reduceAnd, Nat.reduceBNe]
  refine callF hd ⟨⟨rfl, ⟨rfl, rfl⟩, ⟨rfl, rfl⟩, ⟨⟨rfl, rfl⟩, ⟨rfl, rfl⟩, ⟨rfl, rfl⟩, ⟨rfl, rfl⟩, ⟨rfl, rfl⟩, ⟨rfl, rfl⟩, ⟨rfl, rfl⟩, ⟨rfl, rfl⟩, ⟨rfl, rfl⟩, ⟨rfl, rfl⟩, trivial⟩, ⟨rfl, rfl⟩, rfl⟩, trivial⟩ rfl rfl ?_
  simp -implicitDefEqProofs only [push_cast, Nat.reduceBEq, Nat.reduceLT, Nat.reduceLeDiff, Nat.reduceAdd, Nat.reduceSub, Nat.reduceMul, Nat.reduceEqDiff, reduceCtorEq, ↓reduceIte, Int.reduceEq, Int.reduceLT, Int.reduceLE, Int.reduceNe, Int.reduceAdd, Int.reduceSub, Int.reduceMul, Int.reduceToNat, Nat.reduceShiftRight, Nat.reduceAnd, Nat.reduceBNe]
  refine callA (few32 x y z u v w) ⟨rfl, trivial⟩ rfl ?_
  rcases c1 with e1 | e1 | e1 <;> rcases c2 with e2 | e2
  · simp -implicitDefEqProofs only [few32H, shA, shAs, shB, shRowB, List.map_cons, List.map_nil, e1, e2, push_cast, Nat.reduceBEq, Nat.reduceLT, Nat.reduceLeDiff, Nat.reduceAdd, Nat.reduceSub, Nat.reduceMul, Nat.reduceEqDiff, reduceCtorEq, ↓reduceIte, Int.reduceEq, Int.reduceLT, Int.reduceLE, Int.reduceNe, Int.reduceAdd, Int.reduceSub, Int.reduceMul, Int.reduceToNat, Nat.reduceShiftRight, Nat.reduceAnd, Nat.reduceBNe]
    refine ⟨by simp only [inR]; omega, by simp only [inR]; omega, by simp only [inR]; omega, ?_⟩
    refine callF (few_pc raw) ⟨rfl, trivial⟩ rfl rfl ?_
    simp -implicitDefEqProofs only [push_cast, Nat.reduceBEq, Nat.reduceLT, Nat.reduceLeDiff, Nat.reduceAdd, Nat.reduceSub, Nat.reduceMul, Nat.reduceEqDiff, reduceCtorEq, ↓reduceIte, Int.reduceEq, Int.reduceLT, Int.reduceLE, Int.reduceNe, Int.reduceAdd, Int.reduceSub, Int.reduceMul, Int.reduceToNat, Nat.reduceShiftRight, Nat.reduceAnd, Nat.reduceBNe]
    refine LoopW.wk (wk_all (tm' := [(48, I 0), (47, .agg [TT [[x, y], [z, u], [v, w]], TT [[n, y], [z, u], [v, w]], TT (fewL raw)])]) ⟨rfl, ⟨rfl, ⟨rfl, ⟨⟨rfl, Nat.le_refl _⟩, rfl⟩, ⟨⟨rfl, Nat.le_refl _⟩, rfl⟩, ⟨⟨rfl, Nat.le_refl _⟩, rfl⟩, trivial⟩, rfl, trivial⟩, trivial⟩) ?_
    exact law3_loop _ _ _ ⟨by simp, by simp⟩ ⟨by simp, by simp⟩ hs
  · simp -implicitDefEqProofs only [few32H, shA, shAs, shB, shRowB, List.map_cons, List.map_nil, e1, e2, push_cast, Nat.reduceBEq, Nat.reduceLT, Nat.reduceLeDiff, Nat.reduceAdd, Nat.reduceSub, Nat.reduceMul, Nat.reduceEqDiff, reduceCtorEq, ↓reduceIte, Int.reduceEq, Int.reduceLT, Int.reduceLE, Int.reduceNe, Int.reduceAdd, Int.reduceSub, Int.reduceMul, Int.reduceToNat, Nat.reduceShiftRight, Nat.reduceAnd, Nat.reduceBNe]
    refine ⟨by simp only [inR]; omega, by simp only [inR]; omega, by simp only [inR]; omega, ?_⟩
    refine callF (few_pc raw) ⟨rfl, trivial⟩ rfl rfl ?_
    simp -implicitDefEqProofs only [push_cast, Nat.reduceBEq, Nat.reduceLT, Nat.reduceLeDiff, Nat.reduceAdd, Nat.reduceSub, Nat.reduceMul, Nat.reduceEqDiff, reduceCtorEq, ↓reduceIte, Int.reduceEq, Int.reduceLT, Int.reduceLE, Int.reduceNe, Int.reduceAdd, Int.reduceSub, Int.reduceMul, Int.reduceToNat, Nat.reduceShiftRight, Nat.reduceAnd, Nat.reduceBNe]
    refine LoopW.wk (wk_all (tm' := [(48, I 0), (47, .agg [TT [[x, y], [z, u], [v, w]], TT [[x, n], [z, u], [v, w]], TT (fewL raw)])]) ⟨rfl, ⟨rfl, ⟨rfl, ⟨⟨rfl, Nat.le_refl _⟩, rfl⟩, ⟨⟨rfl, Nat.le_refl _⟩, rfl⟩, ⟨⟨rfl, Nat.le_refl _⟩, rfl⟩, trivial⟩, rfl, trivial⟩, trivial⟩) ?_
    exact law3_loop _ _ _ ⟨by simp, by simp⟩ ⟨by simp, by simp⟩ hs
  · simp -implicitDefEqProofs only [few32H, shA, shAs, shB, shRowB, List.map_cons, List.map_nil, e1, e2, push_cast, Nat.reduceBEq, Nat.reduceLT, Nat.reduceLeDiff, Nat.reduceAdd, Nat.reduceSub, Nat.reduceMul, Nat.reduceEqDiff, reduceCtorEq, ↓reduceIte, Int.reduceEq, Int.reduceLT, Int.reduceLE, Int.reduceNe, Int.reduceAdd, Int.reduceSub, Int.reduceMul, Int.reduceToNat, Nat.reduceShiftRight, Nat.reduceAnd, Nat.reduceBNe]
    refine ⟨by simp only [inR]; omega, by simp only [inR]; omega, by simp only [inR]; omega, ?_⟩
    refine callF (few_pc raw) ⟨rfl, trivial⟩ rfl rfl ?_
    simp -implicitDefEqProofs only [push_cast, Nat.reduceBEq, Nat.reduceLT, Nat.reduceLeDiff, Nat.reduceAdd, Nat.reduceSub, Nat.reduceMul, Nat.reduceEqDiff, reduceCtorEq, ↓reduceIte, Int.reduceEq, Int.reduceLT, Int.reduceLE, Int.reduceNe, Int.reduceAdd, Int.reduceSub, Int.reduceMul, Int.reduceToNat, Nat.reduceShiftRight, Nat.reduceAnd, Nat.reduceBNe]
    refine LoopW.wk (wk_all (tm' := [(48, I 0), (47, .agg [TT [[x, y], [z, u], [v, w]], TT [[x, y], [n, u], [v, w]], TT (fewL raw)])]) ⟨rfl, ⟨rfl, ⟨rfl, ⟨⟨rfl, Nat.le_refl _⟩, rfl⟩, ⟨⟨rfl, Nat.le_refl _⟩, rfl⟩, ⟨⟨rfl, Nat.le_refl _⟩, rfl⟩, trivial⟩, rfl, trivial⟩, trivial⟩) ?_
    exact law3_loop _ _ _ ⟨by simp, by simp⟩ ⟨by simp, by simp⟩ hs
  · simp -implicitDefEqProofs only [few32H, shA, shAs, shB, shRowB, List.map_cons, List.map_nil, e1, e2, push_cast, Nat.reduceBEq, Nat.reduceLT, Nat.reduceLeDiff, Nat.reduceAdd, Nat.reduceSub, Nat.reduceMul, Nat.reduceEqDiff, reduceCtorEq, ↓reduceIte, Int.reduceEq, Int.reduceLT, Int.reduceLE, Int.reduceNe, Int.reduceAdd, Int.reduceSub, Int.reduceMul, Int.reduceToNat, Nat.reduceShiftRight, Nat.reduceAnd, Nat.reduceBNe]
    refine ⟨by simp only [inR]; omega, by simp only [inR]; omega, by simp only [inR]; omega, ?_⟩
    refine callF (few_pc raw) ⟨rfl, trivial⟩ rfl rfl ?_
    simp -implicitDefEqProofs only [push_cast, Nat.reduceBEq, Nat.reduceLT, Nat.reduceLeDiff, Nat.reduceAdd, Nat.reduceSub, Nat.reduceMul, Nat.reduceEqDiff, reduceCtorEq, ↓reduceIte, Int.reduceEq, Int.reduceLT, Int.reduceLE, Int.reduceNe, Int.reduceAdd, Int.reduceSub, Int.reduceMul, Int.reduceToNat, Nat.reduceShiftRight, Nat.reduceAnd, Nat.reduceBNe]
    refine LoopW.wk (wk_all (tm' := [(48, I 0), (47, .agg [TT [[x, y], [z, u], [v, w]], TT [[x, y], [z, n], [v, w]], TT (fewL raw)])]) ⟨rfl, ⟨rfl, ⟨rfl, ⟨⟨rfl, Nat.le_refl _⟩, rfl⟩, ⟨⟨rfl, Nat.le_refl _⟩, rfl⟩, ⟨⟨rfl, Nat.le_refl _⟩, rfl⟩, trivial⟩, rfl, trivial⟩, trivial⟩) ?_
    exact law3_loop _ _ _ ⟨by simp, by simp⟩ ⟨by simp, by simp⟩ hs
  · simp -implicitDefEqProofs only [few32H, shA, shAs, shB, shRowB, List.map_cons, List.map_nil, e1, e2, push_cast, Nat.reduceBEq, Nat.reduceLT, Nat.reduceLeDiff, Nat.reduceAdd, Nat.reduceSub, Nat.reduceMul, Nat.reduceEqDiff, reduceCtorEq, ↓reduceIte, Int.reduceEq, Int.reduceLT, Int.reduceLE, Int.reduceNe, Int.reduceAdd, Int.reduceSub, Int.reduceMul, Int.reduceToNat, Nat.reduceShiftRight, Nat.reduceAnd, Nat.reduceBNe]
    refine ⟨by simp only [inR]; omega, by simp only [inR]; omega, by simp only [inR]; omega, ?_⟩
    refine callF (few_pc raw) ⟨rfl, trivial⟩ rfl rfl ?_
    simp -implicitDefEqProofs only [push_cast, Nat.reduceBEq, Nat.reduceLT, Nat.reduceLeDiff, Nat.reduceAdd, Nat.reduceSub, Nat.reduceMul, Nat.reduceEqDiff, reduceCtorEq, ↓reduceIte, Int.reduceEq, Int.reduceLT, Int.reduceLE, Int.reduceNe, Int.reduceAdd, Int.reduceSub, Int.reduceMul, Int.reduceToNat, Nat.reduceShiftRight, Nat.reduceAnd, Nat.reduceBNe]
    refine LoopW.wk (wk_all (tm' := [(48, I 0), (47, .agg [TT [[x, y], [z, u], [v, w]], TT [[x, y], [z, u], [n, w]], TT (fewL raw)])]) ⟨rfl, ⟨rfl, ⟨rfl, ⟨⟨rfl, Nat.le_refl _⟩, rfl⟩, ⟨⟨rfl, Nat.le_refl _⟩, rfl⟩, ⟨⟨rfl, Nat.le_refl _⟩, rfl⟩, trivial⟩, rfl, trivial⟩, trivial⟩) ?_
    exact law3_loop _ _ _ ⟨by simp, by simp⟩ ⟨by simp, by simp⟩ hs
  · simp -implicitDefEqProofs only [few32H, shA, shAs, shB, shRowB, List.map_cons, List.map_nil, e1, e2, push_cast, Nat.reduceBEq, Nat.reduceLT, Nat.reduceLeDiff, Nat.reduceAdd, Nat.reduceSub, Nat.reduceMul, Nat.reduceEqDiff, reduceCtorEq, ↓reduceIte, Int.reduceEq, Int.reduceLT, Int.reduceLE, Int.reduceNe, Int.reduceAdd, Int.reduceSub, Int.reduceMul, Int.reduceToNat, Nat.reduceShiftRight, Nat.reduceAnd, Nat.reduceBNe]
    refine ⟨by simp only [inR]; omega, by simp only [inR]; omega, by simp only [inR]; omega, ?_⟩
    refine callF (few_pc raw) ⟨rfl, trivial⟩ rfl rfl ?_
    simp -implicitDefEqProofs only [push_cast, Nat.reduceBEq, Nat.reduceLT, Nat.reduceLeDiff, Nat.reduceAdd, Nat.reduceSub, Nat.reduceMul, Nat.reduceEqDiff, reduceCtorEq, ↓reduceIte, Int.reduceEq, Int.reduceLT, Int.reduceLE, Int.reduceNe, Int.reduceAdd, Int.reduceSub, Int.reduceMul, Int.reduceToNat, Nat.reduceShiftRight, Nat.reduceAnd, Nat.reduceBNe]
    refine LoopW.wk (wk_all (tm' := [(48, I 0), (47, .agg [TT [[x, y], [z, u], [v, w]], TT [[x, y], [z, u], [v, n]], TT (fewL raw)])]) ⟨rfl, ⟨rfl, ⟨rfl, ⟨⟨rfl, Nat.le_refl _⟩, rfl⟩, ⟨⟨rfl, Nat.le_refl _⟩, rfl⟩, ⟨⟨rfl, Nat.le_refl _⟩, rfl⟩, trivial⟩, rfl, trivial⟩, trivial⟩) ?_
    exact law3_loop _ _ _ ⟨by simp, by simp⟩ ⟨by simp, by simp⟩ hs
theorem law3_33 (a b m n0 n1 n2 n3 n4 n5 n6 n7 n8 : Int) (x y z u v w p q r : Int) (at_ n : Int) (raw : List (List Int)) (h : Tab [[x, y, z], [u, v, w], [p, q, r]]) (ha : r8 at_) (hd : PC Tryd.prog 10 [DD a b [n0, n1, n2, n3, n4, n5, n6, n7, n8] m] (TT [[x, y, z], [u, v, w], [p, q, r]])) :
    PC Tryd.prog 3 [DD a b [n0, n1, n2, n3, n4, n5, n6, n7, n8] m, .dat (.int .u8) at_, I n, TT raw] (B true) := by
  have hq : 0 ≤ at_.tdiv 4 ∧ at_.tdiv 4 ≤ 255 := by
    have h1 := Int.tdiv_nonneg ha.1 (show (0 : Int) ≤ 4 by omega)
    have h2 := Int.tdiv_le_self 4 ha.1
    have := ha.2
    omega
  have hq2 := ha
  simp only [r8] at hq2
  have hs : okT (fewL raw) := ⟨by simp [fewL]; omega, by intro r hr; simp only [fewL, List.mem_map] at hr; obtain ⟨s, _, rfl⟩ := hr; simp; omega⟩
  have c1 : at_.tmod 3 = 0 ∨ at_.tmod 3 = 1 ∨ at_.tmod 3 = 2 := by
    have := Int.tmod_nonneg 3 ha.1
    have := Int.tmod_lt_of_pos at_ (b := 3) (by omega)
    omega
  have c2 : (at_.tdiv 4).tmod 3 = 0 ∨ (at_.tdiv 4).tmod 3 = 1 ∨ (at_.tdiv 4).tmod 3 = 2 := by
    have := Int.tmod_nonneg 3 hq.1
    have := Int.tmod_lt_of_pos (at_.tdiv 4) (b := 3) (by omega)
    omega
  refine pc_fn hmix h3 rfl ?_
  simp -implicitDefEqProofs only [c3, mapN, List.headD_cons, List.tail_cons, push_cast, Nat.reduceBEq, Nat.reduceLT, Nat.reduceLeDiff, Nat.reduceAdd, Nat.reduceSub, Nat.reduceMul, Nat.reduceEqDiff, reduceCtorEq, ↓reduceIte, Int.reduceEq, Int.reduceLT, Int.reduceLE, Int.reduceNe, Int.reduceAdd, Int.reduceSub, Int.reduceMul, Int.reduceToNat, Nat.reduceShiftRight, Nat.reduceAnd, Nat.reduceBNe]
  refine callF hd ⟨⟨rfl, ⟨rfl, rfl⟩, ⟨rfl, rfl⟩, ⟨⟨rfl, rfl⟩, ⟨rfl, rfl⟩, ⟨rfl, rfl⟩, ⟨rfl, rfl⟩, ⟨rfl, rfl⟩, ⟨rfl, rfl⟩, ⟨rfl, rfl⟩, ⟨rfl, rfl⟩, ⟨rfl, rfl⟩, ⟨rfl, rfl⟩, trivial⟩, ⟨rfl, rfl⟩, rfl⟩, trivial⟩ rfl rfl ?_
  simp -implicitDefEqProofs only [push_cast, Nat.reduceBEq, Nat.reduceLT, Nat.reduceLeDiff, Nat.reduceAdd, Nat.reduceSub, Nat.reduceMul, Nat.reduceEqDiff, reduceCtorEq, ↓reduceIte, Int.reduceEq, Int.reduceLT, Int.reduceLE, Int.reduceNe, Int.reduceAdd, Int.reduceSub, Int.reduceMul, Int.reduceToNat, Nat.reduceShiftRight, Nat.reduceAnd, Nat.reduceBNe]
  refine callA (few33 x y z u v w p q r) ⟨rfl, trivial⟩ rfl ?_
  rcases c1 with e1 | e1 | e1 <;> rcases c2 with e2 | e2 | e2
  · simp -implicitDefEqProofs only [few33H, shA, shAs, shB, shRowB, List.map_cons, List.map_nil, e1, e2, push_cast, Nat.reduceBEq, Nat.reduceLT, Nat.reduceLeDiff, Nat.reduceAdd, Nat.reduceSub, Nat.reduceMul, Nat.reduceEqDiff, reduceCtorEq, ↓reduceIte, Int.reduceEq, Int.reduceLT, Int.reduceLE, Int.reduceNe, Int.reduceAdd, Int.reduceSub, Int.reduceMul, Int.reduceToNat, Nat.reduceShiftRight, Nat.reduceAnd, Nat.reduceBNe]
    refine ⟨by simp only [inR]; omega, by simp only [inR]; omega, by simp only [inR]; omega, ?_⟩
    refine callF (few_pc raw) ⟨rfl, trivial⟩ rfl rfl ?_
    simp -implicitDefEqProofs only [push_cast, Nat.reduceBEq, Nat.reduceLT, Nat.reduceLeDiff, Nat.reduceAdd, Nat.reduceSub, Nat.reduceMul, Nat.reduceEqDiff, reduceCtorEq, ↓reduceIte, Int.reduceEq, Int.reduceLT, Int.reduceLE, Int.reduceNe, Int.reduceAdd, Int.reduceSub, Int.reduceMul, Int.reduceToNat, Nat.reduceShiftRight, Nat.reduceAnd, Nat.reduceBNe]
    refine LoopW.wk (wk_all (tm' := [(48, I 0), (47, .agg [TT [[x, y, z], [u, v, w], [p, q, r]], TT [[n, y, z], [u, v, w], [p, q, r]], TT (fewL raw)])]) ⟨rfl, ⟨rfl, ⟨rfl, ⟨⟨rfl, Nat.le_refl _⟩, rfl⟩, ⟨⟨rfl, Nat.le_refl _⟩, rfl⟩, ⟨⟨rfl, Nat.le_refl _⟩, rfl⟩, trivial⟩, rfl, trivial⟩, trivial⟩) ?_
    exact law3_loop _ _ _ ⟨by simp, by simp⟩ ⟨by simp, by simp⟩ hs
  · simp -implicitDefEqProofs only [few33H, shA, shAs, shB, shRowB, List.map_cons, List.map_nil, e1, e2, push_cast, Nat.reduceBEq, Nat.reduceLT, Nat.reduceLeDiff, Nat.reduceAdd, Nat.reduceSub, Nat.reduceMul, Nat.reduceEqDiff, reduceCtorEq, ↓reduceIte, Int.reduceEq, Int.reduceLT, Int.reduceLE, Int.reduceNe, Int.reduceAdd, Int.reduceSub, Int.reduceMul, Int.reduceToNat, Nat.reduceShiftRight, Nat.reduceAnd, Nat.reduceBNe]
    refine ⟨by simp only [inR]; omega, by simp only [inR]; omega, by simp only [inR]; omega, ?_⟩
    refine callF (few_pc raw) ⟨rfl, trivial⟩ rfl rfl ?_
    simp -implicitDefEqProofs only [push_cast, Nat.reduceBEq, Nat.reduceLT, Nat.reduceLeDiff, Nat.reduceAdd, Nat.reduceSub, Nat.reduceMul, Nat.reduceEqDiff, reduceCtorEq, ↓reduceIte, Int.reduceEq, Int.reduceLT, Int.reduceLE, Int.reduceNe, Int.reduceAdd, Int.reduceSub, Int.reduceMul, Int.reduceToNat, Nat.reduceShiftRight, Nat.reduceAnd, Nat.reduceBNe]
    refine LoopW.wk (wk_all (tm' := [(48, I 0), (47, .agg [TT [[x, y, z], [u, v, w], [p, q, r]], TT [[x, n, z], [u, v, w], [p, q, r]], TT (fewL raw)])]) ⟨rfl, ⟨rfl, ⟨rfl, ⟨⟨rfl, Nat.le_refl _⟩, rfl⟩, ⟨⟨rfl, Nat.le_refl _⟩, rfl⟩, ⟨⟨rfl, Nat.le_refl _⟩, rfl⟩, trivial⟩, rfl, trivial⟩, trivial⟩) ?_
    exact law3_loop _ _ _ ⟨by simp, by simp⟩ ⟨by simp, by simp⟩ hs
  · simp -implicitDefEqProofs only [few33H, shA, shAs, shB, shRowB, List.map_cons, List.map_nil, e1, e2, push_cast, Nat.reduceBEq, Nat.reduceLT, Nat.reduceLeDiff, Nat.reduceAdd, Nat.reduceSub, Nat.reduceMul, Nat.reduceEqDiff, reduceCtorEq, ↓reduceIte, Int.reduceEq, Int.reduceLT, Int.reduceLE, Int.reduceNe, Int.reduceAdd, Int.reduceSub, Int.reduceMul, Int.reduceToNat, Nat.reduceShiftRight, Nat.reduceAnd, Nat.reduceBNe]
    refine ⟨by simp only [inR]; omega, by simp only [inR]; omega, by simp only [inR]; omega, ?_⟩
    refine callF (few_pc raw) ⟨rfl, trivial⟩ rfl rfl ?_
    simp -implicitDefEqProofs only [push_cast, Nat.reduceBEq, Nat.reduceLT, Nat.reduceLeDiff, Nat.reduceAdd, Nat.reduceSub, Nat.reduceMul, Nat.reduceEqDiff, reduceCtorEq, ↓reduceIte, Int.reduceEq, Int.reduceLT, Int.reduceLE, Int.reduceNe, Int.reduceAdd, Int.reduceSub, Int.reduceMul, Int.reduceToNat, Nat.reduceShiftRight, Nat.reduceAnd, Nat.reduceBNe]
    refine LoopW.wk (wk_all (tm' := [(48, I 0), (47, .agg [TT [[x, y, z], [u, v, w], [p, q, r]], TT [[x, y, n], [u, v, w], [p, q, r]], TT (fewL raw)])]) ⟨rfl, ⟨rfl, ⟨rfl, ⟨⟨rfl, Nat.le_refl _⟩, rfl⟩, ⟨⟨rfl, Nat.le_refl _⟩, rfl⟩, ⟨⟨rfl, Nat.le_refl _⟩, rfl⟩, trivial⟩, rfl, trivial⟩, trivial⟩) ?_
    exact law3_loop _ _ _ ⟨by simp, by simp⟩ ⟨by simp, by simp⟩ hs
  · simp -implicitDefEqProofs only [few33H, shA, shAs, shB, shRowB, List.map_cons, List.map_nil, e1, e2, push_cast, Nat.reduceBEq, Nat.reduceLT, Nat.reduceLeDiff, Nat.reduceAdd, Nat.reduceSub, Nat.reduceMul, Nat.reduceEqDiff, reduceCtorEq, ↓reduceIte, Int.reduceEq, Int.reduceLT, Int.reduceLE, Int.reduceNe, Int.reduceAdd, Int.reduceSub, Int.reduceMul, Int.reduceToNat, Nat.reduceShiftRight, Nat.reduceAnd, Nat.reduceBNe]
    refine ⟨by simp only [inR]; omega, by simp only [inR]; omega, by simp only [inR]; omega, ?_⟩
    refine callF (few_pc raw) ⟨rfl, trivial⟩ rfl rfl ?_
    simp -implicitDefEqProofs only [push_cast, Nat.reduceBEq, Nat.reduceLT, Nat.reduceLeDiff, Nat.reduceAdd, Nat.reduceSub, Nat.reduceMul, Nat.reduceEqDiff, reduceCtorEq, ↓reduceIte, Int.reduceEq, Int.reduceLT, Int.reduceLE, Int.reduceNe, Int.reduceAdd, Int.reduceSub, Int.reduceMul, Int.reduceToNat, Nat.reduceShiftRight, Nat.reduceAnd, Nat.reduceBNe]
    refine LoopW.wk (wk_all (tm' := [(48, I 0), (47, .agg [TT [[x, y, z], [u, v, w], [p, q, r]], TT [[x, y, z], [n, v, w], [p, q, r]], TT (fewL raw)])]) ⟨rfl, ⟨rfl, ⟨rfl, ⟨⟨rfl, Nat.le_refl _⟩, rfl⟩, ⟨⟨rfl, Nat.le_refl _⟩, rfl⟩, ⟨⟨rfl, Nat.le_refl _⟩, rfl⟩, trivial⟩, rfl, trivial⟩, trivial⟩) ?_
    exact law3_loop _ _ _ ⟨by simp, by simp⟩ ⟨by simp, by simp⟩ hs
  · simp -implicitDefEqProofs only [few33H, shA, shAs, shB, shRowB, List.map_cons, List.map_nil, e1, e2, push_cast, Nat.reduceBEq, Nat.reduceLT, Nat.reduceLeDiff, Nat.reduceAdd, Nat.reduceSub, Nat.reduceMul, Nat.reduceEqDiff, reduceCtorEq, ↓reduceIte, Int.reduceEq, Int.reduceLT, Int.reduceLE, Int.reduceNe, Int.reduceAdd, Int.reduceSub, Int.reduceMul, Int.reduceToNat, Nat.reduceShiftRight, Nat.reduceAnd, Nat.reduceBNe]
    refine ⟨by simp only [inR]; omega, by simp only [inR]; omega, by simp only [inR]; omega, ?_⟩
    refine callF (few_pc raw) ⟨rfl, trivial⟩ rfl rfl ?_
    simp -implicitDefEqProofs only [push_cast, Nat.reduceBEq, Nat.reduceLT, Nat.reduceLeDiff, Nat.reduceAdd, Nat.reduceSub, Nat.reduceMul, Nat.reduceEqDiff, reduceCtorEq, ↓reduceIte, Int.reduceEq, Int.reduceLT, Int.reduceLE, Int.reduceNe, Int.reduceAdd, Int.reduceSub, Int.reduceMul, Int.reduceToNat, Nat.reduceShiftRight, Nat.reduceAnd, Nat.reduceBNe]
    refine LoopW.wk (wk_all (tm' := [(48, I 0), (47, .agg [TT [[x, y, z], [u, v, w], [p, q, r]], TT [[x, y, z], [u, n, w], [p, q, r]], TT (fewL raw)])]) ⟨rfl, ⟨rfl, ⟨rfl, ⟨⟨rfl, Nat.le_refl _⟩, rfl⟩, ⟨⟨rfl, Nat.le_refl _⟩, rfl⟩, ⟨⟨rfl, Nat.le_refl _⟩, rfl⟩, trivial⟩, rfl, trivial⟩, trivial⟩) ?_
    exact law3_loop _ _ _ ⟨by simp, by simp⟩ ⟨by simp, by simp⟩ hs
  · simp -implicitDefEqProofs only [few33H, shA, shAs, shB, shRowB, List.map_cons, List.map_nil, e1, e2, push_cast, Nat.reduceBEq, Nat.reduceLT, Nat.reduceLeDiff, Nat.reduceAdd, Nat.reduceSub, Nat.reduceMul, Nat.reduceEqDiff, reduceCtorEq, ↓reduceIte, Int.reduceEq, Int.reduceLT, Int.reduceLE, Int.reduceNe, Int.reduceAdd, Int.reduceSub, Int.reduceMul, Int.reduceToNat, Nat.reduceShiftRight, Nat.reduceAnd, Nat.reduceBNe]
    refine ⟨by simp only [inR]; omega, by simp only [inR]; omega, by simp only [inR]; omega, ?_⟩
    refine callF (few_pc raw) ⟨rfl, trivial⟩ rfl rfl ?_
    simp -implicitDefEqProofs only [push_cast, Nat.reduceBEq, Nat.reduceLT, Nat.reduceLeDiff, Nat.reduceAdd, Nat.reduceSub, Nat.reduceMul, Nat.reduceEqDiff, reduceCtorEq, ↓reduceIte, Int.reduceEq, Int.reduceLT, Int.reduceLE, Int.reduceNe, Int.reduceAdd, Int.reduceSub, Int.reduceMul, Int.reduceToNat, Nat.reduceShiftRight, Nat.reduceAnd, Nat.reduceBNe]
    refine LoopW.wk (wk_all (tm' := [(48, I 0), (47, .agg [TT [[x, y, z], [u, v, w], [p, q, r]], TT [[x, y, z], [u, v, n], [p, q, r]], TT (fewL raw)])]) ⟨rfl, ⟨rfl, ⟨rfl, ⟨⟨rfl, Nat.le_refl _⟩, rfl⟩, ⟨⟨rfl, Nat.le_refl _⟩, rfl⟩, ⟨⟨rfl, Nat.le_refl _⟩, rfl⟩, trivial⟩, rfl, trivial⟩, trivial⟩) ?_
    exact law3_loop _ _ _ ⟨by simp, by simp⟩ ⟨by simp, by simp⟩ hs
  · simp -implicitDefEqProofs only [few33H, shA, shAs, shB, shRowB, List.map_cons, List.map_nil, e1, e2, push_cast, Nat.reduceBEq, Nat.reduceLT, Nat.reduceLeDiff, Nat.reduceAdd, Nat.reduceSub, Nat.reduceMul, Nat.reduceEqDiff, reduceCtorEq, ↓reduceIte, Int.reduceEq, Int.reduceLT, Int.reduceLE, Int.reduceNe, Int.reduceAdd, Int.reduceSub, Int.reduceMul, Int.reduceToNat, Nat.reduceShiftRight, Nat.reduceAnd, Nat.reduceBNe]
    refine ⟨by simp only [inR]; omega, by simp only [inR]; omega, by simp only [inR]; omega, ?_⟩
    refine callF (few_pc raw) ⟨rfl, trivial⟩ rfl rfl ?_
    simp -implicitDefEqProofs only [push_cast, Nat.reduceBEq, Nat.reduceLT, Nat.reduceLeDiff, Nat.reduceAdd, Nat.reduceSub, Nat.reduceMul, Nat.reduceEqDiff, reduceCtorEq, ↓reduceIte, Int.reduceEq, Int.reduceLT, Int.reduceLE, Int.reduceNe, Int.reduceAdd, Int.reduceSub, Int.reduceMul, Int.reduceToNat, Nat.reduceShiftRight, Nat.reduceAnd, Nat.reduceBNe]
    refine LoopW.wk (wk_all (tm' := [(48, I 0), (47, .agg [TT [[x, y, z], [u, v, w], [p, q, r]], TT [[x, y, z], [u, v, w], [n, q, r]], TT (fewL raw)])]) ⟨rfl, ⟨rfl, ⟨rfl, ⟨⟨rfl, Nat.le_refl _⟩, rfl⟩, ⟨⟨rfl, Nat.le_refl _⟩, rfl⟩, ⟨⟨rfl, Nat.le_refl _⟩, rfl⟩, trivial⟩, rfl, trivial⟩, trivial⟩) ?_
    exact law3_loop _ _ _ ⟨by simp, by simp⟩ ⟨by simp, by simp⟩ hs
  · simp -implicitDefEqProofs only [few33H, shA, shAs, shB, shRowB, List.map_cons, List.map_nil, e1, e2, push_cast, Nat.reduceBEq, Nat.reduceLT, Nat.reduceLeDiff, Nat.reduceAdd, Nat.reduceSub, Nat.reduceMul, Nat.reduceEqDiff, reduceCtorEq, ↓reduceIte, Int.reduceEq, Int.reduceLT, Int.reduceLE, Int.reduceNe, Int.reduceAdd, Int.reduceSub, Int.reduceMul, Int.reduceToNat, Nat.reduceShiftRight, Nat.reduceAnd, Nat.reduceBNe]
    refine ⟨by simp only [inR]; omega, by simp only [inR]; omega, by simp only [inR]; omega, ?_⟩
    refine callF (few_pc raw) ⟨rfl, trivial⟩ rfl rfl ?_
    simp -implicitDefEqProofs only [push_cast, Nat.reduceBEq, Nat.reduceLT, Nat.reduceLeDiff, Nat.reduceAdd, Nat.reduceSub, Nat.reduceMul, Nat.reduceEqDiff, reduceCtorEq, ↓reduceIte, Int.reduceEq, Int.reduceLT, Int.reduceLE, Int.reduceNe, Int.reduceAdd, Int.reduceSub, Int.reduceMul, Int.reduceToNat, Nat.reduceShiftRight, Nat.reduceAnd, Nat.reduceBNe]
    refine LoopW.wk (wk_all (tm' := [(48, I 0), (47, .agg [TT [[x, y, z], [u, v, w], [p, q, r]], TT [[x, y, z], [u, v, w], [p, n, r]], TT (fewL raw)])]) ⟨rfl, ⟨rfl, ⟨rfl, ⟨⟨rfl, Nat.le_refl _⟩, rfl⟩, ⟨⟨rfl, Nat.le_refl _⟩, rfl⟩, ⟨⟨rfl, Nat.le_refl _⟩, rfl⟩, trivial⟩, rfl, trivial⟩, trivial⟩) ?_
    exact law3_loop _ _ _ ⟨by simp, by simp⟩ ⟨by simp, by simp⟩ hs
  · simp -implicitDefEqProofs only [few33H, shA, shAs, shB, shRowB, List.map_cons, List.map_nil, e1, e2, push_cast, Nat.reduceBEq, Nat.reduceLT, Nat.reduceLeDiff, Nat.reduceAdd, Nat.reduceSub, Nat.reduceMul, Nat.reduceEqDiff, reduceCtorEq, ↓reduceIte, Int.reduceEq, Int.reduceLT, Int.reduceLE, Int.reduceNe, Int.reduceAdd, Int.reduceSub, Int.reduceMul, Int.reduceToNat, Nat.reduceShiftRight, Nat.reduceAnd, Nat.reduceBNe]
    refine ⟨by simp only [inR]; omega, by simp only [inR]; omega, by simp only [inR]; omega, ?_⟩
    refine callF (few_pc raw) ⟨rfl, trivial⟩ rfl rfl ?_
    simp -implicitDefEqProofs only [push_cast, Nat.reduceBEq, Nat.reduceLT, Nat.reduceLeDiff, Nat.reduceAdd, Nat.reduceSub, Nat.reduceMul, Nat.reduceEqDiff, reduceCtorEq, ↓reduceIte, Int.reduceEq, Int.reduceLT, Int.reduceLE, Int.reduceNe, Int.reduceAdd, Int.reduceSub, Int.reduceMul, Int.reduceToNat, Nat.reduceShiftRight, Nat.reduceAnd, Nat.reduceBNe]
    refine LoopW.wk (wk_all (tm' := [(48, I 0), (47, .agg [TT [[x, y, z], [u, v, w], [p, q, r]], TT [[x, y, z], [u, v, w], [p, q, n]], TT (fewL raw)])]) ⟨rfl, ⟨rfl, ⟨rfl, ⟨⟨rfl, Nat.le_refl _⟩, rfl⟩, ⟨⟨rfl, Nat.le_refl _⟩, rfl⟩, ⟨⟨rfl, Nat.le_refl _⟩, rfl⟩, trivial⟩, rfl, trivial⟩, trivial⟩) ?_
    exact law3_loop _ _ _ ⟨by simp, by simp⟩ ⟨by simp, by simp⟩ hs

theorem law3_pc {a b m n0 n1 n2 n3 n4 n5 n6 n7 n8 : Int} (hr : r8 a ∧ r8 b ∧ r8 m ∧ r8 n0 ∧ r8 n1 ∧ r8 n2 ∧ r8 n3 ∧ r8 n4 ∧ r8 n5 ∧ r8 n6 ∧ r8 n7 ∧ r8 n8) (at_ n : Int) (raw : List (List Int)) (ha : r8 at_) :
    PC Tryd.prog 3 [DD a b [n0, n1, n2, n3, n4, n5, n6, n7, n8] m, .dat (.int .u8) at_, I n, TT raw] (B true) := by
  obtain ⟨t, ht, hp⟩ := draft_pc hr
  revert hp
  exact shapes (P := fun t => PC Tryd.prog 10 [DD a b [n0, n1, n2, n3, n4, n5, n6, n7, n8] m] (TT t) → PC Tryd.prog 3 [DD a b [n0, n1, n2, n3, n4, n5, n6, n7, n8] m, .dat (.int .u8) at_, I n, TT raw] (B true)) ht
    (fun _ _ _ _ h _ hp => law3_22 _ _ _ _ _ _ _ _ _ _ _ _ _ _ _ _ _ _ raw h ha hp) (fun _ _ _ _ _ _ h _ hp => law3_23 _ _ _ _ _ _ _ _ _ _ _ _ _ _ _ _ _ _ _ _ raw h ha hp)
    (fun _ _ _ _ _ _ h _ hp => law3_32 _ _ _ _ _ _ _ _ _ _ _ _ _ _ _ _ _ _ _ _ raw h ha hp) (fun _ _ _ _ _ _ _ _ _ h _ hp => law3_33 _ _ _ _ _ _ _ _ _ _ _ _ _ _ _ _ _ _ _ _ _ _ _ raw h ha hp)

end Go.Proofs.YtligakiolapkkaaDoor
