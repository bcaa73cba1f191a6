/- Texts of this claim, joined: an abstract machine over the model, proved sound; contracts of functions. -/
import Derived.Test.YtligakiolapkkaaDoorV34
import Derived.Test.YtligakiolapkkaaDoorM1
set_option linter.unusedSimpArgs false
set_option linter.unusedVariables false

namespace Go.Proofs.YtligakiolapkkaaDoor
open Go GoV
set_option maxHeartbeats 8000000
set_option maxRecDepth 10000
set_option linter.unusedVariables false
set_option linter.unusedSimpArgs false
def caps23 (K : Nat) : List AV := [.ptr (K + 5) 0, .ptr (K + 3) 0, .ptr (K + 1) 0, .ptr (K + 2) 0, .ptr (K + 8) 0]
def L23 (K k : Nat) (a0 a1 c0 c1 c2 x00 x01 x02 x10 x11 x12 : Int) : Heap := [.box [.yld k], .box [I a0, I a1, I 0], .box [I c0, I c1, I c2], .box [.slc (K + 6) 3 0 3, .slc (K + 7) 3 0 3], .box [.slc (K + 4) 0 0 2], .seq (.int .i64) [x00, x01, x02] true, .seq (.int .i64) [x10, x11, x12] true, .box [.fn 56 [] [.ptr (K + 5) 0, .ptr (K + 3) 0, .ptr (K + 1) 0, .ptr (K + 2) 0, .ptr (K + 8) 0]]]
section
variable {σ : Type} {J : σ → Prop} {C : σ → Heap} {K k : Nat} {upd : σ → List (List Int) → σ} {r0 r1 k0 k1 k2 : Int}
def Yields23 (J : σ → Prop) (C : σ → Heap) (K k : Nat) (upd : σ → List (List Int) → σ) (r0 r1 k0 k1 k2 : Int) : Prop := ∀ (s : σ) (a0 a1 c0 c1 c2 x00 x01 x02 x10 x11 x12 : Int), J s → (0 ≤ x00 ∧ 0 ≤ x01 ∧ 0 ≤ x02 ∧ 0 ≤ x10 ∧ 0 ≤ x11 ∧ 0 ≤ x12) → (x00 + x01 + x02 = r0 ∧ x10 + x11 + x12 = r1) → (x00 + x10 = k0 ∧ x01 + x11 = k1 ∧ x02 + x12 = k2) →
    VYield Tryd.prog k [.slc (K + 4) 0 0 2] (C s ++ L23 K k a0 a1 c0 c1 c2 x00 x01 x02 x10 x11 x12) (fun v h' => v = B true ∧ h' = C (upd s [[x00, x01, x02], [x10, x11, x12]]) ++ L23 K k a0 a1 c0 c1 c2 x00 x01 x02 x10 x11 x12)
theorem fill23_20 (hK : ∀ s, (C s).length = K + 1) (hR : ∀ s n, K + 1 ≤ n → rowsRefs n (C s) = true) (hk : k < K + 1) (hY : Yields23 J C K k upd r0 r1 k0 k1 k2) (s : σ) (a0 a1 c0 c1 c2 x00 x01 x02 x10 x11 x12 : Int) (hJ : Pre J upd s ((tabE [] [c0, c1, c2]).map fun rest => [x00, x01, x02] :: [x10, x11, x12] :: rest)) (hi : 0 ≤ x00 ∧ 0 ≤ x01 ∧ 0 ≤ x02 ∧ 0 ≤ x10 ∧ 0 ≤ x11 ∧ 0 ≤ x12 ∧ x00 + x01 + x02 = r0 ∧ x10 + x11 + x12 = r1 ∧ x00 + x10 + c0 = k0 ∧ 0 ≤ c0 ∧ x01 + x11 + c1 = k1 ∧ 0 ≤ c1 ∧ x02 + x12 + c2 = k2 ∧ 0 ≤ c2 ∧ r0 ≤ 20 ∧ r1 ≤ 20 ∧ k0 ≤ 20 ∧ k1 ≤ 20 ∧ k2 ≤ 20) :
    VCalls Tryd.prog 56 ([I 2, I 0] ++ caps23 K) (C s ++ L23 K k a0 a1 c0 c1 c2 x00 x01 x02 x10 x11 x12) (fun v h' => v = B true ∧ ∃ ys : List Int, h' = C (((tabE [] [c0, c1, c2]).map fun rest => [x00, x01, x02] :: [x10, x11, x12] :: rest).foldl upd s) ++ L23 K k a0 a1 c0 c1 c2 x00 x01 x02 x10 x11 x12) := by
  have kb := kbeq K
  by_cases hz : c0 = 0 ∧ c1 = 0 ∧ c2 = 0
  · obtain ⟨rfl, rfl, rfl⟩ := hz
    refine vcalls_fn hmix h56 rfl ?_
    simp -implicitDefEqProofs only [c56, caps23, gK1 hK, gK2 hK, gK3 hK, gK4 hK, gK5 hK, gK6 hK, gK7 hK, gK8 hK, sK1 hK, sK2 hK, sK3 hK, sK4 hK, sK5 hK, sK6 hK, sK7 hK, sK8 hK, kb, List.length_append, beq_self_eq_true, L23, push_cast, Nat.reduceBEq, Nat.reduceLT, Nat.reduceLeDiff, Nat.reduceAdd, Nat.reduceSub, Nat.reduceMul, Nat.reduceEqDiff, reduceCtorEq, ↓reduceIte, Int.reduceEq, Int.reduceLT, Int.reduceLE, Int.reduceNe, Int.reduceAdd, Int.reduceSub, Int.reduceMul, Int.reduceToNat, Nat.reduceShiftRight, Nat.reduceAnd, Nat.reduceBNe]
    refine yld_rule (hY s a0 a1 0 0 0 x00 x01 x02 x10 x11 x12 hJ.1 (by omega) (by omega) (by omega)) ?_
    rintro v h' ⟨rfl, rfl⟩
    simp -implicitDefEqProofs only [L23, push_cast, Nat.reduceBEq, Nat.reduceLT, Nat.reduceLeDiff, Nat.reduceAdd, Nat.reduceSub, Nat.reduceMul, Nat.reduceEqDiff, reduceCtorEq, ↓reduceIte, Int.reduceEq, Int.reduceLT, Int.reduceLE, Int.reduceNe, Int.reduceAdd, Int.reduceSub, Int.reduceMul, Int.reduceToNat, Nat.reduceShiftRight, Nat.reduceAnd, Nat.reduceBNe]
    refine fin_app (n := K + 9) (by simp [hK]) (by simp [hK] <;> omega) rfl (hR _ _ (by omega)) ?_ ⟨rfl, [], ?_⟩
    · simp [rowsRefs, rowRefs, refsLtL, refsLt, NatBlt]; omega
    · rfl
  · have hz2 : (decide (c0 = 0) && (decide (c1 = 0) && decide (c2 = 0))) = false := by simp only [Bool.and_eq_false_iff, decide_eq_false_iff_not]; omega
    refine vcalls_fn hmix h56 rfl ?_
    simp -implicitDefEqProofs only [c56, caps23, gK1 hK, gK2 hK, gK3 hK, gK4 hK, gK5 hK, gK6 hK, gK7 hK, gK8 hK, sK1 hK, sK2 hK, sK3 hK, sK4 hK, sK5 hK, sK6 hK, sK7 hK, sK8 hK, kb, List.length_append, beq_self_eq_true, L23, hz2, push_cast, Nat.reduceBEq, Nat.reduceLT, Nat.reduceLeDiff, Nat.reduceAdd, Nat.reduceSub, Nat.reduceMul, Nat.reduceEqDiff, reduceCtorEq, ↓reduceIte, Int.reduceEq, Int.reduceLT, Int.reduceLE, Int.reduceNe, Int.reduceAdd, Int.reduceSub, Int.reduceMul, Int.reduceToNat, Nat.reduceShiftRight, Nat.reduceAnd, Nat.reduceBNe]
    refine fin_app (n := K + 9) (by simp [hK]) (by simp [hK] <;> omega) rfl (hR _ _ (by omega)) ?_ ⟨rfl, [], ?_⟩
    · simp [rowsRefs, rowRefs, refsLtL, refsLt, NatBlt]; omega
    · rw [tabE_no (by simp; omega)]; rfl
theorem fill23_12 (hK : ∀ s, (C s).length = K + 1) (hR : ∀ s n, K + 1 ≤ n → rowsRefs n (C s) = true) (hk : k < K + 1) (hY : Yields23 J C K k upd r0 r1 k0 k1 k2) (s : σ) (a0 a1 c0 c1 c2 x00 x01 x02 x10 x11 x12 : Int) (hJ : Pre J upd s ((rowE (a1) [c2]).flatMap fun tl => (tabE [] (c0 :: c1 :: subC [c2] tl)).map fun rest => [x00, x01, x02] :: (x10 :: x11 :: tl) :: rest)) (hi : 0 ≤ x00 ∧ 0 ≤ x01 ∧ 0 ≤ x02 ∧ 0 ≤ x10 ∧ 0 ≤ x11 ∧ x00 + x01 + x02 = r0 ∧ x10 + x11 + a1 = r1 ∧ 0 ≤ a1 ∧ x00 + x10 + c0 = k0 ∧ 0 ≤ c0 ∧ x01 + x11 + c1 = k1 ∧ 0 ≤ c1 ∧ x02 + c2 = k2 ∧ 0 ≤ c2 ∧ r0 ≤ 20 ∧ r1 ≤ 20 ∧ k0 ≤ 20 ∧ k1 ≤ 20 ∧ k2 ≤ 20) :
    VCalls Tryd.prog 56 ([I 1, I 2] ++ caps23 K) (C s ++ L23 K k a0 a1 c0 c1 c2 x00 x01 x02 x10 x11 x12) (fun v h' => v = B true ∧ ∃ ys : List Int, h' = C (((rowE (a1) [c2]).flatMap fun tl => (tabE [] (c0 :: c1 :: subC [c2] tl)).map fun rest => [x00, x01, x02] :: (x10 :: x11 :: tl) :: rest).foldl upd s) ++ L23 K k a0 a1 c0 c1 c2 x00 x01 x02 x10 x11 (ys.getD 0 0)) := by
  have kb := kbeq K
  refine vcalls_fn hmix h56 rfl ?_
  simp -implicitDefEqProofs only [c56, caps23, gK1 hK, gK2 hK, gK3 hK, gK4 hK, gK5 hK, gK6 hK, gK7 hK, gK8 hK, sK1 hK, sK2 hK, sK3 hK, sK4 hK, sK5 hK, sK6 hK, sK7 hK, sK8 hK, kb, List.length_append, beq_self_eq_true, L23, push_cast, Nat.reduceBEq, Nat.reduceLT, Nat.reduceLeDiff, Nat.reduceAdd, Nat.reduceSub, Nat.reduceMul, Nat.reduceEqDiff, reduceCtorEq, ↓reduceIte, Int.reduceEq, Int.reduceLT, Int.reduceLE, Int.reduceNe, Int.reduceAdd, Int.reduceSub, Int.reduceMul, Int.reduceToNat, Nat.reduceShiftRight, Nat.reduceAnd, Nat.reduceBNe]
  refine ⟨by simp only [inR]; omega, fun hlt => ?_, fun hle => ?_⟩
  · skip
    refine fin_app (n := K + 9) (by simp [hK]) (by simp [hK] <;> omega) rfl (hR _ _ (by omega)) ?_ ⟨rfl, [x12], ?_⟩
    · simp [rowsRefs, rowRefs, refsLtL, refsLt, NatBlt]; omega
    · rw [show rowE a1 [c2] = [] from if_neg (by omega)]; rfl
  · refine ⟨by simp only [inR]; omega, by simp only [inR]; omega, ?_⟩
    have e : ((rowE (a1) [c2]).flatMap fun tl => (tabE [] (c0 :: c1 :: subC [c2] tl)).map fun rest => [x00, x01, x02] :: (x10 :: x11 :: tl) :: rest) = ((tabE [] [c0, c1, (c2 - a1)]).map fun rest => [x00, x01, x02] :: [x10, x11, a1] :: rest) := by
      rw [show rowE a1 [c2] = [[a1]] from if_pos (by omega)]
      simp only [tabE_cons, subC, List.map_flatMap, List.map_map, List.flatMap_cons, List.flatMap_nil, List.append_nil, Function.comp_def, List.nil_append, List.cons_append]
    rw [e] at hJ
    refine call_rule (fill23_20 hK hR hk hY s a0 a1 c0 c1 (c2 - a1) x00 x01 x02 x10 x11 a1 hJ (by omega)) ?_
    rintro v h' ⟨rfl, ys, rfl⟩
    simp -implicitDefEqProofs only [Int.sub_add_cancel, gK1 hK, gK2 hK, gK3 hK, gK4 hK, gK5 hK, gK6 hK, gK7 hK, gK8 hK, sK1 hK, sK2 hK, sK3 hK, sK4 hK, sK5 hK, sK6 hK, sK7 hK, sK8 hK, kb, List.length_append, beq_self_eq_true, L23, push_cast, Nat.reduceBEq, Nat.reduceLT, Nat.reduceLeDiff, Nat.reduceAdd, Nat.reduceSub, Nat.reduceMul, Nat.reduceEqDiff, reduceCtorEq, ↓reduceIte, Int.reduceEq, Int.reduceLT, Int.reduceLE, Int.reduceNe, Int.reduceAdd, Int.reduceSub, Int.reduceMul, Int.reduceToNat, Nat.reduceShiftRight, Nat.reduceAnd, Nat.reduceBNe]
    refine ⟨by simp only [inR]; omega, ?_⟩
    refine fin_app (n := K + 9) (by simp [hK]) (by simp [hK] <;> omega) rfl (hR _ _ (by omega)) ?_ ⟨rfl, a1 :: ys, ?_⟩
    · simp [rowsRefs, rowRefs, refsLtL, refsLt, NatBlt]; omega
    · rw [e]; rfl
theorem fill23_11 (hK : ∀ s, (C s).length = K + 1) (hR : ∀ s n, K + 1 ≤ n → rowsRefs n (C s) = true) (hk : k < K + 1) (hY : Yields23 J C K k upd r0 r1 k0 k1 k2) (s : σ) (a0 a1 c0 c1 c2 x00 x01 x02 x10 x11 x12 : Int) (hJ : Pre J upd s ((rowE (a1) [c1, c2]).flatMap fun tl => (tabE [] (c0 :: subC [c1, c2] tl)).map fun rest => [x00, x01, x02] :: (x10 :: tl) :: rest)) (hi : 0 ≤ x00 ∧ 0 ≤ x01 ∧ 0 ≤ x02 ∧ 0 ≤ x10 ∧ x00 + x01 + x02 = r0 ∧ x10 + a1 = r1 ∧ 0 ≤ a1 ∧ x00 + x10 + c0 = k0 ∧ 0 ≤ c0 ∧ x01 + c1 = k1 ∧ 0 ≤ c1 ∧ x02 + c2 = k2 ∧ 0 ≤ c2 ∧ r0 ≤ 20 ∧ r1 ≤ 20 ∧ k0 ≤ 20 ∧ k1 ≤ 20 ∧ k2 ≤ 20) :
    VCalls Tryd.prog 56 ([I 1, I 1] ++ caps23 K) (C s ++ L23 K k a0 a1 c0 c1 c2 x00 x01 x02 x10 x11 x12) (fun v h' => v = B true ∧ ∃ ys : List Int, h' = C (((rowE (a1) [c1, c2]).flatMap fun tl => (tabE [] (c0 :: subC [c1, c2] tl)).map fun rest => [x00, x01, x02] :: (x10 :: tl) :: rest).foldl upd s) ++ L23 K k a0 a1 c0 c1 c2 x00 x01 x02 x10 (ys.getD 0 0) (ys.getD 1 0)) := by
  have kb := kbeq K
  obtain ⟨Yp, hYp⟩ : ∃ Yp : Nat → List (List (List Int)), Yp = fun N => (List.range N).flatMap fun (q : Nat) => ((rowE ((a1 - ((q : Nat) : Int))) [c2]).flatMap fun tl => (tabE [] (c0 :: (c1 - ((q : Nat) : Int)) :: subC [c2] tl)).map fun rest => [x00, x01, x02] :: (x10 :: ((q : Nat) : Int) :: tl) :: rest) := ⟨_, rfl⟩
  have hY0 : Yp 0 = [] := by rw [hYp]; rfl
  have hYs : ∀ q : Nat, Yp (q + 1) = Yp q ++ ((rowE ((a1 - ((q : Nat) : Int))) [c2]).flatMap fun tl => (tabE [] (c0 :: (c1 - ((q : Nat) : Int)) :: subC [c2] tl)).map fun rest => [x00, x01, x02] :: (x10 :: ((q : Nat) : Int) :: tl) :: rest) := by
    intro q
    simp only [hYp, List.range_succ, List.flatMap_append, List.flatMap_cons, List.flatMap_nil, List.append_nil]
  have hYe : ((rowE (a1) [c1, c2]).flatMap fun tl => (tabE [] (c0 :: subC [c1, c2] tl)).map fun rest => [x00, x01, x02] :: (x10 :: tl) :: rest) = Yp (min a1 c1 + 1).toNat := by
    rw [hYp]
    simp only [rowE, subC, List.flatMap_assoc, List.flatMap_map]
  rw [hYe] at hJ ⊢
  have hpre := pre_steps hYs _ hJ
  clear hYe hYp
  refine vcalls_fn hmix h56 rfl ?_
  simp -implicitDefEqProofs only [c56, caps23, gK1 hK, gK2 hK, gK3 hK, gK4 hK, gK5 hK, gK6 hK, gK7 hK, gK8 hK, sK1 hK, sK2 hK, sK3 hK, sK4 hK, sK5 hK, sK6 hK, sK7 hK, sK8 hK, kb, List.length_append, beq_self_eq_true, L23, push_cast, Nat.reduceBEq, Nat.reduceLT, Nat.reduceLeDiff, Nat.reduceAdd, Nat.reduceSub, Nat.reduceMul, Nat.reduceEqDiff, reduceCtorEq, ↓reduceIte, Int.reduceEq, Int.reduceLT, Int.reduceLE, Int.reduceNe, Int.reduceAdd, Int.reduceSub, Int.reduceMul, Int.reduceToNat, Nat.reduceShiftRight, Nat.reduceAnd, Nat.reduceBNe]
  refine ⟨by simp only [inR]; omega, by simp only [inR]; omega, ?_⟩
  refine loop_w (α := Nat × List Int) (fun b => ⟨[(77, I b.1), (76, I (min a1 c1 + 1)), (6, .ptr (K + 8) 0), (5, .ptr (K + 2) 0), (3, .ptr (K + 3) 0), (2, .ptr (K + 5) 0), (1, I 1), (0, I 1)], C ((Yp b.1).foldl upd s) ++ L23 K k a0 a1 c0 c1 c2 x00 x01 x02 x10 (b.2.getD 0 0) (b.2.getD 1 0), []⟩)
    (fun b => b.1 ≤ (min a1 c1 + 1).toNat) (fun b => (min a1 c1 + 1).toNat - b.1) (0, [x11, x12]) (by rw [hY0]; exact wk_tk rfl) (by simp only; omega) ?_
  rintro ⟨q, ys⟩ hq
  simp only at hq
  simp -implicitDefEqProofs only [c56L0, gK1 hK, gK2 hK, gK3 hK, gK4 hK, gK5 hK, gK6 hK, gK7 hK, gK8 hK, sK1 hK, sK2 hK, sK3 hK, sK4 hK, sK5 hK, sK6 hK, sK7 hK, sK8 hK, kb, List.length_append, beq_self_eq_true, L23, push_cast, Nat.reduceBEq, Nat.reduceLT, Nat.reduceLeDiff, Nat.reduceAdd, Nat.reduceSub, Nat.reduceMul, Nat.reduceEqDiff, reduceCtorEq, ↓reduceIte, Int.reduceEq, Int.reduceLT, Int.reduceLE, Int.reduceNe, Int.reduceAdd, Int.reduceSub, Int.reduceMul, Int.reduceToNat, Nat.reduceShiftRight, Nat.reduceAnd, Nat.reduceBNe]
  refine ⟨fun hc => ?_, fun hc => ?_⟩
  · refine ⟨by simp only [inR]; omega, by simp only [inR]; omega, by simp only [inR]; omega, ?_⟩
    refine call_rule (fill23_12 hK hR hk hY _ a0 (a1 - (q : Int)) c0 (c1 - (q : Int)) c2 x00 x01 x02 x10 (q : Int) (ys.getD 1 0) (hpre q (by omega)) (by omega)) ?_
    rintro v h' ⟨rfl, ys2, rfl⟩
    simp -implicitDefEqProofs only [Int.sub_add_cancel, gK1 hK, gK2 hK, gK3 hK, gK4 hK, gK5 hK, gK6 hK, gK7 hK, gK8 hK, sK1 hK, sK2 hK, sK3 hK, sK4 hK, sK5 hK, sK6 hK, sK7 hK, sK8 hK, kb, List.length_append, beq_self_eq_true, L23, push_cast, Nat.reduceBEq, Nat.reduceLT, Nat.reduceLeDiff, Nat.reduceAdd, Nat.reduceSub, Nat.reduceMul, Nat.reduceEqDiff, reduceCtorEq, ↓reduceIte, Int.reduceEq, Int.reduceLT, Int.reduceLE, Int.reduceNe, Int.reduceAdd, Int.reduceSub, Int.reduceMul, Int.reduceToNat, Nat.reduceShiftRight, Nat.reduceAnd, Nat.reduceBNe]
    refine ⟨by simp only [inR]; omega, by simp only [inR]; omega, by simp only [inR]; omega, (q + 1, (q : Int) :: ys2), by simp only; omega, by simp only; omega, ?_⟩
    simp only [hYs, List.foldl_append]
    exact wk_tk rfl
  · have hqe : q = (min a1 c1 + 1).toNat := by omega
    subst hqe
    refine fin_app (n := K + 9) (by simp [hK]) (by simp [hK] <;> omega) rfl (hR _ _ (by omega)) ?_ ⟨rfl, ys, ?_⟩
    · simp [rowsRefs, rowRefs, refsLtL, refsLt, NatBlt]; omega
    · rfl
theorem fill23_10 (hK : ∀ s, (C s).length = K + 1) (hR : ∀ s n, K + 1 ≤ n → rowsRefs n (C s) = true) (hk : k < K + 1) (hY : Yields23 J C K k upd r0 r1 k0 k1 k2) (s : σ) (a0 a1 c0 c1 c2 x00 x01 x02 x10 x11 x12 : Int) (hJ : Pre J upd s ((rowE (a1) [c0, c1, c2]).flatMap fun tl => (tabE [] (subC [c0, c1, c2] tl)).map fun rest => [x00, x01, x02] :: (tl) :: rest)) (hi : 0 ≤ x00 ∧ 0 ≤ x01 ∧ 0 ≤ x02 ∧ x00 + x01 + x02 = r0 ∧ a1 = r1 ∧ 0 ≤ a1 ∧ x00 + c0 = k0 ∧ 0 ≤ c0 ∧ x01 + c1 = k1 ∧ 0 ≤ c1 ∧ x02 + c2 = k2 ∧ 0 ≤ c2 ∧ r0 ≤ 20 ∧ r1 ≤ 20 ∧ k0 ≤ 20 ∧ k1 ≤ 20 ∧ k2 ≤ 20) :
    VCalls Tryd.prog 56 ([I 1, I 0] ++ caps23 K) (C s ++ L23 K k a0 a1 c0 c1 c2 x00 x01 x02 x10 x11 x12) (fun v h' => v = B true ∧ ∃ ys : List Int, h' = C (((rowE (a1) [c0, c1, c2]).flatMap fun tl => (tabE [] (subC [c0, c1, c2] tl)).map fun rest => [x00, x01, x02] :: (tl) :: rest).foldl upd s) ++ L23 K k a0 a1 c0 c1 c2 x00 x01 x02 (ys.getD 0 0) (ys.getD 1 0) (ys.getD 2 0)) := by
  have kb := kbeq K
  obtain ⟨Yp, hYp⟩ : ∃ Yp : Nat → List (List (List Int)), Yp = fun N => (List.range N).flatMap fun (q : Nat) => ((rowE ((a1 - ((q : Nat) : Int))) [c1, c2]).flatMap fun tl => (tabE [] ((c0 - ((q : Nat) : Int)) :: subC [c1, c2] tl)).map fun rest => [x00, x01, x02] :: (((q : Nat) : Int) :: tl) :: rest) := ⟨_, rfl⟩
  have hY0 : Yp 0 = [] := by rw [hYp]; rfl
  have hYs : ∀ q : Nat, Yp (q + 1) = Yp q ++ ((rowE ((a1 - ((q : Nat) : Int))) [c1, c2]).flatMap fun tl => (tabE [] ((c0 - ((q : Nat) : Int)) :: subC [c1, c2] tl)).map fun rest => [x00, x01, x02] :: (((q : Nat) : Int) :: tl) :: rest) := by
    intro q
    simp only [hYp, List.range_succ, List.flatMap_append, List.flatMap_cons, List.flatMap_nil, List.append_nil]
  have hYe : ((rowE (a1) [c0, c1, c2]).flatMap fun tl => (tabE [] (subC [c0, c1, c2] tl)).map fun rest => [x00, x01, x02] :: (tl) :: rest) = Yp (min a1 c0 + 1).toNat := by
    rw [hYp]
    simp only [rowE, subC, List.flatMap_assoc, List.flatMap_map]
  rw [hYe] at hJ ⊢
  have hpre := pre_steps hYs _ hJ
  clear hYe hYp
  refine vcalls_fn hmix h56 rfl ?_
  simp -implicitDefEqProofs only [c56, caps23, gK1 hK, gK2 hK, gK3 hK, gK4 hK, gK5 hK, gK6 hK, gK7 hK, gK8 hK, sK1 hK, sK2 hK, sK3 hK, sK4 hK, sK5 hK, sK6 hK, sK7 hK, sK8 hK, kb, List.length_append, beq_self_eq_true, L23, push_cast, Nat.reduceBEq, Nat.reduceLT, Nat.reduceLeDiff, Nat.reduceAdd, Nat.reduceSub, Nat.reduceMul, Nat.reduceEqDiff, reduceCtorEq, ↓reduceIte, Int.reduceEq, Int.reduceLT, Int.reduceLE, Int.reduceNe, Int.reduceAdd, Int.reduceSub, Int.reduceMul, Int.reduceToNat, Nat.reduceShiftRight, Nat.reduceAnd, Nat.reduceBNe]
  refine ⟨by simp only [inR]; omega, by simp only [inR]; omega, ?_⟩
  refine loop_w (α := Nat × List Int) (fun b => ⟨[(77, I b.1), (76, I (min a1 c0 + 1)), (6, .ptr (K + 8) 0), (5, .ptr (K + 2) 0), (3, .ptr (K + 3) 0), (2, .ptr (K + 5) 0), (1, I 0), (0, I 1)], C ((Yp b.1).foldl upd s) ++ L23 K k a0 a1 c0 c1 c2 x00 x01 x02 (b.2.getD 0 0) (b.2.getD 1 0) (b.2.getD 2 0), []⟩)
    (fun b => b.1 ≤ (min a1 c0 + 1).toNat) (fun b => (min a1 c0 + 1).toNat - b.1) (0, [x10, x11, x12]) (by rw [hY0]; exact wk_tk rfl) (by simp only; omega) ?_
  rintro ⟨q, ys⟩ hq
  simp only at hq
  simp -implicitDefEqProofs only [c56L0, gK1 hK, gK2 hK, gK3 hK, gK4 hK, gK5 hK, gK6 hK, gK7 hK, gK8 hK, sK1 hK, sK2 hK, sK3 hK, sK4 hK, sK5 hK, sK6 hK, sK7 hK, sK8 hK, kb, List.length_append, beq_self_eq_true, L23, push_cast, Nat.reduceBEq, Nat.reduceLT, Nat.reduceLeDiff, Nat.reduceAdd, Nat.reduceSub, Nat.reduceMul, Nat.reduceEqDiff, reduceCtorEq, ↓reduceIte, Int.reduceEq, Int.reduceLT, Int.reduceLE, Int.reduceNe, Int.reduceAdd, Int.reduceSub, Int.reduceMul, Int.reduceToNat, Nat.reduceShiftRight, Nat.reduceAnd, Nat.reduceBNe]
  refine ⟨fun hc => ?_, fun hc => ?_⟩
  · refine ⟨by simp only [inR]; omega, by simp only [inR]; omega, by simp only [inR]; omega, ?_⟩
    refine call_rule (fill23_11 hK hR hk hY _ a0 (a1 - (q : Int)) (c0 - (q : Int)) c1 c2 x00 x01 x02 (q : Int) (ys.getD 1 0) (ys.getD 2 0) (hpre q (by omega)) (by omega)) ?_
    rintro v h' ⟨rfl, ys2, rfl⟩
    simp -implicitDefEqProofs only [Int.sub_add_cancel, gK1 hK, gK2 hK, gK3 hK, gK4 hK, gK5 hK, gK6 hK, gK7 hK, gK8 hK, sK1 hK, sK2 hK, sK3 hK, sK4 hK, sK5 hK, sK6 hK, sK7 hK, sK8 hK, kb, List.length_append, beq_self_eq_true, L23, push_cast, Nat.reduceBEq, Nat.reduceLT, Nat.reduceLeDiff, Nat.reduceAdd, Nat.reduceSub, Nat.reduceMul, Nat.reduceEqDiff, reduceCtorEq, ↓reduceIte, Int.reduceEq, Int.reduceLT, Int.reduceLE, Int.reduceNe, Int.reduceAdd, Int.reduceSub, Int.reduceMul, Int.reduceToNat, Nat.reduceShiftRight, Nat.reduceAnd, Nat.reduceBNe]
    refine ⟨by simp only [inR]; omega, by simp only [inR]; omega, by simp only [inR]; omega, (q + 1, (q : Int) :: ys2), by simp only; omega, by simp only; omega, ?_⟩
    simp only [hYs, List.foldl_append]
    exact wk_tk rfl
  · have hqe : q = (min a1 c0 + 1).toNat := by omega
    subst hqe
    refine fin_app (n := K + 9) (by simp [hK]) (by simp [hK] <;> omega) rfl (hR _ _ (by omega)) ?_ ⟨rfl, ys, ?_⟩
    · simp [rowsRefs, rowRefs, refsLtL, refsLt, NatBlt]; omega
    · rfl
theorem fill23_02 (hK : ∀ s, (C s).length = K + 1) (hR : ∀ s n, K + 1 ≤ n → rowsRefs n (C s) = true) (hk : k < K + 1) (hY : Yields23 J C K k upd r0 r1 k0 k1 k2) (s : σ) (a0 a1 c0 c1 c2 x00 x01 x02 x10 x11 x12 : Int) (hJ : Pre J upd s ((rowE (a0) [c2]).flatMap fun tl => (tabE [a1] (c0 :: c1 :: subC [c2] tl)).map fun rest => (x00 :: x01 :: tl) :: rest)) (hi : 0 ≤ x00 ∧ 0 ≤ x01 ∧ x00 + x01 + a0 = r0 ∧ 0 ≤ a0 ∧ a1 = r1 ∧ 0 ≤ a1 ∧ x00 + c0 = k0 ∧ 0 ≤ c0 ∧ x01 + c1 = k1 ∧ 0 ≤ c1 ∧ c2 = k2 ∧ 0 ≤ c2 ∧ r0 ≤ 20 ∧ r1 ≤ 20 ∧ k0 ≤ 20 ∧ k1 ≤ 20 ∧ k2 ≤ 20) :
    VCalls Tryd.prog 56 ([I 0, I 2] ++ caps23 K) (C s ++ L23 K k a0 a1 c0 c1 c2 x00 x01 x02 x10 x11 x12) (fun v h' => v = B true ∧ ∃ ys : List Int, h' = C (((rowE (a0) [c2]).flatMap fun tl => (tabE [a1] (c0 :: c1 :: subC [c2] tl)).map fun rest => (x00 :: x01 :: tl) :: rest).foldl upd s) ++ L23 K k a0 a1 c0 c1 c2 x00 x01 (ys.getD 0 0) (ys.getD 1 0) (ys.getD 2 0) (ys.getD 3 0)) := by
  have kb := kbeq K
  refine vcalls_fn hmix h56 rfl ?_
  simp -implicitDefEqProofs only [c56, caps23, gK1 hK, gK2 hK, gK3 hK, gK4 hK, gK5 hK, gK6 hK, gK7 hK, gK8 hK, sK1 hK, sK2 hK, sK3 hK, sK4 hK, sK5 hK, sK6 hK, sK7 hK, sK8 hK, kb, List.length_append, beq_self_eq_true, L23, push_cast, Nat.reduceBEq, Nat.reduceLT, Nat.reduceLeDiff, Nat.reduceAdd, Nat.reduceSub, Nat.reduceMul, Nat.reduceEqDiff, reduceCtorEq, ↓reduceIte, Int.reduceEq, Int.reduceLT, Int.reduceLE, Int.reduceNe, Int.reduceAdd, Int.reduceSub, Int.reduceMul, Int.reduceToNat, Nat.reduceShiftRight, Nat.reduceAnd, Nat.reduceBNe]
  refine ⟨by simp only [inR]; omega, fun hlt => ?_, fun hle => ?_⟩
  · skip
    refine fin_app (n := K + 9) (by simp [hK]) (by simp [hK] <;> omega) rfl (hR _ _ (by omega)) ?_ ⟨rfl, [x02, x10, x11, x12], ?_⟩
    · simp [rowsRefs, rowRefs, refsLtL, refsLt, NatBlt]; omega
    · rw [show rowE a0 [c2] = [] from if_neg (by omega)]; rfl
  · refine ⟨by simp only [inR]; omega, by simp only [inR]; omega, ?_⟩
    have e : ((rowE (a0) [c2]).flatMap fun tl => (tabE [a1] (c0 :: c1 :: subC [c2] tl)).map fun rest => (x00 :: x01 :: tl) :: rest) = ((rowE (a1) [c0, c1, (c2 - a0)]).flatMap fun tl => (tabE [] (subC [c0, c1, (c2 - a0)] tl)).map fun rest => [x00, x01, a0] :: (tl) :: rest) := by
      rw [show rowE a0 [c2] = [[a0]] from if_pos (by omega)]
      simp only [tabE_cons, subC, List.map_flatMap, List.map_map, List.flatMap_cons, List.flatMap_nil, List.append_nil, Function.comp_def, List.nil_append, List.cons_append]
    rw [e] at hJ
    refine call_rule (fill23_10 hK hR hk hY s a0 a1 c0 c1 (c2 - a0) x00 x01 a0 x10 x11 x12 hJ (by omega)) ?_
    rintro v h' ⟨rfl, ys, rfl⟩
    simp -implicitDefEqProofs only [Int.sub_add_cancel, gK1 hK, gK2 hK, gK3 hK, gK4 hK, gK5 hK, gK6 hK, gK7 hK, gK8 hK, sK1 hK, sK2 hK, sK3 hK, sK4 hK, sK5 hK, sK6 hK, sK7 hK, sK8 hK, kb, List.length_append, beq_self_eq_true, L23, push_cast, Nat.reduceBEq, Nat.reduceLT, Nat.reduceLeDiff, Nat.reduceAdd, Nat.reduceSub, Nat.reduceMul, Nat.reduceEqDiff, reduceCtorEq, ↓reduceIte, Int.reduceEq, Int.reduceLT, Int.reduceLE, Int.reduceNe, Int.reduceAdd, Int.reduceSub, Int.reduceMul, Int.reduceToNat, Nat.reduceShiftRight, Nat.reduceAnd, Nat.reduceBNe]
    refine ⟨by simp only [inR]; omega, ?_⟩
    refine fin_app (n := K + 9) (by simp [hK]) (by simp [hK] <;> omega) rfl (hR _ _ (by omega)) ?_ ⟨rfl, a0 :: ys, ?_⟩
    · simp [rowsRefs, rowRefs, refsLtL, refsLt, NatBlt]; omega
    · rw [e]; rfl
theorem fill23_01 (hK : ∀ s, (C s).length = K + 1) (hR : ∀ s n, K + 1 ≤ n → rowsRefs n (C s) = true) (hk : k < K + 1) (hY : Yields23 J C K k upd r0 r1 k0 k1 k2) (s : σ) (a0 a1 c0 c1 c2 x00 x01 x02 x10 x11 x12 : Int) (hJ : Pre J upd s ((rowE (a0) [c1, c2]).flatMap fun tl => (tabE [a1] (c0 :: subC [c1, c2] tl)).map fun rest => (x00 :: tl) :: rest)) (hi : 0 ≤ x00 ∧ x00 + a0 = r0 ∧ 0 ≤ a0 ∧ a1 = r1 ∧ 0 ≤ a1 ∧ x00 + c0 = k0 ∧ 0 ≤ c0 ∧ c1 = k1 ∧ 0 ≤ c1 ∧ c2 = k2 ∧ 0 ≤ c2 ∧ r0 ≤ 20 ∧ r1 ≤ 20 ∧ k0 ≤ 20 ∧ k1 ≤ 20 ∧ k2 ≤ 20) :
    VCalls Tryd.prog 56 ([I 0, I 1] ++ caps23 K) (C s ++ L23 K k a0 a1 c0 c1 c2 x00 x01 x02 x10 x11 x12) (fun v h' => v = B true ∧ ∃ ys : List Int, h' = C (((rowE (a0) [c1, c2]).flatMap fun tl => (tabE [a1] (c0 :: subC [c1, c2] tl)).map fun rest => (x00 :: tl) :: rest).foldl upd s) ++ L23 K k a0 a1 c0 c1 c2 x00 (ys.getD 0 0) (ys.getD 1 0) (ys.getD 2 0) (ys.getD 3 0) (ys.getD 4 0)) := by
  have kb := kbeq K
  obtain ⟨Yp, hYp⟩ : ∃ Yp : Nat → List (List (List Int)), Yp = fun N => (List.range N).flatMap fun (q : Nat) => ((rowE ((a0 - ((q : Nat) : Int))) [c2]).flatMap fun tl => (tabE [a1] (c0 :: (c1 - ((q : Nat) : Int)) :: subC [c2] tl)).map fun rest => (x00 :: ((q : Nat) : Int) :: tl) :: rest) := ⟨_, rfl⟩
  have hY0 : Yp 0 = [] := by rw [hYp]; rfl
  have hYs : ∀ q : Nat, Yp (q + 1) = Yp q ++ ((rowE ((a0 - ((q : Nat) : Int))) [c2]).flatMap fun tl => (tabE [a1] (c0 :: (c1 - ((q : Nat) : Int)) :: subC [c2] tl)).map fun rest => (x00 :: ((q : Nat) : Int) :: tl) :: rest) := by
    intro q
    simp only [hYp, List.range_succ, List.flatMap_append, List.flatMap_cons, List.flatMap_nil, List.append_nil]
  have hYe : ((rowE (a0) [c1, c2]).flatMap fun tl => (tabE [a1] (c0 :: subC [c1, c2] tl)).map fun rest => (x00 :: tl) :: rest) = Yp (min a0 c1 + 1).toNat := by
    rw [hYp]
    simp only [rowE, subC, List.flatMap_assoc, List.flatMap_map]
  rw [hYe] at hJ ⊢
  have hpre := pre_steps hYs _ hJ
  clear hYe hYp
  refine vcalls_fn hmix h56 rfl ?_
  simp -implicitDefEqProofs only [c56, caps23, gK1 hK, gK2 hK, gK3 hK, gK4 hK, gK5 hK, gK6 hK, gK7 hK, gK8 hK, sK1 hK, sK2 hK, sK3 hK, sK4 hK, sK5 hK, sK6 hK, sK7 hK, sK8 hK, kb, List.length_append, beq_self_eq_true, L23, push_cast, Nat.reduceBEq, Nat.reduceLT, Nat.reduceLeDiff, Nat.reduceAdd, Nat.reduceSub, Nat.reduceMul, Nat.reduceEqDiff, reduceCtorEq, ↓reduceIte, Int.reduceEq, Int.reduceLT, Int.reduceLE, Int.reduceNe, Int.reduceAdd, Int.reduceSub, Int.reduceMul, Int.reduceToNat, Nat.reduceShiftRight, Nat.reduceAnd, Nat.reduceBNe]
  refine ⟨by simp only [inR]; omega, by simp only [inR]; omega, ?_⟩
  refine loop_w (α := Nat × List Int) (fun b => ⟨[(77, I b.1), (76, I (min a0 c1 + 1)), (6, .ptr (K + 8) 0), (5, .ptr (K + 2) 0), (3, .ptr (K + 3) 0), (2, .ptr (K + 5) 0), (1, I 1), (0, I 0)], C ((Yp b.1).foldl upd s) ++ L23 K k a0 a1 c0 c1 c2 x00 (b.2.getD 0 0) (b.2.getD 1 0) (b.2.getD 2 0) (b.2.getD 3 0) (b.2.getD 4 0), []⟩)
    (fun b => b.1 ≤ (min a0 c1 + 1).toNat) (fun b => (min a0 c1 + 1).toNat - b.1) (0, [x01, x02, x10, x11, x12]) (by rw [hY0]; exact wk_tk rfl) (by simp only; omega) ?_
  rintro ⟨q, ys⟩ hq
  simp only at hq
  simp -implicitDefEqProofs only [c56L0, gK1 hK, gK2 hK, gK3 hK, gK4 hK, gK5 hK, gK6 hK, gK7 hK, gK8 hK, sK1 hK, sK2 hK, sK3 hK, sK4 hK, sK5 hK, sK6 hK, sK7 hK, sK8 hK, kb, List.length_append, beq_self_eq_true, L23, push_cast, Nat.reduceBEq, Nat.reduceLT, Nat.reduceLeDiff, Nat.reduceAdd, Nat.reduceSub, Nat.reduceMul, Nat.reduceEqDiff, reduceCtorEq, ↓reduceIte, Int.reduceEq, Int.reduceLT, Int.reduceLE, Int.reduceNe, Int.reduceAdd, Int.reduceSub, Int.reduceMul, Int.reduceToNat, Nat.reduceShiftRight, Nat.reduceAnd, Nat.reduceBNe]
  refine ⟨fun hc => ?_, fun hc => ?_⟩
  · refine ⟨by simp only [inR]; omega, by simp only [inR]; omega, by simp only [inR]; omega, ?_⟩
    refine call_rule (fill23_02 hK hR hk hY _ (a0 - (q : Int)) a1 c0 (c1 - (q : Int)) c2 x00 (q : Int) (ys.getD 1 0) (ys.getD 2 0) (ys.getD 3 0) (ys.getD 4 0) (hpre q (by omega)) (by omega)) ?_
    rintro v h' ⟨rfl, ys2, rfl⟩
    simp -implicitDefEqProofs only [Int.sub_add_cancel, gK1 hK, gK2 hK, gK3 hK, gK4 hK, gK5 hK, gK6 hK, gK7 hK, gK8 hK, sK1 hK, sK2 hK, sK3 hK, sK4 hK, sK5 hK, sK6 hK, sK7 hK, sK8 hK, kb, List.length_append, beq_self_eq_true, L23, push_cast, Nat.reduceBEq, Nat.reduceLT, Nat.reduceLeDiff, Nat.reduceAdd, Nat.reduceSub, Nat.reduceMul, Nat.reduceEqDiff, reduceCtorEq, ↓reduceIte, Int.reduceEq, Int.reduceLT, Int.reduceLE, Int.reduceNe, Int.reduceAdd, Int.reduceSub, Int.reduceMul, Int.reduceToNat, Nat.reduceShiftRight, Nat.reduceAnd, Nat.reduceBNe]
    refine ⟨by simp only [inR]; omega, by simp only [inR]; omega, by simp only [inR]; omega, (q + 1, (q : Int) :: ys2), by simp only; omega, by simp only; omega, ?_⟩
    simp only [hYs, List.foldl_append]
    exact wk_tk rfl
  · have hqe : q = (min a0 c1 + 1).toNat := by omega
    subst hqe
    refine fin_app (n := K + 9) (by simp [hK]) (by simp [hK] <;> omega) rfl (hR _ _ (by omega)) ?_ ⟨rfl, ys, ?_⟩
    · simp [rowsRefs, rowRefs, refsLtL, refsLt, NatBlt]; omega
    · rfl
theorem fill23_00 (hK : ∀ s, (C s).length = K + 1) (hR : ∀ s n, K + 1 ≤ n → rowsRefs n (C s) = true) (hk : k < K + 1) (hY : Yields23 J C K k upd r0 r1 k0 k1 k2) (s : σ) (a0 a1 c0 c1 c2 x00 x01 x02 x10 x11 x12 : Int) (hJ : Pre J upd s ((rowE (a0) [c0, c1, c2]).flatMap fun tl => (tabE [a1] (subC [c0, c1, c2] tl)).map fun rest => (tl) :: rest)) (hi : a0 = r0 ∧ 0 ≤ a0 ∧ a1 = r1 ∧ 0 ≤ a1 ∧ c0 = k0 ∧ 0 ≤ c0 ∧ c1 = k1 ∧ 0 ≤ c1 ∧ c2 = k2 ∧ 0 ≤ c2 ∧ r0 ≤ 20 ∧ r1 ≤ 20 ∧ k0 ≤ 20 ∧ k1 ≤ 20 ∧ k2 ≤ 20) :
    VCalls Tryd.prog 56 ([I 0, I 0] ++ caps23 K) (C s ++ L23 K k a0 a1 c0 c1 c2 x00 x01 x02 x10 x11 x12) (fun v h' => v = B true ∧ ∃ ys : List Int, h' = C (((rowE (a0) [c0, c1, c2]).flatMap fun tl => (tabE [a1] (subC [c0, c1, c2] tl)).map fun rest => (tl) :: rest).foldl upd s) ++ L23 K k a0 a1 c0 c1 c2 (ys.getD 0 0) (ys.getD 1 0) (ys.getD 2 0) (ys.getD 3 0) (ys.getD 4 0) (ys.getD 5 0)) := by
  have kb := kbeq K
  obtain ⟨Yp, hYp⟩ : ∃ Yp : Nat → List (List (List Int)), Yp = fun N => (List.range N).flatMap fun (q : Nat) => ((rowE ((a0 - ((q : Nat) : Int))) [c1, c2]).flatMap fun tl => (tabE [a1] ((c0 - ((q : Nat) : Int)) :: subC [c1, c2] tl)).map fun rest => (((q : Nat) : Int) :: tl) :: rest) := ⟨_, rfl⟩
  have hY0 : Yp 0 = [] := by rw [hYp]; rfl
  have hYs : ∀ q : Nat, Yp (q + 1) = Yp q ++ ((rowE ((a0 - ((q : Nat) : Int))) [c1, c2]).flatMap fun tl => (tabE [a1] ((c0 - ((q : Nat) : Int)) :: subC [c1, c2] tl)).map fun rest => (((q : Nat) : Int) :: tl) :: rest) := by
    intro q
    simp only [hYp, List.range_succ, List.flatMap_append, List.flatMap_cons, List.flatMap_nil, List.append_nil]
  have hYe : ((rowE (a0) [c0, c1, c2]).flatMap fun tl => (tabE [a1] (subC [c0, c1, c2] tl)).map fun rest => (tl) :: rest) = Yp (min a0 c0 + 1).toNat := by
    rw [hYp]
    simp only [rowE, subC, List.flatMap_assoc, List.flatMap_map]
  rw [hYe] at hJ ⊢
  have hpre := pre_steps hYs _ hJ
  clear hYe hYp
  refine vcalls_fn hmix h56 rfl ?_
  simp -implicitDefEqProofs only [c56, caps23, gK1 hK, gK2 hK, gK3 hK, gK4 hK, gK5 hK, gK6 hK, gK7 hK, gK8 hK, sK1 hK, sK2 hK, sK3 hK, sK4 hK, sK5 hK, sK6 hK, sK7 hK, sK8 hK, kb, List.length_append, beq_self_eq_true, L23, push_cast, Nat.reduceBEq, Nat.reduceLT, Nat.reduceLeDiff, Nat.reduceAdd, Nat.reduceSub, Nat.reduceMul, Nat.reduceEqDiff, reduceCtorEq, ↓reduceIte, Int.reduceEq, Int.reduceLT, Int.reduceLE, Int.reduceNe, Int.reduceAdd, Int.reduceSub, Int.reduceMul, Int.reduceToNat, Nat.reduceShiftRight, Nat.reduceAnd, Nat.reduceBNe]
  refine ⟨by simp only [inR]; omega, by simp only [inR]; omega, ?_⟩
  refine loop_w (α := Nat × List Int) (fun b => ⟨[(77, I b.1), (76, I (min a0 c0 + 1)), (6, .ptr (K + 8) 0), (5, .ptr (K + 2) 0), (3, .ptr (K + 3) 0), (2, .ptr (K + 5) 0), (1, I 0), (0, I 0)], C ((Yp b.1).foldl upd s) ++ L23 K k a0 a1 c0 c1 c2 (b.2.getD 0 0) (b.2.getD 1 0) (b.2.getD 2 0) (b.2.getD 3 0) (b.2.getD 4 0) (b.2.getD 5 0), []⟩)
    (fun b => b.1 ≤ (min a0 c0 + 1).toNat) (fun b => (min a0 c0 + 1).toNat - b.1) (0, [x00, x01, x02, x10, x11, x12]) (by rw [hY0]; exact wk_tk rfl) (by simp only; omega) ?_
  rintro ⟨q, ys⟩ hq
  simp only at hq
  simp -implicitDefEqProofs only [c56L0, gK1 hK, gK2 hK, gK3 hK, gK4 hK, gK5 hK, gK6 hK, gK7 hK, gK8 hK, sK1 hK, sK2 hK, sK3 hK, sK4 hK, sK5 hK, sK6 hK, sK7 hK, sK8 hK, kb, List.length_append, beq_self_eq_true, L23, push_cast, Nat.reduceBEq, Nat.reduceLT, Nat.reduceLeDiff, Nat.reduceAdd, Nat.reduceSub, Nat.reduceMul, Nat.reduceEqDiff, reduceCtorEq, ↓reduceIte, Int.reduceEq, Int.reduceLT, Int.reduceLE, Int.reduceNe, Int.reduceAdd, Int.reduceSub, Int.reduceMul, Int.reduceToNat, Nat.reduceShiftRight, Nat.reduceAnd, Nat.reduceBNe]
  refine ⟨fun hc => ?_, fun hc => ?_⟩
  · refine ⟨by simp only [inR]; omega, by simp only [inR]; omega, by simp only [inR]; omega, ?_⟩
    refine call_rule (fill23_01 hK hR hk hY _ (a0 - (q : Int)) a1 (c0 - (q : Int)) c1 c2 (q : Int) (ys.getD 1 0) (ys.getD 2 0) (ys.getD 3 0) (ys.getD 4 0) (ys.getD 5 0) (hpre q (by omega)) (by omega)) ?_
    rintro v h' ⟨rfl, ys2, rfl⟩
    simp -implicitDefEqProofs only [Int.sub_add_cancel, gK1 hK, gK2 hK, gK3 hK, gK4 hK, gK5 hK, gK6 hK, gK7 hK, gK8 hK, sK1 hK, sK2 hK, sK3 hK, sK4 hK, sK5 hK, sK6 hK, sK7 hK, sK8 hK, kb, List.length_append, beq_self_eq_true, L23, push_cast, Nat.reduceBEq, Nat.reduceLT, Nat.reduceLeDiff, Nat.reduceAdd, Nat.reduceSub, Nat.reduceMul, Nat.reduceEqDiff, reduceCtorEq, ↓reduceIte, Int.reduceEq, Int.reduceLT, Int.reduceLE, Int.reduceNe, Int.reduceAdd, Int.reduceSub, Int.reduceMul, Int.reduceToNat, Nat.reduceShiftRight, Nat.reduceAnd, Nat.reduceBNe]
    refine ⟨by simp only [inR]; omega, by simp only [inR]; omega, by simp only [inR]; omega, (q + 1, (q : Int) :: ys2), by simp only; omega, by simp only; omega, ?_⟩
    simp only [hYs, List.foldl_append]
    exact wk_tk rfl
  · have hqe : q = (min a0 c0 + 1).toNat := by omega
    subst hqe
    refine fin_app (n := K + 9) (by simp [hK]) (by simp [hK] <;> omega) rfl (hR _ _ (by omega)) ?_ ⟨rfl, ys, ?_⟩
    · simp [rowsRefs, rowRefs, refsLtL, refsLt, NatBlt]; omega
    · rfl
end
end Go.Proofs.YtligakiolapkkaaDoor

namespace Go.Proofs.YtligakiolapkkaaDoor
open Go GoV
set_option maxHeartbeats 8000000
set_option maxRecDepth 10000
set_option linter.unusedVariables false
set_option linter.unusedSimpArgs false
def caps32 (K : Nat) : List AV := [.ptr (K + 5) 0, .ptr (K + 3) 0, .ptr (K + 1) 0, .ptr (K + 2) 0, .ptr (K + 9) 0]
def L32 (K k : Nat) (a0 a1 a2 c0 c1 x00 x01 x10 x11 x20 x21 : Int) : Heap := [.box [.yld k], .box [I a0, I a1, I a2], .box [I c0, I c1, I 0], .box [.slc (K + 6) 2 0 2, .slc (K + 7) 2 0 2, .slc (K + 8) 2 0 2], .box [.slc (K + 4) 0 0 3], .seq (.int .i64) [x00, x01] true, .seq (.int .i64) [x10, x11] true, .seq (.int .i64) [x20, x21] true, .box [.fn 56 [] [.ptr (K + 5) 0, .ptr (K + 3) 0, .ptr (K + 1) 0, .ptr (K + 2) 0, .ptr (K + 9) 0]]]
section
variable {σ : Type} {J : σ → Prop} {C : σ → Heap} {K k : Nat} {upd : σ → List (List Int) → σ} {r0 r1 r2 k0 k1 : Int}
def Yields32 (J : σ → Prop) (C : σ → Heap) (K k : Nat) (upd : σ → List (List Int) → σ) (r0 r1 r2 k0 k1 : Int) : Prop := ∀ (s : σ) (a0 a1 a2 c0 c1 x00 x01 x10 x11 x20 x21 : Int), J s → (0 ≤ x00 ∧ 0 ≤ x01 ∧ 0 ≤ x10 ∧ 0 ≤ x11 ∧ 0 ≤ x20 ∧ 0 ≤ x21) → (x00 + x01 = r0 ∧ x10 + x11 = r1 ∧ x20 + x21 = r2) → (x00 + x10 + x20 = k0 ∧ x01 + x11 + x21 = k1) →
    VYield Tryd.prog k [.slc (K + 4) 0 0 3] (C s ++ L32 K k a0 a1 a2 c0 c1 x00 x01 x10 x11 x20 x21) (fun v h' => v = B true ∧ h' = C (upd s [[x00, x01], [x10, x11], [x20, x21]]) ++ L32 K k a0 a1 a2 c0 c1 x00 x01 x10 x11 x20 x21)
theorem fill32_30 (hK : ∀ s, (C s).length = K + 1) (hR : ∀ s n, K + 1 ≤ n → rowsRefs n (C s) = true) (hk : k < K + 1) (hY : Yields32 J C K k upd r0 r1 r2 k0 k1) (s : σ) (a0 a1 a2 c0 c1 x00 x01 x10 x11 x20 x21 : Int) (hJ : Pre J upd s ((tabE [] [c0, c1]).map fun rest => [x00, x01] :: [x10, x11] :: [x20, x21] :: rest)) (hi : 0 ≤ x00 ∧ 0 ≤ x01 ∧ 0 ≤ x10 ∧ 0 ≤ x11 ∧ 0 ≤ x20 ∧ 0 ≤ x21 ∧ x00 + x01 = r0 ∧ x10 + x11 = r1 ∧ x20 + x21 = r2 ∧ x00 + x10 + x20 + c0 = k0 ∧ 0 ≤ c0 ∧ x01 + x11 + x21 + c1 = k1 ∧ 0 ≤ c1 ∧ r0 ≤ 20 ∧ r1 ≤ 20 ∧ r2 ≤ 20 ∧ k0 ≤ 20 ∧ k1 ≤ 20) :
    VCalls Tryd.prog 56 ([I 3, I 0] ++ caps32 K) (C s ++ L32 K k a0 a1 a2 c0 c1 x00 x01 x10 x11 x20 x21) (fun v h' => v = B true ∧ ∃ ys : List Int, h' = C (((tabE [] [c0, c1]).map fun rest => [x00, x01] :: [x10, x11] :: [x20, x21] :: rest).foldl upd s) ++ L32 K k a0 a1 a2 c0 c1 x00 x01 x10 x11 x20 x21) := by
  have kb := kbeq K
  by_cases hz : c0 = 0 ∧ c1 = 0
  · obtain ⟨rfl, rfl⟩ := hz
    refine vcalls_fn hmix h56 rfl ?_
    simp -implicitDefEqProofs only [c56, caps32, gK1 hK, gK2 hK, gK3 hK, gK4 hK, gK5 hK, gK6 hK, gK7 hK, gK8 hK, gK9 hK, sK1 hK, sK2 hK, sK3 hK, sK4 hK, sK5 hK, sK6 hK, sK7 hK, sK8 hK, sK9 hK, kb, List.length_append, beq_self_eq_true, L32, push_cast, Nat.reduceBEq, Nat.reduceLT, Nat.reduceLeDiff, Nat.reduceAdd, Nat.reduceSub, Nat.reduceMul, Nat.reduceEqDiff, reduceCtorEq, ↓reduceIte, Int.reduceEq, Int.reduceLT, Int.reduceLE, Int.reduceNe, Int.reduceAdd, Int.reduceSub, Int.reduceMul, Int.reduceToNat, Nat.reduceShiftRight, Nat.reduceAnd, Nat.reduceBNe]
    refine yld_rule (hY s a0 a1 a2 0 0 x00 x01 x10 x11 x20 x21 hJ.1 (by omega) (by omega) (by omega)) ?_
    rintro v h' ⟨rfl, rfl⟩
    simp -implicitDefEqProofs only [L32, push_cast, Nat.reduceBEq, Nat.reduceLT, Nat.reduceLeDiff, Nat.reduceAdd, Nat.reduceSub, Nat.reduceMul, Nat.reduceEqDiff, reduceCtorEq, ↓reduceIte, Int.reduceEq, Int.reduceLT, Int.reduceLE, Int.reduceNe, Int.reduceAdd, Int.reduceSub, Int.reduceMul, Int.reduceToNat, Nat.reduceShiftRight, Nat.reduceAnd, Nat.reduceBNe]
    refine fin_app (n := K + 10) (by simp [hK]) (by simp [hK] <;> omega) rfl (hR _ _ (by omega)) ?_ ⟨rfl, [], ?_⟩
    · simp [rowsRefs, rowRefs, refsLtL, refsLt, NatBlt]; omega
    · rfl
  · have hz2 : (decide (c0 = 0) && decide (c1 = 0)) = false := by simp only [Bool.and_eq_false_iff, decide_eq_false_iff_not]; omega
    refine vcalls_fn hmix h56 rfl ?_
    simp -implicitDefEqProofs only [c56, caps32, gK1 hK, gK2 hK, gK3 hK, gK4 hK, gK5 hK, gK6 hK, gK7 hK, gK8 hK, gK9 hK, sK1 hK, sK2 hK, sK3 hK, sK4 hK, sK5 hK, sK6 hK, sK7 hK, sK8 hK, sK9 hK, kb, List.length_append, beq_self_eq_true, L32, hz2, push_cast, Nat.reduceBEq, Nat.reduceLT, Nat.reduceLeDiff, Nat.reduceAdd, Nat.reduceSub, Nat.reduceMul, Nat.reduceEqDiff, reduceCtorEq, ↓reduceIte, Int.reduceEq, Int.reduceLT, Int.reduceLE, Int.reduceNe, Int.reduceAdd, Int.reduceSub, Int.reduceMul, Int.reduceToNat, Nat.reduceShiftRight, Nat.reduceAnd, Nat.reduceBNe]
    refine fin_app (n := K + 10) (by simp [hK]) (by simp [hK] <;> omega) rfl (hR _ _ (by omega)) ?_ ⟨rfl, [], ?_⟩
    · simp [rowsRefs, rowRefs, refsLtL, refsLt, NatBlt]; omega
    · rw [tabE_no (by simp; omega)]; rfl
theorem fill32_21 (hK : ∀ s, (C s).length = K + 1) (hR : ∀ s n, K + 1 ≤ n → rowsRefs n (C s) = true) (hk : k < K + 1) (hY : Yields32 J C K k upd r0 r1 r2 k0 k1) (s : σ) (a0 a1 a2 c0 c1 x00 x01 x10 x11 x20 x21 : Int) (hJ : Pre J upd s ((rowE (a2) [c1]).flatMap fun tl => (tabE [] (c0 :: subC [c1] tl)).map fun rest => [x00, x01] :: [x10, x11] :: (x20 :: tl) :: rest)) (hi : 0 ≤ x00 ∧ 0 ≤ x01 ∧ 0 ≤ x10 ∧ 0 ≤ x11 ∧ 0 ≤ x20 ∧ x00 + x01 = r0 ∧ x10 + x11 = r1 ∧ x20 + a2 = r2 ∧ 0 ≤ a2 ∧ x00 + x10 + x20 + c0 = k0 ∧ 0 ≤ c0 ∧ x01 + x11 + c1 = k1 ∧ 0 ≤ c1 ∧ r0 ≤ 20 ∧ r1 ≤ 20 ∧ r2 ≤ 20 ∧ k0 ≤ 20 ∧ k1 ≤ 20) :
    VCalls Tryd.prog 56 ([I 2, I 1] ++ caps32 K) (C s ++ L32 K k a0 a1 a2 c0 c1 x00 x01 x10 x11 x20 x21) (fun v h' => v = B true ∧ ∃ ys : List Int, h' = C (((rowE (a2) [c1]).flatMap fun tl => (tabE [] (c0 :: subC [c1] tl)).map fun rest => [x00, x01] :: [x10, x11] :: (x20 :: tl) :: rest).foldl upd s) ++ L32 K k a0 a1 a2 c0 c1 x00 x01 x10 x11 x20 (ys.getD 0 0)) := by
  have kb := kbeq K
  refine vcalls_fn hmix h56 rfl ?_
  simp -implicitDefEqProofs only [c56, caps32, gK1 hK, gK2 hK, gK3 hK, gK4 hK, gK5 hK, gK6 hK, gK7 hK, gK8 hK, gK9 hK, sK1 hK, sK2 hK, sK3 hK, sK4 hK, sK5 hK, sK6 hK, sK7 hK, sK8 hK, sK9 hK, kb, List.length_append, beq_self_eq_true, L32, push_cast, Nat.reduceBEq, Nat.reduceLT, Nat.reduceLeDiff, Nat.reduceAdd, Nat.reduceSub, Nat.reduceMul, Nat.reduceEqDiff, reduceCtorEq, ↓reduceIte, Int.reduceEq, Int.reduceLT, Int.reduceLE, Int.reduceNe, Int.reduceAdd, Int.reduceSub, Int.reduceMul, Int.reduceToNat, Nat.reduceShiftRight, Nat.reduceAnd, Nat.reduceBNe]
  refine ⟨by simp only [inR]; omega, fun hlt => ?_, fun hle => ?_⟩
  · skip
    refine fin_app (n := K + 10) (by simp [hK]) (by simp [hK] <;> omega) rfl (hR _ _ (by omega)) ?_ ⟨rfl, [x21], ?_⟩
    · simp [rowsRefs, rowRefs, refsLtL, refsLt, NatBlt]; omega
    · rw [show rowE a2 [c1] = [] from if_neg (by omega)]; rfl
  · refine ⟨by simp only [inR]; omega, by simp only [inR]; omega, ?_⟩
    have e : ((rowE (a2) [c1]).flatMap fun tl => (tabE [] (c0 :: subC [c1] tl)).map fun rest => [x00, x01] :: [x10, x11] :: (x20 :: tl) :: rest) = ((tabE [] [c0, (c1 - a2)]).map fun rest => [x00, x01] :: [x10, x11] :: [x20, a2] :: rest) := by
      rw [show rowE a2 [c1] = [[a2]] from if_pos (by omega)]
      simp only [tabE_cons, subC, List.map_flatMap, List.map_map, List.flatMap_cons, List.flatMap_nil, List.append_nil, Function.comp_def, List.nil_append, List.cons_append]
    rw [e] at hJ
    refine call_rule (fill32_30 hK hR hk hY s a0 a1 a2 c0 (c1 - a2) x00 x01 x10 x11 x20 a2 hJ (by omega)) ?_
    rintro v h' ⟨rfl, ys, rfl⟩
    simp -implicitDefEqProofs only [Int.sub_add_cancel, gK1 hK, gK2 hK, gK3 hK, gK4 hK, gK5 hK, gK6 hK, gK7 hK, gK8 hK, gK9 hK, sK1 hK, sK2 hK, sK3 hK, sK4 hK, sK5 hK, sK6 hK, sK7 hK, sK8 hK, sK9 hK, kb, List.length_append, beq_self_eq_true, L32, push_cast, Nat.reduceBEq, Nat.reduceLT, Nat.reduceLeDiff, Nat.reduceAdd, Nat.reduceSub, Nat.reduceMul, Nat.reduceEqDiff, reduceCtorEq, ↓reduceIte, Int.reduceEq, Int.reduceLT, Int.reduceLE, Int.reduceNe, Int.reduceAdd, Int.reduceSub, Int.reduceMul, Int.reduceToNat, Nat.reduceShiftRight, Nat.reduceAnd, Nat.reduceBNe]
    refine ⟨by simp only [inR]; omega, ?_⟩
    refine fin_app (n := K + 10) (by simp [hK]) (by simp [hK] <;> omega) rfl (hR _ _ (by omega)) ?_ ⟨rfl, a2 :: ys, ?_⟩
    · simp [rowsRefs, rowRefs, refsLtL, refsLt, NatBlt]; omega
    · rw [e]; rfl
theorem fill32_20 (hK : ∀ s, (C s).length = K + 1) (hR : ∀ s n, K + 1 ≤ n → rowsRefs n (C s) = true) (hk : k < K + 1) (hY : Yields32 J C K k upd r0 r1 r2 k0 k1) (s : σ) (a0 a1 a2 c0 c1 x00 x01 x10 x11 x20 x21 : Int) (hJ : Pre J upd s ((rowE (a2) [c0, c1]).flatMap fun tl => (tabE [] (subC [c0, c1] tl)).map fun rest => [x00, x01] :: [x10, x11] :: (tl) :: rest)) (hi : 0 ≤ x00 ∧ 0 ≤ x01 ∧ 0 ≤ x10 ∧ 0 ≤ x11 ∧ x00 + x01 = r0 ∧ x10 + x11 = r1 ∧ a2 = r2 ∧ 0 ≤ a2 ∧ x00 + x10 + c0 = k0 ∧ 0 ≤ c0 ∧ x01 + x11 + c1 = k1 ∧ 0 ≤ c1 ∧ r0 ≤ 20 ∧ r1 ≤ 20 ∧ r2 ≤ 20 ∧ k0 ≤ 20 ∧ k1 ≤ 20) :
    VCalls Tryd.prog 56 ([I 2, I 0] ++ caps32 K) (C s ++ L32 K k a0 a1 a2 c0 c1 x00 x01 x10 x11 x20 x21) (fun v h' => v = B true ∧ ∃ ys : List Int, h' = C (((rowE (a2) [c0, c1]).flatMap fun tl => (tabE [] (subC [c0, c1] tl)).map fun rest => [x00, x01] :: [x10, x11] :: (tl) :: rest).foldl upd s) ++ L32 K k a0 a1 a2 c0 c1 x00 x01 x10 x11 (ys.getD 0 0) (ys.getD 1 0)) := by
  have kb := kbeq K
  obtain ⟨Yp, hYp⟩ : ∃ Yp : Nat → List (List (List Int)), Yp = fun N => (List.range N).flatMap fun (q : Nat) => ((rowE ((a2 - ((q : Nat) : Int))) [c1]).flatMap fun tl => (tabE [] ((c0 - ((q : Nat) : Int)) :: subC [c1] tl)).map fun rest => [x00, x01] :: [x10, x11] :: (((q : Nat) : Int) :: tl) :: rest) := ⟨_, rfl⟩
  have hY0 : Yp 0 = [] := by rw [hYp]; rfl
  have hYs : ∀ q : Nat, Yp (q + 1) = Yp q ++ ((rowE ((a2 - ((q : Nat) : Int))) [c1]).flatMap fun tl => (tabE [] ((c0 - ((q : Nat) : Int)) :: subC [c1] tl)).map fun rest => [x00, x01] :: [x10, x11] :: (((q : Nat) : Int) :: tl) :: rest) := by
    intro q
    simp only [hYp, List.range_succ, List.flatMap_append, List.flatMap_cons, List.flatMap_nil, List.append_nil]
  have hYe : ((rowE (a2) [c0, c1]).flatMap fun tl => (tabE [] (subC [c0, c1] tl)).map fun rest => [x00, x01] :: [x10, x11] :: (tl) :: rest) = Yp (min a2 c0 + 1).toNat := by
    rw [hYp]
    simp only [rowE, subC, List.flatMap_assoc, List.flatMap_map]
  rw [hYe] at hJ ⊢
  have hpre := pre_steps hYs _ hJ
  clear hYe hYp
  refine vcalls_fn hmix h56 rfl ?_
  simp -implicitDefEqProofs only [c56, caps32, gK1 hK, gK2 hK, gK3 hK, gK4 hK, gK5 hK, gK6 hK, gK7 hK, gK8 hK, gK9 hK, sK1 hK, sK2 hK, sK3 hK, sK4 hK, sK5 hK, sK6 hK, sK7 hK, sK8 hK, sK9 hK, kb, List.length_append, beq_self_eq_true, L32, push_cast, Nat.reduceBEq, Nat.reduceLT, Nat.reduceLeDiff, Nat.reduceAdd, Nat.reduceSub, Nat.reduceMul, Nat.reduceEqDiff, reduceCtorEq, ↓reduceIte, Int.reduceEq, Int.reduceLT, Int.reduceLE, Int.reduceNe, Int.reduceAdd, Int.reduceSub, Int.reduceMul, Int.reduceToNat, Nat.reduceShiftRight, Nat.reduceAnd, Nat.reduceBNe]
  refine ⟨by simp only [inR]; omega, by simp only [inR]; omega, ?_⟩
  refine loop_w (α := Nat × List Int) (fun b => ⟨[(77, I b.1), (76, I (min a2 c0 + 1)), (6, .ptr (K + 9) 0), (5, .ptr (K + 2) 0), (3, .ptr (K + 3) 0), (2, .ptr (K + 5) 0), (1, I 0), (0, I 2)], C ((Yp b.1).foldl upd s) ++ L32 K k a0 a1 a2 c0 c1 x00 x01 x10 x11 (b.2.getD 0 0) (b.2.getD 1 0), []⟩)
    (fun b => b.1 ≤ (min a2 c0 + 1).toNat) (fun b => (min a2 c0 + 1).toNat - b.1) (0, [x20, x21]) (by rw [hY0]; exact wk_tk rfl) (by simp only; omega) ?_
  rintro ⟨q, ys⟩ hq
  simp only at hq
  simp -implicitDefEqProofs only [c56L0, gK1 hK, gK2 hK, gK3 hK, gK4 hK, gK5 hK, gK6 hK, gK7 hK, gK8 hK, gK9 hK, sK1 hK, sK2 hK, sK3 hK, sK4 hK, sK5 hK, sK6 hK, sK7 hK, sK8 hK, sK9 hK, kb, List.length_append, beq_self_eq_true, L32, push_cast, Nat.reduceBEq, Nat.reduceLT, Nat.reduceLeDiff, Nat.reduceAdd, Nat.reduceSub, Nat.reduceMul, Nat.reduceEqDiff, reduceCtorEq, ↓reduceIte, Int.reduceEq, Int.reduceLT, Int.reduceLE, Int.reduceNe, Int.reduceAdd, Int.reduceSub, Int.reduceMul, Int.reduceToNat, Nat.reduceShiftRight, Nat.reduceAnd, Nat.reduceBNe]
  refine ⟨fun hc => ?_, fun hc => ?_⟩
  · refine ⟨by simp only [inR]; omega, by simp only [inR]; omega, by simp only [inR]; omega, ?_⟩
    refine call_rule (fill32_21 hK hR hk hY _ a0 a1 (a2 - (q : Int)) (c0 - (q : Int)) c1 x00 x01 x10 x11 (q : Int) (ys.getD 1 0) (hpre q (by omega)) (by omega)) ?_
    rintro v h' ⟨rfl, ys2, rfl⟩
    simp -implicitDefEqProofs only [Int.sub_add_cancel, gK1 hK, gK2 hK, gK3 hK, gK4 hK, gK5 hK, gK6 hK, gK7 hK, gK8 hK, gK9 hK, sK1 hK, sK2 hK, sK3 hK, sK4 hK, sK5 hK, sK6 hK, sK7 hK, sK8 hK, sK9 hK, kb, List.length_append, beq_self_eq_true, L32, push_cast, Nat.reduceBEq, Nat.reduceLT, Nat.reduceLeDiff, Nat.reduceAdd, Nat.reduceSub, Nat.reduceMul, Nat.reduceEqDiff, reduceCtorEq, ↓reduceIte, Int.reduceEq, Int.reduceLT, Int.reduceLE, Int.reduceNe, Int.reduceAdd, Int.reduceSub, Int.reduceMul, Int.reduceToNat, Nat.reduceShiftRight, Nat.reduceAnd, Nat.reduceBNe]
    refine ⟨by simp only [inR]; omega, by simp only [inR]; omega, by simp only [inR]; omega, (q + 1, (q : Int) :: ys2), by simp only; omega, by simp only; omega, ?_⟩
    simp only [hYs, List.foldl_append]
    exact wk_tk rfl
  · have hqe : q = (min a2 c0 + 1).toNat := by omega
    subst hqe
    refine fin_app (n := K + 10) (by simp [hK]) (by simp [hK] <;> omega) rfl (hR _ _ (by omega)) ?_ ⟨rfl, ys, ?_⟩
    · simp [rowsRefs, rowRefs, refsLtL, refsLt, NatBlt]; omega
    · rfl
theorem fill32_11 (hK : ∀ s, (C s).length = K + 1) (hR : ∀ s n, K + 1 ≤ n → rowsRefs n (C s) = true) (hk : k < K + 1) (hY : Yields32 J C K k upd r0 r1 r2 k0 k1) (s : σ) (a0 a1 a2 c0 c1 x00 x01 x10 x11 x20 x21 : Int) (hJ : Pre J upd s ((rowE (a1) [c1]).flatMap fun tl => (tabE [a2] (c0 :: subC [c1] tl)).map fun rest => [x00, x01] :: (x10 :: tl) :: rest)) (hi : 0 ≤ x00 ∧ 0 ≤ x01 ∧ 0 ≤ x10 ∧ x00 + x01 = r0 ∧ x10 + a1 = r1 ∧ 0 ≤ a1 ∧ a2 = r2 ∧ 0 ≤ a2 ∧ x00 + x10 + c0 = k0 ∧ 0 ≤ c0 ∧ x01 + c1 = k1 ∧ 0 ≤ c1 ∧ r0 ≤ 20 ∧ r1 ≤ 20 ∧ r2 ≤ 20 ∧ k0 ≤ 20 ∧ k1 ≤ 20) :
    VCalls Tryd.prog 56 ([I 1, I 1] ++ caps32 K) (C s ++ L32 K k a0 a1 a2 c0 c1 x00 x01 x10 x11 x20 x21) (fun v h' => v = B true ∧ ∃ ys : List Int, h' = C (((rowE (a1) [c1]).flatMap fun tl => (tabE [a2] (c0 :: subC [c1] tl)).map fun rest => [x00, x01] :: (x10 :: tl) :: rest).foldl upd s) ++ L32 K k a0 a1 a2 c0 c1 x00 x01 x10 (ys.getD 0 0) (ys.getD 1 0) (ys.getD 2 0)) := by
  have kb := kbeq K
  refine vcalls_fn hmix h56 rfl ?_
  simp -implicitDefEqProofs only [c56, caps32, gK1 hK, gK2 hK, gK3 hK, gK4 hK, gK5 hK, gK6 hK, gK7 hK, gK8 hK, gK9 hK, sK1 hK, sK2 hK, sK3 hK, sK4 hK, sK5 hK, sK6 hK, sK7 hK, sK8 hK, sK9 hK, kb, List.length_append, beq_self_eq_true, L32, push_cast, Nat.reduceBEq, Nat.reduceLT, Nat.reduceLeDiff, Nat.reduceAdd, Nat.reduceSub, Nat.reduceMul, Nat.reduceEqDiff, reduceCtorEq, ↓reduceIte, Int.reduceEq, Int.reduceLT, Int.reduceLE, Int.reduceNe, Int.reduceAdd, Int.reduceSub, Int.reduceMul, Int.reduceToNat, Nat.reduceShiftRight, Nat.reduceAnd, Nat.reduceBNe]
  refine ⟨by simp only [inR]; omega, fun hlt => ?_, fun hle => ?_⟩
  · skip
    refine fin_app (n := K + 10) (by simp [hK]) (by simp [hK] <;> omega) rfl (hR _ _ (by omega)) ?_ ⟨rfl, [x11, x20, x21], ?_⟩
    · simp [rowsRefs, rowRefs, refsLtL, refsLt, NatBlt]; omega
    · rw [show rowE a1 [c1] = [] from if_neg (by omega)]; rfl
  · refine ⟨by simp only [inR]; omega, by simp only [inR]; omega, ?_⟩
    have e : ((rowE (a1) [c1]).flatMap fun tl => (tabE [a2] (c0 :: subC [c1] tl)).map fun rest => [x00, x01] :: (x10 :: tl) :: rest) = ((rowE (a2) [c0, (c1 - a1)]).flatMap fun tl => (tabE [] (subC [c0, (c1 - a1)] tl)).map fun rest => [x00, x01] :: [x10, a1] :: (tl) :: rest) := by
      rw [show rowE a1 [c1] = [[a1]] from if_pos (by omega)]
      simp only [tabE_cons, subC, List.map_flatMap, List.map_map, List.flatMap_cons, List.flatMap_nil, List.append_nil, Function.comp_def, List.nil_append, List.cons_append]
    rw [e] at hJ
    refine call_rule (fill32_20 hK hR hk hY s a0 a1 a2 c0 (c1 - a1) x00 x01 x10 a1 x20 x21 hJ (by omega)) ?_
    rintro v h' ⟨rfl, ys, rfl⟩
    simp -implicitDefEqProofs only [Int.sub_add_cancel, gK1 hK, gK2 hK, gK3 hK, gK4 hK, gK5 hK, gK6 hK, gK7 hK, gK8 hK, gK9 hK, sK1 hK, sK2 hK, sK3 hK, sK4 hK, sK5 hK, sK6 hK, sK7 hK, sK8 hK, sK9 hK, kb, List.length_append, beq_self_eq_true, L32, push_cast, Nat.reduceBEq, Nat.reduceLT, Nat.reduceLeDiff, Nat.reduceAdd, Nat.reduceSub, Nat.reduceMul, Nat.reduceEqDiff, reduceCtorEq, ↓reduceIte, Int.reduceEq, Int.reduceLT, Int.reduceLE, Int.reduceNe, Int.reduceAdd, Int.reduceSub, Int.reduceMul, Int.reduceToNat, Nat.reduceShiftRight, Nat.reduceAnd, Nat.reduceBNe]
    refine ⟨by simp only [inR]; omega, ?_⟩
    refine fin_app (n := K + 10) (by simp [hK]) (by simp [hK] <;> omega) rfl (hR _ _ (by omega)) ?_ ⟨rfl, a1 :: ys, ?_⟩
    · simp [rowsRefs, rowRefs, refsLtL, refsLt, NatBlt]; omega
    · rw [e]; rfl
theorem fill32_10 (hK : ∀ s, (C s).length = K + 1) (hR : ∀ s n, K + 1 ≤ n → rowsRefs n (C s) = true) (hk : k < K + 1) (hY : Yields32 J C K k upd r0 r1 r2 k0 k1) (s : σ) (a0 a1 a2 c0 c1 x00 x01 x10 x11 x20 x21 : Int) (hJ : Pre J upd s ((rowE (a1) [c0, c1]).flatMap fun tl => (tabE [a2] (subC [c0, c1] tl)).map fun rest => [x00, x01] :: (tl) :: rest)) (hi : 0 ≤ x00 ∧ 0 ≤ x01 ∧ x00 + x01 = r0 ∧ a1 = r1 ∧ 0 ≤ a1 ∧ a2 = r2 ∧ 0 ≤ a2 ∧ x00 + c0 = k0 ∧ 0 ≤ c0 ∧ x01 + c1 = k1 ∧ 0 ≤ c1 ∧ r0 ≤ 20 ∧ r1 ≤ 20 ∧ r2 ≤ 20 ∧ k0 ≤ 20 ∧ k1 ≤ 20) :
    VCalls Tryd.prog 56 ([I 1, I 0] ++ caps32 K) (C s ++ L32 K k a0 a1 a2 c0 c1 x00 x01 x10 x11 x20 x21) (fun v h' => v = B true ∧ ∃ ys : List Int, h' = C (((rowE (a1) [c0, c1]).flatMap fun tl => (tabE [a2] (subC [c0, c1] tl)).map fun rest => [x00, x01] :: (tl) :: rest).foldl upd s) ++ L32 K k a0 a1 a2 c0 c1 x00 x01 (ys.getD 0 0) (ys.getD 1 0) (ys.getD 2 0) (ys.getD 3 0)) := by
  have kb := kbeq K
  obtain ⟨Yp, hYp⟩ : ∃ Yp : Nat → List (List (List Int)), Yp = fun N => (List.range N).flatMap fun (q : Nat) => ((rowE ((a1 - ((q : Nat) : Int))) [c1]).flatMap fun tl => (tabE [a2] ((c0 - ((q : Nat) : Int)) :: subC [c1] tl)).map fun rest => [x00, x01] :: (((q : Nat) : Int) :: tl) :: rest) := ⟨_, rfl⟩
  have hY0 : Yp 0 = [] := by rw [hYp]; rfl
  have hYs : ∀ q : Nat, Yp (q + 1) = Yp q ++ ((rowE ((a1 - ((q : Nat) : Int))) [c1]).flatMap fun tl => (tabE [a2] ((c0 - ((q : Nat) : Int)) :: subC [c1] tl)).map fun rest => [x00, x01] :: (((q : Nat) : Int) :: tl) :: rest) := by
    intro q
    simp only [hYp, List.range_succ, List.flatMap_append, List.flatMap_cons, List.flatMap_nil, List.append_nil]
  have hYe : ((rowE (a1) [c0, c1]).flatMap fun tl => (tabE [a2] (subC [c0, c1] tl)).map fun rest => [x00, x01] :: (tl) :: rest) = Yp (min a1 c0 + 1).toNat := by
    rw [hYp]
    simp only [rowE, subC, List.flatMap_assoc, List.flatMap_map]
  rw [hYe] at hJ ⊢
  have hpre := pre_steps hYs _ hJ
  clear hYe hYp
  refine vcalls_fn hmix h56 rfl ?_
  simp -implicitDefEqProofs only [c56, caps32, gK1 hK, gK2 hK, gK3 hK, gK4 hK, gK5 hK, gK6 hK, gK7 hK, gK8 hK, gK9 hK, sK1 hK, sK2 hK, sK3 hK, sK4 hK, sK5 hK, sK6 hK, sK7 hK, sK8 hK, sK9 hK, kb, List.length_append, beq_self_eq_true, L32, push_cast, Nat.reduceBEq, Nat.reduceLT, Nat.reduceLeDiff, Nat.reduceAdd, Nat.reduceSub, Nat.reduceMul, Nat.reduceEqDiff, reduceCtorEq, ↓reduceIte, Int.reduceEq, Int.reduceLT, Int.reduceLE, Int.reduceNe, Int.reduceAdd, Int.reduceSub, Int.reduceMul, Int.reduceToNat, Nat.reduceShiftRight, Nat.reduceAnd, Nat.reduceBNe]
  refine ⟨by simp only [inR]; omega, by simp only [inR]; omega, ?_⟩
  refine loop_w (α := Nat × List Int) (fun b => ⟨[(77, I b.1), (76, I (min a1 c0 + 1)), (6, .ptr (K + 9) 0), (5, .ptr (K + 2) 0), (3, .ptr (K + 3) 0), (2, .ptr (K + 5) 0), (1, I 0), (0, I 1)], C ((Yp b.1).foldl upd s) ++ L32 K k a0 a1 a2 c0 c1 x00 x01 (b.2.getD 0 0) (b.2.getD 1 0) (b.2.getD 2 0) (b.2.getD 3 0), []⟩)
    (fun b => b.1 ≤ (min a1 c0 + 1).toNat) (fun b => (min a1 c0 + 1).toNat - b.1) (0, [x10, x11, x20, x21]) (by rw [hY0]; exact wk_tk rfl) (by simp only; omega) ?_
  rintro ⟨q, ys⟩ hq
  simp only at hq
  simp -implicitDefEqProofs only [c56L0, gK1 hK, gK2 hK, gK3 hK, gK4 hK, gK5 hK, gK6 hK, gK7 hK, gK8 hK, gK9 hK, sK1 hK, sK2 hK, sK3 hK, sK4 hK, sK5 hK, sK6 hK, sK7 hK, sK8 hK, sK9 hK, kb, List.length_append, beq_self_eq_true, L32, push_cast, Nat.reduceBEq, Nat.reduceLT, Nat.reduceLeDiff, Nat.reduceAdd, Nat.reduceSub, Nat.reduceMul, Nat.reduceEqDiff, reduceCtorEq, ↓reduceIte, Int.reduceEq, Int.reduceLT, Int.reduceLE, Int.reduceNe, Int.reduceAdd, Int.reduceSub, Int.reduceMul, Int.reduceToNat, Nat.reduceShiftRight, Nat.reduceAnd, Nat.reduceBNe]
  refine ⟨fun hc => ?_, fun hc => ?_⟩
  · refine ⟨by simp only [inR]; omega, by simp only [inR]; omega, by simp only [inR]; omega, ?_⟩
    refine call_rule (fill32_11 hK hR hk hY _ a0 (a1 - (q : Int)) a2 (c0 - (q : Int)) c1 x00 x01 (q : Int) (ys.getD 1 0) (ys.getD 2 0) (ys.getD 3 0) (hpre q (by omega)) (by omega)) ?_
    rintro v h' ⟨rfl, ys2, rfl⟩
    simp -implicitDefEqProofs only [Int.sub_add_cancel, gK1 hK, gK2 hK, gK3 hK, gK4 hK, gK5 hK, gK6 hK, gK7 hK, gK8 hK, gK9 hK, sK1 hK, sK2 hK, sK3 hK, sK4 hK, sK5 hK, sK6 hK, sK7 hK, sK8 hK, sK9 hK, kb, List.length_append, beq_self_eq_true, L32, push_cast, Nat.reduceBEq, Nat.reduceLT, Nat.reduceLeDiff, Nat.reduceAdd, Nat.reduceSub, Nat.reduceMul, Nat.reduceEqDiff, reduceCtorEq, ↓reduceIte, Int.reduceEq, Int.reduceLT, Int.reduceLE, Int.reduceNe, Int.reduceAdd, Int.reduceSub, Int.reduceMul, Int.reduceToNat, Nat.reduceShiftRight, Nat.reduceAnd, Nat.reduceBNe]
    refine ⟨by simp only [inR]; omega, by simp only [inR]; omega, by simp only [inR]; omega, (q + 1, (q : Int) :: ys2), by simp only; omega, by simp only; omega, ?_⟩
    simp only [hYs, List.foldl_append]
    exact wk_tk rfl
  · have hqe : q = (min a1 c0 + 1).toNat := by omega
    subst hqe
    refine fin_app (n := K + 10) (by simp [hK]) (by simp [hK] <;> omega) rfl (hR _ _ (by omega)) ?_ ⟨rfl, ys, ?_⟩
    · simp [rowsRefs, rowRefs, refsLtL, refsLt, NatBlt]; omega
    · rfl
theorem fill32_01 (hK : ∀ s, (C s).length = K + 1) (hR : ∀ s n, K + 1 ≤ n → rowsRefs n (C s) = true) (hk : k < K + 1) (hY : Yields32 J C K k upd r0 r1 r2 k0 k1) (s : σ) (a0 a1 a2 c0 c1 x00 x01 x10 x11 x20 x21 : Int) (hJ : Pre J upd s ((rowE (a0) [c1]).flatMap fun tl => (tabE [a1, a2] (c0 :: subC [c1] tl)).map fun rest => (x00 :: tl) :: rest)) (hi : 0 ≤ x00 ∧ x00 + a0 = r0 ∧ 0 ≤ a0 ∧ a1 = r1 ∧ 0 ≤ a1 ∧ a2 = r2 ∧ 0 ≤ a2 ∧ x00 + c0 = k0 ∧ 0 ≤ c0 ∧ c1 = k1 ∧ 0 ≤ c1 ∧ r0 ≤ 20 ∧ r1 ≤ 20 ∧ r2 ≤ 20 ∧ k0 ≤ 20 ∧ k1 ≤ 20) :
    VCalls Tryd.prog 56 ([I 0, I 1] ++ caps32 K) (C s ++ L32 K k a0 a1 a2 c0 c1 x00 x01 x10 x11 x20 x21) (fun v h' => v = B true ∧ ∃ ys : List Int, h' = C (((rowE (a0) [c1]).flatMap fun tl => (tabE [a1, a2] (c0 :: subC [c1] tl)).map fun rest => (x00 :: tl) :: rest).foldl upd s) ++ L32 K k a0 a1 a2 c0 c1 x00 (ys.getD 0 0) (ys.getD 1 0) (ys.getD 2 0) (ys.getD 3 0) (ys.getD 4 0)) := by
  have kb := kbeq K
  refine vcalls_fn hmix h56 rfl ?_
  simp -implicitDefEqProofs only [c56, caps32, gK1 hK, gK2 hK, gK3 hK, gK4 hK, gK5 hK, gK6 hK, gK7 hK, gK8 hK, gK9 hK, sK1 hK, sK2 hK, sK3 hK, sK4 hK, sK5 hK, sK6 hK, sK7 hK, sK8 hK, sK9 hK, kb, List.length_append, beq_self_eq_true, L32, push_cast, Nat.reduceBEq, Nat.reduceLT, Nat.reduceLeDiff, Nat.reduceAdd, Nat.reduceSub, Nat.reduceMul, Nat.reduceEqDiff, reduceCtorEq, ↓reduceIte, Int.reduceEq, Int.reduceLT, Int.reduceLE, Int.reduceNe, Int.reduceAdd, Int.reduceSub, Int.reduceMul, Int.reduceToNat, Nat.reduceShiftRight, Nat.reduceAnd, Nat.reduceBNe]
  refine ⟨by simp only [inR]; omega, fun hlt => ?_, fun hle => ?_⟩
  · skip
    refine fin_app (n := K + 10) (by simp [hK]) (by simp [hK] <;> omega) rfl (hR _ _ (by omega)) ?_ ⟨rfl, [x01, x10, x11, x20, x21], ?_⟩
    · simp [rowsRefs, rowRefs, refsLtL, refsLt, NatBlt]; omega
    · rw [show rowE a0 [c1] = [] from if_neg (by omega)]; rfl
  · refine ⟨by simp only [inR]; omega, by simp only [inR]; omega, ?_⟩
    have e : ((rowE (a0) [c1]).flatMap fun tl => (tabE [a1, a2] (c0 :: subC [c1] tl)).map fun rest => (x00 :: tl) :: rest) = ((rowE (a1) [c0, (c1 - a0)]).flatMap fun tl => (tabE [a2] (subC [c0, (c1 - a0)] tl)).map fun rest => [x00, a0] :: (tl) :: rest) := by
      rw [show rowE a0 [c1] = [[a0]] from if_pos (by omega)]
      simp only [tabE_cons, subC, List.map_flatMap, List.map_map, List.flatMap_cons, List.flatMap_nil, List.append_nil, Function.comp_def, List.nil_append, List.cons_append]
    rw [e] at hJ
    refine call_rule (fill32_10 hK hR hk hY s a0 a1 a2 c0 (c1 - a0) x00 a0 x10 x11 x20 x21 hJ (by omega)) ?_
    rintro v h' ⟨rfl, ys, rfl⟩
    simp -implicitDefEqProofs only [Int.sub_add_cancel, gK1 hK, gK2 hK, gK3 hK, gK4 hK, gK5 hK, gK6 hK, gK7 hK, gK8 hK, gK9 hK, sK1 hK, sK2 hK, sK3 hK, sK4 hK, sK5 hK, sK6 hK, sK7 hK, sK8 hK, sK9 hK, kb, List.length_append, beq_self_eq_true, L32, push_cast, Nat.reduceBEq, Nat.reduceLT, Nat.reduceLeDiff, Nat.reduceAdd, Nat.reduceSub, Nat.reduceMul, Nat.reduceEqDiff, reduceCtorEq, ↓reduceIte, Int.reduceEq, Int.reduceLT, Int.reduceLE, Int.reduceNe, Int.reduceAdd, Int.reduceSub, Int.reduceMul, Int.reduceToNat, Nat.reduceShiftRight, Nat.reduceAnd, Nat.reduceBNe]
    refine ⟨by simp only [inR]; omega, ?_⟩
    refine fin_app (n := K + 10) (by simp [hK]) (by simp [hK] <;> omega) rfl (hR _ _ (by omega)) ?_ ⟨rfl, a0 :: ys, ?_⟩
    · simp [rowsRefs, rowRefs, refsLtL, refsLt, NatBlt]; omega
    · rw [e]; rfl
theorem fill32_00 (hK : ∀ s, (C s).length = K + 1) (hR : ∀ s n, K + 1 ≤ n → rowsRefs n (C s) = true) (hk : k < K + 1) (hY : Yields32 J C K k upd r0 r1 r2 k0 k1) (s : σ) (a0 a1 a2 c0 c1 x00 x01 x10 x11 x20 x21 : Int) (hJ : Pre J upd s ((rowE (a0) [c0, c1]).flatMap fun tl => (tabE [a1, a2] (subC [c0, c1] tl)).map fun rest => (tl) :: rest)) (hi : a0 = r0 ∧ 0 ≤ a0 ∧ a1 = r1 ∧ 0 ≤ a1 ∧ a2 = r2 ∧ 0 ≤ a2 ∧ c0 = k0 ∧ 0 ≤ c0 ∧ c1 = k1 ∧ 0 ≤ c1 ∧ r0 ≤ 20 ∧ r1 ≤ 20 ∧ r2 ≤ 20 ∧ k0 ≤ 20 ∧ k1 ≤ 20) :
    VCalls Tryd.prog 56 ([I 0, I 0] ++ caps32 K) (C s ++ L32 K k a0 a1 a2 c0 c1 x00 x01 x10 x11 x20 x21) (fun v h' => v = B true ∧ ∃ ys : List Int, h' = C (((rowE (a0) [c0, c1]).flatMap fun tl => (tabE [a1, a2] (subC [c0, c1] tl)).map fun rest => (tl) :: rest).foldl upd s) ++ L32 K k a0 a1 a2 c0 c1 (ys.getD 0 0) (ys.getD 1 0) (ys.getD 2 0) (ys.getD 3 0) (ys.getD 4 0) (ys.getD 5 0)) := by
  have kb := kbeq K
  obtain ⟨Yp, hYp⟩ : ∃ Yp : Nat → List (List (List Int)), Yp = fun N => (List.range N).flatMap fun (q : Nat) => ((rowE ((a0 - ((q : Nat) : Int))) [c1]).flatMap fun tl => (tabE [a1, a2] ((c0 - ((q : Nat) : Int)) :: subC [c1] tl)).map fun rest => (((q : Nat) : Int) :: tl) :: rest) := ⟨_, rfl⟩
  have hY0 : Yp 0 = [] := by rw [hYp]; rfl
  have hYs : ∀ q : Nat, Yp (q + 1) = Yp q ++ ((rowE ((a0 - ((q : Nat) : Int))) [c1]).flatMap fun tl => (tabE [a1, a2] ((c0 - ((q : Nat) : Int)) :: subC [c1] tl)).map fun rest => (((q : Nat) : Int) :: tl) :: rest) := by
    intro q
    simp only [hYp, List.range_succ, List.flatMap_append, List.flatMap_cons, List.flatMap_nil, List.append_nil]
  have hYe : ((rowE (a0) [c0, c1]).flatMap fun tl => (tabE [a1, a2] (subC [c0, c1] tl)).map fun rest => (tl) :: rest) = Yp (min a0 c0 + 1).toNat := by
    rw [hYp]
    simp only [rowE, subC, List.flatMap_assoc, List.flatMap_map]
  rw [hYe] at hJ ⊢
  have hpre := pre_steps hYs _ hJ
  clear hYe hYp
  refine vcalls_fn hmix h56 rfl ?_
  simp -implicitDefEqProofs only [c56, caps32, gK1 hK, gK2 hK, gK3 hK, gK4 hK, gK5 hK, gK6 hK, gK7 hK, gK8 hK, gK9 hK, sK1 hK, sK2 hK, sK3 hK, sK4 hK, sK5 hK, sK6 hK, sK7 hK, sK8 hK, sK9 hK, kb, List.length_append, beq_self_eq_true, L32, push_cast, Nat.reduceBEq, Nat.reduceLT, Nat.reduceLeDiff, Nat.reduceAdd, Nat.reduceSub, Nat.reduceMul, Nat.reduceEqDiff, reduceCtorEq, ↓reduceIte, Int.reduceEq, Int.reduceLT, Int.reduceLE, Int.reduceNe, Int.reduceAdd, Int.reduceSub, Int.reduceMul, Int.reduceToNat, Nat.reduceShiftRight, Nat.reduceAnd, Nat.reduceBNe]
  refine ⟨by simp only [inR]; omega, by simp only [inR]; omega, ?_⟩
  refine loop_w (α := Nat × List Int) (fun b => ⟨[(77, I b.1), (76, I (min a0 c0 + 1)), (6, .ptr (K + 9) 0), (5, .ptr (K + 2) 0), (3, .ptr (K + 3) 0), (2, .ptr (K + 5) 0), (1, I 0), (0, I 0)], C ((Yp b.1).foldl upd s) ++ L32 K k a0 a1 a2 c0 c1 (b.2.getD 0 0) (b.2.getD 1 0) (b.2.getD 2 0) (b.2.getD 3 0) (b.2.getD 4 0) (b.2.getD 5 0), []⟩)
    (fun b => b.1 ≤ (min a0 c0 + 1).toNat) (fun b => (min a0 c0 + 1).toNat - b.1) (0, [x00, x01, x10, x11, x20, x21]) (by rw [hY0]; exact wk_tk rfl) (by simp only; omega) ?_
  rintro ⟨q, ys⟩ hq
  simp only at hq
  simp -implicitDefEqProofs only [c56L0, gK1 hK, gK2 hK, gK3 hK, gK4 hK, gK5 hK, gK6 hK, gK7 hK, gK8 hK, gK9 hK, sK1 hK, sK2 hK, sK3 hK, sK4 hK, sK5 hK, sK6 hK, sK7 hK, sK8 hK, sK9 hK, kb, List.length_append, beq_self_eq_true, L32, push_cast, Nat.reduceBEq, Nat.reduceLT, Nat.reduceLeDiff, Nat.reduceAdd, Nat.reduceSub, Nat.reduceMul, Nat.reduceEqDiff, reduceCtorEq, ↓reduceIte, Int.reduceEq, Int.reduceLT, Int.reduceLE, Int.reduceNe, Int.reduceAdd, Int.reduceSub, Int.reduceMul, Int.reduceToNat, Nat.reduceShiftRight, Nat.reduceAnd, Nat.reduceBNe]
  refine ⟨fun hc => ?_, fun hc => ?_⟩
  · refine ⟨by simp only [inR]; omega, by simp only [inR]; omega, by simp only [inR]; omega, ?_⟩
    refine call_rule (fill32_01 hK hR hk hY _ (a0 - (q : Int)) a1 a2 (c0 - (q : Int)) c1 (q : Int) (ys.getD 1 0) (ys.getD 2 0) (ys.getD 3 0) (ys.getD 4 0) (ys.getD 5 0) (hpre q (by omega)) (by omega)) ?_
    rintro v h' ⟨rfl, ys2, rfl⟩
    simp -implicitDefEqProofs only [Int.sub_add_cancel, gK1 hK, gK2 hK, gK3 hK, gK4 hK, gK5 hK, gK6 hK, gK7 hK, gK8 hK, gK9 hK, sK1 hK, sK2 hK, sK3 hK, sK4 hK, sK5 hK, sK6 hK, sK7 hK, sK8 hK, sK9 hK, kb, List.length_append, beq_self_eq_true, L32, push_cast, Nat.reduceBEq, Nat.reduceLT, Nat.reduceLeDiff, Nat.reduceAdd, Nat.reduceSub, Nat.reduceMul, Nat.reduceEqDiff, reduceCtorEq, ↓reduceIte, Int.reduceEq, Int.reduceLT, Int.reduceLE, Int.reduceNe, Int.reduceAdd, Int.reduceSub, Int.reduceMul, Int.reduceToNat, Nat.reduceShiftRight, Nat.reduceAnd, Nat.reduceBNe]
    refine ⟨by simp only [inR]; omega, by simp only [inR]; omega, by simp only [inR]; omega, (q + 1, (q : Int) :: ys2), by simp only; omega, by simp only; omega, ?_⟩
    simp only [hYs, List.foldl_append]
    exact wk_tk rfl
  · have hqe : q = (min a0 c0 + 1).toNat := by omega
    subst hqe
    refine fin_app (n := K + 10) (by simp [hK]) (by simp [hK] <;> omega) rfl (hR _ _ (by omega)) ?_ ⟨rfl, ys, ?_⟩
    · simp [rowsRefs, rowRefs, refsLtL, refsLt, NatBlt]; omega
    · rfl
end
end Go.Proofs.YtligakiolapkkaaDoor

namespace Go.Proofs.YtligakiolapkkaaDoor
open Go GoV
set_option maxHeartbeats 8000000
set_option maxRecDepth 10000
set_option linter.unusedVariables false
set_option linter.unusedSimpArgs false
def caps33 (K : Nat) : List AV := [.ptr (K + 5) 0, .ptr (K + 3) 0, .ptr (K + 1) 0, .ptr (K + 2) 0, .ptr (K + 9) 0]
def L33 (K k : Nat) (a0 a1 a2 c0 c1 c2 x00 x01 x02 x10 x11 x12 x20 x21 x22 : Int) : Heap := [.box [.yld k], .box [I a0, I a1, I a2], .box [I c0, I c1, I c2], .box [.slc (K + 6) 3 0 3, .slc (K + 7) 3 0 3, .slc (K + 8) 3 0 3], .box [.slc (K + 4) 0 0 3], .seq (.int .i64) [x00, x01, x02] true, .seq (.int .i64) [x10, x11, x12] true, .seq (.int .i64) [x20, x21, x22] true, .box [.fn 56 [] [.ptr (K + 5) 0, .ptr (K + 3) 0, .ptr (K + 1) 0, .ptr (K + 2) 0, .ptr (K + 9) 0]]]
section
variable {σ : Type} {J : σ → Prop} {C : σ → Heap} {K k : Nat} {upd : σ → List (List Int) → σ} {r0 r1 r2 k0 k1 k2 : Int}
def Yields33 (J : σ → Prop) (C : σ → Heap) (K k : Nat) (upd : σ → List (List Int) → σ) (r0 r1 r2 k0 k1 k2 : Int) : Prop := ∀ (s : σ) (a0 a1 a2 c0 c1 c2 x00 x01 x02 x10 x11 x12 x20 x21 x22 : Int), J s → (0 ≤ x00 ∧ 0 ≤ x01 ∧ 0 ≤ x02 ∧ 0 ≤ x10 ∧ 0 ≤ x11 ∧ 0 ≤ x12 ∧ 0 ≤ x20 ∧ 0 ≤ x21 ∧ 0 ≤ x22) → (x00 + x01 + x02 = r0 ∧ x10 + x11 + x12 = r1 ∧ x20 + x21 + x22 = r2) → (x00 + x10 + x20 = k0 ∧ x01 + x11 + x21 = k1 ∧ x02 + x12 + x22 = k2) →
    VYield Tryd.prog k [.slc (K + 4) 0 0 3] (C s ++ L33 K k a0 a1 a2 c0 c1 c2 x00 x01 x02 x10 x11 x12 x20 x21 x22) (fun v h' => v = B true ∧ h' = C (upd s [[x00, x01, x02], [x10, x11, x12], [x20, x21, x22]]) ++ L33 K k a0 a1 a2 c0 c1 c2 x00 x01 x02 x10 x11 x12 x20 x21 x22)
theorem fill33_30 (hK : ∀ s, (C s).length = K + 1) (hR : ∀ s n, K + 1 ≤ n → rowsRefs n (C s) = true) (hk : k < K + 1) (hY : Yields33 J C K k upd r0 r1 r2 k0 k1 k2) (s : σ) (a0 a1 a2 c0 c1 c2 x00 x01 x02 x10 x11 x12 x20 x21 x22 : Int) (hJ : Pre J upd s ((tabE [] [c0, c1, c2]).map fun rest => [x00, x01, x02] :: [x10, x11, x12] :: [x20, x21, x22] :: rest)) (hi : 0 ≤ x00 ∧ 0 ≤ x01 ∧ 0 ≤ x02 ∧ 0 ≤ x10 ∧ 0 ≤ x11 ∧ 0 ≤ x12 ∧ 0 ≤ x20 ∧ 0 ≤ x21 ∧ 0 ≤ x22 ∧ x00 + x01 + x02 = r0 ∧ x10 + x11 + x12 = r1 ∧ x20 + x21 + x22 = r2 ∧ x00 + x10 + x20 + c0 = k0 ∧ 0 ≤ c0 ∧ x01 + x11 + x21 + c1 = k1 ∧ 0 ≤ c1 ∧ x02 + x12 + x22 + c2 = k2 ∧ 0 ≤ c2 ∧ r0 ≤ 20 ∧ r1 ≤ 20 ∧ r2 ≤ 20 ∧ k0 ≤ 20 ∧ k1 ≤ 20 ∧ k2 ≤ 20) :
    VCalls Tryd.prog 56 ([I 3, I 0] ++ caps33 K) (C s ++ L33 K k a0 a1 a2 c0 c1 c2 x00 x01 x02 x10 x11 x12 x20 x21 x22) (fun v h' => v = B true ∧ ∃ ys : List Int, h' = C (((tabE [] [c0, c1, c2]).map fun rest => [x00, x01, x02] :: [x10, x11, x12] :: [x20, x21, x22] :: rest).foldl upd s) ++ L33 K k a0 a1 a2 c0 c1 c2 x00 x01 x02 x10 x11 x12 x20 x21 x22) := by
  have kb := kbeq K
  by_cases hz : c0 = 0 ∧ c1 = 0 ∧ c2 = 0
  · obtain ⟨rfl, rfl, rfl⟩ := hz
    refine vcalls_fn hmix h56 rfl ?_
    simp -implicitDefEqProofs only [c56, caps33, gK1 hK, gK2 hK, gK3 hK, gK4 hK, gK5 hK, gK6 hK, gK7 hK, gK8 hK, gK9 hK, sK1 hK, sK2 hK, sK3 hK, sK4 hK, sK5 hK, sK6 hK, sK7 hK, sK8 hK, sK9 hK, kb, List.length_append, beq_self_eq_true, L33, push_cast, Nat.reduceBEq, Nat.reduceLT, Nat.reduceLeDiff, Nat.reduceAdd, Nat.reduceSub, Nat.reduceMul, Nat.reduceEqDiff, reduceCtorEq, ↓reduceIte, Int.reduceEq, Int.reduceLT, Int.reduceLE, Int.reduceNe, Int.reduceAdd, Int.reduceSub, Int.reduceMul, Int.reduceToNat, Nat.reduceShiftRight, Nat.reduceAnd, Nat.reduceBNe]
    refine yld_rule (hY s a0 a1 a2 0 0 0 x00 x01 x02 x10 x11 x12 x20 x21 x22 hJ.1 (by omega) (by omega) (by omega)) ?_
    rintro v h' ⟨rfl, rfl⟩
    simp -implicitDefEqProofs only [L33, push_cast, Nat.reduceBEq, Nat.reduceLT, Nat.reduceLeDiff, Nat.reduceAdd, Nat.reduceSub, Nat.reduceMul, Nat.reduceEqDiff, reduceCtorEq, ↓reduceIte, Int.reduceEq, Int.reduceLT, Int.reduceLE, Int.reduceNe, Int.reduceAdd, Int.reduceSub, Int.reduceMul, Int.reduceToNat, Nat.reduceShiftRight, Nat.reduceAnd, Nat.reduceBNe]
    refine fin_app (n := K + 10) (by simp [hK]) (by simp [hK] <;> omega) rfl (hR _ _ (by omega)) ?_ ⟨rfl, [], ?_⟩
    · simp [rowsRefs, rowRefs, refsLtL, refsLt, NatBlt]; omega
    · rfl
  · have hz2 : (decide (c0 = 0) && (decide (c1 = 0) && decide (c2 = 0))) = false := by simp only [Bool.and_eq_false_iff, decide_eq_false_iff_not]; omega
    refine vcalls_fn hmix h56 rfl ?_
    simp -implicitDefEqProofs only [c56, caps33, gK1 hK, gK2 hK, gK3 hK, gK4 hK, gK5 hK, gK6 hK, gK7 hK, gK8 hK, gK9 hK, sK1 hK, sK2 hK, sK3 hK, sK4 hK, sK5 hK, sK6 hK, sK7 hK, sK8 hK, sK9 hK, kb, List.length_append, beq_self_eq_true, L33, hz2, push_cast, Nat.reduceBEq, Nat.reduceLT, Nat.reduceLeDiff, Nat.reduceAdd, Nat.reduceSub, Nat.reduceMul, Nat.reduceEqDiff, reduceCtorEq, ↓reduceIte, Int.reduceEq, Int.reduceLT, Int.reduceLE, Int.reduceNe, Int.reduceAdd, Int.reduceSub, Int.reduceMul, Int.reduceToNat, Nat.reduceShiftRight, Nat.reduceAnd, Nat.reduceBNe]
    refine fin_app (n := K + 10) (by simp [hK]) (by simp [hK] <;> omega) rfl (hR _ _ (by omega)) ?_ ⟨rfl, [], ?_⟩
    · simp [rowsRefs, rowRefs, refsLtL, refsLt, NatBlt]; omega
    · rw [tabE_no (by simp; omega)]; rfl
theorem fill33_22 (hK : ∀ s, (C s).length = K + 1) (hR : ∀ s n, K + 1 ≤ n → rowsRefs n (C s) = true) (hk : k < K + 1) (hY : Yields33 J C K k upd r0 r1 r2 k0 k1 k2) (s : σ) (a0 a1 a2 c0 c1 c2 x00 x01 x02 x10 x11 x12 x20 x21 x22 : Int) (hJ : Pre J upd s ((rowE (a2) [c2]).flatMap fun tl => (tabE [] (c0 :: c1 :: subC [c2] tl)).map fun rest => [x00, x01, x02] :: [x10, x11, x12] :: (x20 :: x21 :: tl) :: rest)) (hi : 0 ≤ x00 ∧ 0 ≤ x01 ∧ 0 ≤ x02 ∧ 0 ≤ x10 ∧ 0 ≤ x11 ∧ 0 ≤ x12 ∧ 0 ≤ x20 ∧ 0 ≤ x21 ∧ x00 + x01 + x02 = r0 ∧ x10 + x11 + x12 = r1 ∧ x20 + x21 + a2 = r2 ∧ 0 ≤ a2 ∧ x00 + x10 + x20 + c0 = k0 ∧ 0 ≤ c0 ∧ x01 + x11 + x21 + c1 = k1 ∧ 0 ≤ c1 ∧ x02 + x12 + c2 = k2 ∧ 0 ≤ c2 ∧ r0 ≤ 20 ∧ r1 ≤ 20 ∧ r2 ≤ 20 ∧ k0 ≤ 20 ∧ k1 ≤ 20 ∧ k2 ≤ 20) :
    VCalls Tryd.prog 56 ([I 2, I 2] ++ caps33 K) (C s ++ L33 K k a0 a1 a2 c0 c1 c2 x00 x01 x02 x10 x11 x12 x20 x21 x22) (fun v h' => v = B true ∧ ∃ ys : List Int, h' = C (((rowE (a2) [c2]).flatMap fun tl => (tabE [] (c0 :: c1 :: subC [c2] tl)).map fun rest => [x00, x01, x02] :: [x10, x11, x12] :: (x20 :: x21 :: tl) :: rest).foldl upd s) ++ L33 K k a0 a1 a2 c0 c1 c2 x00 x01 x02 x10 x11 x12 x20 x21 (ys.getD 0 0)) := by
  have kb := kbeq K
  refine vcalls_fn hmix h56 rfl ?_
  simp -implicitDefEqProofs only [c56, caps33, gK1 hK, gK2 hK, gK3 hK, gK4 hK, gK5 hK, gK6 hK, gK7 hK, gK8 hK, gK9 hK, sK1 hK, sK2 hK, sK3 hK, sK4 hK, sK5 hK, sK6 hK, sK7 hK, sK8 hK, sK9 hK, kb, List.length_append, beq_self_eq_true, L33, push_cast, Nat.reduceBEq, Nat.reduceLT, Nat.reduceLeDiff, Nat.reduceAdd, Nat.reduceSub, Nat.reduceMul, Nat.reduceEqDiff, reduceCtorEq, ↓reduceIte, Int.reduceEq, Int.reduceLT, Int.reduceLE, Int.reduceNe, Int.reduceAdd, Int.reduceSub, Int.reduceMul, Int.reduceToNat, Nat.reduceShiftRight, Nat.reduceAnd, Nat.reduceBNe]
  refine ⟨by simp only [inR]; omega, fun hlt => ?_, fun hle => ?_⟩
  · skip
    refine fin_app (n := K + 10) (by simp [hK]) (by simp [hK] <;> omega) rfl (hR _ _ (by omega)) ?_ ⟨rfl, [x22], ?_⟩
    · simp [rowsRefs, rowRefs, refsLtL, refsLt, NatBlt]; omega
    · rw [show rowE a2 [c2] = [] from if_neg (by omega)]; rfl
  · refine ⟨by simp only [inR]; omega, by simp only [inR]; omega, ?_⟩
    have e : ((rowE (a2) [c2]).flatMap fun tl => (tabE [] (c0 :: c1 :: subC [c2] tl)).map fun rest => [x00, x01, x02] :: [x10, x11, x12] :: (x20 :: x21 :: tl) :: rest) = ((tabE [] [c0, c1, (c2 - a2)]).map fun rest => [x00, x01, x02] :: [x10, x11, x12] :: [x20, x21, a2] :: rest) := by
      rw [show rowE a2 [c2] = [[a2]] from if_pos (by omega)]
      simp only [tabE_cons, subC, List.map_flatMap, List.map_map, List.flatMap_cons, List.flatMap_nil, List.append_nil, Function.comp_def, List.nil_append, List.cons_append]
    rw [e] at hJ
    refine call_rule (fill33_30 hK hR hk hY s a0 a1 a2 c0 c1 (c2 - a2) x00 x01 x02 x10 x11 x12 x20 x21 a2 hJ (by omega)) ?_
    rintro v h' ⟨rfl, ys, rfl⟩
    simp -implicitDefEqProofs only [Int.sub_add_cancel, gK1 hK, gK2 hK, gK3 hK, gK4 hK, gK5 hK, gK6 hK, gK7 hK, gK8 hK, gK9 hK, sK1 hK, sK2 hK, sK3 hK, sK4 hK, sK5 hK, sK6 hK, sK7 hK, sK8 hK, sK9 hK, kb, List.length_append, beq_self_eq_true, L33, push_cast, Nat.reduceBEq, Nat.reduceLT, Nat.reduceLeDiff, Nat.reduceAdd, Nat.reduceSub, Nat.reduceMul, Nat.reduceEqDiff, reduceCtorEq, ↓reduceIte, Int.reduceEq, Int.reduceLT, Int.reduceLE, Int.reduceNe, Int.reduceAdd, Int.reduceSub, Int.reduceMul, Int.reduceToNat, Nat.reduceShiftRight, Nat.reduceAnd, Nat.reduceBNe]
    refine ⟨by simp only [inR]; omega, ?_⟩
    refine fin_app (n := K + 10) (by simp [hK]) (by simp [hK] <;> omega) rfl (hR _ _ (by omega)) ?_ ⟨rfl, a2 :: ys, ?_⟩
    · simp [rowsRefs, rowRefs, refsLtL, refsLt, NatBlt]; omega
    · rw [e]; rfl
theorem fill33_21 (hK : ∀ s, (C s).length = K + 1) (hR : ∀ s n, K + 1 ≤ n → rowsRefs n (C s) = true) (hk : k < K + 1) (hY : Yields33 J C K k upd r0 r1 r2 k0 k1 k2) (s : σ) (a0 a1 a2 c0 c1 c2 x00 x01 x02 x10 x11 x12 x20 x21 x22 : Int) (hJ : Pre J upd s ((rowE (a2) [c1, c2]).flatMap fun tl => (tabE [] (c0 :: subC [c1, c2] tl)).map fun rest => [x00, x01, x02] :: [x10, x11, x12] :: (x20 :: tl) :: rest)) (hi : 0 ≤ x00 ∧ 0 ≤ x01 ∧ 0 ≤ x02 ∧ 0 ≤ x10 ∧ 0 ≤ x11 ∧ 0 ≤ x12 ∧ 0 ≤ x20 ∧ x00 + x01 + x02 = r0 ∧ x10 + x11 + x12 = r1 ∧ x20 + a2 = r2 ∧ 0 ≤ a2 ∧ x00 + x10 + x20 + c0 = k0 ∧ 0 ≤ c0 ∧ x01 + x11 + c1 = k1 ∧ 0 ≤ c1 ∧ x02 + x12 + c2 = k2 ∧ 0 ≤ c2 ∧ r0 ≤ 20 ∧ r1 ≤ 20 ∧ r2 ≤ 20 ∧ k0 ≤ 20 ∧ k1 ≤ 20 ∧ k2 ≤ 20) :
    VCalls Tryd.prog 56 ([I 2, I 1] ++ caps33 K) (C s ++ L33 K k a0 a1 a2 c0 c1 c2 x00 x01 x02 x10 x11 x12 x20 x21 x22) (fun v h' => v = B true ∧ ∃ ys : List Int, h' = C (((rowE (a2) [c1, c2]).flatMap fun tl => (tabE [] (c0 :: subC [c1, c2] tl)).map fun rest => [x00, x01, x02] :: [x10, x11, x12] :: (x20 :: tl) :: rest).foldl upd s) ++ L33 K k a0 a1 a2 c0 c1 c2 x00 x01 x02 x10 x11 x12 x20 (ys.getD 0 0) (ys.getD 1 0)) := by
  have kb := kbeq K
  obtain ⟨Yp, hYp⟩ : ∃ Yp : Nat → List (List (List Int)), Yp = fun N => (List.range N).flatMap fun (q : Nat) => ((rowE ((a2 - ((q : Nat) : Int))) [c2]).flatMap fun tl => (tabE [] (c0 :: (c1 - ((q : Nat) : Int)) :: subC [c2] tl)).map fun rest => [x00, x01, x02] :: [x10, x11, x12] :: (x20 :: ((q : Nat) : Int) :: tl) :: rest) := ⟨_, rfl⟩
  have hY0 : Yp 0 = [] := by rw [hYp]; rfl
  have hYs : ∀ q : Nat, Yp (q + 1) = Yp q ++ ((rowE ((a2 - ((q : Nat) : Int))) [c2]).flatMap fun tl => (tabE [] (c0 :: (c1 - ((q : Nat) : Int)) :: subC [c2] tl)).map fun rest => [x00, x01, x02] :: [x10, x11, x12] :: (x20 :: ((q : Nat) : Int) :: tl) :: rest) := by
    intro q
    simp only [hYp, List.range_succ, List.flatMap_append, List.flatMap_cons, List.flatMap_nil, List.append_nil]
  have hYe : ((rowE (a2) [c1, c2]).flatMap fun tl => (tabE [] (c0 :: subC [c1, c2] tl)).map fun rest => [x00, x01, x02] :: [x10, x11, x12] :: (x20 :: tl) :: rest) = Yp (min a2 c1 + 1).toNat := by
    rw [hYp]
    simp only [rowE, subC, List.flatMap_assoc, List.flatMap_map]
  rw [hYe] at hJ ⊢
  have hpre := pre_steps hYs _ hJ
  clear hYe hYp
  refine vcalls_fn hmix h56 rfl ?_
  simp -implicitDefEqProofs only [c56, caps33, gK1 hK, gK2 hK, gK3 hK, gK4 hK, gK5 hK, gK6 hK, gK7 hK, gK8 hK, gK9 hK, sK1 hK, sK2 hK, sK3 hK, sK4 hK, sK5 hK, sK6 hK, sK7 hK, sK8 hK, sK9 hK, kb, List.length_append, beq_self_eq_true, L33, push_cast, Nat.reduceBEq, Nat.reduceLT, Nat.reduceLeDiff, Nat.reduceAdd, Nat.reduceSub, Nat.reduceMul, Nat.reduceEqDiff, reduceCtorEq, ↓reduceIte, Int.reduceEq, Int.reduceLT, Int.reduceLE, Int.reduceNe, Int.reduceAdd, Int.reduceSub, Int.reduceMul, Int.reduceToNat, Nat.reduceShiftRight, Nat.reduceAnd, Nat.reduceBNe]
  refine ⟨by simp only [inR]; omega, by simp only [inR]; omega, ?_⟩
  refine loop_w (α := Nat × List Int) (fun b => ⟨[(77, I b.1), (76, I (min a2 c1 + 1)), (6, .ptr (K + 9) 0), (5, .ptr (K + 2) 0), (3, .ptr (K + 3) 0), (2, .ptr (K + 5) 0), (1, I 1), (0, I 2)], C ((Yp b.1).foldl upd s) ++ L33 K k a0 a1 a2 c0 c1 c2 x00 x01 x02 x10 x11 x12 x20 (b.2.getD 0 0) (b.2.getD 1 0), []⟩)
    (fun b => b.1 ≤ (min a2 c1 + 1).toNat) (fun b => (min a2 c1 + 1).toNat - b.1) (0, [x21, x22]) (by rw [hY0]; exact wk_tk rfl) (by simp only; omega) ?_
  rintro ⟨q, ys⟩ hq
  simp only at hq
  simp -implicitDefEqProofs only [c56L0, gK1 hK, gK2 hK, gK3 hK, gK4 hK, gK5 hK, gK6 hK, gK7 hK, gK8 hK, gK9 hK, sK1 hK, sK2 hK, sK3 hK, sK4 hK, sK5 hK, sK6 hK, sK7 hK, sK8 hK, sK9 hK, kb, List.length_append, beq_self_eq_true, L33, push_cast, Nat.reduceBEq, Nat.reduceLT, Nat.reduceLeDiff, Nat.reduceAdd, Nat.reduceSub, Nat.reduceMul, Nat.reduceEqDiff, reduceCtorEq, ↓reduceIte, Int.reduceEq, Int.reduceLT, Int.reduceLE, Int.reduceNe, Int.reduceAdd, Int.reduceSub, Int.reduceMul, Int.reduceToNat, Nat.reduceShiftRight, Nat.reduceAnd, Nat.reduceBNe]
  refine ⟨fun hc => ?_, fun hc => ?_⟩
  · refine ⟨by simp only [inR]; omega, by simp only [inR]; omega, by simp only [inR]; omega, ?_⟩
    refine call_rule (fill33_22 hK hR hk hY _ a0 a1 (a2 - (q : Int)) c0 (c1 - (q : Int)) c2 x00 x01 x02 x10 x11 x12 x20 (q : Int) (ys.getD 1 0) (hpre q (by omega)) (by omega)) ?_
    rintro v h' ⟨rfl, ys2, rfl⟩
    simp -implicitDefEqProofs only [Int.sub_add_cancel, gK1 hK, gK2 hK, gK3 hK, gK4 hK, gK5 hK, gK6 hK, gK7 hK, gK8 hK, gK9 hK, sK1 hK, sK2 hK, sK3 hK, sK4 hK, sK5 hK, sK6 hK, sK7 hK, sK8 hK, sK9 hK, kb, List.length_append, beq_self_eq_true, L33, push_cast, Nat.reduceBEq, Nat.reduceLT, Nat.reduceLeDiff, Nat.reduceAdd, Nat.reduceSub, Nat.reduceMul, Nat.reduceEqDiff, reduceCtorEq, ↓reduceIte, Int.reduceEq, Int.reduceLT, Int.reduceLE, Int.reduceNe, Int.reduceAdd, Int.reduceSub, Int.reduceMul, Int.reduceToNat, Nat.reduceShiftRight, Nat.reduceAnd, Nat.reduceBNe]
    refine ⟨by simp only [inR]; omega, by simp only [inR]; omega, by simp only [inR]; omega, (q + 1, (q : Int) :: ys2), by simp only; omega, by simp only; omega, ?_⟩
    simp only [hYs, List.foldl_append]
    exact wk_tk rfl
  · have hqe : q = (min a2 c1 + 1).toNat := by omega
    subst hqe
    refine fin_app (n := K + 10) (by simp [hK]) (by simp [hK] <;> omega) rfl (hR _ _ (by omega)) ?_ ⟨rfl, ys, ?_⟩
    · simp [rowsRefs, rowRefs, refsLtL, refsLt, NatBlt]; omega
    · rfl
theorem fill33_20 (hK : ∀ s, (C s).length = K + 1) (hR : ∀ s n, K + 1 ≤ n → rowsRefs n (C s) = true) (hk : k < K + 1) (hY : Yields33 J C K k upd r0 r1 r2 k0 k1 k2) (s : σ) (a0 a1 a2 c0 c1 c2 x00 x01 x02 x10 x11 x12 x20 x21 x22 : Int) (hJ : Pre J upd s ((rowE (a2) [c0, c1, c2]).flatMap fun tl => (tabE [] (subC [c0, c1, c2] tl)).map fun rest => [x00, x01, x02] :: [x10, x11, x12] :: (tl) :: rest)) (hi : 0 ≤ x00 ∧ 0 ≤ x01 ∧ 0 ≤ x02 ∧ 0 ≤ x10 ∧ 0 ≤ x11 ∧ 0 ≤ x12 ∧ x00 + x01 + x02 = r0 ∧ x10 + x11 + x12 = r1 ∧ a2 = r2 ∧ 0 ≤ a2 ∧ x00 + x10 + c0 = k0 ∧ 0 ≤ c0 ∧ x01 + x11 + c1 = k1 ∧ 0 ≤ c1 ∧ x02 + x12 + c2 = k2 ∧ 0 ≤ c2 ∧ r0 ≤ 20 ∧ r1 ≤ 20 ∧ r2 ≤ 20 ∧ k0 ≤ 20 ∧ k1 ≤ 20 ∧ k2 ≤ 20) :
    VCalls Tryd.prog 56 ([I 2, I 0] ++ caps33 K) (C s ++ L33 K k a0 a1 a2 c0 c1 c2 x00 x01 x02 x10 x11 x12 x20 x21 x22) (fun v h' => v = B true ∧ ∃ ys : List Int, h' = C (((rowE (a2) [c0, c1, c2]).flatMap fun tl => (tabE [] (subC [c0, c1, c2] tl)).map fun rest => [x00, x01, x02] :: [x10, x11, x12] :: (tl) :: rest).foldl upd s) ++ L33 K k a0 a1 a2 c0 c1 c2 x00 x01 x02 x10 x11 x12 (ys.getD 0 0) (ys.getD 1 0) (ys.getD 2 0)) := by
  have kb := kbeq K
  obtain ⟨Yp, hYp⟩ : ∃ Yp : Nat → List (List (List Int)), Yp = fun N => (List.range N).flatMap fun (q : Nat) => ((rowE ((a2 - ((q : Nat) : Int))) [c1, c2]).flatMap fun tl => (tabE [] ((c0 - ((q : Nat) : Int)) :: subC [c1, c2] tl)).map fun rest => [x00, x01, x02] :: [x10, x11, x12] :: (((q : Nat) : Int) :: tl) :: rest) := ⟨_, rfl⟩
  have hY0 : Yp 0 = [] := by rw [hYp]; rfl
  have hYs : ∀ q : Nat, Yp (q + 1) = Yp q ++ ((rowE ((a2 - ((q : Nat) : Int))) [c1, c2]).flatMap fun tl => (tabE [] ((c0 - ((q : Nat) : Int)) :: subC [c1, c2] tl)).map fun rest => [x00, x01, x02] :: [x10, x11, x12] :: (((q : Nat) : Int) :: tl) :: rest) := by
    intro q
    simp only [hYp, List.range_succ, List.flatMap_append, List.flatMap_cons, List.flatMap_nil, List.append_nil]
  have hYe : ((rowE (a2) [c0, c1, c2]).flatMap fun tl => (tabE [] (subC [c0, c1, c2] tl)).map fun rest => [x00, x01, x02] :: [x10, x11, x12] :: (tl) :: rest) = Yp (min a2 c0 + 1).toNat := by
    rw [hYp]
    simp only [rowE, subC, List.flatMap_assoc, List.flatMap_map]
  rw [hYe] at hJ ⊢
  have hpre := pre_steps hYs _ hJ
  clear hYe hYp
  refine vcalls_fn hmix h56 rfl ?_
  simp -implicitDefEqProofs only [c56, caps33, gK1 hK, gK2 hK, gK3 hK, gK4 hK, gK5 hK, gK6 hK, gK7 hK, gK8 hK, gK9 hK, sK1 hK, sK2 hK, sK3 hK, sK4 hK, sK5 hK, sK6 hK, sK7 hK, sK8 hK, sK9 hK, kb, List.length_append, beq_self_eq_true, L33, push_cast, Nat.reduceBEq, Nat.reduceLT, Nat.reduceLeDiff, Nat.reduceAdd, Nat.reduceSub, Nat.reduceMul, Nat.reduceEqDiff, reduceCtorEq, ↓reduceIte, Int.reduceEq, Int.reduceLT, Int.reduceLE, Int.reduceNe, Int.reduceAdd, Int.reduceSub, Int.reduceMul, Int.reduceToNat, Nat.reduceShiftRight, Nat.reduceAnd, Nat.reduceBNe]
  refine ⟨by simp only [inR]; omega, by simp only [inR]; omega, ?_⟩
  refine loop_w (α := Nat × List Int) (fun b => ⟨[(77, I b.1), (76, I (min a2 c0 + 1)), (6, .ptr (K + 9) 0), (5, .ptr (K + 2) 0), (3, .ptr (K + 3) 0), (2, .ptr (K + 5) 0), (1, I 0), (0, I 2)], C ((Yp b.1).foldl upd s) ++ L33 K k a0 a1 a2 c0 c1 c2 x00 x01 x02 x10 x11 x12 (b.2.getD 0 0) (b.2.getD 1 0) (b.2.getD 2 0), []⟩)
    (fun b => b.1 ≤ (min a2 c0 + 1).toNat) (fun b => (min a2 c0 + 1).toNat - b.1) (0, [x20, x21, x22]) (by rw [hY0]; exact wk_tk rfl) (by simp only; omega) ?_
  rintro ⟨q, ys⟩ hq
  simp only at hq
  simp -implicitDefEqProofs only [c56L0, gK1 hK, gK2 hK, gK3 hK, gK4 hK, gK5 hK, gK6 hK, gK7 hK, gK8 hK, gK9 hK, sK1 hK, sK2 hK, sK3 hK, sK4 hK, sK5 hK, sK6 hK, sK7 hK, sK8 hK, sK9 hK, kb, List.length_append, beq_self_eq_true, L33, push_cast, Nat.reduceBEq, Nat.reduceLT, Nat.reduceLeDiff, Nat.reduceAdd, Nat.reduceSub, Nat.reduceMul, Nat.reduceEqDiff, reduceCtorEq, ↓reduceIte, Int.reduceEq, Int.reduceLT, Int.reduceLE, Int.reduceNe, Int.reduceAdd, Int.reduceSub, Int.reduceMul, Int.reduceToNat, Nat.reduceShiftRight, Nat.reduceAnd, Nat.reduceBNe]
  refine ⟨fun hc => ?_, fun hc => ?_⟩
  · refine ⟨by simp only [inR]; omega, by simp only [inR]; omega, by simp only [inR]; omega, ?_⟩
    refine call_rule (fill33_21 hK hR hk hY _ a0 a1 (a2 - (q : Int)) (c0 - (q : Int)) c1 c2 x00 x01 x02 x10 x11 x12 (q : Int) (ys.getD 1 0) (ys.getD 2 0) (hpre q (by omega)) (by omega)) ?_
    rintro v h' ⟨rfl, ys2, rfl⟩
    simp -implicitDefEqProofs only [Int.sub_add_cancel, gK1 hK, gK2 hK, gK3 hK, gK4 hK, gK5 hK, gK6 hK, gK7 hK, gK8 hK, gK9 hK, sK1 hK, sK2 hK, sK3 hK, sK4 hK, sK5 hK, sK6 hK, sK7 hK, sK8 hK, sK9 hK, kb, List.length_append, beq_self_eq_true, L33, push_cast, Nat.reduceBEq, Nat.reduceLT, Nat.reduceLeDiff, Nat.reduceAdd, Nat.reduceSub, Nat.reduceMul, Nat.reduceEqDiff, reduceCtorEq, ↓reduceIte, Int.reduceEq, Int.reduceLT, Int.reduceLE, Int.reduceNe, Int.reduceAdd, Int.reduceSub, Int.reduceMul, Int.reduceToNat, Nat.reduceShiftRight, Nat.reduceAnd, Nat.reduceBNe]
    refine ⟨by simp only [inR]; omega, by simp only [inR]; omega, by simp only [inR]; omega, (q + 1, (q : Int) :: ys2), by simp only; omega, by simp only; omega, ?_⟩
    simp only [hYs, List.foldl_append]
    exact wk_tk rfl
  · have hqe : q = (min a2 c0 + 1).toNat := by omega
    subst hqe
    refine fin_app (n := K + 10) (by simp [hK]) (by simp [hK] <;> omega) rfl (hR _ _ (by omega)) ?_ ⟨rfl, ys, ?_⟩
    · simp [rowsRefs, rowRefs, refsLtL, refsLt, NatBlt]; omega
    · rfl
theorem fill33_12 (hK : ∀ s, (C s).length = K + 1) (hR : ∀ s n, K + 1 ≤ n → rowsRefs n (C s) = true) (hk : k < K + 1) (hY : Yields33 J C K k upd r0 r1 r2 k0 k1 k2) (s : σ) (a0 a1 a2 c0 c1 c2 x00 x01 x02 x10 x11 x12 x20 x21 x22 : Int) (hJ : Pre J upd s ((rowE (a1) [c2]).flatMap fun tl => (tabE [a2] (c0 :: c1 :: subC [c2] tl)).map fun rest => [x00, x01, x02] :: (x10 :: x11 :: tl) :: rest)) (hi : 0 ≤ x00 ∧ 0 ≤ x01 ∧ 0 ≤ x02 ∧ 0 ≤ x10 ∧ 0 ≤ x11 ∧ x00 + x01 + x02 = r0 ∧ x10 + x11 + a1 = r1 ∧ 0 ≤ a1 ∧ a2 = r2 ∧ 0 ≤ a2 ∧ x00 + x10 + c0 = k0 ∧ 0 ≤ c0 ∧ x01 + x11 + c1 = k1 ∧ 0 ≤ c1 ∧ x02 + c2 = k2 ∧ 0 ≤ c2 ∧ r0 ≤ 20 ∧ r1 ≤ 20 ∧ r2 ≤ 20 ∧ k0 ≤ 20 ∧ k1 ≤ 20 ∧ k2 ≤ 20) :
    VCalls Tryd.prog 56 ([I 1, I 2] ++ caps33 K) (C s ++ L33 K k a0 a1 a2 c0 c1 c2 x00 x01 x02 x10 x11 x12 x20 x21 x22) (fun v h' => v = B true ∧ ∃ ys : List Int, h' = C (((rowE (a1) [c2]).flatMap fun tl => (tabE [a2] (c0 :: c1 :: subC [c2] tl)).map fun rest => [x00, x01, x02] :: (x10 :: x11 :: tl) :: rest).foldl upd s) ++ L33 K k a0 a1 a2 c0 c1 c2 x00 x01 x02 x10 x11 (ys.getD 0 0) (ys.getD 1 0) (ys.getD 2 0) (ys.getD 3 0)) := by
  have kb := kbeq K
  refine vcalls_fn hmix h56 rfl ?_
  simp -implicitDefEqProofs only [c56, caps33, gK1 hK, gK2 hK, gK3 hK, gK4 hK, gK5 hK, gK6 hK, gK7 hK, gK8 hK, gK9 hK, sK1 hK, sK2 hK, sK3 hK, sK4 hK, sK5 hK, sK6 hK, sK7 hK, sK8 hK, sK9 hK, kb, List.length_append, beq_self_eq_true, L33, push_cast, Nat.reduceBEq, Nat.reduceLT, Nat.reduceLeDiff, Nat.reduceAdd, Nat.reduceSub, Nat.reduceMul, Nat.reduceEqDiff, reduceCtorEq, ↓reduceIte, Int.reduceEq, Int.reduceLT, Int.reduceLE, Int.reduceNe, Int.reduceAdd, Int.reduceSub, Int.reduceMul, Int.reduceToNat, Nat.reduceShiftRight, Nat.reduceAnd, Nat.reduceBNe]
  refine ⟨by simp only [inR]; omega, fun hlt => ?_, fun hle => ?_⟩
  · skip
    refine fin_app (n := K + 10) (by simp [hK]) (by simp [hK] <;> omega) rfl (hR _ _ (by omega)) ?_ ⟨rfl, [x12, x20, x21, x22], ?_⟩
    · simp [rowsRefs, rowRefs, refsLtL, refsLt, NatBlt]; omega
    · rw [show rowE a1 [c2] = [] from if_neg (by omega)]; rfl
  · refine ⟨by simp only [inR]; omega, by simp only [inR]; omega, ?_⟩
    have e : ((rowE (a1) [c2]).flatMap fun tl => (tabE [a2] (c0 :: c1 :: subC [c2] tl)).map fun rest => [x00, x01, x02] :: (x10 :: x11 :: tl) :: rest) = ((rowE (a2) [c0, c1, (c2 - a1)]).flatMap fun tl => (tabE [] (subC [c0, c1, (c2 - a1)] tl)).map fun rest => [x00, x01, x02] :: [x10, x11, a1] :: (tl) :: rest) := by
      rw [show rowE a1 [c2] = [[a1]] from if_pos (by omega)]
      simp only [tabE_cons, subC, List.map_flatMap, List.map_map, List.flatMap_cons, List.flatMap_nil, List.append_nil, Function.comp_def, List.nil_append, List.cons_append]
    rw [e] at hJ
    refine call_rule (fill33_20 hK hR hk hY s a0 a1 a2 c0 c1 (c2 - a1) x00 x01 x02 x10 x11 a1 x20 x21 x22 hJ (by omega)) ?_
    rintro v h' ⟨rfl, ys, rfl⟩
    simp -implicitDefEqProofs only [Int.sub_add_cancel, gK1 hK, gK2 hK, gK3 hK, gK4 hK, gK5 hK, gK6 hK, gK7 hK, gK8 hK, gK9 hK, sK1 hK, sK2 hK, sK3 hK, sK4 hK, sK5 hK, sK6 hK, sK7 hK, sK8 hK, sK9 hK, kb, List.length_append, beq_self_eq_true, L33, push_cast, Nat.reduceBEq, Nat.reduceLT, Nat.reduceLeDiff, Nat.reduceAdd, Nat.reduceSub, Nat.reduceMul, Nat.reduceEqDiff, reduceCtorEq, ↓reduceIte, Int.reduceEq, Int.reduceLT, Int.reduceLE, Int.reduceNe, Int.reduceAdd, Int.reduceSub, Int.reduceMul, Int.reduceToNat, Nat.reduceShiftRight, Nat.reduceAnd, Nat.reduceBNe]
    refine ⟨by simp only [inR]; omega, ?_⟩
    refine fin_app (n := K + 10) (by simp [hK]) (by simp [hK] <;> omega) rfl (hR _ _ (by omega)) ?_ ⟨rfl, a1 :: ys, ?_⟩
    · simp [rowsRefs, rowRefs, refsLtL, refsLt, NatBlt]; omega
    · rw [e]; rfl
theorem fill33_11 (hK : ∀ s, (C s).length = K + 1) (hR : ∀ s n, K + 1 ≤ n → rowsRefs n (C s) = true) (hk : k < K + 1) (hY : Yields33 J C K k upd r0 r1 r2 k0 k1 k2) (s : σ) (a0 a1 a2 c0 c1 c2 x00 x01 x02 x10 x11 x12 x20 x21 x22 : Int) (hJ : Pre J upd s ((rowE (a1) [c1, c2]).flatMap fun tl => (tabE [a2] (c0 :: subC [c1, c2] tl)).map fun rest => [x00, x01, x02] :: (x10 :: tl) :: rest)) (hi : 0 ≤ x00 ∧ 0 ≤ x01 ∧ 0 ≤ x02 ∧ 0 ≤ x10 ∧ x00 + x01 + x02 = r0 ∧ x10 + a1 = r1 ∧ 0 ≤ a1 ∧ a2 = r2 ∧ 0 ≤ a2 ∧ x00 + x10 + c0 = k0 ∧ 0 ≤ c0 ∧ x01 + c1 = k1 ∧ 0 ≤ c1 ∧ x02 + c2 = k2 ∧ 0 ≤ c2 ∧ r0 ≤ 20 ∧ r1 ≤ 20 ∧ r2 ≤ 20 ∧ k0 ≤ 20 ∧ k1 ≤ 20 ∧ k2 ≤ 20) :
    VCalls Tryd.prog 56 ([I 1, I 1] ++ caps33 K) (C s ++ L33 K k a0 a1 a2 c0 c1 c2 x00 x01 x02 x10 x11 x12 x20 x21 x22) (fun v h' => v = B true ∧ ∃ ys : List Int, h' = C (((rowE (a1) [c1, c2]).flatMap fun tl => (tabE [a2] (c0 :: subC [c1, c2] tl)).map fun rest => [x00, x01, x02] :: (x10 :: tl) :: rest).foldl upd s) ++ L33 K k a0 a1 a2 c0 c1 c2 x00 x01 x02 x10 (ys.getD 0 0) (ys.getD 1 0) (ys.getD 2 0) (ys.getD 3 0) (ys.getD 4 0)) := by
  have kb := kbeq K
  obtain ⟨Yp, hYp⟩ : ∃ Yp : Nat → List (List (List Int)), Yp = fun N => (List.range N).flatMap fun (q : Nat) => ((rowE ((a1 - ((q : Nat) : Int))) [c2]).flatMap fun tl => (tabE [a2] (c0 :: (c1 - ((q : Nat) : Int)) :: subC [c2] tl)).map fun rest => [x00, x01, x02] :: (x10 :: ((q : Nat) : Int) :: tl) :: rest) := ⟨_, rfl⟩
  have hY0 : Yp 0 = [] := by rw [hYp]; rfl
  have hYs : ∀ q : Nat, Yp (q + 1) = Yp q ++ ((rowE ((a1 - ((q : Nat) : Int))) [c2]).flatMap fun tl => (tabE [a2] (c0 :: (c1 - ((q : Nat) : Int)) :: subC [c2] tl)).map fun rest => [x00, x01, x02] :: (x10 :: ((q : Nat) : Int) :: tl) :: rest) := by
    intro q
    simp only [hYp, List.range_succ, List.flatMap_append, List.flatMap_cons, List.flatMap_nil, List.append_nil]
  have hYe : ((rowE (a1) [c1, c2]).flatMap fun tl => (tabE [a2] (c0 :: subC [c1, c2] tl)).map fun rest => [x00, x01, x02] :: (x10 :: tl) :: rest) = Yp (min a1 c1 + 1).toNat := by
    rw [hYp]
    simp only [rowE, subC, List.flatMap_assoc, List.flatMap_map]
  rw [hYe] at hJ ⊢
  have hpre := pre_steps hYs _ hJ
  clear hYe hYp
  refine vcalls_fn hmix h56 rfl ?_
  simp -implicitDefEqProofs only [c56, caps33, gK1 hK, gK2 hK, gK3 hK, gK4 hK, gK5 hK, gK6 hK, gK7 hK, gK8 hK, gK9 hK, sK1 hK, sK2 hK, sK3 hK, sK4 hK, sK5 hK, sK6 hK, sK7 hK, sK8 hK, sK9 hK, kb, List.length_append, beq_self_eq_true, L33, push_cast, Nat.reduceBEq, Nat.reduceLT, Nat.reduceLeDiff, Nat.reduceAdd, Nat.reduceSub, Nat.reduceMul, Nat.reduceEqDiff, reduceCtorEq, ↓reduceIte, Int.reduceEq, Int.reduceLT, Int.reduceLE, Int.reduceNe, Int.reduceAdd, Int.reduceSub, Int.reduceMul, Int.reduceToNat, Nat.reduceShiftRight, Nat.reduceAnd, Nat.reduceBNe]
  refine ⟨by simp only [inR]; omega, by simp only [inR]; omega, ?_⟩
  refine loop_w (α := Nat × List Int) (fun b => ⟨[(77, I b.1), (76, I (min a1 c1 + 1)), (6, .ptr (K + 9) 0), (5, .ptr (K + 2) 0), (3, .ptr (K + 3) 0), (2, .ptr (K + 5) 0), (1, I 1), (0, I 1)], C ((Yp b.1).foldl upd s) ++ L33 K k a0 a1 a2 c0 c1 c2 x00 x01 x02 x10 (b.2.getD 0 0) (b.2.getD 1 0) (b.2.getD 2 0) (b.2.getD 3 0) (b.2.getD 4 0), []⟩)
    (fun b => b.1 ≤ (min a1 c1 + 1).toNat) (fun b => (min a1 c1 + 1).toNat - b.1) (0, [x11, x12, x20, x21, x22]) (by rw [hY0]; exact wk_tk rfl) (by simp only; omega) ?_
  rintro ⟨q, ys⟩ hq
  simp only at hq
  simp -implicitDefEqProofs only [c56L0, gK1 hK, gK2 hK, gK3 hK, gK4 hK, gK5 hK, gK6 hK, gK7 hK, gK8 hK, gK9 hK, sK1 hK, sK2 hK, sK3 hK, sK4 hK, sK5 hK, sK6 hK, sK7 hK, sK8 hK, sK9 hK, kb, List.length_append, beq_self_eq_true, L33, push_cast, Nat.reduceBEq, Nat.reduceLT, Nat.reduceLeDiff, Nat.reduceAdd, Nat.reduceSub, Nat.reduceMul, Nat.reduceEqDiff, reduceCtorEq, ↓reduceIte, Int.reduceEq, Int.reduceLT, Int.reduceLE, Int.reduceNe, Int.reduceAdd, Int.reduceSub, Int.reduceMul, Int.reduceToNat, Nat.reduceShiftRight, Nat.reduceAnd, Nat.reduceBNe]
  refine ⟨fun hc => ?_, fun hc => ?_⟩
  · refine ⟨by simp only [inR]; omega, by simp only [inR]; omega, by simp only [inR]; omega, ?_⟩
    refine call_rule (fill33_12 hK hR hk hY _ a0 (a1 - (q : Int)) a2 c0 (c1 - (q : Int)) c2 x00 x01 x02 x10 (q : Int) (ys.getD 1 0) (ys.getD 2 0) (ys.getD 3 0) (ys.getD 4 0) (hpre q (by omega)) (by omega)) ?_
    rintro v h' ⟨rfl, ys2, rfl⟩
    simp -implicitDefEqProofs only [Int.sub_add_cancel, gK1 hK, gK2 hK, gK3 hK, gK4 hK, gK5 hK, gK6 hK, gK7 hK, gK8 hK, gK9 hK, sK1 hK, sK2 hK, sK3 hK, sK4 hK, sK5 hK, sK6 hK, sK7 hK, sK8 hK, sK9 hK, kb, List.length_append, beq_self_eq_true, L33, push_cast, Nat.reduceBEq, Nat.reduceLT, Nat.reduceLeDiff, Nat.reduceAdd, Nat.reduceSub, Nat.reduceMul, Nat.reduceEqDiff, reduceCtorEq, ↓reduceIte, Int.reduceEq, Int.reduceLT, Int.reduceLE, Int.reduceNe, Int.reduceAdd, Int.reduceSub, Int.reduceMul, Int.reduceToNat, Nat.reduceShiftRight, Nat.reduceAnd, Nat.reduceBNe]
    refine ⟨by simp only [inR]; omega, by simp only [inR]; omega, by simp only [inR]; omega, (q + 1, (q : Int) :: ys2), by simp only; omega, by simp only; omega, ?_⟩
    simp only [hYs, List.foldl_append]
    exact wk_tk rfl
  · have hqe : q = (min a1 c1 + 1).toNat := by omega
    subst hqe
    refine fin_app (n := K + 10) (by simp [hK]) (by simp [hK] <;> omega) rfl (hR _ _ (by omega)) ?_ ⟨rfl, ys, ?_⟩
    · simp [rowsRefs, rowRefs, refsLtL, refsLt, NatBlt]; omega
    · rfl
theorem fill33_10 (hK : ∀ s, (C s).length = K + 1) (hR : ∀ s n, K + 1 ≤ n → rowsRefs n (C s) = true) (hk : k < K + 1) (hY : Yields33 J C K k upd r0 r1 r2 k0 k1 k2) (s : σ) (a0 a1 a2 c0 c1 c2 x00 x01 x02 x10 x11 x12 x20 x21 x22 : Int) (hJ : Pre J upd s ((rowE (a1) [c0, c1, c2]).flatMap fun tl => (tabE [a2] (subC [c0, c1, c2] tl)).map fun rest => [x00, x01, x02] :: (tl) :: rest)) (hi : 0 ≤ x00 ∧ 0 ≤ x01 ∧ 0 ≤ x02 ∧ x00 + x01 + x02 = r0 ∧ a1 = r1 ∧ 0 ≤ a1 ∧ a2 = r2 ∧ 0 ≤ a2 ∧ x00 + c0 = k0 ∧ 0 ≤ c0 ∧ x01 + c1 = k1 ∧ 0 ≤ c1 ∧ x02 + c2 = k2 ∧ 0 ≤ c2 ∧ r0 ≤ 20 ∧ r1 ≤ 20 ∧ r2 ≤ 20 ∧ k0 ≤ 20 ∧ k1 ≤ 20 ∧ k2 ≤ 20) :
    VCalls Tryd.prog 56 ([I 1, I 0] ++ caps33 K) (C s ++ L33 K k a0 a1 a2 c0 c1 c2 x00 x01 x02 x10 x11 x12 x20 x21 x22) (fun v h' => v = B true ∧ ∃ ys : List Int, h' = C (((rowE (a1) [c0, c1, c2]).flatMap fun tl => (tabE [a2] (subC [c0, c1, c2] tl)).map fun rest => [x00, x01, x02] :: (tl) :: rest).foldl upd s) ++ L33 K k a0 a1 a2 c0 c1 c2 x00 x01 x02 (ys.getD 0 0) (ys.getD 1 0) (ys.getD 2 0) (ys.getD 3 0) (ys.getD 4 0) (ys.getD 5 0)) := by
  have kb := kbeq K
  obtain ⟨Yp, hYp⟩ : ∃ Yp : Nat → List (List (List Int)), Yp = fun N => (List.range N).flatMap fun (q : Nat) => ((rowE ((a1 - ((q : Nat) : Int))) [c1, c2]).flatMap fun tl => (tabE [a2] ((c0 - ((q : Nat) : Int)) :: subC [c1, c2] tl)).map fun rest => [x00, x01, x02] :: (((q : Nat) : Int) :: tl) :: rest) := ⟨_, rfl⟩
  have hY0 : Yp 0 = [] := by rw [hYp]; rfl
  have hYs : ∀ q : Nat, Yp (q + 1) = Yp q ++ ((rowE ((a1 - ((q : Nat) : Int))) [c1, c2]).flatMap fun tl => (tabE [a2] ((c0 - ((q : Nat) : Int)) :: subC [c1, c2] tl)).map fun rest => [x00, x01, x02] :: (((q : Nat) : Int) :: tl) :: rest) := by
    intro q
    simp only [hYp, List.range_succ, List.flatMap_append, List.flatMap_cons, List.flatMap_nil, List.append_nil]
  have hYe : ((rowE (a1) [c0, c1, c2]).flatMap fun tl => (tabE [a2] (subC [c0, c1, c2] tl)).map fun rest => [x00, x01, x02] :: (tl) :: rest) = Yp (min a1 c0 + 1).toNat := by
    rw [hYp]
    simp only [rowE, subC, List.flatMap_assoc, List.flatMap_map]
  rw [hYe] at hJ ⊢
  have hpre := pre_steps hYs _ hJ
  clear hYe hYp
  refine vcalls_fn hmix h56 rfl ?_
  simp -implicitDefEqProofs only [c56, caps33, gK1 hK, gK2 hK, gK3 hK, gK4 hK, gK5 hK, gK6 hK, gK7 hK, gK8 hK, gK9 hK, sK1 hK, sK2 hK, sK3 hK, sK4 hK, sK5 hK, sK6 hK, sK7 hK, sK8 hK, sK9 hK, kb, List.length_append, beq_self_eq_true, L33, push_cast, Nat.reduceBEq, Nat.reduceLT, Nat.reduceLeDiff, Nat.reduceAdd, Nat.reduceSub, Nat.reduceMul, Nat.reduceEqDiff, reduceCtorEq, ↓reduceIte, Int.reduceEq, Int.reduceLT, Int.reduceLE, Int.reduceNe, Int.reduceAdd, Int.reduceSub, Int.reduceMul, Int.reduceToNat, Nat.reduceShiftRight, Nat.reduceAnd, Nat.reduceBNe]
  refine ⟨by simp only [inR]; omega, by simp only [inR]; omega, ?_⟩
  refine loop_w (α := Nat × List Int) (fun b => ⟨[(77, I b.1), (76, I (min a1 c0 + 1)), (6, .ptr (K + 9) 0), (5, .ptr (K + 2) 0), (3, .ptr (K + 3) 0), (2, .ptr (K + 5) 0), (1, I 0), (0, I 1)], C ((Yp b.1).foldl upd s) ++ L33 K k a0 a1 a2 c0 c1 c2 x00 x01 x02 (b.2.getD 0 0) (b.2.getD 1 0) (b.2.getD 2 0) (b.2.getD 3 0) (b.2.getD 4 0) (b.2.getD 5 0), []⟩)
    (fun b => b.1 ≤ (min a1 c0 + 1).toNat) (fun b => (min a1 c0 + 1).toNat - b.1) (0, [x10, x11, x12, x20, x21, x22]) (by rw [hY0]; exact wk_tk rfl) (by simp only; omega) ?_
  rintro ⟨q, ys⟩ hq
  simp only at hq
  simp -implicitDefEqProofs only [c56L0, gK1 hK, gK2 hK, gK3 hK, gK4 hK, gK5 hK, gK6 hK, gK7 hK, gK8 hK, gK9 hK, sK1 hK, sK2 hK, sK3 hK, sK4 hK, sK5 hK, sK6 hK, sK7 hK, sK8 hK, sK9 hK, kb, List.length_append, beq_self_eq_true, L33, push_cast, Nat.reduceBEq, Nat.reduceLT, Nat.reduceLeDiff, Nat.reduceAdd, Nat.reduceSub, Nat.reduceMul, Nat.reduceEqDiff, reduceCtorEq, ↓reduceIte, Int.reduceEq, Int.reduceLT, Int.reduceLE, Int.reduceNe, Int.reduceAdd, Int.reduceSub, Int.reduceMul, Int.reduceToNat, Nat.reduceShiftRight, Nat.reduceAnd, Nat.reduceBNe]
  refine ⟨fun hc => ?_, fun hc => ?_⟩
  · refine ⟨by simp only [inR]; omega, by simp only [inR]; omega, by simp only [inR]; omega, ?_⟩
    refine call_rule (fill33_11 hK hR hk hY _ a0 (a1 - (q : Int)) a2 (c0 - (q : Int)) c1 c2 x00 x01 x02 (q : Int) (ys.getD 1 0) (ys.getD 2 0) (ys.getD 3 0) (ys.getD 4 0) (ys.getD 5 0) (hpre q (by omega)) (by omega)) ?_
    rintro v h' ⟨rfl, ys2, rfl⟩
    simp -implicitDefEqProofs only [Int.sub_add_cancel, gK1 hK, gK2 hK, gK3 hK, gK4 hK, gK5 hK, gK6 hK, gK7 hK, gK8 hK, gK9 hK, sK1 hK, sK2 hK, sK3 hK, sK4 hK, sK5 hK, sK6 hK, sK7 hK, sK8 hK, sK9 hK, kb, List.length_append, beq_self_eq_true, L33, push_cast, Nat.reduceBEq, Nat.reduceLT, Nat.reduceLeDiff, Nat.reduceAdd, Nat.reduceSub, Nat.reduceMul, Nat.reduceEqDiff, reduceCtorEq, ↓reduceIte, Int.reduceEq, Int.reduceLT, Int.reduceLE, Int.reduceNe, Int.reduceAdd, Int.reduceSub, Int.reduceMul, Int.reduceToNat, Nat.reduceShiftRight, Nat.reduceAnd, Nat.reduceBNe]
    refine ⟨by simp only [inR]; omega, by simp only [inR]; omega, by simp only [inR]; omega, (q + 1, (q : Int) :: ys2), by simp only; omega, by simp only; omega, ?_⟩
    simp only [hYs, List.foldl_append]
    exact wk_tk rfl
  · have hqe : q = (min a1 c0 + 1).toNat := by omega
    subst hqe
    refine fin_app (n := K + 10) (by simp [hK]) (by simp [hK] <;> omega) rfl (hR _ _ (by omega)) ?_ ⟨rfl, ys, ?_⟩
    · simp [rowsRefs, rowRefs, refsLtL, refsLt, NatBlt]; omega
    · rfl
theorem fill33_02 (hK : ∀ s, (C s).length = K + 1) (hR : ∀ s n, K + 1 ≤ n → rowsRefs n (C s) = true) (hk : k < K + 1) (hY : Yields33 J C K k upd r0 r1 r2 k0 k1 k2) (s : σ) (a0 a1 a2 c0 c1 c2 x00 x01 x02 x10 x11 x12 x20 x21 x22 : Int) (hJ : Pre J upd s ((rowE (a0) [c2]).flatMap fun tl => (tabE [a1, a2] (c0 :: c1 :: subC [c2] tl)).map fun rest => (x00 :: x01 :: tl) :: rest)) (hi : 0 ≤ x00 ∧ 0 ≤ x01 ∧ x00 + x01 + a0 = r0 ∧ 0 ≤ a0 ∧ a1 = r1 ∧ 0 ≤ a1 ∧ a2 = r2 ∧ 0 ≤ a2 ∧ x00 + c0 = k0 ∧ 0 ≤ c0 ∧ x01 + c1 = k1 ∧ 0 ≤ c1 ∧ c2 = k2 ∧ 0 ≤ c2 ∧ r0 ≤ 20 ∧ r1 ≤ 20 ∧ r2 ≤ 20 ∧ k0 ≤ 20 ∧ k1 ≤ 20 ∧ k2 ≤ 20) :
    VCalls Tryd.prog 56 ([I 0, I 2] ++ caps33 K) (C s ++ L33 K k a0 a1 a2 c0 c1 c2 x00 x01 x02 x10 x11 x12 x20 x21 x22) (fun v h' => v = B true ∧ ∃ ys : List Int, h' = C (((rowE (a0) [c2]).flatMap fun tl => (tabE [a1, a2] (c0 :: c1 :: subC [c2] tl)).map fun rest => (x00 :: x01 :: tl) :: rest).foldl upd s) ++ L33 K k a0 a1 a2 c0 c1 c2 x00 x01 (ys.getD 0 0) (ys.getD 1 0) (ys.getD 2 0) (ys.getD 3 0) (ys.getD 4 0) (ys.getD 5 0) (ys.getD 6 0)) := by
  have kb := kbeq K
  refine vcalls_fn hmix h56 rfl ?_
  simp -implicitDefEqProofs only [c56, caps33, gK1 hK, gK2 hK, gK3 hK, gK4 hK, gK5 hK, gK6 hK, gK7 hK, gK8 hK, gK9 hK, sK1 hK, sK2 hK, sK3 hK, sK4 hK, sK5 hK, sK6 hK, sK7 hK, sK8 hK, sK9 hK, kb, List.length_append, beq_self_eq_true, L33, push_cast, Nat.reduceBEq, Nat.reduceLT, Nat.reduceLeDiff, Nat.reduceAdd, Nat.reduceSub, Nat.reduceMul, Nat.reduceEqDiff, reduceCtorEq, ↓reduceIte, Int.reduceEq, Int.reduceLT, Int.reduceLE, Int.reduceNe, Int.reduceAdd, Int.reduceSub, Int.reduceMul, Int.reduceToNat, Nat.reduceShiftRight, Nat.reduceAnd, Nat.reduceBNe]
  refine ⟨by simp only [inR]; omega, fun hlt => ?_, fun hle => ?_⟩
  · skip
    refine fin_app (n := K + 10) (by simp [hK]) (by simp [hK] <;> omega) rfl (hR _ _ (by omega)) ?_ ⟨rfl, [x02, x10, x11, x12, x20, x21, x22], ?_⟩
    · simp [rowsRefs, rowRefs, refsLtL, refsLt, NatBlt]; omega
    · rw [show rowE a0 [c2] = [] from if_neg (by omega)]; rfl
  · refine ⟨by simp only [inR]; omega, by simp only [inR]; omega, ?_⟩
    have e : ((rowE (a0) [c2]).flatMap fun tl => (tabE [a1, a2] (c0 :: c1 :: subC [c2] tl)).map fun rest => (x00 :: x01 :: tl) :: rest) = ((rowE (a1) [c0, c1, (c2 - a0)]).flatMap fun tl => (tabE [a2] (subC [c0, c1, (c2 - a0)] tl)).map fun rest => [x00, x01, a0] :: (tl) :: rest) := by
      rw [show rowE a0 [c2] = [[a0]] from if_pos (by omega)]
      simp only [tabE_cons, subC, List.map_flatMap, List.map_map, List.flatMap_cons, List.flatMap_nil, List.append_nil, Function.comp_def, List.nil_append, List.cons_append]
    rw [e] at hJ
    refine call_rule (fill33_10 hK hR hk hY s a0 a1 a2 c0 c1 (c2 - a0) x00 x01 a0 x10 x11 x12 x20 x21 x22 hJ (by omega)) ?_
    rintro v h' ⟨rfl, ys, rfl⟩
    simp -implicitDefEqProofs only [Int.sub_add_cancel, gK1 hK, gK2 hK, gK3 hK, gK4 hK, gK5 hK, gK6 hK, gK7 hK, gK8 hK, gK9 hK, sK1 hK, sK2 hK, sK3 hK, sK4 hK, sK5 hK, sK6 hK, sK7 hK, sK8 hK, sK9 hK, kb, List.length_append, beq_self_eq_true, L33, push_cast, Nat.reduceBEq, Nat.reduceLT, Nat.reduceLeDiff, Nat.reduceAdd, Nat.reduceSub, Nat.reduceMul, Nat.reduceEqDiff, reduceCtorEq, ↓reduceIte, Int.reduceEq, Int.reduceLT, Int.reduceLE, Int.reduceNe, Int.reduceAdd, Int.reduceSub, Int.reduceMul, Int.reduceToNat, Nat.reduceShiftRight, Nat.reduceAnd, Nat.reduceBNe]
    refine ⟨by simp only [inR]; omega, ?_⟩
    refine fin_app (n := K + 10) (by simp [hK]) (by simp [hK] <;> omega) rfl (hR _ _ (by omega)) ?_ ⟨rfl, a0 :: ys, ?_⟩
    · simp [rowsRefs, rowRefs, refsLtL, refsLt, NatBlt]; omega
    · rw [e]; rfl
theorem fill33_01 (hK : ∀ s, (C s).length = K + 1) (hR : ∀ s n, K + 1 ≤ n → rowsRefs n (C s) = true) (hk : k < K + 1) (hY : Yields33 J C K k upd r0 r1 r2 k0 k1 k2) (s : σ) (a0 a1 a2 c0 c1 c2 x00 x01 x02 x10 x11 x12 x20 x21 x22 : Int) (hJ : Pre J upd s ((rowE (a0) [c1, c2]).flatMap fun tl => (tabE [a1, a2] (c0 :: subC [c1, c2] tl)).map fun rest => (x00 :: tl) :: rest)) (hi : 0 ≤ x00 ∧ x00 + a0 = r0 ∧ 0 ≤ a0 ∧ a1 = r1 ∧ 0 ≤ a1 ∧ a2 = r2 ∧ 0 ≤ a2 ∧ x00 + c0 = k0 ∧ 0 ≤ c0 ∧ c1 = k1 ∧ 0 ≤ c1 ∧ c2 = k2 ∧ 0 ≤ c2 ∧ r0 ≤ 20 ∧ r1 ≤ 20 ∧ r2 ≤ 20 ∧ k0 ≤ 20 ∧ k1 ≤ 20 ∧ k2 ≤ 20) :
    VCalls Tryd.prog 56 ([I 0, I 1] ++ caps33 K) (C s ++ L33 K k a0 a1 a2 c0 c1 c2 x00 x01 x02 x10 x11 x12 x20 x21 x22) (fun v h' => v = B true ∧ ∃ ys : List Int, h' = C (((rowE (a0) [c1, c2]).flatMap fun tl => (tabE [a1, a2] (c0 :: subC [c1, c2] tl)).map fun rest => (x00 :: tl) :: rest).foldl upd s) ++ L33 K k a0 a1 a2 c0 c1 c2 x00 (ys.getD 0 0) (ys.getD 1 0) (ys.getD 2 0) (ys.getD 3 0) (ys.getD 4 0) (ys.getD 5 0) (ys.getD 6 0) (ys.getD 7 0)) := by
  have kb := kbeq K
  obtain ⟨Yp, hYp⟩ : ∃ Yp : Nat → List (List (List Int)), Yp = fun N => (List.range N).flatMap fun (q : Nat) => ((rowE ((a0 - ((q : Nat) : Int))) [c2]).flatMap fun tl => (tabE [a1, a2] (c0 :: (c1 - ((q : Nat) : Int)) :: subC [c2] tl)).map fun rest => (x00 :: ((q : Nat) : Int) :: tl) :: rest) := ⟨_, rfl⟩
  have hY0 : Yp 0 = [] := by rw [hYp]; rfl
  have hYs : ∀ q : Nat, Yp (q + 1) = Yp q ++ ((rowE ((a0 - ((q : Nat) : Int))) [c2]).flatMap fun tl => (tabE [a1, a2] (c0 :: (c1 - ((q : Nat) : Int)) :: subC [c2] tl)).map fun rest => (x00 :: ((q : Nat) : Int) :: tl) :: rest) := by
    intro q
    simp only [hYp, List.range_succ, List.flatMap_append, List.flatMap_cons, List.flatMap_nil, List.append_nil]
  have hYe : ((rowE (a0) [c1, c2]).flatMap fun tl => (tabE [a1, a2] (c0 :: subC [c1, c2] tl)).map fun rest => (x00 :: tl) :: rest) = Yp (min a0 c1 + 1).toNat := by
    rw [hYp]
    simp only [rowE, subC, List.flatMap_assoc, List.flatMap_map]
  rw [hYe] at hJ ⊢
  have hpre := pre_steps hYs _ hJ
  clear hYe hYp
  refine vcalls_fn hmix h56 rfl ?_
  simp -implicitDefEqProofs only [c56, caps33, gK1 hK, gK2 hK, gK3 hK, gK4 hK, gK5 hK, gK6 hK, gK7 hK, gK8 hK, gK9 hK, sK1 hK, sK2 hK, sK3 hK, sK4 hK, sK5 hK, sK6 hK, sK7 hK, sK8 hK, sK9 hK, kb, List.length_append, beq_self_eq_true, L33, push_cast, Nat.reduceBEq, Nat.reduceLT, Nat.reduceLeDiff, Nat.reduceAdd, Nat.reduceSub, Nat.reduceMul, Nat.reduceEqDiff, reduceCtorEq, ↓reduceIte, Int.reduceEq, Int.reduceLT, Int.reduceLE, Int.reduceNe, Int.reduceAdd, Int.reduceSub, Int.reduceMul, Int.reduceToNat, Nat.reduceShiftRight, Nat.reduceAnd, Nat.reduceBNe]
  refine ⟨by simp only [inR]; omega, by simp only [inR]; omega, ?_⟩
  refine loop_w (α := Nat × List Int) (fun b => ⟨[(77, I b.1), (76, I (min a0 c1 + 1)), (6, .ptr (K + 9) 0), (5, .ptr (K + 2) 0), (3, .ptr (K + 3) 0), (2, .ptr (K + 5) 0), (1, I 1), (0, I 0)], C ((Yp b.1).foldl upd s) ++ L33 K k a0 a1 a2 c0 c1 c2 x00 (b.2.getD 0 0) (b.2.getD 1 0) (b.2.getD 2 0) (b.2.getD 3 0) (b.2.getD 4 0) (b.2.getD 5 0) (b.2.getD 6 0) (b.2.getD 7 0), []⟩)
    (fun b => b.1 ≤ (min a0 c1 + 1).toNat) (fun b => (min a0 c1 + 1).toNat - b.1) (0, [x01, x02, x10, x11, x12, x20, x21, x22]) (by rw [hY0]; exact wk_tk rfl) (by simp only; omega) ?_
  rintro ⟨q, ys⟩ hq
  simp only at hq
  simp -implicitDefEqProofs only [c56L0, gK1 hK, gK2 hK, gK3 hK, gK4 hK, gK5 hK, gK6 hK, gK7 hK, gK8 hK, gK9 hK, sK1 hK, sK2 hK, sK3 hK, sK4 hK, sK5 hK, sK6 hK, sK7 hK, sK8 hK, sK9 hK, kb, List.length_append, beq_self_eq_true, L33, push_cast, Nat.reduceBEq, Nat.reduceLT, Nat.reduceLeDiff, Nat.reduceAdd, Nat.reduceSub, Nat.reduceMul, Nat.reduceEqDiff, reduceCtorEq, ↓reduceIte, Int.reduceEq, Int.reduceLT, Int.reduceLE, Int.reduceNe, Int.reduceAdd, Int.reduceSub, Int.reduceMul, Int.reduceToNat, Nat.reduceShiftRight, Nat.reduceAnd, Nat.reduceBNe]
  refine ⟨fun hc => ?_, fun hc => ?_⟩
  · refine ⟨by simp only [inR]; omega, by simp only [inR]; omega, by simp only [inR]; omega, ?_⟩
    refine call_rule (fill33_02 hK hR hk hY _ (a0 - (q : Int)) a1 a2 c0 (c1 - (q : Int)) c2 x00 (q : Int) (ys.getD 1 0) (ys.getD 2 0) (ys.getD 3 0) (ys.getD 4 0) (ys.getD 5 0) (ys.getD 6 0) (ys.getD 7 0) (hpre q (by omega)) (by omega)) ?_
    rintro v h' ⟨rfl, ys2, rfl⟩
    simp -implicitDefEqProofs only [Int.sub_add_cancel, gK1 hK, gK2 hK, gK3 hK, gK4 hK, gK5 hK, gK6 hK, gK7 hK, gK8 hK, gK9 hK, sK1 hK, sK2 hK, sK3 hK, sK4 hK, sK5 hK, sK6 hK, sK7 hK, sK8 hK, sK9 hK, kb, List.length_append, beq_self_eq_true, L33, push_cast, Nat.reduceBEq, Nat.reduceLT, Nat.reduceLeDiff, Nat.reduceAdd, Nat.reduceSub, Nat.reduceMul, Nat.reduceEqDiff, reduceCtorEq, ↓reduceIte, Int.reduceEq, Int.reduceLT, Int.reduceLE, Int.reduceNe, Int.reduceAdd, Int.reduceSub, Int.reduceMul, Int.reduceToNat, Nat.reduceShiftRight, Nat.reduceAnd, Nat.reduceBNe]
    refine ⟨by simp only [inR]; omega, by simp only [inR]; omega, by simp only [inR]; omega, (q + 1, (q : Int) :: ys2), by simp only; omega, by simp only; omega, ?_⟩
    simp only [hYs, List.foldl_append]
    exact wk_tk rfl
  · have hqe : q = (min a0 c1 + 1).toNat := by omega
    subst hqe
    refine fin_app (n := K + 10) (by simp [hK]) (by simp [hK] <;> omega) rfl (hR _ _ (by omega)) ?_ ⟨rfl, ys, ?_⟩
    · simp [rowsRefs, rowRefs, refsLtL, refsLt, NatBlt]; omega
    · rfl
theorem fill33_00 (hK : ∀ s, (C s).length = K + 1) (hR : ∀ s n, K + 1 ≤ n → rowsRefs n (C s) = true) (hk : k < K + 1) (hY : Yields33 J C K k upd r0 r1 r2 k0 k1 k2) (s : σ) (a0 a1 a2 c0 c1 c2 x00 x01 x02 x10 x11 x12 x20 x21 x22 : Int) (hJ : Pre J upd s ((rowE (a0) [c0, c1, c2]).flatMap fun tl => (tabE [a1, a2] (subC [c0, c1, c2] tl)).map fun rest => (tl) :: rest)) (hi : a0 = r0 ∧ 0 ≤ a0 ∧ a1 = r1 ∧ 0 ≤ a1 ∧ a2 = r2 ∧ 0 ≤ a2 ∧ c0 = k0 ∧ 0 ≤ c0 ∧ c1 = k1 ∧ 0 ≤ c1 ∧ c2 = k2 ∧ 0 ≤ c2 ∧ r0 ≤ 20 ∧ r1 ≤ 20 ∧ r2 ≤ 20 ∧ k0 ≤ 20 ∧ k1 ≤ 20 ∧ k2 ≤ 20) :
    VCalls Tryd.prog 56 ([I 0, I 0] ++ caps33 K) (C s ++ L33 K k a0 a1 a2 c0 c1 c2 x00 x01 x02 x10 x11 x12 x20 x21 x22) (fun v h' => v = B true ∧ ∃ ys : List Int, h' = C (((rowE (a0) [c0, c1, c2]).flatMap fun tl => (tabE [a1, a2] (subC [c0, c1, c2] tl)).map fun rest => (tl) :: rest).foldl upd s) ++ L33 K k a0 a1 a2 c0 c1 c2 (ys.getD 0 0) (ys.getD 1 0) (ys.getD 2 0) (ys.getD 3 0) (ys.getD 4 0) (ys.getD 5 0) (ys.getD 6 0) (ys.getD 7 0) (ys.getD 8 0)) := by
  have kb := kbeq K
  obtain ⟨Yp, hYp⟩ : ∃ Yp : Nat → List (List (List Int)), Yp = fun N => (List.range N).flatMap fun (q : Nat) => ((rowE ((a0 - ((q : Nat) : Int))) [c1, c2]).flatMap fun tl => (tabE [a1, a2] ((c0 - ((q : Nat) : Int)) :: subC [c1, c2] tl)).map fun rest => (((q : Nat) : Int) :: tl) :: rest) := ⟨_, rfl⟩
  have hY0 : Yp 0 = [] := by rw [hYp]; rfl
  have hYs : ∀ q : Nat, Yp (q + 1) = Yp q ++ ((rowE ((a0 - ((q : Nat) : Int))) [c1, c2]).flatMap fun tl => (tabE [a1, a2] ((c0 - ((q : Nat) : Int)) :: subC [c1, c2] tl)).map fun rest => (((q : Nat) : Int) :: tl) :: rest) := by
    intro q
    simp only [hYp, List.range_succ, List.flatMap_append, List.flatMap_cons, List.flatMap_nil, List.append_nil]
  have hYe : ((rowE (a0) [c0, c1, c2]).flatMap fun tl => (tabE [a1, a2] (subC [c0, c1, c2] tl)).map fun rest => (tl) :: rest) = Yp (min a0 c0 + 1).toNat := by
    rw [hYp]
    simp only [rowE, subC, List.flatMap_assoc, List.flatMap_map]
  rw [hYe] at hJ ⊢
  have hpre := pre_steps hYs _ hJ
  clear hYe hYp
  refine vcalls_fn hmix h56 rfl ?_
  simp -implicitDefEqProofs only [c56, caps33, gK1 hK, gK2 hK, gK3 hK, gK4 hK, gK5 hK, gK6 hK, gK7 hK, gK8 hK, gK9 hK, sK1 hK, sK2 hK, sK3 hK, sK4 hK, sK5 hK, sK6 hK, sK7 hK, sK8 hK, sK9 hK, kb, List.length_append, beq_self_eq_true, L33, push_cast, Nat.reduceBEq, Nat.reduceLT, Nat.reduceLeDiff, Nat.reduceAdd, Nat.reduceSub, Nat.reduceMul, Nat.reduceEqDiff, reduceCtorEq, ↓reduceIte, Int.reduceEq, Int.reduceLT, Int.reduceLE, Int.reduceNe, Int.reduceAdd, Int.reduceSub, Int.reduceMul, Int.reduceToNat, Nat.reduceShiftRight, Nat.reduceAnd, Nat.reduceBNe]
  refine ⟨by simp only [inR]; omega, by simp only [inR]; omega, ?_⟩
  refine loop_w (α := Nat × List Int) (fun b => ⟨[(77, I b.1), (76, I (min a0 c0 + 1)), (6, .ptr (K + 9) 0), (5, .ptr (K + 2) 0), (3, .ptr (K + 3) 0), (2, .ptr (K + 5) 0), (1, I 0), (0, I 0)], C ((Yp b.1).foldl upd s) ++ L33 K k a0 a1 a2 c0 c1 c2 (b.2.getD 0 0) (b.2.getD 1 0) (b.2.getD 2 0) (b.2.getD 3 0) (b.2.getD 4 0) (b.2.getD 5 0) (b.2.getD 6 0) (b.2.getD 7 0) (b.2.getD 8 0), []⟩)
    (fun b => b.1 ≤ (min a0 c0 + 1).toNat) (fun b => (min a0 c0 + 1).toNat - b.1) (0, [x00, x01, x02, x10, x11, x12, x20, x21, x22]) (by rw [hY0]; exact wk_tk rfl) (by simp only; omega) ?_
  rintro ⟨q, ys⟩ hq
  simp only at hq
  simp -implicitDefEqProofs only [c56L0, gK1 hK, gK2 hK, gK3 hK, gK4 hK, gK5 hK, gK6 hK, gK7 hK, gK8 hK, gK9 hK, sK1 hK, sK2 hK, sK3 hK, sK4 hK, sK5 hK, sK6 hK, sK7 hK, sK8 hK, sK9 hK, kb, List.length_append, beq_self_eq_true, L33, push_cast, Nat.reduceBEq, Nat.reduceLT, Nat.reduceLeDiff, Nat.reduceAdd, Nat.reduceSub, Nat.reduceMul, Nat.reduceEqDiff, reduceCtorEq, ↓reduceIte, Int.reduceEq, Int.reduceLT, Int.reduceLE, Int.reduceNe, Int.reduceAdd, Int.reduceSub, Int.reduceMul, Int.reduceToNat, Nat.reduceShiftRight, Nat.reduceAnd, Nat.reduceBNe]
  refine ⟨fun hc => ?_, fun hc => ?_⟩
  · refine ⟨by simp only [inR]; omega, by simp only [inR]; omega, by simp only [inR]; omega, ?_⟩
    refine call_rule (fill33_01 hK hR hk hY _ (a0 - (q : Int)) a1 a2 (c0 - (q : Int)) c1 c2 (q : Int) (ys.getD 1 0) (ys.getD 2 0) (ys.getD 3 0) (ys.getD 4 0) (ys.getD 5 0) (ys.getD 6 0) (ys.getD 7 0) (ys.getD 8 0) (hpre q (by omega)) (by omega)) ?_
    rintro v h' ⟨rfl, ys2, rfl⟩
    simp -implicitDefEqProofs only [Int.sub_add_cancel, gK1 hK, gK2 hK, gK3 hK, gK4 hK, gK5 hK, gK6 hK, gK7 hK, gK8 hK, gK9 hK, sK1 hK, sK2 hK, sK3 hK, sK4 hK, sK5 hK, sK6 hK, sK7 hK, sK8 hK, sK9 hK, kb, List.length_append, beq_self_eq_true, L33, push_cast, Nat.reduceBEq, Nat.reduceLT, Nat.reduceLeDiff, Nat.reduceAdd, Nat.reduceSub, Nat.reduceMul, Nat.reduceEqDiff, reduceCtorEq, ↓reduceIte, Int.reduceEq, Int.reduceLT, Int.reduceLE, Int.reduceNe, Int.reduceAdd, Int.reduceSub, Int.reduceMul, Int.reduceToNat, Nat.reduceShiftRight, Nat.reduceAnd, Nat.reduceBNe]
    refine ⟨by simp only [inR]; omega, by simp only [inR]; omega, by simp only [inR]; omega, (q + 1, (q : Int) :: ys2), by simp only; omega, by simp only; omega, ?_⟩
    simp only [hYs, List.foldl_append]
    exact wk_tk rfl
  · have hqe : q = (min a0 c0 + 1).toNat := by omega
    subst hqe
    refine fin_app (n := K + 10) (by simp [hK]) (by simp [hK] <;> omega) rfl (hR _ _ (by omega)) ?_ ⟨rfl, ys, ?_⟩
    · simp [rowsRefs, rowRefs, refsLtL, refsLt, NatBlt]; omega
    · rfl
end
end Go.Proofs.YtligakiolapkkaaDoor

namespace Go.Proofs.YtligakiolapkkaaDoor
open Go GoV
set_option maxRecDepth 10000
theorem fin_pre {B n : Nat} {v : AV} {Q : AV → Heap → Prop} {C L : Heap} (hn : C.length = n) (hB : B ≤ n) (hv : refsLt n v = true) (hC : rowsRefs n C = true) (hq : Q v C) : finK1 B v Q (C ++ L) := by
  subst hn
  refine ⟨C.length, hB, hv, ?_, ?_⟩
  · rw [List.take_left]; exact hC
  · rw [List.take_left]; exact hq
theorem all_pc (t : List (List Int)) : PC Tryd.prog 46 [TT t] (.fn 55 [] [.imm (.list (.list (.int .i64))) t]) := by
  refine pc_fn hmix h46 rfl ?_
  simp -implicitDefEqProofs only [c46, push_cast, Nat.reduceBEq, Nat.reduceLT, Nat.reduceLeDiff, Nat.reduceAdd, Nat.reduceSub, Nat.reduceMul, Nat.reduceEqDiff, reduceCtorEq, ↓reduceIte, Int.reduceEq, Int.reduceLT, Int.reduceLE, Int.reduceNe, Int.reduceAdd, Int.reduceSub, Int.reduceMul, Int.reduceToNat, Nat.reduceShiftRight, Nat.reduceAnd, Nat.reduceBNe]
  exact finR 1 rfl ⟨rfl, trivial, ⟨⟨Nat.le_refl _, ⟨rfl, rfl⟩⟩, trivial⟩⟩
abbrev TTT (l : List (List (List Int))) : AV := .dat (.list (.list (.list (.int .i64)))) l
def allT (t : List (List Int)) : List (Nat × AV) := [(16, .fn 55 [] [.imm (.list (.list (.int .i64))) t]), (15, TT t), (13, .dat .bool false), (12, I 0), (11, I 0), (10, TT t), (5, .ptr 0 0), (4, I 0), (3, I 0), (2, .nils), (0, TT t)]
def allC (t : List (List Int)) (s : List (List (List Int))) : Heap := [.box [.slc 3 s.length 0 s.length], .dfr, .loop .ready none 39 (allT t) [17] k23a0 k23b0 1, .lst (.list (.list (.int .i64))) s]
theorem foldl_snoc {α : Type} : ∀ (l s : List α), l.foldl (fun s t => s ++ [t]) s = s ++ l
  | [], s => by simp
  | a :: l, s => by simp [foldl_snoc l]
theorem all_bad (t : List (List Int)) (hl : t.length ≤ 1000) (hr : ∀ r ∈ t, r.length ≤ 1000) (hv : validB t = false) : PC Tryd.prog 23 [TT t] (.tup [TTT [], I 300]) := by
  have hc := check_pc t hl hr
  rw [hv] at hc
  refine pc_fn hmix h23 rfl ?_
  simp -implicitDefEqProofs only [c23, push_cast, Nat.reduceBEq, Nat.reduceLT, Nat.reduceLeDiff, Nat.reduceAdd, Nat.reduceSub, Nat.reduceMul, Nat.reduceEqDiff, reduceCtorEq, ↓reduceIte, Int.reduceEq, Int.reduceLT, Int.reduceLE, Int.reduceNe, Int.reduceAdd, Int.reduceSub, Int.reduceMul, Int.reduceToNat, Nat.reduceShiftRight, Nat.reduceAnd, Nat.reduceBNe]
  refine callF hc ⟨rfl, trivial⟩ rfl rfl ?_
  simp -implicitDefEqProofs only [push_cast, Nat.reduceBEq, Nat.reduceLT, Nat.reduceLeDiff, Nat.reduceAdd, Nat.reduceSub, Nat.reduceMul, Nat.reduceEqDiff, reduceCtorEq, ↓reduceIte, Int.reduceEq, Int.reduceLT, Int.reduceLE, Int.reduceNe, Int.reduceAdd, Int.reduceSub, Int.reduceMul, Int.reduceToNat, Nat.reduceShiftRight, Nat.reduceAnd, Nat.reduceBNe]
  exact finR 0 rfl ⟨trivial, rfl, trivial⟩
theorem lead_rng {r : List Int} (h : R20 r) : ∀ x ∈ r, 0 ≤ x ∧ x ≤ 20 := h
end Go.Proofs.YtligakiolapkkaaDoor

namespace Go.Proofs.YtligakiolapkkaaDoor
open Go GoV
set_option maxHeartbeats 8000000
set_option maxRecDepth 10000
set_option linter.unusedVariables false
set_option linter.unusedSimpArgs false
theorem tab_hyp22 {x00 x01 x10 x11 : Int} (h : Tab [[x00, x01], [x10, x11]]) : 0 ≤ x00 ∧ 0 ≤ x01 ∧ 0 ≤ x10 ∧ 0 ≤ x11 ∧ x00 + x01 + x10 + x11 ≤ 20 := by
  obtain ⟨_, _, h3, h4⟩ := h
  have := rng2 (h3 [x00, x01] (by simp)).2
  have := rng2 (h3 [x10, x11] (by simp)).2
  simp only [totL, sumL, List.map_cons, List.map_nil] at h4
  omega
section
variable {σ : Type} {J : σ → Prop} {C : σ → Heap} {K k : Nat} {upd : σ → List (List Int) → σ}
theorem all22 (hK : ∀ s, (C s).length = K + 1) (hR : ∀ s n, K + 1 ≤ n → rowsRefs n (C s) = true) (hk : k < K + 1) {x00 x01 x10 x11 : Int} (ht : Tab [[x00, x01], [x10, x11]])
    (hY : Yields22 J C K k upd (x00 + x01) (x10 + x11) (x00 + x10) (x01 + x11)) (s : σ) (hJ : Pre J upd s (tabE [(x00 + x01), (x10 + x11)] [(x00 + x10), (x01 + x11)])) :
    VCalls Tryd.prog 55 [.yld k, .imm (.list (.list (.int .i64))) [[x00, x01], [x10, x11]]] (C s) (fun v h' => h' = C ((tabE [(x00 + x01), (x10 + x11)] [(x00 + x10), (x01 + x11)]).foldl upd s)) := by
  have kb := kbeq K
  have m7 : K + 7 - 1 = K + 6 := rfl
  have m8 : K + 8 - 1 = K + 7 := rfl
  have m9 : K + 9 - 1 = K + 8 := rfl
  have hr := tab_hyp22 ht
  have hs := sums_22 x00 x01 x10 x11 (by omega)
  refine vcalls_fn hmix h55 rfl ?_
  simp -implicitDefEqProofs only [c55, hK, List.length_append, List.length_cons, List.length_nil, Nat.add_assoc, Nat.reduceAdd, kb, push_cast, Nat.reduceBEq, Nat.reduceLT, Nat.reduceLeDiff, Nat.reduceAdd, Nat.reduceSub, Nat.reduceMul, Nat.reduceEqDiff, reduceCtorEq, ↓reduceIte, Int.reduceEq, Int.reduceLT, Int.reduceLE, Int.reduceNe, Int.reduceAdd, Int.reduceSub, Int.reduceMul, Int.reduceToNat, Nat.reduceShiftRight, Nat.reduceAnd, Nat.reduceBNe]
  refine callF hs ⟨rfl, trivial⟩ rfl rfl ?_
  simp -implicitDefEqProofs only [hK, List.length_append, List.length_cons, List.length_nil, Nat.add_assoc, Nat.reduceAdd, kb, List.append_assoc, List.cons_append, List.nil_append, gK1 hK, gK2 hK, gK3 hK, gK4 hK, gK5 hK, gK6 hK, gK7 hK, gK8 hK, sK1 hK, sK2 hK, sK3 hK, sK4 hK, sK5 hK, sK6 hK, sK7 hK, sK8 hK, push_cast, Nat.reduceBEq, Nat.reduceLT, Nat.reduceLeDiff, Nat.reduceAdd, Nat.reduceSub, Nat.reduceMul, Nat.reduceEqDiff, reduceCtorEq, ↓reduceIte, Int.reduceEq, Int.reduceLT, Int.reduceLE, Int.reduceNe, Int.reduceAdd, Int.reduceSub, Int.reduceMul, Int.reduceToNat, Nat.reduceShiftRight, Nat.reduceAnd, Nat.reduceBNe]
  refine ⟨⟨by simp only [two47]; omega, by simp only [two47]; omega⟩, ?_⟩
  repeat first
    | (refine LoopW.wk (wk_t [18, 17, 5, 4, 3, 2, 1] rfl) (LoopW.unroll ?_); simp -implicitDefEqProofs only [c55L0, m7, m8, m9, hK, List.length_append, List.length_cons, List.length_nil, Nat.add_assoc, Nat.reduceAdd, kb, List.append_assoc, List.cons_append, List.nil_append, gK1 hK, gK2 hK, gK3 hK, gK4 hK, gK5 hK, gK6 hK, gK7 hK, gK8 hK, sK1 hK, sK2 hK, sK3 hK, sK4 hK, sK5 hK, sK6 hK, sK7 hK, sK8 hK, List.getD_cons_zero, List.getD_cons_succ, Int.zero_add, push_cast, Nat.reduceBEq, Nat.reduceLT, Nat.reduceLeDiff, Nat.reduceAdd, Nat.reduceSub, Nat.reduceMul, Nat.reduceEqDiff, reduceCtorEq, ↓reduceIte, Int.reduceEq, Int.reduceLT, Int.reduceLE, Int.reduceNe, Int.reduceAdd, Int.reduceSub, Int.reduceMul, Int.reduceToNat, Nat.reduceShiftRight, Nat.reduceAnd, Nat.reduceBNe])
    | (refine ⟨by first | (simp only [inR]; omega) | (simp only [two47]; omega) | omega, ?_⟩)
  refine call_rule (fill22_00 hK hR hk hY s (x00 + x01) (x10 + x11) (x00 + x10) (x01 + x11) 0 0 0 0 hJ (by omega)) ?_
  rintro v h' ⟨rfl, ys, rfl⟩
  simp -implicitDefEqProofs only [push_cast, Nat.reduceBEq, Nat.reduceLT, Nat.reduceLeDiff, Nat.reduceAdd, Nat.reduceSub, Nat.reduceMul, Nat.reduceEqDiff, reduceCtorEq, ↓reduceIte, Int.reduceEq, Int.reduceLT, Int.reduceLE, Int.reduceNe, Int.reduceAdd, Int.reduceSub, Int.reduceMul, Int.reduceToNat, Nat.reduceShiftRight, Nat.reduceAnd, Nat.reduceBNe]
  exact fin_pre (hK _) (Nat.le_refl _) rfl (hR _ _ (Nat.le_refl _)) rfl
end
theorem All22 (x00 x01 x10 x11 : Int) (ht : Tab [[x00, x01], [x10, x11]]) : PC Tryd.prog 23 [TT [[x00, x01], [x10, x11]]] (.tup [TTT (tabE [(x00 + x01), (x10 + x11)] [(x00 + x10), (x01 + x11)]), I 0]) := by
  have hc := check_pc [[x00, x01], [x10, x11]] (by simp) (by simp)
  rw [tab_valid ht] at hc
  have hq := tab_hyp22 ht
  refine pc_fn hmix h23 rfl ?_
  simp -implicitDefEqProofs only [c23, push_cast, Nat.reduceBEq, Nat.reduceLT, Nat.reduceLeDiff, Nat.reduceAdd, Nat.reduceSub, Nat.reduceMul, Nat.reduceEqDiff, reduceCtorEq, ↓reduceIte, Int.reduceEq, Int.reduceLT, Int.reduceLE, Int.reduceNe, Int.reduceAdd, Int.reduceSub, Int.reduceMul, Int.reduceToNat, Nat.reduceShiftRight, Nat.reduceAnd, Nat.reduceBNe]
  refine callF hc ⟨rfl, trivial⟩ rfl rfl ?_
  simp -implicitDefEqProofs only [push_cast, Nat.reduceBEq, Nat.reduceLT, Nat.reduceLeDiff, Nat.reduceAdd, Nat.reduceSub, Nat.reduceMul, Nat.reduceEqDiff, reduceCtorEq, ↓reduceIte, Int.reduceEq, Int.reduceLT, Int.reduceLE, Int.reduceNe, Int.reduceAdd, Int.reduceSub, Int.reduceMul, Int.reduceToNat, Nat.reduceShiftRight, Nat.reduceAnd, Nat.reduceBNe]
  refine callF (all_pc _) ⟨rfl, trivial⟩ rfl rfl ?_
  simp -implicitDefEqProofs only [push_cast, Nat.reduceBEq, Nat.reduceLT, Nat.reduceLeDiff, Nat.reduceAdd, Nat.reduceSub, Nat.reduceMul, Nat.reduceEqDiff, reduceCtorEq, ↓reduceIte, Int.reduceEq, Int.reduceLT, Int.reduceLE, Int.reduceNe, Int.reduceAdd, Int.reduceSub, Int.reduceMul, Int.reduceToNat, Nat.reduceShiftRight, Nat.reduceAnd, Nat.reduceBNe]
  refine rangeF_n rfl (fun _ h2 => h2 = allC [[x00, x01], [x10, x11]] (tabE [(x00 + x01), (x10 + x11)] [(x00 + x10), (x01 + x11)])) ?_ ?_
  · refine vcalls_own (r := 0) (i := 0) (t := .list (.list (.int .i64))) rfl rfl ?_
    refine VC.mono (.fn 55) _ _ _ _ ?_ (all22 (K := 3) (k := 2) (C := allC [[x00, x01], [x10, x11]]) (upd := fun s t => s ++ [t]) (J := fun s => s.length ≤ 1000000000000) (fun _ => rfl) ?_ (by omega) ht ?_ [] ?_)
    · intro v h' e
      rw [e, foldl_snoc]; rfl
    · intro s n hn
      simp [allC, allT, rowsRefs, rowRefs, refsLtL, refsLt, refsT, NatBlt]; omega
    · intro s a0 a1 c0 c1 y00 y01 y10 y11 hJ hp hr hc
      have hJ : s.length ≤ 1000000000000 := hJ
      refine vyield_trim (vyield_of_awp hmix rfl h23A0 h23B0 rfl rfl ?_)
      simp -implicitDefEqProofs only [c23A0, c23B0, allC, allT, L22, List.cons_append, List.nil_append, push_cast, Nat.reduceBEq, Nat.reduceLT, Nat.reduceLeDiff, Nat.reduceAdd, Nat.reduceSub, Nat.reduceMul, Nat.reduceEqDiff, reduceCtorEq, ↓reduceIte, Int.reduceEq, Int.reduceLT, Int.reduceLE, Int.reduceNe, Int.reduceAdd, Int.reduceSub, Int.reduceMul, Int.reduceToNat, Nat.reduceShiftRight, Nat.reduceAnd, Nat.reduceBNe]
      refine ⟨⟨by simp only [two47]; omega, by simp only [two47]; omega⟩, ?_⟩
      refine LoopW.wk (wk_t [23, 22, 21, 7, 5] rfl) (LoopW.unroll ?_)
      simp -implicitDefEqProofs only [c23B0L0, List.getD_cons_zero, List.getD_cons_succ, Int.zero_add, push_cast, Nat.reduceBEq, Nat.reduceLT, Nat.reduceLeDiff, Nat.reduceAdd, Nat.reduceSub, Nat.reduceMul, Nat.reduceEqDiff, reduceCtorEq, ↓reduceIte, Int.reduceEq, Int.reduceLT, Int.reduceLE, Int.reduceNe, Int.reduceAdd, Int.reduceSub, Int.reduceMul, Int.reduceToNat, Nat.reduceShiftRight, Nat.reduceAnd, Nat.reduceBNe]
      refine callN (clone_new [y00, y01] (by simp) (by simp)) ⟨rd_seq rfl rfl, trivial⟩ rfl rfl (fz_seq rfl rfl) rfl ?_
      simp -implicitDefEqProofs only [push_cast, Nat.reduceBEq, Nat.reduceLT, Nat.reduceLeDiff, Nat.reduceAdd, Nat.reduceSub, Nat.reduceMul, Nat.reduceEqDiff, reduceCtorEq, ↓reduceIte, Int.reduceEq, Int.reduceLT, Int.reduceLE, Int.reduceNe, Int.reduceAdd, Int.reduceSub, Int.reduceMul, Int.reduceToNat, Nat.reduceShiftRight, Nat.reduceAnd, Nat.reduceBNe]
      repeat (refine ⟨by first | (simp only [inR]; omega) | omega, ?_⟩)
      refine LoopW.wk (wk_t [23, 22, 21, 7, 5] rfl) (LoopW.unroll ?_)
      simp -implicitDefEqProofs only [c23B0L0, List.getD_cons_zero, List.getD_cons_succ, Int.zero_add, push_cast, Nat.reduceBEq, Nat.reduceLT, Nat.reduceLeDiff, Nat.reduceAdd, Nat.reduceSub, Nat.reduceMul, Nat.reduceEqDiff, reduceCtorEq, ↓reduceIte, Int.reduceEq, Int.reduceLT, Int.reduceLE, Int.reduceNe, Int.reduceAdd, Int.reduceSub, Int.reduceMul, Int.reduceToNat, Nat.reduceShiftRight, Nat.reduceAnd, Nat.reduceBNe]
      refine callN (clone_new [y10, y11] (by simp) (by simp)) ⟨rd_seq rfl rfl, trivial⟩ rfl rfl (fz_seq rfl rfl) rfl ?_
      simp -implicitDefEqProofs only [push_cast, Nat.reduceBEq, Nat.reduceLT, Nat.reduceLeDiff, Nat.reduceAdd, Nat.reduceSub, Nat.reduceMul, Nat.reduceEqDiff, reduceCtorEq, ↓reduceIte, Int.reduceEq, Int.reduceLT, Int.reduceLE, Int.reduceNe, Int.reduceAdd, Int.reduceSub, Int.reduceMul, Int.reduceToNat, Nat.reduceShiftRight, Nat.reduceAnd, Nat.reduceBNe]
      repeat (refine ⟨by first | (simp only [inR]; omega) | omega, ?_⟩)
      refine LoopW.wk ((wk_t [23, 22, 21, 7, 5] rfl).trans (wk_give [12] 7 (TT [[y00, y01], [y10, y11]]) rfl ⟨rfl, ⟨rfl, rfl⟩, ⟨rfl, rfl⟩, trivial⟩ rfl rfl)) (LoopW.unroll ?_)
      simp -implicitDefEqProofs only [c23B0L0, setT, killR, push_cast, Nat.reduceBEq, Nat.reduceLT, Nat.reduceLeDiff, Nat.reduceAdd, Nat.reduceSub, Nat.reduceMul, Nat.reduceEqDiff, reduceCtorEq, ↓reduceIte, Int.reduceEq, Int.reduceLT, Int.reduceLE, Int.reduceNe, Int.reduceAdd, Int.reduceSub, Int.reduceMul, Int.reduceToNat, Nat.reduceShiftRight, Nat.reduceAnd, Nat.reduceBNe]
      refine ⟨⟨by simp only [two47]; omega, by simp only [two47]; omega⟩, 12, Nat.le_refl _, rfl, ?_, rfl⟩
      simp only [List.take, rowsRefs, rowRefs, refsLtL, refsLt, refsT, NatBlt]
      rfl
    · refine pre_len _ _ _ ?_
      have h1 := tabE_len [(x00 + x01), (x10 + x11)] [(x00 + x10), (x01 + x11)] 2 (Nat.le_refl _) (by intro a ha; simp only [List.mem_cons, List.not_mem_nil, or_false] at ha; omega)
      refine Nat.le_trans (Nat.add_le_add_left h1 _) ?_
      simp
  · rintro v h2 rfl
    simp -implicitDefEqProofs only [allC, push_cast, Nat.reduceBEq, Nat.reduceLT, Nat.reduceLeDiff, Nat.reduceAdd, Nat.reduceSub, Nat.reduceMul, Nat.reduceEqDiff, reduceCtorEq, ↓reduceIte, Int.reduceEq, Int.reduceLT, Int.reduceLE, Int.reduceNe, Int.reduceAdd, Int.reduceSub, Int.reduceMul, Int.reduceToNat, Nat.reduceShiftRight, Nat.reduceAnd, Nat.reduceBNe]
    exact finR 4 rfl ⟨rd_lst rfl rfl, rfl, trivial⟩
end Go.Proofs.YtligakiolapkkaaDoor

namespace Go.Proofs.YtligakiolapkkaaDoor
open Go GoV
set_option maxHeartbeats 8000000
set_option maxRecDepth 10000
set_option linter.unusedVariables false
set_option linter.unusedSimpArgs false
theorem tab_hyp23 {x00 x01 x02 x10 x11 x12 : Int} (h : Tab [[x00, x01, x02], [x10, x11, x12]]) : 0 ≤ x00 ∧ 0 ≤ x01 ∧ 0 ≤ x02 ∧ 0 ≤ x10 ∧ 0 ≤ x11 ∧ 0 ≤ x12 ∧ x00 + x01 + x02 + x10 + x11 + x12 ≤ 20 := by
  obtain ⟨_, _, h3, h4⟩ := h
  have := rng3 (h3 [x00, x01, x02] (by simp)).2
  have := rng3 (h3 [x10, x11, x12] (by simp)).2
  simp only [totL, sumL, List.map_cons, List.map_nil] at h4
  omega
section
variable {σ : Type} {J : σ → Prop} {C : σ → Heap} {K k : Nat} {upd : σ → List (List Int) → σ}
theorem all23 (hK : ∀ s, (C s).length = K + 1) (hR : ∀ s n, K + 1 ≤ n → rowsRefs n (C s) = true) (hk : k < K + 1) {x00 x01 x02 x10 x11 x12 : Int} (ht : Tab [[x00, x01, x02], [x10, x11, x12]])
    (hY : Yields23 J C K k upd (x00 + x01 + x02) (x10 + x11 + x12) (x00 + x10) (x01 + x11) (x02 + x12)) (s : σ) (hJ : Pre J upd s (tabE [(x00 + x01 + x02), (x10 + x11 + x12)] [(x00 + x10), (x01 + x11), (x02 + x12)])) :
    VCalls Tryd.prog 55 [.yld k, .imm (.list (.list (.int .i64))) [[x00, x01, x02], [x10, x11, x12]]] (C s) (fun v h' => h' = C ((tabE [(x00 + x01 + x02), (x10 + x11 + x12)] [(x00 + x10), (x01 + x11), (x02 + x12)]).foldl upd s)) := by
  have kb := kbeq K
  have m7 : K + 7 - 1 = K + 6 := rfl
  have m8 : K + 8 - 1 = K + 7 := rfl
  have m9 : K + 9 - 1 = K + 8 := rfl
  have hr := tab_hyp23 ht
  have hs := sums_23 x00 x01 x02 x10 x11 x12 (by omega)
  refine vcalls_fn hmix h55 rfl ?_
  simp -implicitDefEqProofs only [c55, hK, List.length_append, List.length_cons, List.length_nil, Nat.add_assoc, Nat.reduceAdd, kb, push_cast, Nat.reduceBEq, Nat.reduceLT, Nat.reduceLeDiff, Nat.reduceAdd, Nat.reduceSub, Nat.reduceMul, Nat.reduceEqDiff, reduceCtorEq, ↓reduceIte, Int.reduceEq, Int.reduceLT, Int.reduceLE, Int.reduceNe, Int.reduceAdd, Int.reduceSub, Int.reduceMul, Int.reduceToNat, Nat.reduceShiftRight, Nat.reduceAnd, Nat.reduceBNe]
  refine callF hs ⟨rfl, trivial⟩ rfl rfl ?_
  simp -implicitDefEqProofs only [hK, List.length_append, List.length_cons, List.length_nil, Nat.add_assoc, Nat.reduceAdd, kb, List.append_assoc, List.cons_append, List.nil_append, gK1 hK, gK2 hK, gK3 hK, gK4 hK, gK5 hK, gK6 hK, gK7 hK, gK8 hK, sK1 hK, sK2 hK, sK3 hK, sK4 hK, sK5 hK, sK6 hK, sK7 hK, sK8 hK, push_cast, Nat.reduceBEq, Nat.reduceLT, Nat.reduceLeDiff, Nat.reduceAdd, Nat.reduceSub, Nat.reduceMul, Nat.reduceEqDiff, reduceCtorEq, ↓reduceIte, Int.reduceEq, Int.reduceLT, Int.reduceLE, Int.reduceNe, Int.reduceAdd, Int.reduceSub, Int.reduceMul, Int.reduceToNat, Nat.reduceShiftRight, Nat.reduceAnd, Nat.reduceBNe]
  refine ⟨⟨by simp only [two47]; omega, by simp only [two47]; omega⟩, ?_⟩
  repeat first
    | (refine LoopW.wk (wk_t [18, 17, 5, 4, 3, 2, 1] rfl) (LoopW.unroll ?_); simp -implicitDefEqProofs only [c55L0, m7, m8, m9, hK, List.length_append, List.length_cons, List.length_nil, Nat.add_assoc, Nat.reduceAdd, kb, List.append_assoc, List.cons_append, List.nil_append, gK1 hK, gK2 hK, gK3 hK, gK4 hK, gK5 hK, gK6 hK, gK7 hK, gK8 hK, sK1 hK, sK2 hK, sK3 hK, sK4 hK, sK5 hK, sK6 hK, sK7 hK, sK8 hK, List.getD_cons_zero, List.getD_cons_succ, Int.zero_add, push_cast, Nat.reduceBEq, Nat.reduceLT, Nat.reduceLeDiff, Nat.reduceAdd, Nat.reduceSub, Nat.reduceMul, Nat.reduceEqDiff, reduceCtorEq, ↓reduceIte, Int.reduceEq, Int.reduceLT, Int.reduceLE, Int.reduceNe, Int.reduceAdd, Int.reduceSub, Int.reduceMul, Int.reduceToNat, Nat.reduceShiftRight, Nat.reduceAnd, Nat.reduceBNe])
    | (refine ⟨by first | (simp only [inR]; omega) | (simp only [two47]; omega) | omega, ?_⟩)
  refine call_rule (fill23_00 hK hR hk hY s (x00 + x01 + x02) (x10 + x11 + x12) (x00 + x10) (x01 + x11) (x02 + x12) 0 0 0 0 0 0 hJ (by omega)) ?_
  rintro v h' ⟨rfl, ys, rfl⟩
  simp -implicitDefEqProofs only [push_cast, Nat.reduceBEq, Nat.reduceLT, Nat.reduceLeDiff, Nat.reduceAdd, Nat.reduceSub, Nat.reduceMul, Nat.reduceEqDiff, reduceCtorEq, ↓reduceIte, Int.reduceEq, Int.reduceLT, Int.reduceLE, Int.reduceNe, Int.reduceAdd, Int.reduceSub, Int.reduceMul, Int.reduceToNat, Nat.reduceShiftRight, Nat.reduceAnd, Nat.reduceBNe]
  exact fin_pre (hK _) (Nat.le_refl _) rfl (hR _ _ (Nat.le_refl _)) rfl
end
theorem All23 (x00 x01 x02 x10 x11 x12 : Int) (ht : Tab [[x00, x01, x02], [x10, x11, x12]]) : PC Tryd.prog 23 [TT [[x00, x01, x02], [x10, x11, x12]]] (.tup [TTT (tabE [(x00 + x01 + x02), (x10 + x11 + x12)] [(x00 + x10), (x01 + x11), (x02 + x12)]), I 0]) := by
  have hc := check_pc [[x00, x01, x02], [x10, x11, x12]] (by simp) (by simp)
  rw [tab_valid ht] at hc
  have hq := tab_hyp23 ht
  refine pc_fn hmix h23 rfl ?_
  simp -implicitDefEqProofs only [c23, push_cast, Nat.reduceBEq, Nat.reduceLT, Nat.reduceLeDiff, Nat.reduceAdd, Nat.reduceSub, Nat.reduceMul, Nat.reduceEqDiff, reduceCtorEq, ↓reduceIte, Int.reduceEq, Int.reduceLT, Int.reduceLE, Int.reduceNe, Int.reduceAdd, Int.reduceSub, Int.reduceMul, Int.reduceToNat, Nat.reduceShiftRight, Nat.reduceAnd, Nat.reduceBNe]
  refine callF hc ⟨rfl, trivial⟩ rfl rfl ?_
  simp -implicitDefEqProofs only [push_cast, Nat.reduceBEq, Nat.reduceLT, Nat.reduceLeDiff, Nat.reduceAdd, Nat.reduceSub, Nat.reduceMul, Nat.reduceEqDiff, reduceCtorEq, ↓reduceIte, Int.reduceEq, Int.reduceLT, Int.reduceLE, Int.reduceNe, Int.reduceAdd, Int.reduceSub, Int.reduceMul, Int.reduceToNat, Nat.reduceShiftRight, Nat.reduceAnd, Nat.reduceBNe]
  refine callF (all_pc _) ⟨rfl, trivial⟩ rfl rfl ?_
  simp -implicitDefEqProofs only [push_cast, Nat.reduceBEq, Nat.reduceLT, Nat.reduceLeDiff, Nat.reduceAdd, Nat.reduceSub, Nat.reduceMul, Nat.reduceEqDiff, reduceCtorEq, ↓reduceIte, Int.reduceEq, Int.reduceLT, Int.reduceLE, Int.reduceNe, Int.reduceAdd, Int.reduceSub, Int.reduceMul, Int.reduceToNat, Nat.reduceShiftRight, Nat.reduceAnd, Nat.reduceBNe]
  refine rangeF_n rfl (fun _ h2 => h2 = allC [[x00, x01, x02], [x10, x11, x12]] (tabE [(x00 + x01 + x02), (x10 + x11 + x12)] [(x00 + x10), (x01 + x11), (x02 + x12)])) ?_ ?_
  · refine vcalls_own (r := 0) (i := 0) (t := .list (.list (.int .i64))) rfl rfl ?_
    refine VC.mono (.fn 55) _ _ _ _ ?_ (all23 (K := 3) (k := 2) (C := allC [[x00, x01, x02], [x10, x11, x12]]) (upd := fun s t => s ++ [t]) (J := fun s => s.length ≤ 1000000000000) (fun _ => rfl) ?_ (by omega) ht ?_ [] ?_)
    · intro v h' e
      rw [e, foldl_snoc]; rfl
    · intro s n hn
      simp [allC, allT, rowsRefs, rowRefs, refsLtL, refsLt, refsT, NatBlt]; omega
    · intro s a0 a1 c0 c1 c2 y00 y01 y02 y10 y11 y12 hJ hp hr hc
      have hJ : s.length ≤ 1000000000000 := hJ
      refine vyield_trim (vyield_of_awp hmix rfl h23A0 h23B0 rfl rfl ?_)
      simp -implicitDefEqProofs only [c23A0, c23B0, allC, allT, L23, List.cons_append, List.nil_append, push_cast, Nat.reduceBEq, Nat.reduceLT, Nat.reduceLeDiff, Nat.reduceAdd, Nat.reduceSub, Nat.reduceMul, Nat.reduceEqDiff, reduceCtorEq, ↓reduceIte, Int.reduceEq, Int.reduceLT, Int.reduceLE, Int.reduceNe, Int.reduceAdd, Int.reduceSub, Int.reduceMul, Int.reduceToNat, Nat.reduceShiftRight, Nat.reduceAnd, Nat.reduceBNe]
      refine ⟨⟨by simp only [two47]; omega, by simp only [two47]; omega⟩, ?_⟩
      refine LoopW.wk (wk_t [23, 22, 21, 7, 5] rfl) (LoopW.unroll ?_)
      simp -implicitDefEqProofs only [c23B0L0, List.getD_cons_zero, List.getD_cons_succ, Int.zero_add, push_cast, Nat.reduceBEq, Nat.reduceLT, Nat.reduceLeDiff, Nat.reduceAdd, Nat.reduceSub, Nat.reduceMul, Nat.reduceEqDiff, reduceCtorEq, ↓reduceIte, Int.reduceEq, Int.reduceLT, Int.reduceLE, Int.reduceNe, Int.reduceAdd, Int.reduceSub, Int.reduceMul, Int.reduceToNat, Nat.reduceShiftRight, Nat.reduceAnd, Nat.reduceBNe]
      refine callN (clone_new [y00, y01, y02] (by simp) (by simp)) ⟨rd_seq rfl rfl, trivial⟩ rfl rfl (fz_seq rfl rfl) rfl ?_
      simp -implicitDefEqProofs only [push_cast, Nat.reduceBEq, Nat.reduceLT, Nat.reduceLeDiff, Nat.reduceAdd, Nat.reduceSub, Nat.reduceMul, Nat.reduceEqDiff, reduceCtorEq, ↓reduceIte, Int.reduceEq, Int.reduceLT, Int.reduceLE, Int.reduceNe, Int.reduceAdd, Int.reduceSub, Int.reduceMul, Int.reduceToNat, Nat.reduceShiftRight, Nat.reduceAnd, Nat.reduceBNe]
      repeat (refine ⟨by first | (simp only [inR]; omega) | omega, ?_⟩)
      refine LoopW.wk (wk_t [23, 22, 21, 7, 5] rfl) (LoopW.unroll ?_)
      simp -implicitDefEqProofs only [c23B0L0, List.getD_cons_zero, List.getD_cons_succ, Int.zero_add, push_cast, Nat.reduceBEq, Nat.reduceLT, Nat.reduceLeDiff, Nat.reduceAdd, Nat.reduceSub, Nat.reduceMul, Nat.reduceEqDiff, reduceCtorEq, ↓reduceIte, Int.reduceEq, Int.reduceLT, Int.reduceLE, Int.reduceNe, Int.reduceAdd, Int.reduceSub, Int.reduceMul, Int.reduceToNat, Nat.reduceShiftRight, Nat.reduceAnd, Nat.reduceBNe]
      refine callN (clone_new [y10, y11, y12] (by simp) (by simp)) ⟨rd_seq rfl rfl, trivial⟩ rfl rfl (fz_seq rfl rfl) rfl ?_
      simp -implicitDefEqProofs only [push_cast, Nat.reduceBEq, Nat.reduceLT, Nat.reduceLeDiff, Nat.reduceAdd, Nat.reduceSub, Nat.reduceMul, Nat.reduceEqDiff, reduceCtorEq, ↓reduceIte, Int.reduceEq, Int.reduceLT, Int.reduceLE, Int.reduceNe, Int.reduceAdd, Int.reduceSub, Int.reduceMul, Int.reduceToNat, Nat.reduceShiftRight, Nat.reduceAnd, Nat.reduceBNe]
      repeat (refine ⟨by first | (simp only [inR]; omega) | omega, ?_⟩)
      refine LoopW.wk ((wk_t [23, 22, 21, 7, 5] rfl).trans (wk_give [12] 7 (TT [[y00, y01, y02], [y10, y11, y12]]) rfl ⟨rfl, ⟨rfl, rfl⟩, ⟨rfl, rfl⟩, trivial⟩ rfl rfl)) (LoopW.unroll ?_)
      simp -implicitDefEqProofs only [c23B0L0, setT, killR, push_cast, Nat.reduceBEq, Nat.reduceLT, Nat.reduceLeDiff, Nat.reduceAdd, Nat.reduceSub, Nat.reduceMul, Nat.reduceEqDiff, reduceCtorEq, ↓reduceIte, Int.reduceEq, Int.reduceLT, Int.reduceLE, Int.reduceNe, Int.reduceAdd, Int.reduceSub, Int.reduceMul, Int.reduceToNat, Nat.reduceShiftRight, Nat.reduceAnd, Nat.reduceBNe]
      refine ⟨⟨by simp only [two47]; omega, by simp only [two47]; omega⟩, 12, Nat.le_refl _, rfl, ?_, rfl⟩
      simp only [List.take, rowsRefs, rowRefs, refsLtL, refsLt, refsT, NatBlt]
      rfl
    · refine pre_len _ _ _ ?_
      have h1 := tabE_len [(x00 + x01 + x02), (x10 + x11 + x12)] [(x00 + x10), (x01 + x11), (x02 + x12)] 3 (Nat.le_refl _) (by intro a ha; simp only [List.mem_cons, List.not_mem_nil, or_false] at ha; omega)
      refine Nat.le_trans (Nat.add_le_add_left h1 _) ?_
      simp
  · rintro v h2 rfl
    simp -implicitDefEqProofs only [allC, push_cast, Nat.reduceBEq, Nat.reduceLT, Nat.reduceLeDiff, Nat.reduceAdd, Nat.reduceSub, Nat.reduceMul, Nat.reduceEqDiff, reduceCtorEq, ↓reduceIte, Int.reduceEq, Int.reduceLT, Int.reduceLE, Int.reduceNe, Int.reduceAdd, Int.reduceSub, Int.reduceMul, Int.reduceToNat, Nat.reduceShiftRight, Nat.reduceAnd, Nat.reduceBNe]
    exact finR 4 rfl ⟨rd_lst rfl rfl, rfl, trivial⟩
end Go.Proofs.YtligakiolapkkaaDoor

namespace Go.Proofs.YtligakiolapkkaaDoor
open Go GoV
set_option maxHeartbeats 8000000
set_option maxRecDepth 10000
set_option linter.unusedVariables false
set_option linter.unusedSimpArgs false
theorem tab_hyp32 {x00 x01 x10 x11 x20 x21 : Int} (h : Tab [[x00, x01], [x10, x11], [x20, x21]]) : 0 ≤ x00 ∧ 0 ≤ x01 ∧ 0 ≤ x10 ∧ 0 ≤ x11 ∧ 0 ≤ x20 ∧ 0 ≤ x21 ∧ x00 + x01 + x10 + x11 + x20 + x21 ≤ 20 := by
  obtain ⟨_, _, h3, h4⟩ := h
  have := rng2 (h3 [x00, x01] (by simp)).2
  have := rng2 (h3 [x10, x11] (by simp)).2
  have := rng2 (h3 [x20, x21] (by simp)).2
  simp only [totL, sumL, List.map_cons, List.map_nil] at h4
  omega
section
variable {σ : Type} {J : σ → Prop} {C : σ → Heap} {K k : Nat} {upd : σ → List (List Int) → σ}
theorem all32 (hK : ∀ s, (C s).length = K + 1) (hR : ∀ s n, K + 1 ≤ n → rowsRefs n (C s) = true) (hk : k < K + 1) {x00 x01 x10 x11 x20 x21 : Int} (ht : Tab [[x00, x01], [x10, x11], [x20, x21]])
    (hY : Yields32 J C K k upd (x00 + x01) (x10 + x11) (x20 + x21) (x00 + x10 + x20) (x01 + x11 + x21)) (s : σ) (hJ : Pre J upd s (tabE [(x00 + x01), (x10 + x11), (x20 + x21)] [(x00 + x10 + x20), (x01 + x11 + x21)])) :
    VCalls Tryd.prog 55 [.yld k, .imm (.list (.list (.int .i64))) [[x00, x01], [x10, x11], [x20, x21]]] (C s) (fun v h' => h' = C ((tabE [(x00 + x01), (x10 + x11), (x20 + x21)] [(x00 + x10 + x20), (x01 + x11 + x21)]).foldl upd s)) := by
  have kb := kbeq K
  have m7 : K + 7 - 1 = K + 6 := rfl
  have m8 : K + 8 - 1 = K + 7 := rfl
  have m9 : K + 9 - 1 = K + 8 := rfl
  have m10 : K + 10 - 1 = K + 9 := rfl
  have hr := tab_hyp32 ht
  have hs := sums_32 x00 x01 x10 x11 x20 x21 (by omega)
  refine vcalls_fn hmix h55 rfl ?_
  simp -implicitDefEqProofs only [c55, hK, List.length_append, List.length_cons, List.length_nil, Nat.add_assoc, Nat.reduceAdd, kb, push_cast, Nat.reduceBEq, Nat.reduceLT, Nat.reduceLeDiff, Nat.reduceAdd, Nat.reduceSub, Nat.reduceMul, Nat.reduceEqDiff, reduceCtorEq, ↓reduceIte, Int.reduceEq, Int.reduceLT, Int.reduceLE, Int.reduceNe, Int.reduceAdd, Int.reduceSub, Int.reduceMul, Int.reduceToNat, Nat.reduceShiftRight, Nat.reduceAnd, Nat.reduceBNe]
  refine callF hs ⟨rfl, trivial⟩ rfl rfl ?_
  simp -implicitDefEqProofs only [hK, List.length_append, List.length_cons, List.length_nil, Nat.add_assoc, Nat.reduceAdd, kb, List.append_assoc, List.cons_append, List.nil_append, gK1 hK, gK2 hK, gK3 hK, gK4 hK, gK5 hK, gK6 hK, gK7 hK, gK8 hK, gK9 hK, sK1 hK, sK2 hK, sK3 hK, sK4 hK, sK5 hK, sK6 hK, sK7 hK, sK8 hK, sK9 hK, push_cast, Nat.reduceBEq, Nat.reduceLT, Nat.reduceLeDiff, Nat.reduceAdd, Nat.reduceSub, Nat.reduceMul, Nat.reduceEqDiff, reduceCtorEq, ↓reduceIte, Int.reduceEq, Int.reduceLT, Int.reduceLE, Int.reduceNe, Int.reduceAdd, Int.reduceSub, Int.reduceMul, Int.reduceToNat, Nat.reduceShiftRight, Nat.reduceAnd, Nat.reduceBNe]
  refine ⟨⟨by simp only [two47]; omega, by simp only [two47]; omega⟩, ?_⟩
  repeat first
    | (refine LoopW.wk (wk_t [18, 17, 5, 4, 3, 2, 1] rfl) (LoopW.unroll ?_); simp -implicitDefEqProofs only [c55L0, m7, m8, m9, m10, hK, List.length_append, List.length_cons, List.length_nil, Nat.add_assoc, Nat.reduceAdd, kb, List.append_assoc, List.cons_append, List.nil_append, gK1 hK, gK2 hK, gK3 hK, gK4 hK, gK5 hK, gK6 hK, gK7 hK, gK8 hK, gK9 hK, sK1 hK, sK2 hK, sK3 hK, sK4 hK, sK5 hK, sK6 hK, sK7 hK, sK8 hK, sK9 hK, List.getD_cons_zero, List.getD_cons_succ, Int.zero_add, push_cast, Nat.reduceBEq, Nat.reduceLT, Nat.reduceLeDiff, Nat.reduceAdd, Nat.reduceSub, Nat.reduceMul, Nat.reduceEqDiff, reduceCtorEq, ↓reduceIte, Int.reduceEq, Int.reduceLT, Int.reduceLE, Int.reduceNe, Int.reduceAdd, Int.reduceSub, Int.reduceMul, Int.reduceToNat, Nat.reduceShiftRight, Nat.reduceAnd, Nat.reduceBNe])
    | (refine ⟨by first | (simp only [inR]; omega) | (simp only [two47]; omega) | omega, ?_⟩)
  refine call_rule (fill32_00 hK hR hk hY s (x00 + x01) (x10 + x11) (x20 + x21) (x00 + x10 + x20) (x01 + x11 + x21) 0 0 0 0 0 0 hJ (by omega)) ?_
  rintro v h' ⟨rfl, ys, rfl⟩
  simp -implicitDefEqProofs only [push_cast, Nat.reduceBEq, Nat.reduceLT, Nat.reduceLeDiff, Nat.reduceAdd, Nat.reduceSub, Nat.reduceMul, Nat.reduceEqDiff, reduceCtorEq, ↓reduceIte, Int.reduceEq, Int.reduceLT, Int.reduceLE, Int.reduceNe, Int.reduceAdd, Int.reduceSub, Int.reduceMul, Int.reduceToNat, Nat.reduceShiftRight, Nat.reduceAnd, Nat.reduceBNe]
  exact fin_pre (hK _) (Nat.le_refl _) rfl (hR _ _ (Nat.le_refl _)) rfl
end
theorem All32 (x00 x01 x10 x11 x20 x21 : Int) (ht : Tab [[x00, x01], [x10, x11], [x20, x21]]) : PC Tryd.prog 23 [TT [[x00, x01], [x10, x11], [x20, x21]]] (.tup [TTT (tabE [(x00 + x01), (x10 + x11), (x20 + x21)] [(x00 + x10 + x20), (x01 + x11 + x21)]), I 0]) := by
  have hc := check_pc [[x00, x01], [x10, x11], [x20, x21]] (by simp) (by simp)
  rw [tab_valid ht] at hc
  have hq := tab_hyp32 ht
  refine pc_fn hmix h23 rfl ?_
  simp -implicitDefEqProofs only [c23, push_cast, Nat.reduceBEq, Nat.reduceLT, Nat.reduceLeDiff, Nat.reduceAdd, Nat.reduceSub, Nat.reduceMul, Nat.reduceEqDiff, reduceCtorEq, ↓reduceIte, Int.reduceEq, Int.reduceLT, Int.reduceLE, Int.reduceNe, Int.reduceAdd, Int.reduceSub, Int.reduceMul, Int.reduceToNat, Nat.reduceShiftRight, Nat.reduceAnd, Nat.reduceBNe]
  refine callF hc ⟨rfl, trivial⟩ rfl rfl ?_
  simp -implicitDefEqProofs only [push_cast, Nat.reduceBEq, Nat.reduceLT, Nat.reduceLeDiff, Nat.reduceAdd, Nat.reduceSub, Nat.reduceMul, Nat.reduceEqDiff, reduceCtorEq, ↓reduceIte, Int.reduceEq, Int.reduceLT, Int.reduceLE, Int.reduceNe, Int.reduceAdd, Int.reduceSub, Int.reduceMul, Int.reduceToNat, Nat.reduceShiftRight, Nat.reduceAnd, Nat.reduceBNe]
  refine callF (all_pc _) ⟨rfl, trivial⟩ rfl rfl ?_
  simp -implicitDefEqProofs only [push_cast, Nat.reduceBEq, Nat.reduceLT, Nat.reduceLeDiff, Nat.reduceAdd, Nat.reduceSub, Nat.reduceMul, Nat.reduceEqDiff, reduceCtorEq, ↓reduceIte, Int.reduceEq, Int.reduceLT, Int.reduceLE, Int.reduceNe, Int.reduceAdd, Int.reduceSub, Int.reduceMul, Int.reduceToNat, Nat.reduceShiftRight, Nat.reduceAnd, Nat.reduceBNe]
  refine rangeF_n rfl (fun _ h2 => h2 = allC [[x00, x01], [x10, x11], [x20, x21]] (tabE [(x00 + x01), (x10 + x11), (x20 + x21)] [(x00 + x10 + x20), (x01 + x11 + x21)])) ?_ ?_
  · refine vcalls_own (r := 0) (i := 0) (t := .list (.list (.int .i64))) rfl rfl ?_
    refine VC.mono (.fn 55) _ _ _ _ ?_ (all32 (K := 3) (k := 2) (C := allC [[x00, x01], [x10, x11], [x20, x21]]) (upd := fun s t => s ++ [t]) (J := fun s => s.length ≤ 1000000000000) (fun _ => rfl) ?_ (by omega) ht ?_ [] ?_)
    · intro v h' e
      rw [e, foldl_snoc]; rfl
    · intro s n hn
      simp [allC, allT, rowsRefs, rowRefs, refsLtL, refsLt, refsT, NatBlt]; omega
    · intro s a0 a1 a2 c0 c1 y00 y01 y10 y11 y20 y21 hJ hp hr hc
      have hJ : s.length ≤ 1000000000000 := hJ
      refine vyield_trim (vyield_of_awp hmix rfl h23A0 h23B0 rfl rfl ?_)
      simp -implicitDefEqProofs only [c23A0, c23B0, allC, allT, L32, List.cons_append, List.nil_append, push_cast, Nat.reduceBEq, Nat.reduceLT, Nat.reduceLeDiff, Nat.reduceAdd, Nat.reduceSub, Nat.reduceMul, Nat.reduceEqDiff, reduceCtorEq, ↓reduceIte, Int.reduceEq, Int.reduceLT, Int.reduceLE, Int.reduceNe, Int.reduceAdd, Int.reduceSub, Int.reduceMul, Int.reduceToNat, Nat.reduceShiftRight, Nat.reduceAnd, Nat.reduceBNe]
      refine ⟨⟨by simp only [two47]; omega, by simp only [two47]; omega⟩, ?_⟩
      refine LoopW.wk (wk_t [23, 22, 21, 7, 5] rfl) (LoopW.unroll ?_)
      simp -implicitDefEqProofs only [c23B0L0, List.getD_cons_zero, List.getD_cons_succ, Int.zero_add, push_cast, Nat.reduceBEq, Nat.reduceLT, Nat.reduceLeDiff, Nat.reduceAdd, Nat.reduceSub, Nat.reduceMul, Nat.reduceEqDiff, reduceCtorEq, ↓reduceIte, Int.reduceEq, Int.reduceLT, Int.reduceLE, Int.reduceNe, Int.reduceAdd, Int.reduceSub, Int.reduceMul, Int.reduceToNat, Nat.reduceShiftRight, Nat.reduceAnd, Nat.reduceBNe]
      refine callN (clone_new [y00, y01] (by simp) (by simp)) ⟨rd_seq rfl rfl, trivial⟩ rfl rfl (fz_seq rfl rfl) rfl ?_
      simp -implicitDefEqProofs only [push_cast, Nat.reduceBEq, Nat.reduceLT, Nat.reduceLeDiff, Nat.reduceAdd, Nat.reduceSub, Nat.reduceMul, Nat.reduceEqDiff, reduceCtorEq, ↓reduceIte, Int.reduceEq, Int.reduceLT, Int.reduceLE, Int.reduceNe, Int.reduceAdd, Int.reduceSub, Int.reduceMul, Int.reduceToNat, Nat.reduceShiftRight, Nat.reduceAnd, Nat.reduceBNe]
      repeat (refine ⟨by first | (simp only [inR]; omega) | omega, ?_⟩)
      refine LoopW.wk (wk_t [23, 22, 21, 7, 5] rfl) (LoopW.unroll ?_)
      simp -implicitDefEqProofs only [c23B0L0, List.getD_cons_zero, List.getD_cons_succ, Int.zero_add, push_cast, Nat.reduceBEq, Nat.reduceLT, Nat.reduceLeDiff, Nat.reduceAdd, Nat.reduceSub, Nat.reduceMul, Nat.reduceEqDiff, reduceCtorEq, ↓reduceIte, Int.reduceEq, Int.reduceLT, Int.reduceLE, Int.reduceNe, Int.reduceAdd, Int.reduceSub, Int.reduceMul, Int.reduceToNat, Nat.reduceShiftRight, Nat.reduceAnd, Nat.reduceBNe]
      refine callN (clone_new [y10, y11] (by simp) (by simp)) ⟨rd_seq rfl rfl, trivial⟩ rfl rfl (fz_seq rfl rfl) rfl ?_
      simp -implicitDefEqProofs only [push_cast, Nat.reduceBEq, Nat.reduceLT, Nat.reduceLeDiff, Nat.reduceAdd, Nat.reduceSub, Nat.reduceMul, Nat.reduceEqDiff, reduceCtorEq, ↓reduceIte, Int.reduceEq, Int.reduceLT, Int.reduceLE, Int.reduceNe, Int.reduceAdd, Int.reduceSub, Int.reduceMul, Int.reduceToNat, Nat.reduceShiftRight, Nat.reduceAnd, Nat.reduceBNe]
      repeat (refine ⟨by first | (simp only [inR]; omega) | omega, ?_⟩)
      refine LoopW.wk (wk_t [23, 22, 21, 7, 5] rfl) (LoopW.unroll ?_)
      simp -implicitDefEqProofs only [c23B0L0, List.getD_cons_zero, List.getD_cons_succ, Int.zero_add, push_cast, Nat.reduceBEq, Nat.reduceLT, Nat.reduceLeDiff, Nat.reduceAdd, Nat.reduceSub, Nat.reduceMul, Nat.reduceEqDiff, reduceCtorEq, ↓reduceIte, Int.reduceEq, Int.reduceLT, Int.reduceLE, Int.reduceNe, Int.reduceAdd, Int.reduceSub, Int.reduceMul, Int.reduceToNat, Nat.reduceShiftRight, Nat.reduceAnd, Nat.reduceBNe]
      refine callN (clone_new [y20, y21] (by simp) (by simp)) ⟨rd_seq rfl rfl, trivial⟩ rfl rfl (fz_seq rfl rfl) rfl ?_
      simp -implicitDefEqProofs only [push_cast, Nat.reduceBEq, Nat.reduceLT, Nat.reduceLeDiff, Nat.reduceAdd, Nat.reduceSub, Nat.reduceMul, Nat.reduceEqDiff, reduceCtorEq, ↓reduceIte, Int.reduceEq, Int.reduceLT, Int.reduceLE, Int.reduceNe, Int.reduceAdd, Int.reduceSub, Int.reduceMul, Int.reduceToNat, Nat.reduceShiftRight, Nat.reduceAnd, Nat.reduceBNe]
      repeat (refine ⟨by first | (simp only [inR]; omega) | omega, ?_⟩)
      refine LoopW.wk ((wk_t [23, 22, 21, 7, 5] rfl).trans (wk_give [13] 7 (TT [[y00, y01], [y10, y11], [y20, y21]]) rfl ⟨rfl, ⟨rfl, rfl⟩, ⟨rfl, rfl⟩, ⟨rfl, rfl⟩, trivial⟩ rfl rfl)) (LoopW.unroll ?_)
      simp -implicitDefEqProofs only [c23B0L0, setT, killR, push_cast, Nat.reduceBEq, Nat.reduceLT, Nat.reduceLeDiff, Nat.reduceAdd, Nat.reduceSub, Nat.reduceMul, Nat.reduceEqDiff, reduceCtorEq, ↓reduceIte, Int.reduceEq, Int.reduceLT, Int.reduceLE, Int.reduceNe, Int.reduceAdd, Int.reduceSub, Int.reduceMul, Int.reduceToNat, Nat.reduceShiftRight, Nat.reduceAnd, Nat.reduceBNe]
      refine ⟨⟨by simp only [two47]; omega, by simp only [two47]; omega⟩, 13, Nat.le_refl _, rfl, ?_, rfl⟩
      simp only [List.take, rowsRefs, rowRefs, refsLtL, refsLt, refsT, NatBlt]
      rfl
    · refine pre_len _ _ _ ?_
      have h1 := tabE_len [(x00 + x01), (x10 + x11), (x20 + x21)] [(x00 + x10 + x20), (x01 + x11 + x21)] 2 (Nat.le_refl _) (by intro a ha; simp only [List.mem_cons, List.not_mem_nil, or_false] at ha; omega)
      refine Nat.le_trans (Nat.add_le_add_left h1 _) ?_
      simp
  · rintro v h2 rfl
    simp -implicitDefEqProofs only [allC, push_cast, Nat.reduceBEq, Nat.reduceLT, Nat.reduceLeDiff, Nat.reduceAdd, Nat.reduceSub, Nat.reduceMul, Nat.reduceEqDiff, reduceCtorEq, ↓reduceIte, Int.reduceEq, Int.reduceLT, Int.reduceLE, Int.reduceNe, Int.reduceAdd, Int.reduceSub, Int.reduceMul, Int.reduceToNat, Nat.reduceShiftRight, Nat.reduceAnd, Nat.reduceBNe]
    exact finR 4 rfl ⟨rd_lst rfl rfl, rfl, trivial⟩
end Go.Proofs.YtligakiolapkkaaDoor

namespace Go.Proofs.YtligakiolapkkaaDoor
open Go GoV
set_option maxHeartbeats 8000000
set_option maxRecDepth 10000
set_option linter.unusedVariables false
set_option linter.unusedSimpArgs false
theorem tab_hyp33 {x00 x01 x02 x10 x11 x12 x20 x21 x22 : Int} (h : Tab [[x00, x01, x02], [x10, x11, x12], [x20, x21, x22]]) : 0 ≤ x00 ∧ 0 ≤ x01 ∧ 0 ≤ x02 ∧ 0 ≤ x10 ∧ 0 ≤ x11 ∧ 0 ≤ x12 ∧ 0 ≤ x20 ∧ 0 ≤ x21 ∧ 0 ≤ x22 ∧ x00 + x01 + x02 + x10 + x11 + x12 + x20 + x21 + x22 ≤ 20 := by
  obtain ⟨_, _, h3, h4⟩ := h
  have := rng3 (h3 [x00, x01, x02] (by simp)).2
  have := rng3 (h3 [x10, x11, x12] (by simp)).2
  have := rng3 (h3 [x20, x21, x22] (by simp)).2
  simp only [totL, sumL, List.map_cons, List.map_nil] at h4
  omega
section
variable {σ : Type} {J : σ → Prop} {C : σ → Heap} {K k : Nat} {upd : σ → List (List Int) → σ}
theorem all33 (hK : ∀ s, (C s).length = K + 1) (hR : ∀ s n, K + 1 ≤ n → rowsRefs n (C s) = true) (hk : k < K + 1) {x00 x01 x02 x10 x11 x12 x20 x21 x22 : Int} (ht : Tab [[x00, x01, x02], [x10, x11, x12], [x20, x21, x22]])
    (hY : Yields33 J C K k upd (x00 + x01 + x02) (x10 + x11 + x12) (x20 + x21 + x22) (x00 + x10 + x20) (x01 + x11 + x21) (x02 + x12 + x22)) (s : σ) (hJ : Pre J upd s (tabE [(x00 + x01 + x02), (x10 + x11 + x12), (x20 + x21 + x22)] [(x00 + x10 + x20), (x01 + x11 + x21), (x02 + x12 + x22)])) :
    VCalls Tryd.prog 55 [.yld k, .imm (.list (.list (.int .i64))) [[x00, x01, x02], [x10, x11, x12], [x20, x21, x22]]] (C s) (fun v h' => h' = C ((tabE [(x00 + x01 + x02), (x10 + x11 + x12), (x20 + x21 + x22)] [(x00 + x10 + x20), (x01 + x11 + x21), (x02 + x12 + x22)]).foldl upd s)) := by
  have kb := kbeq K
  have m7 : K + 7 - 1 = K + 6 := rfl
  have m8 : K + 8 - 1 = K + 7 := rfl
  have m9 : K + 9 - 1 = K + 8 := rfl
  have m10 : K + 10 - 1 = K + 9 := rfl
  have hr := tab_hyp33 ht
  have hs := sums_33 x00 x01 x02 x10 x11 x12 x20 x21 x22 (by omega)
  refine vcalls_fn hmix h55 rfl ?_
  simp -implicitDefEqProofs only [c55, hK, List.length_append, List.length_cons, List.length_nil, Nat.add_assoc, Nat.reduceAdd, kb, push_cast, Nat.reduceBEq, Nat.reduceLT, Nat.reduceLeDiff, Nat.reduceAdd, Nat.reduceSub, Nat.reduceMul, Nat.reduceEqDiff, reduceCtorEq, ↓reduceIte, Int.reduceEq, Int.reduceLT, Int.reduceLE, Int.reduceNe, Int.reduceAdd, Int.reduceSub, Int.reduceMul, Int.reduceToNat, Nat.reduceShiftRight, Nat.reduceAnd, Nat.reduceBNe]
  refine callF hs ⟨rfl, trivial⟩ rfl rfl ?_
  simp -implicitDefEqProofs only [hK, List.length_append, List.length_cons, List.length_nil, Nat.add_assoc, Nat.reduceAdd, kb, List.append_assoc, List.cons_append, List.nil_append, gK1 hK, gK2 hK, gK3 hK, gK4 hK, gK5 hK, gK6 hK, gK7 hK, gK8 hK, gK9 hK, sK1 hK, sK2 hK, sK3 hK, sK4 hK, sK5 hK, sK6 hK, sK7 hK, sK8 hK, sK9 hK, push_cast, Nat.reduceBEq, Nat.reduceLT, Nat.reduceLeDiff, Nat.reduceAdd, Nat.reduceSub, Nat.reduceMul, Nat.reduceEqDiff, reduceCtorEq, ↓reduceIte, Int.reduceEq, Int.reduceLT, Int.reduceLE, Int.reduceNe, Int.reduceAdd, Int.reduceSub, Int.reduceMul, Int.reduceToNat, Nat.reduceShiftRight, Nat.reduceAnd, Nat.reduceBNe]
  refine ⟨⟨by simp only [two47]; omega, by simp only [two47]; omega⟩, ?_⟩
  repeat first
    | (refine LoopW.wk (wk_t [18, 17, 5, 4, 3, 2, 1] rfl) (LoopW.unroll ?_); simp -implicitDefEqProofs only [c55L0, m7, m8, m9, m10, hK, List.length_append, List.length_cons, List.length_nil, Nat.add_assoc, Nat.reduceAdd, kb, List.append_assoc, List.cons_append, List.nil_append, gK1 hK, gK2 hK, gK3 hK, gK4 hK, gK5 hK, gK6 hK, gK7 hK, gK8 hK, gK9 hK, sK1 hK, sK2 hK, sK3 hK, sK4 hK, sK5 hK, sK6 hK, sK7 hK, sK8 hK, sK9 hK, List.getD_cons_zero, List.getD_cons_succ, Int.zero_add, push_cast, Nat.reduceBEq, Nat.reduceLT, Nat.reduceLeDiff, Nat.reduceAdd, Nat.reduceSub, Nat.reduceMul, Nat.reduceEqDiff, reduceCtorEq, ↓reduceIte, Int.reduceEq, Int.reduceLT, Int.reduceLE, Int.reduceNe, Int.reduceAdd, Int.reduceSub, Int.reduceMul, Int.reduceToNat, Nat.reduceShiftRight, Nat.reduceAnd, Nat.reduceBNe])
    | (refine ⟨by first | (simp only [inR]; omega) | (simp only [two47]; omega) | omega, ?_⟩)
  refine call_rule (fill33_00 hK hR hk hY s (x00 + x01 + x02) (x10 + x11 + x12) (x20 + x21 + x22) (x00 + x10 + x20) (x01 + x11 + x21) (x02 + x12 + x22) 0 0 0 0 0 0 0 0 0 hJ (by omega)) ?_
  rintro v h' ⟨rfl, ys, rfl⟩
  simp -implicitDefEqProofs only [push_cast, Nat.reduceBEq, Nat.reduceLT, Nat.reduceLeDiff, Nat.reduceAdd, Nat.reduceSub, Nat.reduceMul, Nat.reduceEqDiff, reduceCtorEq, ↓reduceIte, Int.reduceEq, Int.reduceLT, Int.reduceLE, Int.reduceNe, Int.reduceAdd, Int.reduceSub, Int.reduceMul, Int.reduceToNat, Nat.reduceShiftRight, Nat.reduceAnd, Nat.reduceBNe]
  exact fin_pre (hK _) (Nat.le_refl _) rfl (hR _ _ (Nat.le_refl _)) rfl
end
theorem All33 (x00 x01 x02 x10 x11 x12 x20 x21 x22 : Int) (ht : Tab [[x00, x01, x02], [x10, x11, x12], [x20, x21, x22]]) : PC Tryd.prog 23 [TT [[x00, x01, x02], [x10, x11, x12], [x20, x21, x22]]] (.tup [TTT (tabE [(x00 + x01 + x02), (x10 + x11 + x12), (x20 + x21 + x22)] [(x00 + x10 + x20), (x01 + x11 + x21), (x02 + x12 + x22)]), I 0]) := by
  have hc := check_pc [[x00, x01, x02], [x10, x11, x12], [x20, x21, x22]] (by simp) (by simp)
  rw [tab_valid ht] at hc
  have hq := tab_hyp33 ht
  refine pc_fn hmix h23 rfl ?_
  simp -implicitDefEqProofs only [c23, push_cast, Nat.reduceBEq, Nat.reduceLT, Nat.reduceLeDiff, Nat.reduceAdd, Nat.reduceSub, Nat.reduceMul, Nat.reduceEqDiff, reduceCtorEq, ↓reduceIte, Int.reduceEq, Int.reduceLT, Int.reduceLE, Int.reduceNe, Int.reduceAdd, Int.reduceSub, Int.reduceMul, Int.reduceToNat, Nat.reduceShiftRight, Nat.reduceAnd, Nat.reduceBNe]
  refine callF hc ⟨rfl, trivial⟩ rfl rfl ?_
  simp -implicitDefEqProofs only [push_cast, Nat.reduceBEq, Nat.reduceLT, Nat.reduceLeDiff, Nat.reduceAdd, Nat.reduceSub, Nat.reduceMul, Nat.reduceEqDiff, reduceCtorEq, ↓reduceIte, Int.reduceEq, Int.reduceLT, Int.reduceLE, Int.reduceNe, Int.reduceAdd, Int.reduceSub, Int.reduceMul, Int.reduceToNat, Nat.reduceShiftRight, Nat.reduceAnd, Nat.reduceBNe]
  refine callF (all_pc _) ⟨rfl, trivial⟩ rfl rfl ?_
  simp -implicitDefEqProofs only [push_cast, Nat.reduceBEq, Nat.reduceLT, Nat.reduceLeDiff, Nat.reduceAdd, Nat.reduceSub, Nat.reduceMul, Nat.reduceEqDiff, reduceCtorEq, ↓reduceIte, Int.reduceEq, Int.reduceLT, Int.reduceLE, Int.reduceNe, Int.reduceAdd, Int.reduceSub, Int.reduceMul, Int.reduceToNat, Nat.reduceShiftRight, Nat.reduceAnd, Nat.reduceBNe]
  refine rangeF_n rfl (fun _ h2 => h2 = allC [[x00, x01, x02], [x10, x11, x12], [x20, x21, x22]] (tabE [(x00 + x01 + x02), (x10 + x11 + x12), (x20 + x21 + x22)] [(x00 + x10 + x20), (x01 + x11 + x21), (x02 + x12 + x22)])) ?_ ?_
  · refine vcalls_own (r := 0) (i := 0) (t := .list (.list (.int .i64))) rfl rfl ?_
    refine VC.mono (.fn 55) _ _ _ _ ?_ (all33 (K := 3) (k := 2) (C := allC [[x00, x01, x02], [x10, x11, x12], [x20, x21, x22]]) (upd := fun s t => s ++ [t]) (J := fun s => s.length ≤ 1000000000000) (fun _ => rfl) ?_ (by omega) ht ?_ [] ?_)
    · intro v h' e
      rw [e, foldl_snoc]; rfl
    · intro s n hn
      simp [allC, allT, rowsRefs, rowRefs, refsLtL, refsLt, refsT, NatBlt]; omega
    · intro s a0 a1 a2 c0 c1 c2 y00 y01 y02 y10 y11 y12 y20 y21 y22 hJ hp hr hc
      have hJ : s.length ≤ 1000000000000 := hJ
      refine vyield_trim (vyield_of_awp hmix rfl h23A0 h23B0 rfl rfl ?_)
      simp -implicitDefEqProofs only [c23A0, c23B0, allC, allT, L33, List.cons_append, List.nil_append, push_cast, Nat.reduceBEq, Nat.reduceLT, Nat.reduceLeDiff, Nat.reduceAdd, Nat.reduceSub, Nat.reduceMul, Nat.reduceEqDiff, reduceCtorEq, ↓reduceIte, Int.reduceEq, Int.reduceLT, Int.reduceLE, Int.reduceNe, Int.reduceAdd, Int.reduceSub, Int.reduceMul, Int.reduceToNat, Nat.reduceShiftRight, Nat.reduceAnd, Nat.reduceBNe]
      refine ⟨⟨by simp only [two47]; omega, by simp only [two47]; omega⟩, ?_⟩
      refine LoopW.wk (wk_t [23, 22, 21, 7, 5] rfl) (LoopW.unroll ?_)
      simp -implicitDefEqProofs only [c23B0L0, List.getD_cons_zero, List.getD_cons_succ, Int.zero_add, push_cast, Nat.reduceBEq, Nat.reduceLT, Nat.reduceLeDiff, Nat.reduceAdd, Nat.reduceSub, Nat.reduceMul, Nat.reduceEqDiff, reduceCtorEq, ↓reduceIte, Int.reduceEq, Int.reduceLT, Int.reduceLE, Int.reduceNe, Int.reduceAdd, Int.reduceSub, Int.reduceMul, Int.reduceToNat, Nat.reduceShiftRight, Nat.reduceAnd, Nat.reduceBNe]
      refine callN (clone_new [y00, y01, y02] (by simp) (by simp)) ⟨rd_seq rfl rfl, trivial⟩ rfl rfl (fz_seq rfl rfl) rfl ?_
      simp -implicitDefEqProofs only [push_cast, Nat.reduceBEq, Nat.reduceLT, Nat.reduceLeDiff, Nat.reduceAdd, Nat.reduceSub, Nat.reduceMul, Nat.reduceEqDiff, reduceCtorEq, ↓reduceIte, Int.reduceEq, Int.reduceLT, Int.reduceLE, Int.reduceNe, Int.reduceAdd, Int.reduceSub, Int.reduceMul, Int.reduceToNat, Nat.reduceShiftRight, Nat.reduceAnd, Nat.reduceBNe]
      repeat (refine ⟨by first | (simp only [inR]; omega) | omega, ?_⟩)
      refine LoopW.wk (wk_t [23, 22, 21, 7, 5] rfl) (LoopW.unroll ?_)
      simp -implicitDefEqProofs only [c23B0L0, List.getD_cons_zero, List.getD_cons_succ, Int.zero_add, push_cast, Nat.reduceBEq, Nat.reduceLT, Nat.reduceLeDiff, Nat.reduceAdd, Nat.reduceSub, Nat.reduceMul, Nat.reduceEqDiff, reduceCtorEq, ↓reduceIte, Int.reduceEq, Int.reduceLT, Int.reduceLE, Int.reduceNe, Int.reduceAdd, Int.reduceSub, Int.reduceMul, Int.reduceToNat, Nat.reduceShiftRight, Nat.reduceAnd, Nat.reduceBNe]
      refine callN (clone_new [y10, y11, y12] (by simp) (by simp)) ⟨rd_seq rfl rfl, trivial⟩ rfl rfl (fz_seq rfl rfl) rfl ?_
      simp -implicitDefEqProofs only [push_cast, Nat.reduceBEq, Nat.reduceLT, Nat.reduceLeDiff, Nat.reduceAdd, Nat.reduceSub, Nat.reduceMul, Nat.reduceEqDiff, reduceCtorEq, ↓reduceIte, Int.reduceEq, Int.reduceLT, Int.reduceLE, Int.reduceNe, Int.reduceAdd, Int.reduceSub, Int.reduceMul, Int.reduceToNat, Nat.reduceShiftRight, Nat.reduceAnd, Nat.reduceBNe]
      repeat (refine ⟨by first | (simp only [inR]; omega) | omega, ?_⟩)
      refine LoopW.wk (wk_t [23, 22, 21, 7, 5] rfl) (LoopW.unroll ?_)
      simp -implicitDefEqProofs only [c23B0L0, List.getD_cons_zero, List.getD_cons_succ, Int.zero_add, push_cast, Nat.reduceBEq, Nat.reduceLT, Nat.reduceLeDiff, Nat.reduceAdd, Nat.reduceSub, Nat.reduceMul, Nat.reduceEqDiff, reduceCtorEq, ↓reduceIte, Int.reduceEq, Int.reduceLT, Int.reduceLE, Int.reduceNe, Int.reduceAdd, Int.reduceSub, Int.reduceMul, Int.reduceToNat, Nat.reduceShiftRight, Nat.reduceAnd, Nat.reduceBNe]
      refine callN (clone_new [y20, y21, y22] (by simp) (by simp)) ⟨rd_seq rfl rfl, trivial⟩ rfl rfl (fz_seq rfl rfl) rfl ?_
      simp -implicitDefEqProofs only [push_cast, Nat.reduceBEq, Nat.reduceLT, Nat.reduceLeDiff, Nat.reduceAdd, Nat.reduceSub, Nat.reduceMul, Nat.reduceEqDiff, reduceCtorEq, ↓reduceIte, Int.reduceEq, Int.reduceLT, Int.reduceLE, Int.reduceNe, Int.reduceAdd, Int.reduceSub, Int.reduceMul, Int.reduceToNat, Nat.reduceShiftRight, Nat.reduceAnd, Nat.reduceBNe]
      repeat (refine ⟨by first | (simp only [inR]; omega) | omega, ?_⟩)
      refine LoopW.wk ((wk_t [23, 22, 21, 7, 5] rfl).trans (wk_give [13] 7 (TT [[y00, y01, y02], [y10, y11, y12], [y20, y21, y22]]) rfl ⟨rfl, ⟨rfl, rfl⟩, ⟨rfl, rfl⟩, ⟨rfl, rfl⟩, trivial⟩ rfl rfl)) (LoopW.unroll ?_)
      simp -implicitDefEqProofs only [c23B0L0, setT, killR, push_cast, Nat.reduceBEq, Nat.reduceLT, Nat.reduceLeDiff, Nat.reduceAdd, Nat.reduceSub, Nat.reduceMul, Nat.reduceEqDiff, reduceCtorEq, ↓reduceIte, Int.reduceEq, Int.reduceLT, Int.reduceLE, Int.reduceNe, Int.reduceAdd, Int.reduceSub, Int.reduceMul, Int.reduceToNat, Nat.reduceShiftRight, Nat.reduceAnd, Nat.reduceBNe]
      refine ⟨⟨by simp only [two47]; omega, by simp only [two47]; omega⟩, 13, Nat.le_refl _, rfl, ?_, rfl⟩
      simp only [List.take, rowsRefs, rowRefs, refsLtL, refsLt, refsT, NatBlt]
      rfl
    · refine pre_len _ _ _ ?_
      have h1 := tabE_len [(x00 + x01 + x02), (x10 + x11 + x12), (x20 + x21 + x22)] [(x00 + x10 + x20), (x01 + x11 + x21), (x02 + x12 + x22)] 3 (Nat.le_refl _) (by intro a ha; simp only [List.mem_cons, List.not_mem_nil, or_false] at ha; omega)
      refine Nat.le_trans (Nat.add_le_add_left h1 _) ?_
      simp
  · rintro v h2 rfl
    simp -implicitDefEqProofs only [allC, push_cast, Nat.reduceBEq, Nat.reduceLT, Nat.reduceLeDiff, Nat.reduceAdd, Nat.reduceSub, Nat.reduceMul, Nat.reduceEqDiff, reduceCtorEq, ↓reduceIte, Int.reduceEq, Int.reduceLT, Int.reduceLE, Int.reduceNe, Int.reduceAdd, Int.reduceSub, Int.reduceMul, Int.reduceToNat, Nat.reduceShiftRight, Nat.reduceAnd, Nat.reduceBNe]
    exact finR 4 rfl ⟨rd_lst rfl rfl, rfl, trivial⟩
end Go.Proofs.YtligakiolapkkaaDoor

namespace Go.Proofs.YtligakiolapkkaaDoor
open Go GoV
set_option maxHeartbeats 8000000
set_option maxRecDepth 10000
set_option linter.unusedVariables false
set_option linter.unusedSimpArgs false
def rowsR : Int → List Int → List (List Int)
  | a, [] => if a = 0 then [[]] else []
  | a, c :: cs => (List.range (min a c + 1).toNat).flatMap fun (x : Nat) => (rowsR (a - (x : Int)) cs).map fun l => (x : Int) :: l
def accR (a : Int) (cs : List Int) (n : Nat) : List (List Int) := (List.range n).flatMap fun (x : Nat) => (rowsR (a - (x : Int)) cs).map fun l => (x : Int) :: l
theorem accR_succ (a : Int) (cs : List Int) (n : Nat) : accR a cs (n + 1) = accR a cs n ++ (rowsR (a - (n : Int)) cs).map fun l => (n : Int) :: l := by
  simp only [accR, List.range_succ, List.flatMap_append, List.flatMap_cons, List.flatMap_nil, List.append_nil]
theorem rowsR_len : ∀ (cs : List Int) (a : Int), a ≤ 20 → (rowsR a cs).length ≤ 21 ^ cs.length
  | [], a, _ => by unfold rowsR; split <;> simp
  | c :: cs, a, h => by
    unfold rowsR
    have h1 := flatMap_len (f := fun (x : Nat) => (rowsR (a - (x : Int)) cs).map fun l => (x : Int) :: l) (B := 21 ^ cs.length) (List.range (min a c + 1).toNat) (fun x _ => by
      rw [List.length_map]; exact rowsR_len cs _ (by omega))
    refine Nat.le_trans h1 ?_
    rw [List.length_range, List.length_cons, Nat.pow_succ, Nat.mul_comm (21 ^ cs.length)]
    exact Nat.mul_le_mul_right _ (by omega)
theorem accR_len (cs : List Int) (a : Int) (n : Nat) (h : a ≤ 20) (hn : n ≤ 21) (hc : cs.length ≤ 2) : (accR a cs n).length ≤ 9261 := by
  have h1 := flatMap_len (f := fun (x : Nat) => (rowsR (a - (x : Int)) cs).map fun l => (x : Int) :: l) (B := 21 ^ cs.length) (List.range n) (fun x _ => by
      rw [List.length_map]; exact rowsR_len cs _ (by omega))
  have h2 : 21 ^ cs.length ≤ 21 ^ 2 := Nat.pow_le_pow_right (by omega) hc
  rw [List.length_range] at h1
  have h3 : n * 21 ^ cs.length ≤ 21 * 21 ^ 2 := Nat.mul_le_mul hn h2
  exact Nat.le_trans h1 h3
theorem rowsR_mem : ∀ (cs : List Int) (a : Int), ∀ r ∈ rowsR a cs, r.length = cs.length
  | [], a, r, h => by
    unfold rowsR at h
    split at h
    · simp at h; subst h; rfl
    · simp at h
  | c :: cs, a, r, h => by
    unfold rowsR at h
    simp only [List.mem_flatMap, List.mem_map] at h
    obtain ⟨x, _, l, hl, rfl⟩ := h
    simp [rowsR_mem cs _ l hl]
theorem rows_pc : ∀ (cs : List Int) (a : Int), cs.length ≤ 3 → 0 ≤ a ∧ a ≤ 20 → R20 cs → PC Tryd.prog 57 [I a, IL cs] (TT (rowsR a cs))
  | [], a, _, ha, _ => by
    refine pc_fn hmix h57 rfl ?_
    by_cases h0 : a = 0
    · subst h0
      simp -implicitDefEqProofs only [c57, push_cast, Nat.reduceBEq, Nat.reduceLT, Nat.reduceLeDiff, Nat.reduceAdd, Nat.reduceSub, Nat.reduceMul, Nat.reduceEqDiff, reduceCtorEq, ↓reduceIte, Int.reduceEq, Int.reduceLT, Int.reduceLE, Int.reduceNe, Int.reduceAdd, Int.reduceSub, Int.reduceMul, Int.reduceToNat, Nat.reduceShiftRight, Nat.reduceAnd, Nat.reduceBNe]
      exact finC rfl rfl
    · have : decide (a = 0) = false := by simpa using h0
      simp -implicitDefEqProofs only [c57, this, push_cast, Nat.reduceBEq, Nat.reduceLT, Nat.reduceLeDiff, Nat.reduceAdd, Nat.reduceSub, Nat.reduceMul, Nat.reduceEqDiff, reduceCtorEq, ↓reduceIte, Int.reduceEq, Int.reduceLT, Int.reduceLE, Int.reduceNe, Int.reduceAdd, Int.reduceSub, Int.reduceMul, Int.reduceToNat, Nat.reduceShiftRight, Nat.reduceAnd, Nat.reduceBNe]
      rw [show rowsR a [] = [] from if_neg h0]
      exact finR 0 rfl trivial
  | c :: cs, a, hl, ha, hc => by
    have ih := rows_pc cs
    have hc0 := hc c (by simp)
    simp only [List.length_cons] at hl
    refine pc_fn hmix h57 rfl ?_
    simp -implicitDefEqProofs only [c57, push_cast, Nat.reduceBEq, Nat.reduceLT, Nat.reduceLeDiff, Nat.reduceAdd, Nat.reduceSub, Nat.reduceMul, Nat.reduceEqDiff, reduceCtorEq, ↓reduceIte, Int.reduceEq, Int.reduceLT, Int.reduceLE, Int.reduceNe, Int.reduceAdd, Int.reduceSub, Int.reduceMul, Int.reduceToNat, Nat.reduceShiftRight, Nat.reduceAnd, Nat.reduceBNe]
    refine ⟨fun h => by omega, fun _ => ?_⟩
    have e0 : rowsR a (c :: cs) = accR a cs (min a c + 1).toNat := rfl
    rw [e0]
    refine loop_w (α := Nat) (fun k => ⟨[(6, I k), (5, .slc 0 (accR a cs k).length 0 (accR a cs k).length), (1, IL (c :: cs)), (0, I a)], [.lst (.list (.int .i64)) (accR a cs k)], []⟩) (fun k => k ≤ (min a c + 1).toNat) (fun k => (min a c + 1).toNat - k) 0
      ((wk_cut [6, 5, 1, 0] 0 rfl ⟨rfl, rfl, rfl⟩ rfl).trans (wk_own 5 (.list (.int .i64)) rfl)) (by omega) ?_
    intro k hk
    have hs1 : subL (c :: cs) 1 (cs.length + 1 - 1) = cs := by
      rw [Nat.add_sub_cancel, subL, List.drop_succ_cons, List.drop_zero, List.take_length]
    simp -implicitDefEqProofs only [c57L1, List.getD_cons_zero, hs1, push_cast, Nat.reduceBEq, Nat.reduceLT, Nat.reduceLeDiff, Nat.reduceAdd, Nat.reduceSub, Nat.reduceMul, Nat.reduceEqDiff, reduceCtorEq, ↓reduceIte, Int.reduceEq, Int.reduceLT, Int.reduceLE, Int.reduceNe, Int.reduceAdd, Int.reduceSub, Int.reduceMul, Int.reduceToNat, Nat.reduceShiftRight, Nat.reduceAnd, Nat.reduceBNe]
    have hend : (k : Int) > a ∨ (k : Int) > c → finK1 0 (.slc 0 (accR a cs k).length 0 (accR a cs k).length) (fun v fr => Fz fr v (TT (accR a cs (min a c + 1).toNat))) [.lst (.list (.int .i64)) (accR a cs k)] := by
      intro h
      have : k = (min a c + 1).toNat := by omega
      subst this
      exact finR 1 rfl (fz_lst rfl rfl)
    refine ⟨fun h1 => ⟨by omega, fun h2 => ⟨by simp only [inR]; omega, Nat.le_refl _, ?_⟩, fun h2 => hend (by omega)⟩, fun h1 => hend (by omega)⟩
    refine callpF (ih (a - k) (by omega) (by omega) (fun x hx => hc x (by simp [hx]))) ⟨rfl, rfl, trivial⟩ rfl rfl ?_
    simp -implicitDefEqProofs only [push_cast, Nat.reduceBEq, Nat.reduceLT, Nat.reduceLeDiff, Nat.reduceAdd, Nat.reduceSub, Nat.reduceMul, Nat.reduceEqDiff, reduceCtorEq, ↓reduceIte, Int.reduceEq, Int.reduceLT, Int.reduceLE, Int.reduceNe, Int.reduceAdd, Int.reduceSub, Int.reduceMul, Int.reduceToNat, Nat.reduceShiftRight, Nat.reduceAnd, Nat.reduceBNe]
    have hin := rowsR_len cs (a - k) (by omega)
    have hin2 : 21 ^ cs.length ≤ 21 ^ 2 := Nat.pow_le_pow_right (by omega) (by omega)
    have hacc := accR_len cs a k (by omega) (by omega) (by omega)
    obtain ⟨l, hl'⟩ : ∃ l, rowsR (a - (k : Int)) cs = l := ⟨_, rfl⟩
    rw [hl'] at hin
    have hsucc := accR_succ a cs k
    rw [hl'] at hsucc
    rw [hl']
    refine loop_w (α := Nat) (fun j => ⟨[(8, I j), (7, TT l), (6, I k), (5, .slc 0 (accR a cs k ++ (l.take j).map fun l => (k : Int) :: l).length 0 (accR a cs k ++ (l.take j).map fun l => (k : Int) :: l).length), (1, IL (c :: cs)), (0, I a)], [.lst (.list (.int .i64)) (accR a cs k ++ (l.take j).map fun l => (k : Int) :: l)], []⟩) (fun j => j ≤ l.length) (fun j => l.length - j) 0
      (wk_cut [8, 7, 6, 5, 1, 0] 1 rfl ⟨rfl, rfl, rfl⟩ (by rw [List.take_zero, List.map_nil, List.append_nil]; rfl)) (by omega) ?_
    intro j hj
    simp -implicitDefEqProofs only [c57L0, push_cast, Nat.reduceBEq, Nat.reduceLT, Nat.reduceLeDiff, Nat.reduceAdd, Nat.reduceSub, Nat.reduceMul, Nat.reduceEqDiff, reduceCtorEq, ↓reduceIte, Int.reduceEq, Int.reduceLT, Int.reduceLE, Int.reduceNe, Int.reduceAdd, Int.reduceSub, Int.reduceMul, Int.reduceToNat, Nat.reduceShiftRight, Nat.reduceAnd, Nat.reduceBNe]
    have hm : ∀ r ∈ l, r.length = cs.length := by rw [← hl']; exact rowsR_mem cs _
    have hal : (accR a cs k ++ List.map (fun l => (k : Int) :: l) (List.take j l)).length ≤ 9261 + 441 := by
      rw [List.length_append, List.length_map, List.length_take]
      omega
    refine ⟨fun h => ?_, fun h => ?_⟩
    · have hr := hm _ (getD_mem (k := j) (d := []) (by omega : j < l.length))
      refine ⟨⟨by omega, h⟩, ⟨by simp only [two47]; omega, by simp only [two47]; omega⟩, ⟨by simp only [two47]; omega, by simp only [two47]; omega⟩, by simp only [inR]; omega, j + 1, by omega, by omega, ?_⟩
      rw [take_at [] (by omega : j < l.length), List.map_append, ← List.append_assoc]
      exact wk_c rfl ⟨rfl, rfl, rfl⟩ rfl
    · have : j = l.length := by omega
      subst this
      refine ⟨by simp only [inR]; omega, k + 1, by omega, by omega, ?_⟩
      rw [List.take_length, hsucc]
      exact wk_c rfl ⟨rfl, rfl, rfl⟩ rfl
end Go.Proofs.YtligakiolapkkaaDoor

namespace Go.Proofs.YtligakiolapkkaaDoor
open Go GoV
set_option maxHeartbeats 8000000
set_option maxRecDepth 10000
set_option linter.unusedVariables false
set_option linter.unusedSimpArgs false
theorem rowsR_rowE : ∀ (cs : List Int) (a : Int), 0 ≤ a → cs ≠ [] → R20 cs → rowsR a cs = rowE a cs
  | [], _, _, h, _ => absurd rfl h
  | [c], a, ha, _, hc => by
    have hc0 := hc c (by simp)
    have key : ∀ n : Nat, (n : Int) ≤ a + 1 → (List.range n).flatMap (fun (x : Nat) => (rowsR (a - (x : Int)) []).map fun l => (x : Int) :: l) = if (n : Int) = a + 1 then [[a]] else [] := by
      intro n
      induction n with
      | zero => intro _; rw [if_neg (by omega)]; rfl
      | succ n ih =>
        intro h
        rw [List.range_succ, List.flatMap_append, ih (by omega), if_neg (by omega), List.nil_append, List.flatMap_cons, List.flatMap_nil, List.append_nil]
        by_cases e : a - (n : Int) = 0
        · rw [show rowsR (a - (n : Int)) [] = [[]] from if_pos e, if_pos (by omega)]
          have : (n : Int) = a := by omega
          simp [this]
        · rw [show rowsR (a - (n : Int)) [] = [] from if_neg e, if_neg (by omega)]; rfl
    unfold rowsR
    rw [key _ (by omega)]
    unfold rowE
    by_cases h : a ≤ c
    · rw [if_pos h, if_pos (by omega)]
    · rw [if_neg h, if_neg (by omega)]
  | c :: d :: cs, a, ha, _, hc => by
    unfold rowsR rowE
    have hc0 := hc c (by simp)
    have key : ∀ (l : List Nat), (∀ x ∈ l, (x : Int) ≤ a) → l.flatMap (fun (x : Nat) => (rowsR (a - (x : Int)) (d :: cs)).map fun l => (x : Int) :: l) = l.flatMap (fun (x : Nat) => (rowE (a - (x : Int)) (d :: cs)).map fun l => (x : Int) :: l) := by
      intro l
      induction l with
      | nil => intro _; rfl
      | cons x l ih =>
        intro h
        rw [List.flatMap_cons, List.flatMap_cons, ih (fun y hy => h y (by simp [hy])), rowsR_rowE (d :: cs) _ (by have := h x (by simp); omega) (by simp) (fun y hy => hc y (by simp at hy ⊢; exact .inr hy))]
    refine key _ (fun x hx => ?_)
    have := List.mem_range.1 hx
    omega
theorem rowsR_sub : ∀ (cs : List Int) (a : Int), R20 cs → ∀ r ∈ rowsR a cs, R20 (subC cs r) ∧ (subC cs r).length = cs.length
  | [], a, _, r, h => by simp [subC, R20]
  | c :: cs, a, hc, r, h => by
    unfold rowsR at h
    simp only [List.mem_flatMap, List.mem_map] at h
    obtain ⟨x, hx, l, hl, rfl⟩ := h
    have hx := List.mem_range.1 hx
    have hc0 := hc c (by simp)
    obtain ⟨h1, h2⟩ := rowsR_sub cs _ (fun y hy => hc y (by simp [hy])) l hl
    refine ⟨?_, by simp [subC, h2]⟩
    intro y hy
    simp only [subC, List.mem_cons] at hy
    rcases hy with rfl | hy
    · omega
    · exact h1 y hy
def tabR : List Int → List Int → List (List (List Int))
  | [], cs => if cs.all (fun c => decide (c = 0)) then [[]] else []
  | a :: l, cs => (rowsR a cs).flatMap fun r => (tabR l (subC cs r)).map fun t => r :: t
theorem tabR_tabE : ∀ (l cs : List Int), (∀ a ∈ l, 0 ≤ a) → cs ≠ [] → R20 cs → tabR l cs = tabE l cs
  | [], cs, _, _, _ => rfl
  | a :: l, cs, hl, hc, h => by
    have ha := hl a (by simp)
    unfold tabR
    rw [tabE_cons, rowsR_rowE cs a ha hc h]
    have key : ∀ (q : List (List Int)), (∀ r ∈ q, r ∈ rowsR a cs) → q.flatMap (fun r => (tabR l (subC cs r)).map fun t => r :: t) = q.flatMap (fun r => (tabE l (subC cs r)).map fun t => r :: t) := by
      intro q
      induction q with
      | nil => intro _; rfl
      | cons r q ih =>
        intro hq
        obtain ⟨h1, h2⟩ := rowsR_sub cs a h r (hq r (by simp))
        rw [List.flatMap_cons, List.flatMap_cons, ih (fun x hx => hq x (by simp [hx])), tabR_tabE l (subC cs r) (fun x hx => hl x (by simp [hx])) (by intro e; rw [e] at h2; simp at h2; exact hc (List.eq_nil_of_length_eq_zero h2.symm)) h1]
    exact key _ (fun r hr => by rw [rowsR_rowE cs a ha hc h]; exact hr)
theorem tabR_len : ∀ (l cs : List Int), cs.length ≤ 3 → (∀ a ∈ l, a ≤ 20) → (tabR l cs).length ≤ 9261 ^ l.length
  | [], cs, _, _ => by
    unfold tabR
    split <;> simp
  | a :: l, cs, h, hl => by
    unfold tabR
    have h1 := flatMap_len (f := fun r => (tabR l (subC cs r)).map fun t => r :: t) (B := 9261 ^ l.length) (rowsR a cs) (fun r _ => by
      rw [List.length_map]; exact tabR_len l _ (Nat.le_trans (subC_len _ _) h) (fun x hx => hl x (by simp [hx])))
    refine Nat.le_trans h1 ?_
    rw [List.length_cons, Nat.pow_succ, Nat.mul_comm]
    refine Nat.mul_le_mul_left _ (Nat.le_trans (rowsR_len cs a (hl a (by simp))) ?_)
    exact Nat.pow_le_pow_right (n := 21) (by omega) h
theorem tabR_mem : ∀ (l cs : List Int), ∀ t ∈ tabR l cs, t.length = l.length
  | [], cs, t, h => by
    unfold tabR at h
    split at h
    · simp at h; subst h; rfl
    · simp at h
  | a :: l, cs, t, h => by
    unfold tabR at h
    simp only [List.mem_flatMap, List.mem_map] at h
    obtain ⟨r, _, u, hu, rfl⟩ := h
    simp [tabR_mem l _ u hu]
def accT (f : List (List Int)) (l cs : List Int) (n : Nat) : List (List (List Int)) := (f.take n).flatMap fun r => (tabR l (subC cs r)).map fun t => r :: t
theorem accT_succ (f : List (List Int)) (l cs : List Int) (n : Nat) (h : n < f.length) : accT f l cs (n + 1) = accT f l cs n ++ (tabR l (subC cs (f.getD n []))).map fun t => f.getD n [] :: t := by
  simp only [accT, take_at [] h, List.flatMap_append, List.flatMap_cons, List.flatMap_nil, List.append_nil]
theorem accT_len (f : List (List Int)) (l cs : List Int) (n : Nat) (hf : f.length ≤ 9261) (hc : cs.length ≤ 3) (hl : ∀ a ∈ l, a ≤ 20) (hll : l.length ≤ 2) : (accT f l cs n).length ≤ 9261 * 9261 ^ 2 := by
  have h1 := flatMap_len (f := fun r => (tabR l (subC cs r)).map fun t => r :: t) (B := 9261 ^ 2) (f.take n) (fun r _ => by
      rw [List.length_map]; exact Nat.le_trans (tabR_len l _ (Nat.le_trans (subC_len _ _) hc) hl) (Nat.pow_le_pow_right (by omega) hll))
  refine Nat.le_trans h1 (Nat.mul_le_mul_right _ ?_)
  rw [List.length_take]; omega
theorem subC_getD : ∀ (cs r : List Int) (k : Nat), k < cs.length → r.length = cs.length → (subC cs r).getD k 0 = cs.getD k 0 - r.getD k 0
  | [], _, k, h, _ => by simp at h
  | c :: cs, [], k, _, h => by simp at h
  | c :: cs, x :: r, 0, _, _ => by simp [subC]
  | c :: cs, x :: r, k + 1, h, h2 => by
    simp only [List.length_cons, Nat.add_right_cancel_iff] at h2
    simp only [List.length_cons, Nat.add_lt_add_iff_right] at h
    simp only [subC, List.getD_cons_succ]
    exact subC_getD cs r k h h2
theorem tables_pc : ∀ (l cs : List Int), l.length ≤ 3 → 1 ≤ cs.length ∧ cs.length ≤ 3 → R20 l → R20 cs → PC Tryd.prog 47 [IL l, IL cs] (TTT (tabR l cs))
  | [], cs, _, hn, _, hc => by
    refine pc_fn hmix h47 rfl ?_
    simp -implicitDefEqProofs only [c47, push_cast, Nat.reduceBEq, Nat.reduceLT, Nat.reduceLeDiff, Nat.reduceAdd, Nat.reduceSub, Nat.reduceMul, Nat.reduceEqDiff, reduceCtorEq, ↓reduceIte, Int.reduceEq, Int.reduceLT, Int.reduceLE, Int.reduceNe, Int.reduceAdd, Int.reduceSub, Int.reduceMul, Int.reduceToNat, Nat.reduceShiftRight, Nat.reduceAnd, Nat.reduceBNe]
    refine loop_w (α := Nat) (fun k => ⟨[(5, I k), (1, IL cs)], [], []⟩) (fun k => k ≤ cs.length ∧ ∀ c ∈ cs.take k, c = 0) (fun k => cs.length - k) 0 (wk_cut [5, 1] 0 rfl ⟨rfl, rfl, rfl⟩ rfl) ⟨by omega, by simp⟩ ?_
    rintro k ⟨hk, hz⟩
    simp -implicitDefEqProofs only [c47L0, push_cast, Nat.reduceBEq, Nat.reduceLT, Nat.reduceLeDiff, Nat.reduceAdd, Nat.reduceSub, Nat.reduceMul, Nat.reduceEqDiff, reduceCtorEq, ↓reduceIte, Int.reduceEq, Int.reduceLT, Int.reduceLE, Int.reduceNe, Int.reduceAdd, Int.reduceSub, Int.reduceMul, Int.reduceToNat, Nat.reduceShiftRight, Nat.reduceAnd, Nat.reduceBNe]
    refine ⟨fun h => ⟨⟨by omega, h⟩, ?_⟩, fun h => ?_⟩
    · refine ⟨fun h1 => ?_, fun h1 => ⟨by simp only [inR]; omega, k + 1, ⟨by omega, ?_⟩, by omega, wk_c rfl ⟨rfl, rfl, rfl⟩ rfl⟩⟩
      · rw [show tabR [] cs = [] from if_neg (by
          rw [List.all_eq_true]; intro hall
          exact h1 (by simpa using hall _ (getD_mem (d := 0) (by omega : k < cs.length))))]
        exact finR 0 rfl trivial
      · intro c hcm
        rw [take_at 0 (by omega : k < cs.length), List.mem_append, List.mem_singleton] at hcm
        rcases hcm with h2 | rfl
        · exact hz c h2
        · exact h1
    · have : k = cs.length := by omega
      subst this
      rw [List.take_length] at hz
      rw [show tabR [] cs = [[]] from if_pos (by rw [List.all_eq_true]; intro x hx; simpa using hz x hx)]
      exact finC rfl rfl
  | a :: l, cs, hl, hn, ha, hc => by
    have ih := tables_pc l
    have ha0 := ha a (by simp)
    have hrows := rows_pc cs a hn.2 ha0 hc
    refine pc_fn hmix h47 rfl ?_
    simp -implicitDefEqProofs only [c47, push_cast, Nat.reduceBEq, Nat.reduceLT, Nat.reduceLeDiff, Nat.reduceAdd, Nat.reduceSub, Nat.reduceMul, Nat.reduceEqDiff, reduceCtorEq, ↓reduceIte, Int.reduceEq, Int.reduceLT, Int.reduceLE, Int.reduceNe, Int.reduceAdd, Int.reduceSub, Int.reduceMul, Int.reduceToNat, Nat.reduceShiftRight, Nat.reduceAnd, Nat.reduceBNe]
    refine ⟨fun h => by omega, fun _ => ⟨by omega, ?_⟩⟩
    refine callpF hrows ⟨rfl, rfl, trivial⟩ rfl rfl ?_
    simp -implicitDefEqProofs only [push_cast, Nat.reduceBEq, Nat.reduceLT, Nat.reduceLeDiff, Nat.reduceAdd, Nat.reduceSub, Nat.reduceMul, Nat.reduceEqDiff, reduceCtorEq, ↓reduceIte, Int.reduceEq, Int.reduceLT, Int.reduceLE, Int.reduceNe, Int.reduceAdd, Int.reduceSub, Int.reduceMul, Int.reduceToNat, Nat.reduceShiftRight, Nat.reduceAnd, Nat.reduceBNe]
    obtain ⟨f, hf⟩ : ∃ f, rowsR a cs = f := ⟨_, rfl⟩
    have hfl : f.length ≤ 9261 := by
      rw [← hf]
      exact Nat.le_trans (rowsR_len cs a ha0.2) (Nat.pow_le_pow_right (n := 21) (by omega) hn.2)
    have e0 : tabR (a :: l) cs = accT f l cs f.length := by rw [accT, List.take_length, ← hf]; rfl
    rw [e0, hf]
    simp only [List.length_cons] at hl
    have hla : ∀ x ∈ l, x ≤ 20 := fun x hx => (ha x (by simp [hx])).2
    have hs1 : subL (a :: l) 1 (l.length + 1 - 1) = l := by
      rw [Nat.add_sub_cancel, subL, List.drop_succ_cons, List.drop_zero, List.take_length]
    refine loop_w (α := Nat) (fun k => ⟨[(8, I k), (7, TT f), (6, .slc 0 (accT f l cs k).length 0 (accT f l cs k).length), (1, IL cs), (0, IL (a :: l))], [.lst (.list (.list (.int .i64))) (accT f l cs k)], []⟩) (fun k => k ≤ f.length) (fun k => f.length - k) 0
      ((wk_cut [8, 7, 6, 1, 0] 0 rfl ⟨rfl, rfl, rfl⟩ rfl).trans (wk_own 6 (.list (.list (.int .i64))) rfl)) (by omega) ?_
    intro k hk
    simp -implicitDefEqProofs only [c47L3, push_cast, Nat.reduceBEq, Nat.reduceLT, Nat.reduceLeDiff, Nat.reduceAdd, Nat.reduceSub, Nat.reduceMul, Nat.reduceEqDiff, reduceCtorEq, ↓reduceIte, Int.reduceEq, Int.reduceLT, Int.reduceLE, Int.reduceNe, Int.reduceAdd, Int.reduceSub, Int.reduceMul, Int.reduceToNat, Nat.reduceShiftRight, Nat.reduceAnd, Nat.reduceBNe]
    refine ⟨fun h => ?_, fun h => ?_⟩
    · have hkl : k < f.length := by omega
      obtain ⟨r, hr⟩ : ∃ r, f.getD k [] = r := ⟨_, rfl⟩
      have hrm : r ∈ rowsR a cs := by rw [hf, ← hr]; exact getD_mem hkl
      have hrl := rowsR_mem cs a r hrm
      obtain ⟨hs2, hs3⟩ := rowsR_sub cs a hc r hrm
      have hacc := accT_len f l cs k hfl hn.2 hla (by omega)
      have hsucc := accT_succ f l cs k hkl
      rw [hr] at hsucc
      refine loop_w (α := Bool × Nat) (fun b => match b with
          | (true, j) => ⟨[(10, I j), (9, .slc 1 j 0 j), (8, I k), (7, TT f), (6, .slc 0 (accT f l cs k).length 0 (accT f l cs k).length), (1, IL cs), (0, IL (a :: l))], [.lst (.list (.list (.int .i64))) (accT f l cs k), .lst (.int .i64) ((subC cs r).take j)], []⟩
          | (false, j) => ⟨[(10, I j), (9, IL (subC cs r)), (8, I k), (7, TT f), (6, .slc 0 (accT f l cs k).length 0 (accT f l cs k).length), (1, IL cs), (0, IL (a :: l))], [.lst (.list (.list (.int .i64))) (accT f l cs k), .dead], []⟩)
        (fun b => match b with | (true, j) => j < cs.length | (false, j) => j = cs.length) (fun b => cs.length - b.2) (true, 0)
        ((wk_cut [10, 9, 8, 7, 6, 1, 0] 1 rfl ⟨rfl, rfl, rfl⟩ rfl).trans (wk_own 9 (.int .i64) rfl)) (by simp only; omega) ?_
      rintro ⟨b, j⟩ hj
      cases b with
      | true =>
        simp only at hj
        have hjl : ((subC cs r).take j).length = j := by rw [List.length_take]; omega
        have ex := subC_getD cs r j hj hrl
        have hxr := hs2 _ (getD_mem (d := 0) (by omega : j < (subC cs r).length))
        have ej : (subC cs r).take j ++ [cs.getD j 0 - r.getD j 0] = (subC cs r).take (j + 1) := by
          rw [take_at 0 (by omega : j < (subC cs r).length), ex]
        rw [ex] at hxr
        simp -implicitDefEqProofs only [c47L1, hr, push_cast, Nat.reduceBEq, Nat.reduceLT, Nat.reduceLeDiff, Nat.reduceAdd, Nat.reduceSub, Nat.reduceMul, Nat.reduceEqDiff, reduceCtorEq, ↓reduceIte, Int.reduceEq, Int.reduceLT, Int.reduceLE, Int.reduceNe, Int.reduceAdd, Int.reduceSub, Int.reduceMul, Int.reduceToNat, Nat.reduceShiftRight, Nat.reduceAnd, Nat.reduceBNe]
        refine ⟨fun _ => ⟨⟨by omega, by omega⟩, ⟨by omega, h⟩, ⟨by omega, by omega⟩, by simp only [inR]; omega, ⟨hjl, hjl.symm⟩, ⟨by simp only [two47]; omega, by simp only [two47]; omega⟩, by simp only [inR]; omega, ?_⟩, fun h => by omega⟩
        rw [ej]
        by_cases hlast : j + 1 = cs.length
        · refine ⟨(false, j + 1), hlast, by simp only; omega, ?_⟩
          rw [List.take_of_length_le (by omega : (subC cs r).length ≤ j + 1)]
          refine Wk.trans (s' := ⟨[(10, I (j + 1 : Nat)), (9, .slc 1 (subC cs r).length 0 (subC cs r).length), (8, I k), (7, TT f), (6, .slc 0 (accT f l cs k).length 0 (accT f l cs k).length), (1, IL cs), (0, IL (a :: l))], [.lst (.list (.list (.int .i64))) (accT f l cs k), .lst (.int .i64) (subC cs r)], []⟩) (wk_c rfl ⟨rfl, rfl, rfl⟩ rfl) ?_
          exact wk_frz 9 1 (subC cs r).length rfl (.inr rfl) rfl
        · refine ⟨(true, j + 1), by simp only; omega, by simp only; omega, ?_⟩
          rw [show ((subC cs r).take (j + 1)).length = j + 1 by rw [List.length_take]; omega]
          exact wk_c rfl ⟨rfl, rfl, rfl⟩ rfl
      | false =>
        simp only at hj
        subst hj
        simp -implicitDefEqProofs only [c47L1, hs1, push_cast, Nat.reduceBEq, Nat.reduceLT, Nat.reduceLeDiff, Nat.reduceAdd, Nat.reduceSub, Nat.reduceMul, Nat.reduceEqDiff, reduceCtorEq, ↓reduceIte, Int.reduceEq, Int.reduceLT, Int.reduceLE, Int.reduceNe, Int.reduceAdd, Int.reduceSub, Int.reduceMul, Int.reduceToNat, Nat.reduceShiftRight, Nat.reduceAnd, Nat.reduceBNe]
        refine ⟨fun h => absurd h (Int.lt_irrefl _), fun _ => ⟨Nat.le_refl _, ?_⟩⟩
        refine callpF (ih (subC cs r) (by omega) (by omega) (fun x hx => ha x (by simp [hx])) hs2) ⟨rfl, rfl, trivial⟩ rfl rfl ?_
        simp -implicitDefEqProofs only [push_cast, Nat.reduceBEq, Nat.reduceLT, Nat.reduceLeDiff, Nat.reduceAdd, Nat.reduceSub, Nat.reduceMul, Nat.reduceEqDiff, reduceCtorEq, ↓reduceIte, Int.reduceEq, Int.reduceLT, Int.reduceLE, Int.reduceNe, Int.reduceAdd, Int.reduceSub, Int.reduceMul, Int.reduceToNat, Nat.reduceShiftRight, Nat.reduceAnd, Nat.reduceBNe]
        have hL := tabR_len l (subC cs r) (by omega) hla
        have hL2 : 9261 ^ l.length ≤ 9261 ^ 2 := Nat.pow_le_pow_right (by omega) (by omega)
        obtain ⟨L, hLe⟩ : ∃ L, tabR l (subC cs r) = L := ⟨_, rfl⟩
        rw [hLe] at hL hsucc ⊢
        refine loop_w (α := Nat) (fun j => ⟨[(12, I j), (11, TTT L), (8, I k), (7, TT f), (6, .slc 0 (accT f l cs k ++ (L.take j).map fun t => r :: t).length 0 (accT f l cs k ++ (L.take j).map fun t => r :: t).length), (1, IL cs), (0, IL (a :: l))], [.lst (.list (.list (.int .i64))) (accT f l cs k ++ (L.take j).map fun t => r :: t)], []⟩) (fun j => j ≤ L.length) (fun j => L.length - j) 0
          (wk_cut [12, 11, 8, 7, 6, 1, 0] 1 rfl ⟨rfl, rfl, rfl⟩ (by rw [List.take_zero, List.map_nil, List.append_nil]; rfl)) (by omega) ?_
        intro j hj
        have htm : ∀ t ∈ L, t.length = l.length := by rw [← hLe]; exact tabR_mem l _
        have hal : (accT f l cs k ++ (L.take j).map fun t => r :: t).length ≤ 9261 * 9261 ^ 2 + 9261 ^ 2 := by
          rw [List.length_append, List.length_map, List.length_take]
          omega
        simp -implicitDefEqProofs only [c47L2, hr, push_cast, Nat.reduceBEq, Nat.reduceLT, Nat.reduceLeDiff, Nat.reduceAdd, Nat.reduceSub, Nat.reduceMul, Nat.reduceEqDiff, reduceCtorEq, ↓reduceIte, Int.reduceEq, Int.reduceLT, Int.reduceLE, Int.reduceNe, Int.reduceAdd, Int.reduceSub, Int.reduceMul, Int.reduceToNat, Nat.reduceShiftRight, Nat.reduceAnd, Nat.reduceBNe]
        refine ⟨fun h => ?_, fun h => ?_⟩
        · have htl := htm _ (getD_mem (k := j) (d := []) (by omega : j < L.length))
          refine ⟨⟨by omega, by omega⟩, ⟨by omega, h⟩, ⟨by simp only [two47]; omega, by simp only [two47]; omega⟩, ⟨by simp only [two47]; omega, by simp only [two47]; omega⟩, by simp only [inR]; omega, j + 1, by omega, by omega, ?_⟩
          rw [take_at [] (by omega : j < L.length), List.map_append, ← List.append_assoc]
          exact wk_c rfl ⟨rfl, rfl, rfl⟩ rfl
        · have : j = L.length := by omega
          subst this
          refine ⟨by simp only [inR]; omega, k + 1, by omega, by omega, ?_⟩
          rw [List.take_length, hsucc]
          exact wk_c rfl ⟨rfl, rfl, rfl⟩ rfl
    · have : k = f.length := by omega
      subst this
      exact finR 1 rfl (fz_lst rfl rfl)
end Go.Proofs.YtligakiolapkkaaDoor

namespace Go.Proofs.YtligakiolapkkaaDoor
open Go GoV
set_option maxHeartbeats 8000000
set_option maxRecDepth 10000
set_option linter.unusedVariables false
set_option linter.unusedSimpArgs false
/-- all tables with the margins of a table -/
def allL (t : List (List Int)) : List (List (List Int)) := tabE (rowsL t) (colsL t)
theorem rowsL_22 (a b c d : Int) : rowsL [[a, b], [c, d]] = [a + b, c + d] := by
  simp only [rowsL, List.map_cons, List.map_nil, sumL, Int.add_zero, Int.add_assoc]
theorem colsL_22 (a b c d : Int) : colsL [[a, b], [c, d]] = [a + c, b + d] := by
  show rowsL [[a, c], [b, d]] = _
  simp only [rowsL, List.map_cons, List.map_nil, sumL, Int.add_zero, Int.add_assoc]
theorem allL_22 (a b c d : Int) : allL [[a, b], [c, d]] = tabE [a + b, c + d] [a + c, b + d] := by rw [allL, rowsL_22, colsL_22]
theorem rowsL_23 (a b c d e f : Int) : rowsL [[a, b, c], [d, e, f]] = [a + b + c, d + e + f] := by
  simp only [rowsL, List.map_cons, List.map_nil, sumL, Int.add_zero, Int.add_assoc]
theorem colsL_23 (a b c d e f : Int) : colsL [[a, b, c], [d, e, f]] = [a + d, b + e, c + f] := by
  show rowsL [[a, d], [b, e], [c, f]] = _
  simp only [rowsL, List.map_cons, List.map_nil, sumL, Int.add_zero, Int.add_assoc]
theorem allL_23 (a b c d e f : Int) : allL [[a, b, c], [d, e, f]] = tabE [a + b + c, d + e + f] [a + d, b + e, c + f] := by rw [allL, rowsL_23, colsL_23]
theorem rowsL_32 (a b c d e f : Int) : rowsL [[a, b], [c, d], [e, f]] = [a + b, c + d, e + f] := by
  simp only [rowsL, List.map_cons, List.map_nil, sumL, Int.add_zero, Int.add_assoc]
theorem colsL_32 (a b c d e f : Int) : colsL [[a, b], [c, d], [e, f]] = [a + c + e, b + d + f] := by
  show rowsL [[a, c, e], [b, d, f]] = _
  simp only [rowsL, List.map_cons, List.map_nil, sumL, Int.add_zero, Int.add_assoc]
theorem allL_32 (a b c d e f : Int) : allL [[a, b], [c, d], [e, f]] = tabE [a + b, c + d, e + f] [a + c + e, b + d + f] := by rw [allL, rowsL_32, colsL_32]
theorem rowsL_33 (a b c d e f g i j : Int) : rowsL [[a, b, c], [d, e, f], [g, i, j]] = [a + b + c, d + e + f, g + i + j] := by
  simp only [rowsL, List.map_cons, List.map_nil, sumL, Int.add_zero, Int.add_assoc]
theorem colsL_33 (a b c d e f g i j : Int) : colsL [[a, b, c], [d, e, f], [g, i, j]] = [a + d + g, b + e + i, c + f + j] := by
  show rowsL [[a, d, g], [b, e, i], [c, f, j]] = _
  simp only [rowsL, List.map_cons, List.map_nil, sumL, Int.add_zero, Int.add_assoc]
theorem allL_33 (a b c d e f g i j : Int) : allL [[a, b, c], [d, e, f], [g, i, j]] = tabE [a + b + c, d + e + f, g + i + j] [a + d + g, b + e + i, c + f + j] := by rw [allL, rowsL_33, colsL_33]

theorem All_pc (t : List (List Int)) (hl : t.length ≤ 1000) (hr : ∀ r ∈ t, r.length ≤ 1000) : PC Tryd.prog 23 [TT t] (if validB t then .tup [TTT (allL t), I 0] else .tup [TTT [], I 300]) := by
  cases hv : validB t with
  | false => exact all_bad t hl hr hv
  | true =>
    show PC Tryd.prog 23 [TT t] (.tup [TTT (allL t), I 0])
    exact shapes (P := fun t => PC Tryd.prog 23 [TT t] (.tup [TTT (allL t), I 0])) (tab_of hv) (fun a b c d h _ => by rw [allL_22]; exact All22 a b c d h) (fun a b c d e f h _ => by rw [allL_23]; exact All23 a b c d e f h) (fun a b c d e f h _ => by rw [allL_32]; exact All32 a b c d e f h) (fun a b c d e f g i j h _ => by rw [allL_33]; exact All33 a b c d e f g i j h)
theorem refall_pc {t : List (List Int)} (h : Tab t) : PC Tryd.prog 25 [TT t] (TTT (allL t)) := by
  obtain ⟨h1, h2, _, h4, h5⟩ := tab_rows h
  have hw := h.wid
  have hl := h.len
  have hT := tables_pc (rowsL t) (colsL t) (by omega) (by omega) h1 h2
  rw [tabR_tabE (rowsL t) (colsL t) (fun a ha => (h1 a ha).1) (by intro e; rw [e] at h5; simp at h5; omega) h2] at hT
  refine pc_fn hmix h25 rfl ?_
  simp -implicitDefEqProofs only [c25, push_cast, Nat.reduceBEq, Nat.reduceLT, Nat.reduceLeDiff, Nat.reduceAdd, Nat.reduceSub, Nat.reduceMul, Nat.reduceEqDiff, reduceCtorEq, ↓reduceIte, Int.reduceEq, Int.reduceLT, Int.reduceLE, Int.reduceNe, Int.reduceAdd, Int.reduceSub, Int.reduceMul, Int.reduceToNat, Nat.reduceShiftRight, Nat.reduceAnd, Nat.reduceBNe]
  refine callF (refrows_pc h) ⟨rfl, trivial⟩ rfl rfl ?_
  simp -implicitDefEqProofs only [push_cast, Nat.reduceBEq, Nat.reduceLT, Nat.reduceLeDiff, Nat.reduceAdd, Nat.reduceSub, Nat.reduceMul, Nat.reduceEqDiff, reduceCtorEq, ↓reduceIte, Int.reduceEq, Int.reduceLT, Int.reduceLE, Int.reduceNe, Int.reduceAdd, Int.reduceSub, Int.reduceMul, Int.reduceToNat, Nat.reduceShiftRight, Nat.reduceAnd, Nat.reduceBNe]
  refine callF (refcols_pc h (tab_tr h)) ⟨rfl, trivial⟩ rfl rfl ?_
  simp -implicitDefEqProofs only [push_cast, Nat.reduceBEq, Nat.reduceLT, Nat.reduceLeDiff, Nat.reduceAdd, Nat.reduceSub, Nat.reduceMul, Nat.reduceEqDiff, reduceCtorEq, ↓reduceIte, Int.reduceEq, Int.reduceLT, Int.reduceLE, Int.reduceNe, Int.reduceAdd, Int.reduceSub, Int.reduceMul, Int.reduceToNat, Nat.reduceShiftRight, Nat.reduceAnd, Nat.reduceBNe]
  refine callF hT ⟨rfl, rfl, trivial⟩ rfl rfl ?_
  simp -implicitDefEqProofs only [push_cast, Nat.reduceBEq, Nat.reduceLT, Nat.reduceLeDiff, Nat.reduceAdd, Nat.reduceSub, Nat.reduceMul, Nat.reduceEqDiff, reduceCtorEq, ↓reduceIte, Int.reduceEq, Int.reduceLT, Int.reduceLE, Int.reduceNe, Int.reduceAdd, Int.reduceSub, Int.reduceMul, Int.reduceToNat, Nat.reduceShiftRight, Nat.reduceAnd, Nat.reduceBNe]
  exact finC rfl rfl
theorem same_pc (t : List (List Int)) (hl : t.length ≤ 1000) (hr : ∀ r ∈ t, r.length ≤ 1000) : PC Tryd.prog 26 [TT t, TT t] (B true) := by
  refine pc_fn hmix h26 rfl ?_
  simp -implicitDefEqProofs only [c26, push_cast, Nat.reduceBEq, Nat.reduceLT, Nat.reduceLeDiff, Nat.reduceAdd, Nat.reduceSub, Nat.reduceMul, Nat.reduceEqDiff, reduceCtorEq, ↓reduceIte, Int.reduceEq, Int.reduceLT, Int.reduceLE, Int.reduceNe, Int.reduceAdd, Int.reduceSub, Int.reduceMul, Int.reduceToNat, Nat.reduceShiftRight, Nat.reduceAnd, Nat.reduceBNe]
  refine loop_w (α := Nat) (fun k => ⟨[(5, I k), (1, TT t), (0, TT t)], [], []⟩) (fun k => k ≤ t.length) (fun k => t.length - k) 0 (wk_cut [5, 1, 0] 0 rfl ⟨rfl, rfl, rfl⟩ rfl) (by omega) ?_
  intro k hk
  simp -implicitDefEqProofs only [c26L1, push_cast, Nat.reduceBEq, Nat.reduceLT, Nat.reduceLeDiff, Nat.reduceAdd, Nat.reduceSub, Nat.reduceMul, Nat.reduceEqDiff, reduceCtorEq, ↓reduceIte, Int.reduceEq, Int.reduceLT, Int.reduceLE, Int.reduceNe, Int.reduceAdd, Int.reduceSub, Int.reduceMul, Int.reduceToNat, Nat.reduceShiftRight, Nat.reduceAnd, Nat.reduceBNe]
  refine ⟨fun h => ⟨⟨by omega, h⟩, ⟨by omega, h⟩, ?_⟩, fun h => finC rfl rfl⟩
  obtain ⟨r, hre⟩ : ∃ r, t.getD k [] = r := ⟨_, rfl⟩
  have hrl := hr r (by rw [← hre]; exact getD_mem (by omega))
  refine loop_w (α := Nat) (fun j => ⟨[(6, I j), (5, I k), (1, TT t), (0, TT t)], [], []⟩) (fun j => j ≤ r.length) (fun j => r.length - j) 0 (wk_cut [6, 5, 1, 0] 0 rfl ⟨rfl, rfl, rfl⟩ rfl) (by omega) ?_
  intro j hj
  simp -implicitDefEqProofs only [c26L0, hre, push_cast, Nat.reduceBEq, Nat.reduceLT, Nat.reduceLeDiff, Nat.reduceAdd, Nat.reduceSub, Nat.reduceMul, Nat.reduceEqDiff, reduceCtorEq, ↓reduceIte, Int.reduceEq, Int.reduceLT, Int.reduceLE, Int.reduceNe, Int.reduceAdd, Int.reduceSub, Int.reduceMul, Int.reduceToNat, Nat.reduceShiftRight, Nat.reduceAnd, Nat.reduceBNe]
  exact ⟨⟨by omega, h⟩, fun h2 => ⟨⟨by omega, h⟩, ⟨by omega, h2⟩, ⟨by omega, h⟩, ⟨by omega, h2⟩, by simp only [inR]; omega, j + 1, by omega, by omega, wk_c rfl ⟨rfl, rfl, rfl⟩ rfl⟩, fun h2 => ⟨by simp only [inR]; omega, k + 1, by omega, by omega, wk_c rfl ⟨rfl, rfl, rfl⟩ rfl⟩⟩
theorem eqfunc_pc (l : List (List (List Int))) (hl : l.length ≤ 1000000000000) (hm : ∀ t ∈ l, t.length ≤ 1000 ∧ ∀ r ∈ t, r.length ≤ 1000) : PC Tryd.prog 24 [TTT l, TTT l, .fn 26 [] []] (B true) := by
  refine pc_fn hmix h24 rfl ?_
  simp -implicitDefEqProofs only [c24, push_cast, Nat.reduceBEq, Nat.reduceLT, Nat.reduceLeDiff, Nat.reduceAdd, Nat.reduceSub, Nat.reduceMul, Nat.reduceEqDiff, reduceCtorEq, ↓reduceIte, Int.reduceEq, Int.reduceLT, Int.reduceLE, Int.reduceNe, Int.reduceAdd, Int.reduceSub, Int.reduceMul, Int.reduceToNat, Nat.reduceShiftRight, Nat.reduceAnd, Nat.reduceBNe]
  refine loop_w (α := Nat) (fun k => ⟨[(17, I k), (16, I l.length), (15, TTT l), (2, .fn 26 [] []), (1, TTT l)], [], []⟩) (fun k => k ≤ l.length) (fun k => l.length - k) 0 (wk_cut [17, 16, 15, 2, 1] 0 rfl ⟨rfl, rfl, rfl⟩ rfl) (by omega) ?_
  intro k hk
  simp -implicitDefEqProofs only [c24L0, push_cast, Nat.reduceBEq, Nat.reduceLT, Nat.reduceLeDiff, Nat.reduceAdd, Nat.reduceSub, Nat.reduceMul, Nat.reduceEqDiff, reduceCtorEq, ↓reduceIte, Int.reduceEq, Int.reduceLT, Int.reduceLE, Int.reduceNe, Int.reduceAdd, Int.reduceSub, Int.reduceMul, Int.reduceToNat, Nat.reduceShiftRight, Nat.reduceAnd, Nat.reduceBNe]
  refine ⟨fun h => ⟨⟨by omega, h⟩, ⟨by omega, h⟩, ?_⟩, fun h => finC rfl rfl⟩
  have hx := hm _ (getD_mem (k := k) (d := []) (by omega : k < l.length))
  refine callF (same_pc _ hx.1 hx.2) ⟨rfl, rfl, trivial⟩ rfl rfl ?_
  simp -implicitDefEqProofs only [push_cast, Nat.reduceBEq, Nat.reduceLT, Nat.reduceLeDiff, Nat.reduceAdd, Nat.reduceSub, Nat.reduceMul, Nat.reduceEqDiff, reduceCtorEq, ↓reduceIte, Int.reduceEq, Int.reduceLT, Int.reduceLE, Int.reduceNe, Int.reduceAdd, Int.reduceSub, Int.reduceMul, Int.reduceToNat, Nat.reduceShiftRight, Nat.reduceAnd, Nat.reduceBNe]
  exact ⟨by simp only [inR]; omega, k + 1, by omega, by omega, wk_c rfl ⟨rfl, rfl, rfl⟩ rfl⟩
theorem rowE_mem : ∀ (cs : List Int) (a : Int), ∀ r ∈ rowE a cs, r.length = cs.length
  | [], _, r, h => by simp [rowE] at h
  | [c], a, r, h => by
    unfold rowE at h
    split at h
    · simp at h; subst h; rfl
    · simp at h
  | c :: d :: cs, a, r, h => by
    unfold rowE at h
    simp only [List.mem_flatMap, List.mem_map] at h
    obtain ⟨x, _, l, hl, rfl⟩ := h
    have := rowE_mem (d :: cs) _ l hl
    simp only [List.length_cons] at this ⊢
    omega
theorem tabE_mem : ∀ (l cs : List Int) (m : Nat), cs.length ≤ m → ∀ t ∈ tabE l cs, t.length = l.length ∧ ∀ r ∈ t, r.length ≤ m
  | [], cs, m, _, t, h => by
    unfold tabE at h
    split at h
    · simp at h; subst h; exact ⟨rfl, by simp⟩
    · simp at h
  | a :: l, cs, m, hm, t, h => by
    rw [tabE_cons] at h
    simp only [List.mem_flatMap, List.mem_map] at h
    obtain ⟨r, hr, u, hu, rfl⟩ := h
    obtain ⟨h1, h2⟩ := tabE_mem l _ m (Nat.le_trans (subC_len _ _) hm) u hu
    refine ⟨by simp [h1], fun q hq => ?_⟩
    rcases List.mem_cons.1 hq with rfl | hq
    · rw [rowE_mem cs a _ hr]; exact hm
    · exact h2 q hq
theorem allL_small {t : List (List Int)} (h : Tab t) : (allL t).length ≤ 1000000000000 ∧ ∀ x ∈ allL t, x.length ≤ 1000 ∧ ∀ r ∈ x, r.length ≤ 1000 := by
  obtain ⟨h1, h2, _, h4, h5⟩ := tab_rows h
  have hw := h.wid
  have hl := h.len
  refine ⟨?_, fun x hx => ?_⟩
  · have h6 := tabE_len (rowsL t) (colsL t) 3 (by omega) (fun a ha => (h1 a ha).2)
    have h7 : (21 ^ 3) ^ (rowsL t).length ≤ (21 ^ 3) ^ 3 := Nat.pow_le_pow_right (by omega) (by omega)
    have h8 : (21 ^ 3) ^ 3 ≤ 1000000000000 := by decide
    exact Nat.le_trans h6 (Nat.le_trans h7 h8)
  · obtain ⟨h6, h7⟩ := tabE_mem (rowsL t) (colsL t) 3 (by omega) x hx
    exact ⟨by omega, fun r hr => by have := h7 r hr; omega⟩

end Go.Proofs.YtligakiolapkkaaDoor

namespace Go.Proofs.YtligakiolapkkaaDoor
open Go GoV
set_option maxHeartbeats 8000000
set_option maxRecDepth 10000
abbrev okT (x : List (List Int)) : Prop := x.length ≤ 1000 ∧ ∀ r ∈ x, r.length ≤ 1000
abbrev Q4 : Ex → St → Prop := (brk
      (thn
        (awp Tryd.prog 71 0
          ((AC.reg false
                [{ dst := some 70, ins := GoV.Instr.call (Opd.c (AV.fn 22 [] [])) [], guard := none },
                  { dst := some 8, ins := GoV.Instr.mov (Opd.t 70), guard := none }]).seq
            AC.ret)
          none (finW Tryd.prog 0 [RV.tmp 8] fun v fr => Fz fr v (B true)))
        (finW Tryd.prog 0 [RV.tmp 8] fun v fr => Fz fr v (B true)))
      0)
theorem law4_loop (t b f : List (List Int)) (ht : okT t) (hb : okT b) (hf : okT f) :
    LoopW 0 (awp Tryd.prog 71 0 c4L0 none) Q4 ⟨[(42, I 0), (41, .agg [TT t, TT b, TT f])], [], []⟩ := by
  unfold Q4
  refine loop_w (α := Nat) (fun k => ⟨[(42, I k), (41, .agg [TT t, TT b, TT f])], [], []⟩) (fun k => k ≤ 3) (fun k => 3 - k) 0 (Wk.refl _ _) (by omega) ?_
  intro k hk
  have : k = 0 ∨ k = 1 ∨ k = 2 ∨ k = 3 := by omega
  rcases this with rfl | rfl | rfl | rfl

  · have ha := All_pc t ht.1 ht.2
    have hr := right_pc t ht.1
    cases hv : validB t with
    | false =>
      rw [hv] at ha hr
      simp -implicitDefEqProofs only [c4L0, push_cast, Nat.reduceBEq, Nat.reduceLT, Nat.reduceLeDiff, Nat.reduceAdd, Nat.reduceSub, Nat.reduceMul, Nat.reduceEqDiff, reduceCtorEq, ↓reduceIte, Int.reduceEq, Int.reduceLT, Int.reduceLE, Int.reduceNe, Int.reduceAdd, Int.reduceSub, Int.reduceMul, Int.reduceToNat, Nat.reduceShiftRight, Nat.reduceAnd, Nat.reduceBNe]
      refine callF ha ⟨rfl, trivial⟩ rfl rfl ?_
      simp -implicitDefEqProofs only [push_cast, Nat.reduceBEq, Nat.reduceLT, Nat.reduceLeDiff, Nat.reduceAdd, Nat.reduceSub, Nat.reduceMul, Nat.reduceEqDiff, reduceCtorEq, ↓reduceIte, Int.reduceEq, Int.reduceLT, Int.reduceLE, Int.reduceNe, Int.reduceAdd, Int.reduceSub, Int.reduceMul, Int.reduceToNat, Nat.reduceShiftRight, Nat.reduceAnd, Nat.reduceBNe]
      refine callF hr ⟨rfl, trivial⟩ rfl rfl ?_
      simp -implicitDefEqProofs only [push_cast, Nat.reduceBEq, Nat.reduceLT, Nat.reduceLeDiff, Nat.reduceAdd, Nat.reduceSub, Nat.reduceMul, Nat.reduceEqDiff, reduceCtorEq, ↓reduceIte, Int.reduceEq, Int.reduceLT, Int.reduceLE, Int.reduceNe, Int.reduceAdd, Int.reduceSub, Int.reduceMul, Int.reduceToNat, Nat.reduceShiftRight, Nat.reduceAnd, Nat.reduceBNe]
      exact ⟨by simp only [inR]; omega, 1, by omega, by omega, wk_c rfl ⟨rfl, rfl, rfl⟩ rfl⟩
    | true =>
      have h := tab_of hv
      rw [hv] at ha hr
      obtain ⟨hs1, hs2⟩ := allL_small h
      simp -implicitDefEqProofs only [c4L0, push_cast, Nat.reduceBEq, Nat.reduceLT, Nat.reduceLeDiff, Nat.reduceAdd, Nat.reduceSub, Nat.reduceMul, Nat.reduceEqDiff, reduceCtorEq, ↓reduceIte, Int.reduceEq, Int.reduceLT, Int.reduceLE, Int.reduceNe, Int.reduceAdd, Int.reduceSub, Int.reduceMul, Int.reduceToNat, Nat.reduceShiftRight, Nat.reduceAnd, Nat.reduceBNe]
      refine callF ha ⟨rfl, trivial⟩ rfl rfl ?_
      simp -implicitDefEqProofs only [push_cast, Nat.reduceBEq, Nat.reduceLT, Nat.reduceLeDiff, Nat.reduceAdd, Nat.reduceSub, Nat.reduceMul, Nat.reduceEqDiff, reduceCtorEq, ↓reduceIte, Int.reduceEq, Int.reduceLT, Int.reduceLE, Int.reduceNe, Int.reduceAdd, Int.reduceSub, Int.reduceMul, Int.reduceToNat, Nat.reduceShiftRight, Nat.reduceAnd, Nat.reduceBNe]
      refine callF hr ⟨rfl, trivial⟩ rfl rfl ?_
      simp -implicitDefEqProofs only [push_cast, Nat.reduceBEq, Nat.reduceLT, Nat.reduceLeDiff, Nat.reduceAdd, Nat.reduceSub, Nat.reduceMul, Nat.reduceEqDiff, reduceCtorEq, ↓reduceIte, Int.reduceEq, Int.reduceLT, Int.reduceLE, Int.reduceNe, Int.reduceAdd, Int.reduceSub, Int.reduceMul, Int.reduceToNat, Nat.reduceShiftRight, Nat.reduceAnd, Nat.reduceBNe]
      refine callF (refall_pc h) ⟨rfl, trivial⟩ rfl rfl ?_
      simp -implicitDefEqProofs only [push_cast, Nat.reduceBEq, Nat.reduceLT, Nat.reduceLeDiff, Nat.reduceAdd, Nat.reduceSub, Nat.reduceMul, Nat.reduceEqDiff, reduceCtorEq, ↓reduceIte, Int.reduceEq, Int.reduceLT, Int.reduceLE, Int.reduceNe, Int.reduceAdd, Int.reduceSub, Int.reduceMul, Int.reduceToNat, Nat.reduceShiftRight, Nat.reduceAnd, Nat.reduceBNe]
      refine callF (eqfunc_pc (allL t) hs1 hs2) ⟨rfl, rfl, ⟨rfl, rfl⟩, trivial⟩ rfl rfl ?_
      simp -implicitDefEqProofs only [push_cast, Nat.reduceBEq, Nat.reduceLT, Nat.reduceLeDiff, Nat.reduceAdd, Nat.reduceSub, Nat.reduceMul, Nat.reduceEqDiff, reduceCtorEq, ↓reduceIte, Int.reduceEq, Int.reduceLT, Int.reduceLE, Int.reduceNe, Int.reduceAdd, Int.reduceSub, Int.reduceMul, Int.reduceToNat, Nat.reduceShiftRight, Nat.reduceAnd, Nat.reduceBNe]
      exact ⟨by simp only [inR]; omega, 1, by omega, by omega, wk_c rfl ⟨rfl, rfl, rfl⟩ rfl⟩
  · have ha := All_pc b hb.1 hb.2
    have hr := right_pc b hb.1
    cases hv : validB b with
    | false =>
      rw [hv] at ha hr
      simp -implicitDefEqProofs only [c4L0, push_cast, Nat.reduceBEq, Nat.reduceLT, Nat.reduceLeDiff, Nat.reduceAdd, Nat.reduceSub, Nat.reduceMul, Nat.reduceEqDiff, reduceCtorEq, ↓reduceIte, Int.reduceEq, Int.reduceLT, Int.reduceLE, Int.reduceNe, Int.reduceAdd, Int.reduceSub, Int.reduceMul, Int.reduceToNat, Nat.reduceShiftRight, Nat.reduceAnd, Nat.reduceBNe]
      refine callF ha ⟨rfl, trivial⟩ rfl rfl ?_
      simp -implicitDefEqProofs only [push_cast, Nat.reduceBEq, Nat.reduceLT, Nat.reduceLeDiff, Nat.reduceAdd, Nat.reduceSub, Nat.reduceMul, Nat.reduceEqDiff, reduceCtorEq, ↓reduceIte, Int.reduceEq, Int.reduceLT, Int.reduceLE, Int.reduceNe, Int.reduceAdd, Int.reduceSub, Int.reduceMul, Int.reduceToNat, Nat.reduceShiftRight, Nat.reduceAnd, Nat.reduceBNe]
      refine callF hr ⟨rfl, trivial⟩ rfl rfl ?_
      simp -implicitDefEqProofs only [push_cast, Nat.reduceBEq, Nat.reduceLT, Nat.reduceLeDiff, Nat.reduceAdd, Nat.reduceSub, Nat.reduceMul, Nat.reduceEqDiff, reduceCtorEq, ↓reduceIte, Int.reduceEq, Int.reduceLT, Int.reduceLE, Int.reduceNe, Int.reduceAdd, Int.reduceSub, Int.reduceMul, Int.reduceToNat, Nat.reduceShiftRight, Nat.reduceAnd, Nat.reduceBNe]
      exact ⟨by simp only [inR]; omega, 2, by omega, by omega, wk_c rfl ⟨rfl, rfl, rfl⟩ rfl⟩
    | true =>
      have h := tab_of hv
      rw [hv] at ha hr
      obtain ⟨hs1, hs2⟩ := allL_small h
      simp -implicitDefEqProofs only [c4L0, push_cast, Nat.reduceBEq, Nat.reduceLT, Nat.reduceLeDiff, Nat.reduceAdd, Nat.reduceSub, Nat.reduceMul, Nat.reduceEqDiff, reduceCtorEq, ↓reduceIte, Int.reduceEq, Int.reduceLT, Int.reduceLE, Int.reduceNe, Int.reduceAdd, Int.reduceSub, Int.reduceMul, Int.reduceToNat, Nat.reduceShiftRight, Nat.reduceAnd, Nat.reduceBNe]
      refine callF ha ⟨rfl, trivial⟩ rfl rfl ?_
      simp -implicitDefEqProofs only [push_cast, Nat.reduceBEq, Nat.reduceLT, Nat.reduceLeDiff, Nat.reduceAdd, Nat.reduceSub, Nat.reduceMul, Nat.reduceEqDiff, reduceCtorEq, ↓reduceIte, Int.reduceEq, Int.reduceLT, Int.reduceLE, Int.reduceNe, Int.reduceAdd, Int.reduceSub, Int.reduceMul, Int.reduceToNat, Nat.reduceShiftRight, Nat.reduceAnd, Nat.reduceBNe]
      refine callF hr ⟨rfl, trivial⟩ rfl rfl ?_
      simp -implicitDefEqProofs only [push_cast, Nat.reduceBEq, Nat.reduceLT, Nat.reduceLeDiff, Nat.reduceAdd, Nat.reduceSub, Nat.reduceMul, Nat.reduceEqDiff, reduceCtorEq, ↓reduceIte, Int.reduceEq, Int.reduceLT, Int.reduceLE, Int.reduceNe, Int.reduceAdd, Int.reduceSub, Int.reduceMul, Int.reduceToNat, Nat.reduceShiftRight, Nat.reduceAnd, Nat.reduceBNe]
      refine callF (refall_pc h) ⟨rfl, trivial⟩ rfl rfl ?_
      simp -implicitDefEqProofs only [push_cast, Nat.reduceBEq, Nat.reduceLT, Nat.reduceLeDiff, Nat.reduceAdd, Nat.reduceSub, Nat.reduceMul, Nat.reduceEqDiff, reduceCtorEq, ↓reduceIte, Int.reduceEq, Int.reduceLT, Int.reduceLE, Int.reduceNe, Int.reduceAdd, Int.reduceSub, Int.reduceMul, Int.reduceToNat, Nat.reduceShiftRight, Nat.reduceAnd, Nat.reduceBNe]
      refine callF (eqfunc_pc (allL b) hs1 hs2) ⟨rfl, rfl, ⟨rfl, rfl⟩, trivial⟩ rfl rfl ?_
      simp -implicitDefEqProofs only [push_cast, Nat.reduceBEq, Nat.reduceLT, Nat.reduceLeDiff, Nat.reduceAdd, Nat.reduceSub, Nat.reduceMul, Nat.reduceEqDiff, reduceCtorEq, ↓reduceIte, Int.reduceEq, Int.reduceLT, Int.reduceLE, Int.reduceNe, Int.reduceAdd, Int.reduceSub, Int.reduceMul, Int.reduceToNat, Nat.reduceShiftRight, Nat.reduceAnd, Nat.reduceBNe]
      exact ⟨by simp only [inR]; omega, 2, by omega, by omega, wk_c rfl ⟨rfl, rfl, rfl⟩ rfl⟩
  · have ha := All_pc f hf.1 hf.2
    have hr := right_pc f hf.1
    cases hv : validB f with
    | false =>
      rw [hv] at ha hr
      simp -implicitDefEqProofs only [c4L0, push_cast, Nat.reduceBEq, Nat.reduceLT, Nat.reduceLeDiff, Nat.reduceAdd, Nat.reduceSub, Nat.reduceMul, Nat.reduceEqDiff, reduceCtorEq, ↓reduceIte, Int.reduceEq, Int.reduceLT, Int.reduceLE, Int.reduceNe, Int.reduceAdd, Int.reduceSub, Int.reduceMul, Int.reduceToNat, Nat.reduceShiftRight, Nat.reduceAnd, Nat.reduceBNe]
      refine callF ha ⟨rfl, trivial⟩ rfl rfl ?_
      simp -implicitDefEqProofs only [push_cast, Nat.reduceBEq, Nat.reduceLT, Nat.reduceLeDiff, Nat.reduceAdd, Nat.reduceSub, Nat.reduceMul, Nat.reduceEqDiff, reduceCtorEq, ↓reduceIte, Int.reduceEq, Int.reduceLT, Int.reduceLE, Int.reduceNe, Int.reduceAdd, Int.reduceSub, Int.reduceMul, Int.reduceToNat, Nat.reduceShiftRight, Nat.reduceAnd, Nat.reduceBNe]
      refine callF hr ⟨rfl, trivial⟩ rfl rfl ?_
      simp -implicitDefEqProofs only [push_cast, Nat.reduceBEq, Nat.reduceLT, Nat.reduceLeDiff, Nat.reduceAdd, Nat.reduceSub, Nat.reduceMul, Nat.reduceEqDiff, reduceCtorEq, ↓reduceIte, Int.reduceEq, Int.reduceLT, Int.reduceLE, Int.reduceNe, Int.reduceAdd, Int.reduceSub, Int.reduceMul, Int.reduceToNat, Nat.reduceShiftRight, Nat.reduceAnd, Nat.reduceBNe]
      exact ⟨by simp only [inR]; omega, 3, by omega, by omega, wk_c rfl ⟨rfl, rfl, rfl⟩ rfl⟩
    | true =>
      have h := tab_of hv
      rw [hv] at ha hr
      obtain ⟨hs1, hs2⟩ := allL_small h
      simp -implicitDefEqProofs only [c4L0, push_cast, Nat.reduceBEq, Nat.reduceLT, Nat.reduceLeDiff, Nat.reduceAdd, Nat.reduceSub, Nat.reduceMul, Nat.reduceEqDiff, reduceCtorEq, ↓reduceIte, Int.reduceEq, Int.reduceLT, Int.reduceLE, Int.reduceNe, Int.reduceAdd, Int.reduceSub, Int.reduceMul, Int.reduceToNat, Nat.reduceShiftRight, Nat.reduceAnd, Nat.reduceBNe]
      refine callF ha ⟨rfl, trivial⟩ rfl rfl ?_
      simp -implicitDefEqProofs only [push_cast, Nat.reduceBEq, Nat.reduceLT, Nat.reduceLeDiff, Nat.reduceAdd, Nat.reduceSub, Nat.reduceMul, Nat.reduceEqDiff, reduceCtorEq, ↓reduceIte, Int.reduceEq, Int.reduceLT, Int.reduceLE, Int.reduceNe, Int.reduceAdd, Int.reduceSub, Int.reduceMul, Int.reduceToNat, Nat.reduceShiftRight, Nat.reduceAnd, Nat.reduceBNe]
      refine callF hr ⟨rfl, trivial⟩ rfl rfl ?_
      simp -implicitDefEqProofs only [push_cast, Nat.reduceBEq, Nat.reduceLT, Nat.reduceLeDiff, Nat.reduceAdd, Nat.reduceSub, Nat.reduceMul, Nat.reduceEqDiff, reduceCtorEq, ↓reduceIte, Int.reduceEq, Int.reduceLT, Int.reduceLE, Int.reduceNe, Int.reduceAdd, Int.reduceSub, Int.reduceMul, Int.reduceToNat, Nat.reduceShiftRight, Nat.reduceAnd, Nat.reduceBNe]
      refine callF (refall_pc h) ⟨rfl, trivial⟩ rfl rfl ?_
      simp -implicitDefEqProofs only [push_cast, Nat.reduceBEq, Nat.reduceLT, Nat.reduceLeDiff, Nat.reduceAdd, Nat.reduceSub, Nat.reduceMul, Nat.reduceEqDiff, reduceCtorEq, ↓reduceIte, Int.reduceEq, Int.reduceLT, Int.reduceLE, Int.reduceNe, Int.reduceAdd, Int.reduceSub, Int.reduceMul, Int.reduceToNat, Nat.reduceShiftRight, Nat.reduceAnd, Nat.reduceBNe]
      refine callF (eqfunc_pc (allL f) hs1 hs2) ⟨rfl, rfl, ⟨rfl, rfl⟩, trivial⟩ rfl rfl ?_
      simp -implicitDefEqProofs only [push_cast, Nat.reduceBEq, Nat.reduceLT, Nat.reduceLeDiff, Nat.reduceAdd, Nat.reduceSub, Nat.reduceMul, Nat.reduceEqDiff, reduceCtorEq, ↓reduceIte, Int.reduceEq, Int.reduceLT, Int.reduceLE, Int.reduceNe, Int.reduceAdd, Int.reduceSub, Int.reduceMul, Int.reduceToNat, Nat.reduceShiftRight, Nat.reduceAnd, Nat.reduceBNe]
      exact ⟨by simp only [inR]; omega, 3, by omega, by omega, wk_c rfl ⟨rfl, rfl, rfl⟩ rfl⟩
  · simp -implicitDefEqProofs only [c4L0, push_cast, Nat.reduceBEq, Nat.reduceLT, Nat.reduceLeDiff, Nat.reduceAdd, Nat.reduceSub, Nat.reduceMul, Nat.reduceEqDiff, reduceCtorEq, ↓reduceIte, Int.reduceEq, Int.reduceLT, Int.reduceLE, Int.reduceNe, Int.reduceAdd, Int.reduceSub, Int.reduceMul, Int.reduceToNat, Nat.reduceShiftRight, Nat.reduceAnd, Nat.reduceBNe]
    refine callF works_pc trivial rfl rfl ?_
    simp -implicitDefEqProofs only [push_cast, Nat.reduceBEq, Nat.reduceLT, Nat.reduceLeDiff, Nat.reduceAdd, Nat.reduceSub, Nat.reduceMul, Nat.reduceEqDiff, reduceCtorEq, ↓reduceIte, Int.reduceEq, Int.reduceLT, Int.reduceLE, Int.reduceNe, Int.reduceAdd, Int.reduceSub, Int.reduceMul, Int.reduceToNat, Nat.reduceShiftRight, Nat.reduceAnd, Nat.reduceBNe]
    exact finC rfl rfl

theorem law4_22 (a b m n0 n1 n2 n3 n4 n5 n6 n7 n8 : Int) (x y z u : Int) (at_ n : Int) (raw : List (List Int)) (h : Tab [[x, y], [z, u]]) (ha : r8 at_) (hd : PC Tryd.prog 10 [DD a b [n0, n1, n2, n3, n4, n5, n6, n7, n8] m] (TT [[x, y], [z, u]])) :
    PC Tryd.prog 4 [DD a b [n0, n1, n2, n3, n4, n5, n6, n7, n8] m, .dat (.int .u8) at_, I n, TT raw] (B true) := by
  have hq : 0 ≤ at_.tdiv 4 ∧ at_.tdiv 4 ≤ 255 := by
    have h1 := Int.tdiv_nonneg ha.1 (show (0 : Int) ≤ 4 by omega)
    have h2 := Int.tdiv_le_self 4 ha.1
    have := ha.2
    omega
  have hq2 := ha
  simp only [r8] at hq2
  have hs : okT (fewL raw) := ⟨by simp [fewL]; omega, by intro r hr; simp only [fewL, List.mem_map] at hr; obtain ⟨s, _, rfl⟩ := hr; simp; omega⟩
  have c1 : at_.tmod 2 = 0 ∨ at_.tmod 2 = 1 := by
    have := Int.tmod_nonneg 2 ha.1
    have := Int.tmod_lt_of_pos at_ (b := 2) (by omega)
    omega
  have c2 : (at_.tdiv 4).tmod 2 = 0 ∨ (at_.tdiv 4).tmod 2 = 1 := by
    have := Int.tmod_nonneg 2 hq.1
    have := Int.tmod_lt_of_pos (at_.tdiv 4) (b := 2) (by omega)
    omega
  refine pc_fn hmix h4 rfl ?_
  simp -implicitDefEqProofs only [c4, mapN, List.headD_cons, List.tail_cons, push_cast, Nat.reduceBEq, Nat.reduceLT, Nat.reduceLeDiff, Nat.reduceAdd, Nat.reduceSub, Nat.reduceMul, Nat.reduceEqDiff, reduceCtorEq, ↓reduceIte, Int.reduceEq, Int.reduceLT, Int.reduceLE, Int.reduceNe, Int.reduceAdd, Int.reduceSub, Int.reduceMul, Int.reduceToNat, Nat.reduceShiftRight, Nat.reduceAnd, Nat.reduceBNe]
  refine callF hd ⟨⟨rfl, ⟨rfl, rfl⟩, ⟨rfl, rfl⟩, ⟨⟨rfl, rfl⟩, ⟨rfl, rfl⟩, ⟨rfl, rfl⟩, ⟨rfl, rfl⟩, ⟨rfl, rfl⟩, ⟨rfl, rfl⟩, ⟨rfl, rfl⟩, ⟨rfl, rfl⟩, ⟨rfl, rfl⟩, ⟨rfl, rfl⟩, trivial⟩, ⟨rfl, rfl⟩, rfl⟩, trivial⟩ rfl rfl ?_
  simp -implicitDefEqProofs only [push_cast, Nat.reduceBEq, Nat.reduceLT, Nat.reduceLeDiff, Nat.reduceAdd, Nat.reduceSub, Nat.reduceMul, Nat.reduceEqDiff, reduceCtorEq, ↓reduceIte, Int.reduceEq, Int.reduceLT, Int.reduceLE, Int.reduceNe, Int.reduceAdd, Int.reduceSub, Int.reduceMul, Int.reduceToNat, Nat.reduceShiftRight, Nat.reduceAnd, Nat.reduceBNe]
  refine callA (few22 x y z u) ⟨rfl, trivial⟩ rfl ?_
  rcases c1 with e1 | e1 <;> rcases c2 with e2 | e2
  · simp -implicitDefEqProofs only [few22H, shA, shAs, shB, shRowB, List.map_cons, List.map_nil, e1, e2, push_cast, Nat.reduceBEq, Nat.reduceLT, Nat.reduceLeDiff, Nat.reduceAdd, Nat.reduceSub, Nat.reduceMul, Nat.reduceEqDiff, reduceCtorEq, ↓reduceIte, Int.reduceEq, Int.reduceLT, Int.reduceLE, Int.reduceNe, Int.reduceAdd, Int.reduceSub, Int.reduceMul, Int.reduceToNat, Nat.reduceShiftRight, Nat.reduceAnd, Nat.reduceBNe]
    refine ⟨by simp only [inR]; omega, by simp only [inR]; omega, by simp only [inR]; omega, ?_⟩
    refine callF (few_pc raw) ⟨rfl, trivial⟩ rfl rfl ?_
    simp -implicitDefEqProofs only [push_cast, Nat.reduceBEq, Nat.reduceLT, Nat.reduceLeDiff, Nat.reduceAdd, Nat.reduceSub, Nat.reduceMul, Nat.reduceEqDiff, reduceCtorEq, ↓reduceIte, Int.reduceEq, Int.reduceLT, Int.reduceLE, Int.reduceNe, Int.reduceAdd, Int.reduceSub, Int.reduceMul, Int.reduceToNat, Nat.reduceShiftRight, Nat.reduceAnd, Nat.reduceBNe]
    refine LoopW.wk (wk_all (tm' := [(42, I 0), (41, .agg [TT [[x, y], [z, u]], TT [[n, y], [z, u]], TT (fewL raw)])]) ⟨rfl, ⟨rfl, ⟨rfl, ⟨⟨rfl, Nat.le_refl _⟩, rfl⟩, ⟨⟨rfl, Nat.le_refl _⟩, rfl⟩, trivial⟩, rfl, trivial⟩, trivial⟩) ?_
    exact law4_loop _ _ _ ⟨by simp, by simp⟩ ⟨by simp, by simp⟩ hs
  · simp -implicitDefEqProofs only [few22H, shA, shAs, shB, shRowB, List.map_cons, List.map_nil, e1, e2, push_cast, Nat.reduceBEq, Nat.reduceLT, Nat.reduceLeDiff, Nat.reduceAdd, Nat.reduceSub, Nat.reduceMul, Nat.reduceEqDiff, reduceCtorEq, ↓reduceIte, Int.reduceEq, Int.reduceLT, Int.reduceLE, Int.reduceNe, Int.reduceAdd, Int.reduceSub, Int.reduceMul, Int.reduceToNat, Nat.reduceShiftRight, Nat.reduceAnd, Nat.reduceBNe]
    refine ⟨by simp only [inR]; omega, by simp only [inR]; omega, by simp only [inR]; omega, ?_⟩
    refine callF (few_pc raw) ⟨rfl, trivial⟩ rfl rfl ?_
    simp -implicitDefEqProofs only [push_cast, Nat.reduceBEq, Nat.reduceLT, Nat.reduceLeDiff, Nat.reduceAdd, Nat.reduceSub, Nat.reduceMul, Nat.reduceEqDiff, reduceCtorEq, ↓reduceIte, Int.reduceEq, Int.reduceLT, Int.reduceLE, Int.reduceNe, Int.reduceAdd, Int.reduceSub, Int.reduceMul, Int.reduceToNat, Nat.reduceShiftRight, Nat.reduceAnd, Nat.reduceBNe]
    refine LoopW.wk (wk_all (tm' := [(42, I 0), (41, .agg [TT [[x, y], [z, u]], TT [[x, n], [z, u]], TT (fewL raw)])]) ⟨rfl, ⟨rfl, ⟨rfl, ⟨⟨rfl, Nat.le_refl _⟩, rfl⟩, ⟨⟨rfl, Nat.le_refl _⟩, rfl⟩, trivial⟩, rfl, trivial⟩, trivial⟩) ?_
    exact law4_loop _ _ _ ⟨by simp, by simp⟩ ⟨by simp, by simp⟩ hs
  · simp -implicitDefEqProofs only [few22H, shA, shAs, shB, shRowB, List.map_cons, List.map_nil, e1, e2, push_cast, Nat.reduceBEq, Nat.reduceLT, Nat.reduceLeDiff, Nat.reduceAdd, Nat.reduceSub, Nat.reduceMul, Nat.reduceEqDiff, reduceCtorEq, ↓reduceIte, Int.reduceEq, Int.reduceLT, Int.reduceLE, Int.reduceNe, Int.reduceAdd, Int.reduceSub, Int.reduceMul, Int.reduceToNat, Nat.reduceShiftRight, Nat.reduceAnd, Nat.reduceBNe]
    refine ⟨by simp only [inR]; omega, by simp only [inR]; omega, by simp only [inR]; omega, ?_⟩
    refine callF (few_pc raw) ⟨rfl, trivial⟩ rfl rfl ?_
    simp -implicitDefEqProofs only [push_cast, Nat.reduceBEq, Nat.reduceLT, Nat.reduceLeDiff, Nat.reduceAdd, Nat.reduceSub, Nat.reduceMul, Nat.reduceEqDiff, reduceCtorEq, ↓reduceIte, Int.reduceEq, Int.reduceLT, Int.reduceLE, Int.reduceNe, Int.reduceAdd, Int.reduceSub, Int.reduceMul, Int.reduceToNat, Nat.reduceShiftRight, Nat.reduceAnd, Nat.reduceBNe]
    refine LoopW.wk (wk_all (tm' := [(42, I 0), (41, .agg [TT [[x, y], [z, u]], TT [[x, y], [n, u]], TT (fewL raw)])]) ⟨rfl, ⟨rfl, ⟨rfl, ⟨⟨rfl, Nat.le_refl _⟩, rfl⟩, ⟨⟨rfl, Nat.le_refl _⟩, rfl⟩, trivial⟩, rfl, trivial⟩, trivial⟩) ?_
    exact law4_loop _ _ _ ⟨by simp, by simp⟩ ⟨by simp, by simp⟩ hs
  · simp -implicitDefEqProofs only [few22H, shA, shAs, shB, shRowB, List.map_cons, List.map_nil, e1, e2, push_cast, Nat.reduceBEq, Nat.reduceLT, Nat.reduceLeDiff, Nat.reduceAdd, Nat.reduceSub, Nat.reduceMul, Nat.reduceEqDiff, reduceCtorEq, ↓reduceIte, Int.reduceEq, Int.reduceLT, Int.reduceLE, Int.reduceNe, Int.reduceAdd, Int.reduceSub, Int.reduceMul, Int.reduceToNat, Nat.reduceShiftRight, Nat.reduceAnd, Nat.reduceBNe]
    refine ⟨by simp only [inR]; omega, by simp only [inR]; omega, by simp only [inR]; omega, ?_⟩
    refine callF (few_pc raw) ⟨rfl, trivial⟩ rfl rfl ?_
    simp -implicitDefEqProofs only [push_cast, Nat.reduceBEq, Nat.reduceLT, Nat.reduceLeDiff, Nat.reduceAdd, Nat.reduceSub, Nat.reduceMul, Nat.reduceEqDiff, reduceCtorEq, ↓reduceIte, Int.reduceEq, Int.reduceLT, Int.reduceLE, Int.reduceNe, Int.reduceAdd, Int.reduceSub, Int.reduceMul, Int.reduceToNat, Nat.reduceShiftRight, Nat.reduceAnd, Nat.reduceBNe]
    refine LoopW.wk (wk_all (tm' := [(42, I 0), (41, .agg [TT [[x, y], [z, u]], TT [[x, y], [z, n]], TT (fewL raw)])]) ⟨rfl, ⟨rfl, ⟨rfl, ⟨⟨rfl, Nat.le_refl _⟩, rfl⟩, ⟨⟨rfl, Nat.le_refl _⟩, rfl⟩, trivial⟩, rfl, trivial⟩, trivial⟩) ?_
    exact law4_loop _ _ _ ⟨by simp, by simp⟩ ⟨by simp, by simp⟩ hs
theorem law4_23 (a b m n0 n1 n2 n3 n4 n5 n6 n7 n8 : Int) (x y z u v w : Int) (at_ n : Int) (raw : List (List Int)) (h : Tab [[x, y, z], [u, v, w]]) (ha : r8 at_) (hd : PC Tryd.prog 10 [DD a b [n0, n1, n2, n3, n4, n5, n6, n7, n8] m] (TT [[x, y, z], [u, v, w]])) :
    PC Tryd.prog 4 [DD a b [n0, n1, n2, n3, n4, n5, n6, n7, n8] m, .dat (.int .u8) at_, I n, TT raw] (B true) := by
  have hq : 0 ≤ at_.tdiv 4 ∧ at_.tdiv 4 ≤ 255 := by
    have h1 := Int.tdiv_nonneg ha.1 (show (0 : Int) ≤ 4 by omega)
    have h2 := Int.tdiv_le_self 4 ha.1
    have := ha.2
    omega
  have hq2 := ha
  simp only [r8] at hq2
  have hs : okT (fewL raw) := ⟨by simp [fewL]; omega, by intro r hr; simp only [fewL, List.mem_map] at hr; obtain ⟨s, _, rfl⟩ := hr; simp; omega⟩
  have c1 : at_.tmod 2 = 0 ∨ at_.tmod 2 = 1 := by
    have := Int.tmod_nonneg 2 ha.1
    have := Int.tmod_lt_of_pos at_ (b := 2) (by omega)
    omega
  have c2 : (at_.tdiv 4).tmod 3 = 0 ∨ (at_.tdiv 4).tmod 3 = 1 ∨ (at_.tdiv 4).tmod 3 = 2 := by
    have := Int.tmod_nonneg 3 hq.1
    have := Int.tmod_lt_of_pos (at_.tdiv 4) (b := 3) (by omega)
    omega
  refine pc_fn hmix h4 rfl ?_
  simp -implicitDefEqProofs only [c4, mapN, List.headD_cons, List.tail_cons, push_cast, Nat.reduceBEq, Nat.reduceLT, Nat.reduceLeDiff, Nat.reduceAdd, Nat.reduceSub, Nat.reduceMul, Nat.reduceEqDiff, reduceCtorEq, ↓reduceIte, Int.reduceEq, Int.reduceLT, Int.reduceLE, Int.reduceNe, Int.reduceAdd, Int.reduceSub, Int.reduceMul, Int.reduceToNat, Nat.reduceShiftRight, Nat.reduceAnd, Nat.reduceBNe]
  refine callF hd ⟨⟨rfl, ⟨rfl, rfl⟩, ⟨rfl, rfl⟩, ⟨⟨rfl, rfl⟩, ⟨rfl, rfl⟩, ⟨rfl, rfl⟩, ⟨rfl, rfl⟩, ⟨rfl, rfl⟩, ⟨rfl, rfl⟩, ⟨rfl, rfl⟩, ⟨rfl, rfl⟩, ⟨rfl, rfl⟩, ⟨rfl, rfl⟩, trivial⟩, ⟨rfl, rfl⟩, rfl⟩, trivial⟩ rfl rfl ?_
  simp -implicitDefEqProofs only [push_cast, Nat.reduceBEq, Nat.reduceLT, Nat.reduceLeDiff, Nat.reduceAdd, Nat.reduceSub, Nat.reduceMul, Nat.reduceEqDiff, reduceCtorEq, ↓reduceIte, Int.reduceEq, Int.reduceLT, Int.reduceLE, Int.reduceNe, Int.reduceAdd, Int.reduceSub, Int.reduceMul, Int.reduceToNat, Nat.reduceShiftRight, Nat.reduceAnd, Nat.reduceBNe]
  refine callA (few23 x y z u v w) ⟨rfl, trivial⟩ rfl ?_
  rcases c1 with e1 | e1 <;> rcases c2 with e2 | e2 | e2
  · simp -implicitDefEqProofs only [few23H, shA, shAs, shB, shRowB, List.map_cons, List.map_nil, e1, e2, push_cast, Nat.reduceBEq, Nat.reduceLT, Nat.reduceLeDiff, Nat.reduceAdd, Nat.reduceSub, Nat.reduceMul, Nat.reduceEqDiff, reduceCtorEq, ↓reduceIte, Int.reduceEq, Int.reduceLT, Int.reduceLE, Int.reduceNe, Int.reduceAdd, Int.reduceSub, Int.reduceMul, Int.reduceToNat, Nat.reduceShiftRight, Nat.reduceAnd, Nat.reduceBNe]
    refine ⟨by simp only [inR]; omega, by simp only [inR]; omega, by simp only [inR]; omega, ?_⟩
    refine callF (few_pc raw) ⟨rfl, trivial⟩ rfl rfl ?_
    simp -implicitDefEqProofs only [push_cast, Nat.reduceBEq, Nat.reduceLT, Nat.reduceLeDiff, Nat.reduceAdd, Nat.reduceSub, Nat.reduceMul, Nat.reduceEqDiff, reduceCtorEq, ↓reduceIte, Int.reduceEq, Int.reduceLT, Int.reduceLE, Int.reduceNe, Int.reduceAdd, Int.reduceSub, Int.reduceMul, Int.reduceToNat, Nat.reduceShiftRight, Nat.reduceAnd, Nat.reduceBNe]
    refine LoopW.wk (wk_all (tm' := [(42, I 0), (41, .agg [TT [[x, y, z], [u, v, w]], TT [[n, y, z], [u, v, w]], TT (fewL raw)])]) ⟨rfl, ⟨rfl, ⟨rfl, ⟨⟨rfl, Nat.le_refl _⟩, rfl⟩, ⟨⟨rfl, Nat.le_refl _⟩, rfl⟩, trivial⟩, rfl, trivial⟩, trivial⟩) ?_
    exact law4_loop _ _ _ ⟨by simp, by simp⟩ ⟨by simp, by simp⟩ hs
  · simp -implicitDefEqProofs only [few23H, shA, shAs, shB, shRowB, List.map_cons, List.map_nil, e1, e2, push_cast, Nat.reduceBEq, Nat.reduceLT, Nat.reduceLeDiff, Nat.reduceAdd, Nat.reduceSub, Nat.reduceMul, Nat.reduceEqDiff, reduceCtorEq, ↓reduceIte, Int.reduceEq, Int.reduceLT, Int.reduceLE, Int.reduceNe, Int.reduceAdd, Int.reduceSub, Int.reduceMul, Int.reduceToNat, Nat.reduceShiftRight, Nat.reduceAnd, Nat.reduceBNe]
    refine ⟨by simp only [inR]; omega, by simp only [inR]; omega, by simp only [inR]; omega, ?_⟩
    refine callF (few_pc raw) ⟨rfl, trivial⟩ rfl rfl ?_
    simp -implicitDefEqProofs only [push_cast, Nat.reduceBEq, Nat.reduceLT, Nat.reduceLeDiff, Nat.reduceAdd, Nat.reduceSub, Nat.reduceMul, Nat.reduceEqDiff, reduceCtorEq, ↓reduceIte, Int.reduceEq, Int.reduceLT, Int.reduceLE, Int.reduceNe, Int.reduceAdd, Int.reduceSub, Int.reduceMul, Int.reduceToNat, Nat.reduceShiftRight, Nat.reduceAnd, Nat.reduceBNe]
    refine LoopW.wk (wk_all (tm' := [(42, I 0), (41, .agg [TT [[x, y, z], [u, v, w]], TT [[x, n, z], [u, v, w]], TT (fewL raw)])]) ⟨rfl, ⟨rfl, ⟨rfl, ⟨⟨rfl, Nat.le_refl _⟩, rfl⟩, ⟨⟨rfl, Nat.le_refl _⟩, rfl⟩, trivial⟩, rfl, trivial⟩, trivial⟩) ?_
    exact law4_loop _ _ _ ⟨by simp, by simp⟩ ⟨by simp, by simp⟩ hs
  · simp -implicitDefEqProofs only [few23H, shA, shAs, shB, shRowB, List.map_cons, List.map_nil, e1, e2, push_cast, Nat.reduceBEq, Nat.reduceLT, Nat.reduceLeDiff, Nat.reduceAdd, Nat.reduceSub, Nat.reduceMul, Nat.reduceEqDiff, reduceCtorEq, ↓reduceIte, Int.reduceEq, Int.reduceLT, Int.reduceLE, Int.reduceNe, Int.reduceAdd, Int.reduceSub, Int.reduceMul, Int.reduceToNat, Nat.reduceShiftRight, Nat.reduceAnd, Nat.reduceBNe]
    refine ⟨by simp only [inR]; omega, by simp only [inR]; omega, by simp only [inR]; omega, ?_⟩
    refine callF (few_pc raw) ⟨rfl, trivial⟩ rfl rfl ?_
    simp -implicitDefEqProofs only [push_cast, Nat.reduceBEq, Nat.reduceLT, Nat.reduceLeDiff, Nat.reduceAdd, Nat.reduceSub, Nat.reduceMul, Nat.reduceEqDiff, reduceCtorEq, ↓reduceIte, Int.reduceEq, Int.reduceLT, Int.reduceLE, Int.reduceNe, Int.reduceAdd, Int.reduceSub, Int.reduceMul, Int.reduceToNat, Nat.reduceShiftRight, Nat.reduceAnd, Nat.reduceBNe]
    refine LoopW.wk (wk_all (tm' := [(42, I 0), (41, .agg [TT [[x, y, z], [u, v, w]], TT [[x, y, n], [u, v, w]], TT (fewL raw)])]) ⟨rfl, ⟨rfl, ⟨rfl, ⟨⟨rfl, Nat.le_refl _⟩, rfl⟩, ⟨⟨rfl, Nat.le_refl _⟩, rfl⟩, trivial⟩, rfl, trivial⟩, trivial⟩) ?_
    exact law4_loop _ _ _ ⟨by simp, by simp⟩ ⟨by simp, by simp⟩ hs
  · simp -implicitDefEqProofs only [few23H, shA, shAs, shB, shRowB, List.map_cons, List.map_nil, e1, e2, push_cast, Nat.reduceBEq, Nat.reduceLT, Nat.reduceLeDiff, Nat.reduceAdd, Nat.reduceSub, Nat.reduceMul, Nat.reduceEqDiff, reduceCtorEq, ↓reduceIte, Int.reduceEq, Int.reduceLT, Int.reduceLE, Int.reduceNe, Int.reduceAdd, Int.reduceSub, Int.reduceMul, Int.reduceToNat, Nat.reduceShiftRight, Nat.reduceAnd, Nat.reduceBNe]
    refine ⟨by simp only [inR]; omega, by simp only [inR]; omega, by simp only [inR]; omega, ?_⟩
    refine callF (few_pc raw) ⟨rfl, trivial⟩ rfl rfl ?_
    simp -implicitDefEqProofs only [push_cast, Nat.reduceBEq, Nat.reduceLT, Nat.reduceLeDiff, Nat.reduceAdd, Nat.reduceSub, Nat.reduceMul, Nat.reduceEqDiff, reduceCtorEq, ↓reduceIte, Int.reduceEq, Int.reduceLT, Int.reduceLE, Int.reduceNe, Int.reduceAdd, Int.reduceSub, Int.reduceMul, Int.reduceToNat, Nat.reduceShiftRight, Nat.reduceAnd, Nat.reduceBNe]
    refine LoopW.wk (wk_all (tm' := [(42, I 0), (41, .agg [TT [[x, y, z], [u, v, w]], TT [[x, y, z], [n, v, w]], TT (fewL raw)])]) ⟨rfl, ⟨rfl, ⟨rfl, ⟨⟨rfl, Nat.le_refl _⟩, rfl⟩, ⟨⟨rfl, Nat.le_refl _⟩, rfl⟩, trivial⟩, rfl, trivial⟩, trivial⟩) ?_
    exact law4_loop _ _ _ ⟨by simp, by simp⟩ ⟨by simp, by simp⟩ hs
  · simp -implicitDefEqProofs only [few23H, shA, shAs, shB, shRowB, List.map_cons, List.map_nil, e1, e2, push_cast, Nat.reduceBEq, Nat.reduceLT, Nat.reduceLeDiff, Nat.reduceAdd, Nat.reduceSub, Nat.reduceMul, Nat.reduceEqDiff, reduceCtorEq, ↓reduceIte, Int.reduceEq, Int.reduceLT, Int.reduceLE, Int.reduceNe, Int.reduceAdd, Int.reduceSub, Int.reduceMul, Int.reduceToNat, Nat.reduceShiftRight, Nat.reduceAnd, Nat.reduceBNe]
    refine ⟨by simp only [inR]; omega, by simp only [inR]; omega, by simp only [inR]; omega, ?_⟩
    refine callF (few_pc raw) ⟨rfl, trivial⟩ rfl rfl ?_
    simp -implicitDefEqProofs only [push_cast, Nat.reduceBEq, Nat.reduceLT, Nat.reduceLeDiff, Nat.reduceAdd, Nat.reduceSub, Nat.reduceMul, Nat.reduceEqDiff, reduceCtorEq, ↓reduceIte, Int.reduceEq, Int.reduceLT, Int.reduceLE, Int.reduceNe, Int.reduceAdd, Int.reduceSub, Int.reduceMul, Int.reduceToNat, Nat.reduceShiftRight, Nat.reduceAnd, Nat.reduceBNe]
    refine LoopW.wk (wk_all (tm' := [(42, I 0), (41, .agg [TT [[x, y, z], [u, v, w]], TT [[x, y, z], [u, n, w]], TT (fewL raw)])]) ⟨rfl, ⟨rfl, ⟨rfl, ⟨⟨rfl, Nat.le_refl _⟩, rfl⟩, ⟨⟨rfl, Nat.le_refl _⟩, rfl⟩, trivial⟩, rfl, trivial⟩, trivial⟩) ?_
    exact law4_loop _ _ _ ⟨by simp, by simp⟩ ⟨by simp, by simp⟩ hs
  · simp -implicitDefEqProofs only [few23H, shA, shAs, shB, shRowB, List.map_cons, List.map_nil, e1, e2, push_cast, Nat.reduceBEq, Nat.reduceLT, Nat.reduceLeDiff, Nat.reduceAdd, Nat.reduceSub, Nat.reduceMul, Nat.reduceEqDiff, reduceCtorEq, ↓reduceIte, Int.reduceEq, Int.reduceLT, Int.reduceLE, Int.reduceNe, Int.reduceAdd, Int.reduceSub, Int.reduceMul, Int.reduceToNat, Nat.reduceShiftRight, Nat.reduceAnd, Nat.reduceBNe]
    refine ⟨by simp only [inR]; omega, by simp only [inR]; omega, by simp only [inR]; omega, ?_⟩
    refine callF (few_pc raw) ⟨rfl, trivial⟩ rfl rfl ?_
    simp -implicitDefEqProofs only [push_cast, Nat.reduceBEq, Nat.reduceLT, Nat.reduceLeDiff, Nat.reduceAdd, Nat.reduceSub, Nat.reduceMul, Nat.reduceEqDiff, reduceCtorEq, ↓reduceIte, Int.reduceEq, Int.reduceLT, Int.reduceLE, Int.reduceNe, Int.reduceAdd, Int.reduceSub, Int.reduceMul, Int.reduceToNat, Nat.reduceShiftRight, Nat.reduceAnd, Nat.reduceBNe]
    refine LoopW.wk (wk_all (tm' := [(42, I 0), (41, .agg [TT [[x, y, z], [u, v, w]], TT [[x, y, z], [u, v, n]], TT (fewL raw)])]) ⟨rfl, ⟨rfl, ⟨rfl, ⟨⟨rfl, Nat.le_refl _⟩, rfl⟩, ⟨⟨rfl, Nat.le_refl _⟩, rfl⟩, trivial⟩, rfl, trivial⟩, trivial⟩) ?_
    exact law4_loop _ _ _ ⟨by simp, by simp⟩ ⟨by simp, by simp⟩ hs
theorem law4_32 (a b m n0 n1 n2 n3 n4 n5 n6 n7 n8 : Int) (x y z u v w : Int) (at_ n : Int) (raw : List (List Int)) (h : Tab [[x, y], [z, u], [v, w]]) (ha : r8 at_) (hd : PC Tryd.prog 10 [DD a b [n0, n1, n2, n3, n4, n5, n6, n7, n8] m] (TT [[x, y], [z, u], [v, w]])) :
    PC Tryd.prog 4 [DD a b [n0, n1, n2, n3, n4, n5, n6, n7, n8] m, .dat (.int .u8) at_, I n, TT raw] (B true) := by
  have hq : 0 ≤ at_.tdiv 4 ∧ at_.tdiv 4 ≤ 255 := by
    have h1 := Int.tdiv_nonneg ha.1 (show (0 : Int) ≤ 4 by omega)
    have h2 := Int.tdiv_le_self 4 ha.1
    have := ha.2
    omega
  have hq2 := ha
  simp only [r8] at hq2
  have hs : okT (fewL raw) := ⟨by simp [fewL]; omega, by intro r hr; simp only [fewL, List.mem_map] at hr; obtain ⟨s, _, rfl⟩ := hr; simp; omega⟩
  have c1 : at_.tmod 3 = 0 ∨ at_.tmod 3 = 1 ∨ at_.tmod 3 = 2 := by
    have := Int.tmod_nonneg 3 ha.1
    have := Int.tmod_lt_of_pos at_ (b := 3) (by omega)
    omega
  have c2 : (at_.tdiv 4).tmod 2 = 0 ∨ (at_.tdiv 4).tmod 2 = 1 := by
    have := Int.tmod_nonneg 2 hq.1
    have := Int.tmod_lt_of_pos (at_.tdiv 4) (b := 2) (by omega)
    omega
  refine pc_fn hmix h4 rfl ?_
  simp -implicitDefEqProofs only [c4, mapN, List.headD_cons, List.tail_cons, push_cast, Nat.reduceBEq, Nat.reduceLT, Nat.reduceLeDiff, Nat.reduceAdd, Nat.reduceSub, Nat.reduceMul, Nat.reduceEqDiff, reduceCtorEq, ↓reduceIte, Int.reduceEq, Int.reduceLT, Int.reduceLE, Int.reduceNe, Int.reduceAdd, Int.reduceSub, Int.reduceMul, Int.reduceToNat, Nat.reduceShiftRight, Nat.reduceAnd, Nat.reduceBNe]
  refine callF hd ⟨⟨rfl, ⟨rfl, rfl⟩, ⟨rfl, rfl⟩, ⟨⟨rfl, rfl⟩, ⟨rfl, rfl⟩, ⟨rfl, rfl⟩, ⟨rfl, rfl⟩, ⟨rfl, rfl⟩, ⟨rfl, rfl⟩, ⟨rfl, rfl⟩, ⟨rfl, rfl⟩, ⟨rfl, rfl⟩, ⟨rfl, rfl⟩, trivial⟩, ⟨rfl, rfl⟩, rfl⟩, trivial⟩ rfl rfl ?_
  simp -implicitDefEqProofs only [push_cast, Nat.reduceBEq, Nat.reduceLT, Nat.reduceLeDiff, Nat.reduceAdd, Nat.reduceSub, Nat.reduceMul, Nat.reduceEqDiff, reduceCtorEq, ↓reduceIte, Int.reduceEq, Int.reduceLT, Int.reduceLE, Int.reduceNe, Int.reduceAdd, Int.reduceSub, Int.reduceMul, Int.reduceToNat, Nat.reduceShiftRight, Nat.reduceAnd, Nat.reduceBNe]
  refine callA (few32 x y z u v w) ⟨rfl, trivial⟩ rfl ?_
  rcases c1 with e1 | e1 | e1 <;> rcases c2 with e2 | e2
  · simp -implicitDefEqProofs only [few32H, shA, shAs, shB, shRowB, List.map_cons, List.map_nil, e1, e2, push_cast, Nat.reduceBEq, Nat.reduceLT, Nat.reduceLeDiff, Nat.reduceAdd, Nat.reduceSub, Nat.reduceMul, Nat.reduceEqDiff, reduceCtorEq, ↓reduceIte, Int.reduceEq, Int.reduceLT, Int.reduceLE, Int.reduceNe, Int.reduceAdd, Int.reduceSub, Int.reduceMul, Int.reduceToNat, Nat.reduceShiftRight, Nat.reduceAnd, Nat.reduceBNe]
    refine ⟨by simp only [inR]; omega, by simp only [inR]; omega, by simp only [inR]; omega, ?_⟩
    refine callF (few_pc raw) ⟨rfl, trivial⟩ rfl rfl ?_
    simp -implicitDefEqProofs only [push_cast, Nat.reduceBEq, Nat.reduceLT, Nat.reduceLeDiff, Nat.reduceAdd, Nat.reduceSub, Nat.reduceMul, Nat.reduceEqDiff, reduceCtorEq, ↓reduceIte, Int.reduceEq, Int.reduceLT, Int.reduceLE, Int.reduceNe, Int.reduceAdd, Int.reduceSub, Int.reduceMul, Int.reduceToNat, Nat.reduceShiftRight, Nat.reduceAnd, Nat.reduceBNe]
    refine LoopW.wk (wk_all (tm' := [(42, I 0), (41, .agg [TT [[x, y], [z, u], [v, w]], TT [[n, y], [z, u], [v, w]], TT (fewL raw)])]) ⟨rfl, ⟨rfl, ⟨rfl, ⟨⟨rfl, Nat.le_refl _⟩, rfl⟩, ⟨⟨rfl, Nat.le_refl _⟩, rfl⟩, ⟨⟨rfl, Nat.le_refl _⟩, rfl⟩, trivial⟩, rfl, trivial⟩, trivial⟩) ?_
    exact law4_loop _ _ _ ⟨by simp, by simp⟩ ⟨by simp, by simp⟩ hs
  · simp -implicitDefEqProofs only [few32H, shA, shAs, shB, shRowB, List.map_cons, List.map_nil, e1, e2, push_cast, Nat.reduceBEq, Nat.reduceLT, Nat.reduceLeDiff, Nat.reduceAdd, Nat.reduceSub, Nat.reduceMul, Nat.reduceEqDiff, reduceCtorEq, ↓reduceIte, Int.reduceEq, Int.reduceLT, Int.reduceLE, Int.reduceNe, Int.reduceAdd, Int.reduceSub, Int.reduceMul, Int.reduceToNat, Nat.reduceShiftRight, Nat.reduceAnd, Nat.reduceBNe]
    refine ⟨by simp only [inR]; omega, by simp only [inR]; omega, by simp only [inR]; omega, ?_⟩
    refine callF (few_pc raw) ⟨rfl, trivial⟩ rfl rfl ?_
    simp -implicitDefEqProofs only [push_cast, Nat.reduceBEq, Nat.reduceLT, Nat.reduceLeDiff, Nat.reduceAdd, Nat.reduceSub, Nat.reduceMul, Nat.reduceEqDiff, reduceCtorEq, ↓reduceIte, Int.reduceEq, Int.reduceLT, Int.reduceLE, Int.reduceNe, Int.reduceAdd, Int.reduceSub, Int.reduceMul, Int.reduceToNat, Nat.reduceShiftRight, Nat.reduceAnd, Nat.reduceBNe]
    refine LoopW.wk (wk_all (tm' := [(42, I 0), (41, .agg [TT [[x, y], [z, u], [v, w]], TT [[x, n], [z, u], [v, w]], TT (fewL raw)])]) ⟨rfl, ⟨rfl, ⟨rfl, ⟨⟨rfl, Nat.le_refl _⟩, rfl⟩, ⟨⟨rfl, Nat.le_refl _⟩, rfl⟩, ⟨⟨rfl, Nat.le_refl _⟩, rfl⟩, trivial⟩, rfl, trivial⟩, trivial⟩) ?_
    exact law4_loop _ _ _ ⟨by simp, by simp⟩ ⟨by simp, by simp⟩ hs
  · simp -implicitDefEqProofs only [few32H, shA, shAs, shB, shRowB, List.map_cons, List.map_nil, e1, e2, push_cast, Nat.reduceBEq, Nat.reduceLT, Nat.reduceLeDiff, Nat.reduceAdd, Nat.reduceSub, Nat.reduceMul, Nat.reduceEqDiff, reduceCtorEq, ↓reduceIte, Int.reduceEq, Int.reduceLT, Int.reduceLE, Int.reduceNe, Int.reduceAdd, Int.reduceSub, Int.reduceMul, Int.reduceToNat, Nat.reduceShiftRight, Nat.reduceAnd, Nat.reduceBNe]
    refine ⟨by simp only [inR]; omega, by simp only [inR]; omega, by simp only [inR]; omega, ?_⟩
    refine callF (few_pc raw) ⟨rfl, trivial⟩ rfl rfl ?_
    simp -implicitDefEqProofs only [push_cast, Nat.reduceBEq, Nat.reduceLT, Nat.reduceLeDiff, Nat.reduceAdd, Nat.reduceSub, Nat.reduceMul, Nat.reduceEqDiff, reduceCtorEq, ↓reduceIte, Int.reduceEq, Int.reduceLT, Int.reduceLE, Int.reduceNe, Int.reduceAdd, Int.reduceSub, Int.reduceMul, Int.reduceToNat, Nat.reduceShiftRight, Nat.reduceAnd, Nat.reduceBNe]
    refine LoopW.wk (wk_all (tm' := [(42, I 0), (41, .agg [TT [[x, y], [z, u], [v, w]], TT [[x, y], [n, u], [v, w]], TT (fewL raw)])]) ⟨rfl, ⟨rfl, ⟨rfl, ⟨⟨rfl, Nat.le_refl _⟩, rfl⟩, ⟨⟨rfl, Nat.le_refl _⟩, rfl⟩, ⟨⟨rfl, Nat.le_refl _⟩, rfl⟩, trivial⟩, rfl, trivial⟩, trivial⟩) ?_
    exact law4_loop _ _ _ ⟨by simp, by simp⟩ ⟨by simp, by simp⟩ hs
  · simp -implicitDefEqProofs only [few32H, shA, shAs, shB, shRowB, List.map_cons, List.map_nil, e1, e2, push_cast, Nat.reduceBEq, Nat.reduceLT, Nat.reduceLeDiff, Nat.reduceAdd, Nat.reduceSub, Nat.reduceMul, Nat.reduceEqDiff, reduceCtorEq, ↓reduceIte, Int.reduceEq, Int.reduceLT, Int.reduceLE, Int.reduceNe, Int.reduceAdd, Int.reduceSub, Int.reduceMul, Int.reduceToNat, Nat.reduceShiftRight, Nat.reduceAnd, Nat.reduceBNe]
    refine ⟨by simp only [inR]; omega, by simp only [inR]; omega, by simp only [inR]; omega, ?_⟩
    refine callF (few_pc raw) ⟨rfl, trivial⟩ rfl rfl ?_
    simp -implicitDefEqProofs only [push_cast, Nat.reduceBEq, Nat.reduceLT, Nat.reduceLeDiff, Nat.reduceAdd, Nat.reduceSub, Nat.reduceMul, Nat.reduceEqDiff, reduceCtorEq, ↓reduceIte, Int.reduceEq, Int.reduceLT, Int.reduceLE, Int.reduceNe, Int.reduceAdd, Int.reduceSub, Int.reduceMul, Int.reduceToNat, Nat.reduceShiftRight, Nat.reduceAnd, Nat.reduceBNe]
    refine LoopW.wk (wk_all (tm' := [(42, I 0), (41, .agg [TT [[x, y], [z, u], [v, w]], TT [[x, y], [z, n], [v, w]], TT (fewL raw)])]) ⟨rfl, ⟨rfl, ⟨rfl, ⟨⟨rfl, Nat.le_refl _⟩, rfl⟩, ⟨⟨rfl, Nat.le_refl _⟩, rfl⟩, ⟨⟨rfl, Nat.le_refl _⟩, rfl⟩, trivial⟩, rfl, trivial⟩, trivial⟩) ?_
    exact law4_loop _ _ _ ⟨by simp, by simp⟩ ⟨by simp, by simp⟩ hs
  · simp -implicitDefEqProofs only [few32H, shA, shAs, shB, shRowB, List.map_cons, List.map_nil, e1, e2, push_cast, Nat.reduceBEq, Nat.reduceLT, Nat.reduceLeDiff, Nat.reduceAdd, Nat.reduceSub, Nat.reduceMul, Nat.reduceEqDiff, reduceCtorEq, ↓reduceIte, Int.reduceEq, Int.reduceLT, Int.reduceLE, Int.reduceNe, Int.reduceAdd, Int.reduceSub, Int.reduceMul, Int.reduceToNat, Nat.reduceShiftRight, Nat.reduceAnd, Nat.reduceBNe]
    refine ⟨by simp only [inR]; omega, by simp only [inR]; omega, by simp only [inR]; omega, ?_⟩
    refine callF (few_pc raw) ⟨rfl, trivial⟩ rfl rfl ?_
    simp -implicitDefEqProofs only [push_cast, Nat.reduceBEq, Nat.reduceLT, Nat.reduceLeDiff, Nat.reduceAdd, Nat.reduceSub, Nat.reduceMul, Nat.reduceEqDiff, reduceCtorEq, ↓reduceIte, Int.reduceEq, Int.reduceLT, Int.reduceLE, Int.reduceNe, Int.reduceAdd, Int.reduceSub, Int.reduceMul, Int.reduceToNat, Nat.reduceShiftRight, Nat.reduceAnd, Nat.reduceBNe]
    refine LoopW.wk (wk_all (tm' := [(42, I 0), (41, .agg [TT [[x, y], [z, u], [v, w]], TT [[x, y], [z, u], [n, w]], TT (fewL raw)])]) ⟨rfl, ⟨rfl, ⟨rfl, ⟨⟨rfl, Nat.le_refl _⟩, rfl⟩, ⟨⟨rfl, Nat.le_refl _⟩, rfl⟩, ⟨⟨rfl, Nat.le_refl _⟩, rfl⟩, trivial⟩, rfl, trivial⟩, trivial⟩) ?_
    exact law4_loop _ _ _ ⟨by simp, by simp⟩ ⟨by simp, by simp⟩ hs
  · simp -implicitDefEqProofs only [few32H, shA, shAs, shB, shRowB, List.map_cons, List.map_nil, e1, e2, push_cast, Nat.reduceBEq, Nat.reduceLT, Nat.reduceLeDiff, Nat.reduceAdd, Nat.reduceSub, Nat.reduceMul, Nat.reduceEqDiff, reduceCtorEq, ↓reduceIte, Int.reduceEq, Int.reduceLT, Int.reduceLE, Int.reduceNe, Int.reduceAdd, Int.reduceSub, Int.reduceMul, Int.reduceToNat, Nat.reduceShiftRight, Nat.reduceAnd, Nat.reduceBNe]
    refine ⟨by simp only [inR]; omega, by simp only [inR]; omega, by simp only [inR]; omega, ?_⟩
    refine callF (few_pc raw) ⟨rfl, trivial⟩ rfl rfl ?_
    simp -implicitDefEqProofs only [push_cast, Nat.reduceBEq, Nat.reduceLT, Nat.reduceLeDiff, Nat.reduceAdd, Nat.reduceSub, Nat.reduceMul, Nat.reduceEqDiff, reduceCtorEq, ↓reduceIte, Int.reduceEq, Int.reduceLT, Int.reduceLE, Int.reduceNe, Int.reduceAdd, Int.reduceSub, Int.reduceMul, Int.reduceToNat, Nat.reduceShiftRight, Nat.reduceAnd, Nat.reduceBNe]
    refine LoopW.wk (wk_all (tm' := [(42, I 0), (41, .agg [TT [[x, y], [z, u], [v, w]], TT [[x, y], [z, u], [v, n]], TT (fewL raw)])]) ⟨rfl, ⟨rfl, ⟨rfl, ⟨⟨rfl, Nat.le_refl _⟩, rfl⟩, ⟨⟨rfl, Nat.le_refl _⟩, rfl⟩, ⟨⟨rfl, Nat.le_refl _⟩, rfl⟩, trivial⟩, rfl, trivial⟩, trivial⟩) ?_
    exact law4_loop _ _ _ ⟨by simp, by simp⟩ ⟨by simp, by simp⟩ hs
theorem law4_33 (a b m n0 n1 n2 n3 n4 n5 n6 n7 n8 : Int) (x y z u v w p q r : Int) (at_ n : Int) (raw : List (List Int)) (h : Tab [[x, y, z], [u, v, w], [p, q, r]]) (ha : r8 at_) (hd : PC Tryd.prog 10 [DD a b [n0, n1, n2, n3, n4, n5, n6, n7, n8] m] (TT [[x, y, z], [u, v, w], [p, q, r]])) :
    PC Tryd.prog 4 [DD a b [n0, n1, n2, n3, n4, n5, n6, n7, n8] m, .dat (.int .u8) at_, I n, TT raw] (B true) := by
  have hq : 0 ≤ at_.tdiv 4 ∧ at_.tdiv 4 ≤ 255 := by
    have h1 := Int.tdiv_nonneg ha.1 (show (0 : Int) ≤ 4 by omega)
    have h2 := Int.tdiv_le_self 4 ha.1
    have := ha.2
    omega
  have hq2 := ha
  simp only [r8] at hq2
  have hs : okT (fewL raw) := ⟨by simp [fewL]; omega, by intro r hr; simp only [fewL, List.mem_map] at hr; obtain ⟨s, _, rfl⟩ := hr; simp; omega⟩
  have c1 : at_.tmod 3 = 0 ∨ at_.tmod 3 = 1 ∨ at_.tmod 3 = 2 := by
    have := Int.tmod_nonneg 3 ha.1
    have := Int.tmod_lt_of_pos at_ (b := 3) (by omega)
    omega
  have c2 : (at_.tdiv 4).tmod 3 = 0 ∨ (at_.tdiv 4).tmod 3 = 1 ∨ (at_.tdiv 4).tmod 3 = 2 := by
    have := Int.tmod_nonneg 3 hq.1
    have := Int.tmod_lt_of_pos (at_.tdiv 4) (b := 3) (by omega)
    omega
  refine pc_fn hmix h4 rfl ?_
  simp -implicitDefEqProofs only [c4, mapN, List.headD_cons, List.tail_cons, push_cast, Nat.reduceBEq, Nat.reduceLT, Nat.reduceLeDiff, Nat.reduceAdd, Nat.reduceSub, Nat.reduceMul, Nat.reduceEqDiff, reduceCtorEq, ↓reduceIte, Int.reduceEq, Int.reduceLT, Int.reduceLE, Int.reduceNe, Int.reduceAdd, Int.reduceSub, Int.reduceMul, Int.reduceToNat, Nat.reduceShiftRight, Nat.reduceAnd, Nat.reduceBNe]
  refine callF hd ⟨⟨rfl, ⟨rfl, rfl⟩, ⟨rfl, rfl⟩, ⟨⟨rfl, rfl⟩, ⟨rfl, rfl⟩, ⟨rfl, rfl⟩, ⟨rfl, rfl⟩, ⟨rfl, rfl⟩, ⟨rfl, rfl⟩, ⟨rfl, rfl⟩, ⟨rfl, rfl⟩, ⟨rfl, rfl⟩, ⟨rfl, rfl⟩, trivial⟩, ⟨rfl, rfl⟩, rfl⟩, trivial⟩ rfl rfl ?_
  simp -implicitDefEqProofs only [push_cast, Nat.reduceBEq, Nat.reduceLT, Nat.reduceLeDiff, Nat.reduceAdd, Nat.reduceSub, Nat.reduceMul, Nat.reduceEqDiff, reduceCtorEq, ↓reduceIte, Int.reduceEq, Int.reduceLT, Int.reduceLE, Int.reduceNe, Int.reduceAdd, Int.reduceSub, Int.reduceMul, Int.reduceToNat, Nat.reduceShiftRight, Nat.reduceAnd, Nat.reduceBNe]
  refine callA (few33 x y z u v w p q r) ⟨rfl, trivial⟩ rfl ?_
  rcases c1 with e1 | e1 | e1 <;> rcases c2 with e2 | e2 | e2
  · simp -implicitDefEqProofs only [few33H, shA, shAs, shB, shRowB, List.map_cons, List.map_nil, e1, e2, push_cast, Nat.reduceBEq, Nat.reduceLT, Nat.reduceLeDiff, Nat.reduceAdd, Nat.reduceSub, Nat.reduceMul, Nat.reduceEqDiff, reduceCtorEq, ↓reduceIte, Int.reduceEq, Int.reduceLT, Int.reduceLE, Int.reduceNe, Int.reduceAdd, Int.reduceSub, Int.reduceMul, Int.reduceToNat, Nat.reduceShiftRight, Nat.reduceAnd, Nat.reduceBNe]
    refine ⟨by simp only [inR]; omega, by simp only [inR]; omega, by simp only [inR]; omega, ?_⟩
    refine callF (few_pc raw) ⟨rfl, trivial⟩ rfl rfl ?_
    simp -implicitDefEqProofs only [push_cast, Nat.reduceBEq, Nat.reduceLT, Nat.reduceLeDiff, Nat.reduceAdd, Nat.reduceSub, Nat.reduceMul, Nat.reduceEqDiff, reduceCtorEq, ↓reduceIte, Int.reduceEq, Int.reduceLT, Int.reduceLE, Int.reduceNe, Int.reduceAdd, Int.reduceSub, Int.reduceMul, Int.reduceToNat, Nat.reduceShiftRight, Nat.reduceAnd, Nat.reduceBNe]
    refine LoopW.wk (wk_all (tm' := [(42, I 0), (41, .agg [TT [[x, y, z], [u, v, w], [p, q, r]], TT [[n, y, z], [u, v, w], [p, q, r]], TT (fewL raw)])]) ⟨rfl, ⟨rfl, ⟨rfl, ⟨⟨rfl, Nat.le_refl _⟩, rfl⟩, ⟨⟨rfl, Nat.le_refl _⟩, rfl⟩, ⟨⟨rfl, Nat.le_refl _⟩, rfl⟩, trivial⟩, rfl, trivial⟩, trivial⟩) ?_
    exact law4_loop _ _ _ ⟨by simp, by simp⟩ ⟨by simp, by simp⟩ hs
  · simp -implicitDefEqProofs only [few33H, shA, shAs, shB, shRowB, List.map_cons, List.map_nil, e1, e2, push_cast, Nat.reduceBEq, Nat.reduceLT, Nat.reduceLeDiff, Nat.reduceAdd, Nat.reduceSub, Nat.reduceMul, Nat.reduceEqDiff, reduceCtorEq, ↓reduceIte, Int.reduceEq, Int.reduceLT, Int.reduceLE, Int.reduceNe, Int.reduceAdd, Int.reduceSub, Int.reduceMul, Int.reduceToNat, Nat.reduceShiftRight, Nat.reduceAnd, Nat.reduceBNe]
    refine ⟨by simp only [inR]; omega, by simp only [inR]; omega, by simp only [inR]; omega, ?_⟩
    refine callF (few_pc raw) ⟨rfl, trivial⟩ rfl rfl ?_
    simp -implicitDefEqProofs only [push_cast, Nat.reduceBEq, Nat.reduceLT, Nat.reduceLeDiff, Nat.reduceAdd, Nat.reduceSub, Nat.reduceMul, Nat.reduceEqDiff, reduceCtorEq, ↓reduceIte, Int.reduceEq, Int.reduceLT, Int.reduceLE, Int.reduceNe, Int.reduceAdd, Int.reduceSub, Int.reduceMul, Int.reduceToNat, Nat.reduceShiftRight, Nat.reduceAnd, Nat.reduceBNe]
    refine LoopW.wk (wk_all (tm' := [(42, I 0), (41, .agg [TT [[x, y, z], [u, v, w], [p, q, r]], TT [[x, n, z], [u, v, w], [p, q, r]], TT (fewL raw)])]) ⟨rfl, ⟨rfl, ⟨rfl, ⟨⟨rfl, Nat.le_refl _⟩, rfl⟩, ⟨⟨rfl, Nat.le_refl _⟩, rfl⟩, ⟨⟨rfl, Nat.le_refl _⟩, rfl⟩, trivial⟩, rfl, trivial⟩, trivial⟩) ?_
    exact law4_loop _ _ _ ⟨by simp, by simp⟩ ⟨by simp, by simp⟩ hs
  · simp -implicitDefEqProofs only [few33H, shA, shAs, shB, shRowB, List.map_cons, List.map_nil, e1, e2, push_cast, Nat.reduceBEq, Nat.reduceLT, Nat.reduceLeDiff, Nat.reduceAdd, Nat.reduceSub, Nat.reduceMul, Nat.reduceEqDiff, reduceCtorEq, ↓reduceIte, Int.reduceEq, Int.reduceLT, Int.reduceLE, Int.reduceNe, Int.reduceAdd, Int.reduceSub, Int.reduceMul, Int.reduceToNat, Nat.reduceShiftRight, Nat.reduceAnd, Nat.reduceBNe]
    refine ⟨by simp only [inR]; omega, by simp only [inR]; omega, by simp only [inR]; omega, ?_⟩
    refine callF (few_pc raw) ⟨rfl, trivial⟩ rfl rfl ?_
    simp -implicitDefEqProofs only [push_cast, Nat.reduceBEq, Nat.reduceLT, Nat.reduceLeDiff, Nat.reduceAdd, Nat.reduceSub, Nat.reduceMul, Nat.reduceEqDiff, reduceCtorEq, ↓reduceIte, Int.reduceEq, Int.reduceLT, Int.reduceLE, Int.reduceNe, Int.reduceAdd, Int.reduceSub, Int.reduceMul, Int.reduceToNat, Nat.reduceShiftRight, Nat.reduceAnd, Nat.reduceBNe]
    refine LoopW.wk (wk_all (tm' := [(42, I 0), (41, .agg [TT [[x, y, z], [u, v, w], [p, q, r]], TT [[x, y, n], [u, v, w], [p, q, r]], TT (fewL raw)])]) ⟨rfl, ⟨rfl, ⟨rfl, ⟨⟨rfl, Nat.le_refl _⟩, rfl⟩, ⟨⟨rfl, Nat.le_refl _⟩, rfl⟩, ⟨⟨rfl, Nat.le_refl _⟩, rfl⟩, trivial⟩, rfl, trivial⟩, trivial⟩) ?_
    exact law4_loop _ _ _ ⟨by simp, by simp⟩ ⟨by simp, by simp⟩ hs
  · simp -implicitDefEqProofs only [few33H, shA, shAs, shB, shRowB, List.map_cons, List.map_nil, e1, e2, push_cast, Nat.reduceBEq, Nat.reduceLT, Nat.reduceLeDiff, Nat.reduceAdd, Nat.reduceSub, Nat.reduceMul, Nat.reduceEqDiff, reduceCtorEq, ↓reduceIte, Int.reduceEq, Int.reduceLT, Int.reduceLE, Int.reduceNe, Int.reduceAdd, Int.reduceSub, Int.reduceMul, Int.reduceToNat, Nat.reduceShiftRight, Nat.reduceAnd, Nat.reduceBNe]
    refine ⟨by simp only [inR]; omega, by simp only [inR]; omega, by simp only [inR]; omega, ?_⟩
    refine callF (few_pc raw) ⟨rfl, trivial⟩ rfl rfl ?_
    simp -implicitDefEqProofs only [push_cast, Nat.reduceBEq, Nat.reduceLT, Nat.reduceLeDiff, Nat.reduceAdd, Nat.reduceSub, Nat.reduceMul, Nat.reduceEqDiff, reduceCtorEq, ↓reduceIte, Int.reduceEq, Int.reduceLT, Int.reduceLE, Int.reduceNe, Int.reduceAdd, Int.reduceSub, Int.reduceMul, Int.reduceToNat, Nat.reduceShiftRight, Nat.reduceAnd, Nat.reduceBNe]
    refine LoopW.wk (wk_all (tm' := [(42, I 0), (41, .agg [TT [[x, y, z], [u, v, w], [p, q, r]], TT [[x, y, z], [n, v, w], [p, q, r]], TT (fewL raw)])]) ⟨rfl, ⟨rfl, ⟨rfl, ⟨⟨rfl, Nat.le_refl _⟩, rfl⟩, ⟨⟨rfl, Nat.le_refl _⟩, rfl⟩, ⟨⟨rfl, Nat.le_refl _⟩, rfl⟩, trivial⟩, rfl, trivial⟩, trivial⟩) ?_
    exact law4_loop _ _ _ ⟨by simp, by simp⟩ ⟨by simp, by simp⟩ hs
  · simp -implicitDefEqProofs only [few33H, shA, shAs, shB, shRowB, List.map_cons, List.map_nil, e1, e2, push_cast, Nat.reduceBEq, Nat.reduceLT, Nat.reduceLeDiff, Nat.reduceAdd, Nat.reduceSub, Nat.reduceMul, Nat.reduceEqDiff, reduceCtorEq, ↓reduceIte, Int.reduceEq, Int.reduceLT, Int.reduceLE, Int.reduceNe, Int.reduceAdd, Int.reduceSub, Int.reduceMul, Int.reduceToNat, Nat.reduceShiftRight, Nat.reduceAnd, Nat.reduceBNe]
    refine ⟨by simp only [inR]; omega, by simp only [inR]; omega, by simp only [inR]; omega, ?_⟩
    refine callF (few_pc raw) ⟨rfl, trivial⟩ rfl rfl ?_
    simp -implicitDefEqProofs only [push_cast, Nat.reduceBEq, Nat.reduceLT, Nat.reduceLeDiff, Nat.reduceAdd, Nat.reduceSub, Nat.reduceMul, Nat.reduceEqDiff, reduceCtorEq, ↓reduceIte, Int.reduceEq, Int.reduceLT, Int.reduceLE, Int.reduceNe, Int.reduceAdd, Int.reduceSub, Int.reduceMul, Int.reduceToNat, Nat.reduceShiftRight, Nat.reduceAnd, Nat.reduceBNe]
    refine LoopW.wk (wk_all (tm' := [(42, I 0), (41, .agg [TT [[x, y, z], [u, v, w], [p, q, r]], TT [[x, y, z], [u, n, w], [p, q, r]], TT (fewL raw)])]) ⟨rfl, ⟨rfl, ⟨rfl, ⟨⟨rfl, Nat.le_refl _⟩, rfl⟩, ⟨⟨rfl, Nat.le_refl _⟩, rfl⟩, ⟨⟨rfl, Nat.le_refl _⟩, rfl⟩, trivial⟩, rfl, trivial⟩, trivial⟩) ?_
    exact law4_loop _ _ _ ⟨by simp, by simp⟩ ⟨by simp, by simp⟩ hs
  · simp -implicitDefEqProofs only [few33H, shA, shAs, shB, shRowB, List.map_cons, List.map_nil, e1, e2, push_cast, Nat.reduceBEq, Nat.reduceLT, Nat.reduceLeDiff, Nat.reduceAdd, Nat.reduceSub, Nat.reduceMul, Nat.reduceEqDiff, reduceCtorEq, ↓reduceIte, Int.reduceEq, Int.reduceLT, Int.reduceLE, Int.reduceNe, Int.reduceAdd, Int.reduceSub, Int.reduceMul, Int.reduceToNat, Nat.reduceShiftRight, Nat.reduceAnd, Nat.reduceBNe]
    refine ⟨by simp only [inR]; omega, by simp only [inR]; omega, by simp only [inR]; omega, ?_⟩
    refine callF (few_pc raw) ⟨rfl, trivial⟩ rfl rfl ?_
    simp -implicitDefEqProofs only [push_cast, Nat.reduceBEq, Nat.reduceLT, Nat.reduceLeDiff, Nat.reduceAdd, Nat.reduceSub, Nat.reduceMul, Nat.reduceEqDiff, reduceCtorEq, ↓reduceIte, Int.reduceEq, Int.reduceLT, Int.reduceLE, Int.reduceNe, Int.reduceAdd, Int.reduceSub, Int.reduceMul, Int.reduceToNat, Nat.reduceShiftRight, Nat.reduceAnd, Nat.reduceBNe]
    refine LoopW.wk (wk_all (tm' := [(42, I 0), (41, .agg [TT [[x, y, z], [u, v, w], [p, q, r]], TT [[x, y, z], [u, v, n], [p, q, r]], TT (fewL raw)])]) ⟨rfl, ⟨rfl, ⟨rfl, ⟨⟨rfl, Nat.le_refl _⟩, rfl⟩, ⟨⟨rfl, Nat.le_refl _⟩, rfl⟩, ⟨⟨rfl, Nat.le_refl _⟩, rfl⟩, trivial⟩, rfl, trivial⟩, trivial⟩) ?_
    exact law4_loop _ _ _ ⟨by simp, by simp⟩ ⟨by simp, by simp⟩ hs
  · simp -implicitDefEqProofs only [few33H, shA, shAs, shB, shRowB, List.map_cons, List.map_nil, e1, e2, push_cast, Nat.reduceBEq, Nat.reduceLT, Nat.reduceLeDiff, Nat.reduceAdd, Nat.reduceSub, Nat.reduceMul, Nat.reduceEqDiff, reduceCtorEq, ↓reduceIte, Int.reduceEq, Int.reduceLT, Int.reduceLE, Int.reduceNe, Int.reduceAdd, Int.reduceSub, Int.reduceMul, Int.reduceToNat, Nat.reduceShiftRight, Nat.reduceAnd, Nat.reduceBNe]
    refine ⟨by simp only [inR]; omega, by simp only [inR]; omega, by simp only [inR]; omega, ?_⟩
    refine callF (few_pc raw) ⟨rfl, trivial⟩ rfl rfl ?_
    simp -implicitDefEqProofs only [push_cast, Nat.reduceBEq, Nat.reduceLT, Nat.reduceLeDiff, Nat.reduceAdd, Nat.reduceSub, Nat.reduceMul, Nat.reduceEqDiff, reduceCtorEq, ↓reduceIte, Int.reduceEq, Int.reduceLT, Int.reduceLE, Int.reduceNe, Int.reduceAdd, Int.reduceSub, Int.reduceMul, Int.reduceToNat, Nat.reduceShiftRight, Nat.reduceAnd, Nat.reduceBNe]
    refine LoopW.wk (wk_all (tm' := [(42, I 0), (41, .agg [TT [[x, y, z], [u, v, w], [p, q, r]], TT [[x, y, z], [u, v, w], [n, q, r]], TT (fewL raw)])]) ⟨rfl, ⟨rfl, ⟨rfl, ⟨⟨rfl, Nat.le_refl _⟩, rfl⟩, ⟨⟨rfl, Nat.le_refl _⟩, rfl⟩, ⟨⟨rfl, Nat.le_refl _⟩, rfl⟩, trivial⟩, rfl, trivial⟩, trivial⟩) ?_
    exact law4_loop _ _ _ ⟨by simp, by simp⟩ ⟨by simp, by simp⟩ hs
  · simp -implicitDefEqProofs only [few33H, shA, shAs, shB, shRowB, List.map_cons, List.map_nil, e1, e2, push_cast, Nat.reduceBEq, Nat.reduceLT, Nat.reduceLeDiff, Nat.reduceAdd, Nat.reduceSub, Nat.reduceMul, Nat.reduceEqDiff, reduceCtorEq, ↓reduceIte, Int.reduceEq, Int.reduceLT, Int.reduceLE, Int.reduceNe, Int.reduceAdd, Int.reduceSub, Int.reduceMul, Int.reduceToNat, Nat.reduceShiftRight, Nat.reduceAnd, Nat.reduceBNe]
    refine ⟨by simp only [inR]; omega, by simp only [inR]; omega, by simp only [inR]; omega, ?_⟩
    refine callF (few_pc raw) ⟨rfl, trivial⟩ rfl rfl ?_
    simp -implicitDefEqProofs only [push_cast, Nat.reduceBEq, Nat.reduceLT, Nat.reduceLeDiff, Nat.reduceAdd, Nat.reduceSub, Nat.reduceMul, Nat.reduceEqDiff, reduceCtorEq, ↓reduceIte, Int.reduceEq, Int.reduceLT, Int.reduceLE, Int.reduceNe, Int.reduceAdd, Int.reduceSub, Int.reduceMul, Int.reduceToNat, Nat.reduceShiftRight, Nat.reduceAnd, Nat.reduceBNe]
    refine LoopW.wk (wk_all (tm' := [(42, I 0), (41, .agg [TT [[x, y, z], [u, v, w], [p, q, r]], TT [[x, y, z], [u, v, w], [p, n, r]], TT (fewL raw)])]) ⟨rfl, ⟨rfl, ⟨rfl, ⟨⟨rfl, Nat.le_refl _⟩, rfl⟩, ⟨⟨rfl, Nat.le_refl _⟩, rfl⟩, ⟨⟨rfl, Nat.le_refl _⟩, rfl⟩, trivial⟩, rfl, trivial⟩, trivial⟩) ?_
    exact law4_loop _ _ _ ⟨by simp, by simp⟩ ⟨by simp, by simp⟩ hs
  · simp -implicitDefEqProofs only [few33H, shA, shAs, shB, shRowB, List.map_cons, List.map_nil, e1, e2, push_cast, Nat.reduceBEq, Nat.reduceLT, Nat.reduceLeDiff, Nat.reduceAdd, Nat.reduceSub, Nat.reduceMul, Nat.reduceEqDiff, reduceCtorEq, ↓reduceIte, Int.reduceEq, Int.reduceLT, Int.reduceLE, Int.reduceNe, Int.reduceAdd, Int.reduceSub, Int.reduceMul, Int.reduceToNat, Nat.reduceShiftRight, Nat.reduceAnd, Nat.reduceBNe]
    refine ⟨by simp only [inR]; omega, by simp only [inR]; omega, by simp only [inR]; omega, ?_⟩
    refine callF (few_pc raw) ⟨rfl, trivial⟩ rfl rfl ?_
    simp -implicitDefEqProofs only [push_cast, Nat.reduceBEq, Nat.reduceLT, Nat.reduceLeDiff, Nat.reduceAdd, Nat.reduceSub, Nat.reduceMul, Nat.reduceEqDiff, reduceCtorEq, ↓reduceIte, Int.reduceEq, Int.reduceLT, Int.reduceLE, Int.reduceNe, Int.reduceAdd, Int.reduceSub, Int.reduceMul, Int.reduceToNat, Nat.reduceShiftRight, Nat.reduceAnd, Nat.reduceBNe]
    refine LoopW.wk (wk_all (tm' := [(42, I 0), (41, .agg [TT [[x, y, z], [u, v, w], [p, q, r]], TT [[x, y, z], [u, v, w], [p, q, n]], TT (fewL raw)])]) ⟨rfl, ⟨rfl, ⟨rfl, ⟨⟨rfl, Nat.le_refl _⟩, rfl⟩, ⟨⟨rfl, Nat.le_refl _⟩, rfl⟩, ⟨⟨rfl, Nat.le_refl _⟩, rfl⟩, trivial⟩, rfl, trivial⟩, trivial⟩) ?_
    exact law4_loop _ _ _ ⟨by simp, by simp⟩ ⟨by simp, by simp⟩ hs

theorem law4_pc {a b m n0 n1 n2 n3 n4 n5 n6 n7 n8 : Int} (hr : r8 a ∧ r8 b ∧ r8 m ∧ r8 n0 ∧ r8 n1 ∧ r8 n2 ∧ r8 n3 ∧ r8 n4 ∧ r8 n5 ∧ r8 n6 ∧ r8 n7 ∧ r8 n8) (at_ n : Int) (raw : List (List Int)) (ha : r8 at_) :
    PC Tryd.prog 4 [DD a b [n0, n1, n2, n3, n4, n5, n6, n7, n8] m, .dat (.int .u8) at_, I n, TT raw] (B true) := by
  obtain ⟨t, ht, hp⟩ := draft_pc hr
  revert hp
  exact shapes (P := fun t => PC Tryd.prog 10 [DD a b [n0, n1, n2, n3, n4, n5, n6, n7, n8] m] (TT t) → PC Tryd.prog 4 [DD a b [n0, n1, n2, n3, n4, n5, n6, n7, n8] m, .dat (.int .u8) at_, I n, TT raw] (B true)) ht
    (fun _ _ _ _ h _ hp => law4_22 _ _ _ _ _ _ _ _ _ _ _ _ _ _ _ _ _ _ raw h ha hp) (fun _ _ _ _ _ _ h _ hp => law4_23 _ _ _ _ _ _ _ _ _ _ _ _ _ _ _ _ _ _ _ _ raw h ha hp)
    (fun _ _ _ _ _ _ h _ hp => law4_32 _ _ _ _ _ _ _ _ _ _ _ _ _ _ _ _ _ _ _ _ raw h ha hp) (fun _ _ _ _ _ _ _ _ _ h _ hp => law4_33 _ _ _ _ _ _ _ _ _ _ _ _ _ _ _ _ _ _ _ _ _ _ _ raw h ha hp)

end Go.Proofs.YtligakiolapkkaaDoor
