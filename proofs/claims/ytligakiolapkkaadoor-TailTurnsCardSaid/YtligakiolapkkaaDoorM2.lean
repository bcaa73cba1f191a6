/- Texts of this claim, joined: an abstract machine over the model, proved sound; contracts of functions. -/
import Derived.Test.YtligakiolapkkaaDoorV34
import Derived.Test.YtligakiolapkkaaDoorM1
set_option linter.unusedSimpArgs false
set_option linter.unusedVariables false

namespace Go.Proofs.YtligakiolapkkaaDoor
open Go GoV
set_option maxHeartbeats 8000000
set_option maxRecDepth 10000
set_option linter.unusedVariables false
set_option linter.unusedSimpArgs false
def caps23 (K : Nat) : List AV := [.ptr (K + 5) 0, .ptr (K + 3) 0, .ptr (K + 1) 0, .ptr (K + 2) 0, .ptr (K + 8) 0]
def L23 (K k : Nat) (a0 a1 c0 c1 c2 x00 x01 x02 x10 x11 x12 : Int) : Heap := [.box [.yld k], .box [I a0, I a1, I 0], .box [I c0, I c1, I c2], .box [.slc (K + 6) 3 0 3, .slc (K + 7) 3 0 3], .box [.slc (K + 4) 0 0 2], .seq (.int .i64) [x00, x01, x02] true, .seq (.int .i64) [x10, x11, x12] true, .box [.fn 56 [] [.ptr (K + 5) 0, .ptr (K + 3) 0, .ptr (K + 1) 0, .ptr (K + 2) 0, .ptr (K + 8) 0]]]
section
variable {σ : Type} {J : σ → Prop} {C : σ → Heap} {K k : Nat} {upd : σ → List (List Int) → σ} {r0 r1 k0 k1 k2 : Int}
def Yields23 (J : σ → Prop) (C : σ → Heap) (K k : Nat) (upd : σ → List (List Int) → σ) (r0 r1 k0 k1 k2 : Int) : Prop := ∀ (s : σ) (a0 a1 c0 c1 c2 x00 x01 x02 x10 x11 x12 : Int), J s → (0 ≤ x00 ∧ 0 ≤ x01 ∧ 0 ≤ x02 ∧ 0 ≤ x10 ∧ 0 ≤ x11 ∧ 0 ≤ x12) → (x00 + x01 + x02 = r0 ∧ x10 + x11 + x12 = r1) → (x00 + x10 = k0 ∧ x01 + x11 = k1 ∧ x02 + x12 = k2) →
    VYield Tryd.prog k [.slc (K + 4) 0 0 2] (C s ++ L23 K k a0 a1 c0 c1 c2 x00 x01 x02 x10 x11 x12) (fun v h' => v = B true ∧ h' = C (upd s [[x00, x01, x02], [x10, x11, x12]]) ++ L23 K k a0 a1 c0 c1 c2 x00 x01 x02 x10 x11 x12)
theorem fill23_20 (hK : ∀ s, (C s).length = K + 1) (hR : ∀ s n, K + 1 ≤ n → rowsRefs n (C s) = true) (hk : k < K + 1) (hY : Yields23 J C K k upd r0 r1 k0 k1 k2) (s : σ) (a0 a1 c0 c1 c2 x00 x01 x02 x10 x11 x12 : Int) (hJ : Pre J upd s ((tabE [] [c0, c1, c2]).map fun rest => [x00, x01, x02] :: [x10, x11, x12] :: rest)) (hi : 0 ≤ x00 ∧ 0 ≤ x01 ∧ 0 ≤ x02 ∧ 0 ≤ x10 ∧ 0 ≤ x11 ∧ 0 ≤ x12 ∧ x00 + x01 + x02 = r0 ∧ x10 + x11 + x12 = r1 ∧ x00 + x10 + c0 = k0 ∧ 0 ≤ c0 ∧ x01 + x11 + c1 = k1 ∧ 0 ≤ c1 ∧ x02 + x12 + c2 = k2 ∧ 0 ≤ c2 ∧ r0 ≤ 20 ∧ r1 ≤ 20 ∧ k0 ≤ 20 ∧ k1 ≤ 20 ∧ k2 ≤ 20) :
    VCalls Tryd.prog 56 ([I 2, I 0] ++ caps23 K) (C s ++ L23 K k a0 a1 c0 c1 c2 x00 x01 x02 x10 x11 x12) (fun v h' => v = B true ∧ ∃ ys : List Int, h' = C (((tabE [] [c0, c1, c2]).map fun rest => [x00, x01, x02] :: [x10, x11, x12] :: rest).foldl upd s) ++ L23 K k a0 a1 c0 c1 c2 x00 x01 x02 x10 x11 x12) := by
  have kb := kbeq K
  by_cases hz : c0 = 0 ∧ c1 = 0 ∧ c2 = 0
  · obtain ⟨rfl, rfl, rfl⟩ := hz
    refine vcalls_fn hmix h56 rfl ?_
    simp -implicitDefEqProofs only [c56, caps23, gK1 hK, gK2 hK, gK3 hK, gK4 hK, gK5 hK, gK6 hK, gK7 hK, gK8 hK, sK1 hK, sK2 hK, sK3 hK, sK4 hK, sK5 hK, sK6 hK, sK7 hK, sK8 hK, kb, List.length_append, beq_self_eq_true, L23, push_cast, Nat.reduceBEq, Nat.reduceLT, Nat.reduceLeDiff, Nat.reduceAdd, Nat.reduceSub, Nat.reduceMul, Nat.reduceEqDiff, reduceCtorEq, ↓reduceIte, Int.reduceEq, Int.reduceLT, Int.reduceLE, Int.reduceNe, Int.reduceAdd, Int.reduceSub, Int.reduceMul, Int.reduceToNat, Nat.reduceShiftRight, Nat.reduceAnd, Nat.reduceBNe]
    refine yld_rule (hY s a0 a1 0 0 0 x00 x01 x02 x10 x11 x12 hJ.1 (by omega) (by omega) (by omega)) ?_
    rintro v h' ⟨rfl, rfl⟩
    simp -implicitDefEqProofs only [L23, push_cast, Nat.reduceBEq, Nat.reduceLT, Nat.reduceLeDiff, Nat.reduceAdd, Nat.reduceSub, Nat.reduceMul, Nat.reduceEqDiff, reduceCtorEq, ↓reduceIte, Int.reduceEq, Int.reduceLT, Int.reduceLE, Int.reduceNe, Int.reduceAdd, Int.reduceSub, Int.reduceMul, Int.reduceToNat, Nat.reduceShiftRight, Nat.reduceAnd, Nat.reduceBNe]
    refine fin_app (n := K + 9) (by simp [hK]) (by simp [hK] <;> omega) rfl (hR _ _ (by omega)) ?_ ⟨rfl, [], ?_⟩
    · simp [rowsRefs, rowRefs, refsLtL, refsLt, NatBlt]; omega
    · rfl
  · have hz2 : (decide (c0 = 0) && (decide (c1 = 0) && decide (c2 = 0))) = false := by simp only [Bool.and_eq_false_iff, decide_eq_false_iff_not]; omega
    refine vcalls_fn hmix h56 rfl ?_
    simp -implicitDefEqProofs only [c56, caps23, gK1 hK, gK2 hK, gK3 hK, gK4 hK, gK5 hK, gK6 hK, gK7 hK, gK8 hK, sK1 hK, sK2 hK, sK3 hK, sK4 hK, sK5 hK, sK6 hK, sK7 hK, sK8 hK, kb, List.length_append, beq_self_eq_true, L23, hz2, push_cast, Nat.reduceBEq, Nat.reduceLT, Nat.reduceLeDiff, Nat.reduceAdd, Nat.reduceSub, Nat.reduceMul, Nat.reduceEqDiff, reduceCtorEq, ↓reduceIte, Int.reduceEq, Int.reduceLT, Int.reduceLE, Int.reduceNe, Int.reduceAdd, Int.reduceSub, Int.reduceMul, Int.reduceToNat, Nat.reduceShiftRight, Nat.reduceAnd, Nat.reduceBNe]
    refine fin_app (n := K + 9) (by simp [hK]) (by simp [hK] <;> omega) rfl (hR _ _ (by omega)) ?_ ⟨rfl, [], ?_⟩
    · simp [rowsRefs, rowRefs, refsLtL, refsLt, NatBlt]; omega
    · rw [tabE_no (by simp; omega)]; rfl
theorem fill23_12 (hK : ∀ s, (C s).length = K + 1) (hR : ∀ s n, K + 1 ≤ n → rowsRefs n (C s) = true) (hk : k < K + 1) (hY : Yields23 J C K k upd r0 r1 k0 k1 k2) (s : σ) (a0 a1 c0 c1 c2 x00 x01 x02 x10 x11 x12 : Int) (hJ : Pre J upd s ((rowE (a1) [c2]).flatMap fun tl => (tabE [] (c0 :: c1 :: subC [c2] tl)).map fun rest => [x00, x01, x02] :: (x10 :: x11 :: tl) :: rest)) (hi : 0 ≤ x00 ∧ 0 ≤ x01 ∧ 0 ≤ x02 ∧ 0 ≤ x10 ∧ 0 ≤ x11 ∧ x00 + x01 + x02 = r0 ∧ x10 + x11 + a1 = r1 ∧ 0 ≤ a1 ∧ x00 + x10 + c0 = k0 ∧ 0 ≤ c0 ∧ x01 + x11 + c1 = k1 ∧ 0 ≤ c1 ∧ x02 + c2 = k2 ∧ 0 ≤ c2 ∧ r0 ≤ 20 ∧ r1 ≤ 20 ∧ k0 ≤ 20 ∧ k1 ≤ 20 ∧ k2 ≤ 20) :
    VCalls Tryd.prog 56 ([I 1, I 2] ++ caps23 K) (C s ++ L23 K k a0 a1 c0 c1 c2 x00 x01 x02 x10 x11 x12) (fun v h' => v = B true ∧ ∃ ys : List Int, h' = C (((rowE (a1) [c2]).flatMap fun tl => (tabE [] (c0 :: c1 :: subC [c2] tl)).map fun rest => [x00, x01, x02] :: (x10 :: x11 :: tl) :: rest).foldl upd s) ++ L23 K k a0 a1 c0 c1 c2 x00 x01 x02 x10 x11 (ys.getD 0 0)) := by
  have kb := kbeq K
  refine vcalls_fn hmix h56 rfl ?_
  simp -implicitDefEqProofs only [c56, caps23, gK1 hK, gK2 hK, gK3 hK, gK4 hK, gK5 hK, gK6 hK, gK7 hK, gK8 hK, sK1 hK, sK2 hK, sK3 hK, sK4 hK, sK5 hK, sK6 hK, sK7 hK, sK8 hK, kb, List.length_append, beq_self_eq_true, L23, push_cast, Nat.reduceBEq, Nat.reduceLT, Nat.reduceLeDiff, Nat.reduceAdd, Nat.reduceSub, Nat.reduceMul, Nat.reduceEqDiff, reduceCtorEq, ↓reduceIte, Int.reduceEq, Int.reduceLT, Int.reduceLE, Int.reduceNe, Int.reduceAdd, Int.reduceSub, Int.reduceMul, Int.reduceToNat, Nat.reduceShiftRight, Nat.reduceAnd, Nat.reduceBNe]
  refine ⟨by simp only [inR]; omega, fun hlt => ?_, fun hle => ?_⟩
  · skip
    refine fin_app (n := K + 9) (by simp [hK]) (by simp [hK] <;> omega) rfl (hR _ _ (by omega)) ?_ ⟨rfl, [x12], ?_⟩
    · simp [rowsRefs, rowRefs, refsLtL, refsLt, NatBlt]; omega
    · rw [show rowE a1 [c2] = [] from if_neg (by omega)]; rfl
  · refine ⟨by simp only [inR]; omega, by simp only [inR]; omega, ?_⟩
    have e : ((rowE (a1) [c2]).flatMap fun tl => (tabE [] (c0 :: c1 :: subC [c2] tl)).map fun rest => [x00, x01, x02] :: (x10 :: x11 :: tl) :: rest) = ((tabE [] [c0, c1, (c2 - a1)]).map fun rest => [x00, x01, x02] :: [x10, x11, a1] :: rest) := by
      rw [show rowE a1 [c2] = [[a1]] from if_pos (by omega)]
      simp only [tabE_cons, subC, List.map_flatMap, List.map_map, List.flatMap_cons, List.flatMap_nil, List.append_nil, Function.comp_def, List.nil_append, List.cons_append]
    rw [e] at hJ
    refine call_rule (fill23_20 hK hR hk hY s a0 a1 c0 c1 (c2 - a1) x00 x01 x02 x10 x11 a1 hJ (by omega)) ?_
    rintro v h' ⟨rfl, ys, rfl⟩
    simp -implicitDefEqProofs only [Int.sub_add_cancel, gK1 hK, gK2 hK, gK3 hK, gK4 hK, gK5 hK, gK6 hK, gK7 hK, gK8 hK, sK1 hK, sK2 hK, sK3 hK, sK4 hK, sK5 hK, sK6 hK, sK7 hK, sK8 hK, kb, List.length_append, beq_self_eq_true, L23, push_cast, Nat.reduceBEq, Nat.reduceLT, Nat.reduceLeDiff, Nat.reduceAdd, Nat.reduceSub, Nat.reduceMul, Nat.reduceEqDiff, reduceCtorEq, ↓reduceIte, Int.reduceEq, Int.reduceLT, Int.reduceLE, Int.reduceNe, Int.reduceAdd, Int.reduceSub, Int.reduceMul, Int.reduceToNat, Nat.reduceShiftRight, Nat.reduceAnd, Nat.reduceBNe]
    refine ⟨by simp only [inR]; omega, ?_⟩
    refine fin_app (n := K + 9) (by simp [hK]) (by simp [hK] <;> omega) rfl (hR _ _ (by omega)) ?_ ⟨rfl, a1 :: ys, ?_⟩
    · simp [rowsRefs, rowRefs, refsLtL, refsLt, NatBlt]; omega
    · rw [e]; rfl
theorem fill23_11 (hK : ∀ s, (C s).length = K + 1) (hR : ∀ s n, K + 1 ≤ n → rowsRefs n (C s) = true) (hk : k < K + 1) (hY : Yields23 J C K k upd r0 r1 k0 k1 k2) (s : σ) (a0 a1 c0 c1 c2 x00 x01 x02 x10 x11 x12 : Int) (hJ : Pre J upd s ((rowE (a1) [c1, c2]).flatMap fun tl => (tabE [] (c0 :: subC [c1, c2] tl)).map fun rest => [x00, x01, x02] :: (x10 :: tl) :: rest)) (hi : 0 ≤ x00 ∧ 0 ≤ x01 ∧ 0 ≤ x02 ∧ 0 ≤ x10 ∧ x00 + x01 + x02 = r0 ∧ x10 + a1 = r1 ∧ 0 ≤ a1 ∧ x00 + x10 + c0 = k0 ∧ 0 ≤ c0 ∧ x01 + c1 = k1 ∧ 0 ≤ c1 ∧ x02 + c2 = k2 ∧ 0 ≤ c2 ∧ r0 ≤ 20 ∧ r1 ≤ 20 ∧ k0 ≤ 20 ∧ k1 ≤ 20 ∧ k2 ≤ 20) :
    VCalls Tryd.prog 56 ([I 1, I 1] ++ caps23 K) (C s ++ L23 K k a0 a1 c0 c1 c2 x00 x01 x02 x10 x11 x12) (fun v h' => v = B true ∧ ∃ ys : List Int, h' = C (((rowE (a1) [c1, c2]).flatMap fun tl => (tabE [] (c0 :: subC [c1, c2] tl)).map fun rest => [x00, x01, x02] :: (x10 :: tl) :: rest).foldl upd s) ++ L23 K k a0 a1 c0 c1 c2 x00 x01 x02 x10 (ys.getD 0 0) (ys.getD 1 0)) := by
  have kb := kbeq K
  obtain ⟨Yp, hYp⟩ : ∃ Yp : Nat → List (List (List Int)), Yp = fun N => (List.range N).flatMap fun (q : Nat) => ((rowE ((a1 - ((q : Nat) : Int))) [c2]).flatMap fun tl => (tabE [] (c0 :: (c1 - ((q : Nat) : Int)) :: subC [c2] tl)).map fun rest => [x00, x01, x02] :: (x10 :: ((q : Nat) : Int) :: tl) :: rest) := ⟨_, rfl⟩
  have hY0 : Yp 0 = [] := by rw [hYp]; rfl
  have hYs : ∀ q : Nat, Yp (q + 1) = Yp q ++ ((rowE ((a1 - ((q : Nat) : Int))) [c2]).flatMap fun tl => (tabE [] (c0 :: (c1 - ((q : Nat) : Int)) :: subC [c2] tl)).map fun rest => [x00, x01, x02] :: (x10 :: ((q : Nat) : Int) :: tl) :: rest) := by
    intro q
    simp only [hYp, List.range_succ, List.flatMap_append, List.flatMap_cons, List.flatMap_nil, List.append_nil]
  have hYe : ((rowE (a1) [c1, c2]).flatMap fun tl => (tabE [] (c0 :: subC [c1, c2] tl)).map fun rest => [x00, x01, x02] :: (x10 :: tl) :: rest) = Yp (min a1 c1 + 1).toNat := by
    rw [hYp]
    simp only [rowE, subC, List.flatMap_assoc, List.flatMap_map]
  rw [hYe] at hJ ⊢
  have hpre := pre_steps hYs _ hJ
  clear hYe hYp
  refine vcalls_fn hmix h56 rfl ?_
  simp -implicitDefEqProofs only [c56, caps23, gK1 hK, gK2 hK, gK3 hK, gK4 hK, gK5 hK, gK6 hK, gK7 hK, gK8 hK, sK1 hK, sK2 hK, sK3 hK, sK4 hK, sK5 hK, sK6 hK, sK7 hK, sK8 hK, kb, List.length_append, beq_self_eq_true, L23, push_cast, Nat.reduceBEq, Nat.reduceLT, Nat.reduceLeDiff, Nat.reduceAdd, Nat.reduceSub, Nat.reduceMul, Nat.reduceEqDiff, reduceCtorEq, ↓reduceIte, Int.reduceEq, Int.reduceLT, Int.reduceLE, Int.reduceNe, Int.reduceAdd, Int.reduceSub, Int.reduceMul, Int.reduceToNat, Nat.reduceShiftRight, Nat.reduceAnd, Nat.reduceBNe]
  refine ⟨by simp only [inR]; omega, by simp only [inR]; omega, ?_⟩
  refine loop_w (α := Nat × List Int) (fun b => ⟨[(77, I b.1), (76, I (min a1 c1 + 1)), (6, .ptr (K + 8) 0), (5, .ptr (K + 2) 0), (3, .ptr (K + 3) 0), (2, .ptr (K + 5) 0), (1, I 1), (0, I 1)], C ((Yp b.1).foldl upd s) ++ L23 K k a0 a1 c0 c1 c2 x00 x01 x02 x10 (b.2.getD 0 0) (b.2.getD 1 0), []⟩)
    (fun b => b.1 ≤ (min a1 c1 + 1).toNat) (fun b => (min a1 c1 + 1).toNat - b.1) (0, [x11, x12]) (by rw [hY0]; exact wk_tk rfl) (by simp only; omega) ?_
  rintro ⟨q, ys⟩ hq
  simp only at hq
  simp -implicitDefEqProofs only [c56L0, gK1 hK, gK2 hK, gK3 hK, gK4 hK, gK5 hK, gK6 hK, gK7 hK, gK8 hK, sK1 hK, sK2 hK, sK3 hK, sK4 hK, sK5 hK, sK6 hK, sK7 hK, sK8 hK, kb, List.length_append, beq_self_eq_true, L23, push_cast, Nat.reduceBEq, Nat.reduceLT, Nat.reduceLeDiff, Nat.reduceAdd, Nat.reduceSub, Nat.reduceMul, Nat.reduceEqDiff, reduceCtorEq, ↓reduceIte, Int.reduceEq, Int.reduceLT, Int.reduceLE, Int.reduceNe, Int.reduceAdd, Int.reduceSub, Int.reduceMul, Int.reduceToNat, Nat.reduceShiftRight, Nat.reduceAnd, Nat.reduceBNe]
  refine ⟨fun hc => ?_, fun hc => ?_⟩
  · refine ⟨by simp only [inR]; omega, by simp only [inR]; omega, by simp only [inR]; omega, ?_⟩
    refine call_rule (fill23_12 hK hR hk hY _ a0 (a1 - (q : Int)) c0 (c1 - (q : Int)) c2 x00 x01 x02 x10 (q : Int) (ys.getD 1 0) (hpre q (by omega)) (by omega)) ?_
    rintro v h' ⟨rfl, ys2, rfl⟩
    simp -implicitDefEqProofs only [Int.sub_add_cancel, gK1 hK, gK2 hK, gK3 hK, gK4 hK, gK5 hK, gK6 hK, gK7 hK, gK8 hK, sK1 hK, sK2 hK, sK3 hK, sK4 hK, sK5 hK, sK6 hK, sK7 hK, sK8 hK, kb, List.length_append, beq_self_eq_true, L23, push_cast, Nat.reduceBEq, Nat.reduceLT, Nat.reduceLeDiff, Nat.reduceAdd, Nat.reduceSub, Nat.reduceMul, Nat.reduceEqDiff, reduceCtorEq, ↓reduceIte, Int.reduceEq, Int.reduceLT, Int.reduceLE, Int.reduceNe, Int.reduceAdd, Int.reduceSub, Int.reduceMul, Int.reduceToNat, Nat.reduceShiftRight, Nat.reduceAnd, Nat.reduceBNe]
    refine ⟨by simp only [inR]; omega, by simp only [inR]; omega, by simp only [inR]; omega, (q + 1, (q : Int) :: ys2), by simp only; omega, by simp only; omega, ?_⟩
    simp only [hYs, List.foldl_append]
    exact wk_tk rfl
  · have hqe : q = (min a1 c1 + 1).toNat := by omega
    subst hqe
    refine fin_app (n := K + 9) (by simp [hK]) (by simp [hK] <;> omega) rfl (hR _ _ (by omega)) ?_ ⟨rfl, ys, ?_⟩
    · simp [rowsRefs, rowRefs, refsLtL, refsLt, NatBlt]; omega
    · rfl
theorem fill23_10 (hK : ∀ s, (C s).length = K + 1) (hR : ∀ s n, K + 1 ≤ n → rowsRefs n (C s) = true) (hk : k < K + 1) (hY : Yields23 J C K k upd r0 r1 k0 k1 k2) (s : σ) (a0 a1 c0 c1 c2 x00 x01 x02 x10 x11 x12 : Int) (hJ : Pre J upd s ((rowE (a1) [c0, c1, c2]).flatMap fun tl => (tabE [] (subC [c0, c1, c2] tl)).map fun rest => [x00, x01, x02] :: (tl) :: rest)) (hi : 0 ≤ x00 ∧ 0 ≤ x01 ∧ 0 ≤ x02 ∧ x00 + x01 + x02 = r0 ∧ a1 = r1 ∧ 0 ≤ a1 ∧ x00 + c0 = k0 ∧ 0 ≤ c0 ∧ x01 + c1 = k1 ∧ 0 ≤ c1 ∧ x02 + c2 = k2 ∧ 0 ≤ c2 ∧ r0 ≤ 20 ∧ r1 ≤ 20 ∧ k0 ≤ 20 ∧ k1 ≤ 20 ∧ k2 ≤ 20) :
    VCalls Tryd.prog 56 ([I 1, I 0] ++ caps23 K) (C s ++ L23 K k a0 a1 c0 c1 c2 x00 x01 x02 x10 x11 x12) (fun v h' => v = B true ∧ ∃ ys : List Int, h' = C (((rowE (a1) [c0, c1, c2]).flatMap fun tl => (tabE [] (subC [c0, c1, c2] tl)).map fun rest => [x00, x01, x02] :: (tl) :: rest).foldl upd s) ++ L23 K k a0 a1 c0 c1 c2 x00 x01 x02 (ys.getD 0 0) (ys.getD 1 0) (ys.getD 2 0)) := by
  have kb := kbeq K
  obtain ⟨Yp, hYp⟩ : ∃ Yp : Nat → List (List (List Int)), Yp = fun N => (List.range N).flatMap fun (q : Nat) => ((rowE ((a1 - ((q : Nat) : Int))) [c1, c2]).flatMap fun tl => (tabE [] ((c0 - ((q : Nat) : Int)) :: subC [c1, c2] tl)).map fun rest => [x00, x01, x02] :: (((q : Nat) : Int) :: tl) :: rest) := ⟨_, rfl⟩
  have hY0 : Yp 0 = [] := by rw [hYp]; rfl
  have hYs : ∀ q : Nat, Yp (q + 1) = Yp q ++ ((rowE ((a1 - ((q : Nat) : Int))) [c1, c2]).flatMap fun tl => (tabE [] ((c0 - ((q : Nat) : Int)) :: subC [c1, c2] tl)).map fun rest => [x00, x01, x02] :: (((q : Nat) : Int) :: tl) :: rest) := by
    intro q
    simp only [hYp, List.range_succ, List.flatMap_append, List.flatMap_cons, List.flatMap_nil, List.append_nil]
  have hYe : ((rowE (a1) [c0, c1, c2]).flatMap fun tl => (tabE [] (subC [c0, c1, c2] tl)).map fun rest => [x00, x01, x02] :: (tl) :: rest) = Yp (min a1 c0 + 1).toNat := by
    rw [hYp]
    simp only [rowE, subC, List.flatMap_assoc, List.flatMap_map]
  rw [hYe] at hJ ⊢
  have hpre := pre_steps hYs _ hJ
  clear hYe hYp
  refine vcalls_fn hmix h56 rfl ?_
  simp -implicitDefEqProofs only [c56, caps23, gK1 hK, gK2 hK, gK3 hK, gK4 hK, gK5 hK, gK6 hK, gK7 hK, gK8 hK, sK1 hK, sK2 hK, sK3 hK, sK4 hK, sK5 hK, sK6 hK, sK7 hK, sK8 hK, kb, List.length_append, beq_self_eq_true, L23, push_cast, Nat.reduceBEq, Nat.reduceLT, Nat.reduceLeDiff, Nat.reduceAdd, Nat.reduceSub, Nat.reduceMul, Nat.reduceEqDiff, reduceCtorEq, ↓reduceIte, Int.reduceEq, Int.reduceLT, Int.reduceLE, Int.reduceNe, Int.reduceAdd, Int.reduceSub, Int.reduceMul, Int.reduceToNat, Nat.reduceShiftRight, Nat.reduceAnd, Nat.reduceBNe]
  refine ⟨by simp only [inR]; omega, by simp only [inR]; omega, ?_⟩
  refine loop_w (α := Nat × List Int) (fun b => ⟨[(77, I b.1), (76, I (min a1 c0 + 1)), (6, .ptr (K + 8) 0), (5, .ptr (K + 2) 0), (3, .ptr (K + 3) 0), (2, .ptr (K + 5) 0), (1, I 0), (0, I 1)], C ((Yp b.1).foldl upd s) ++ L23 K k a0 a1 c0 c1 c2 x00 x01 x02 (b.2.getD 0 0) (b.2.getD 1 0) (b.2.getD 2 0), []⟩)
    (fun b => b.1 ≤ (min a1 c0 + 1).toNat) (fun b => (min a1 c0 + 1).toNat - b.1) (0, [x10, x11, x12]) (by rw [hY0]; exact wk_tk rfl) (by simp only; omega) ?_
  rintro ⟨q, ys⟩ hq
  simp only at hq
  simp -implicitDefEqProofs only [c56L0, gK1 hK, gK2 hK, gK3 hK, gK4 hK, gK5 hK, gK6 hK, gK7 hK, gK8 hK, sK1 hK, sK2 hK, sK3 hK, sK4 hK, sK5 hK, sK6 hK, sK7 hK, sK8 hK, kb, List.length_append, beq_self_eq_true, L23, push_cast, Nat.reduceBEq, Nat.reduceLT, Nat.reduceLeDiff, Nat.reduceAdd, Nat.reduceSub, Nat.reduceMul, Nat.reduceEqDiff, reduceCtorEq, ↓reduceIte, Int.reduceEq, Int.reduceLT, Int.reduceLE, Int.reduceNe, Int.reduceAdd, Int.reduceSub, Int.reduceMul, Int.reduceToNat, Nat.reduceShiftRight, Nat.reduceAnd, Nat.reduceBNe]
  refine ⟨fun hc => ?_, fun hc => ?_⟩
  · refine ⟨by simp only [inR]; omega, by simp only [inR]; omega, by simp only [inR]; omega, ?_⟩
    refine call_rule (fill23_11 hK hR hk hY _ a0 (a1 - (q : Int)) (c0 - (q : Int)) c1 c2 x00 x01 x02 (q : Int) (ys.getD 1 0) (ys.getD 2 0) (hpre q (by omega)) (by omega)) ?_
    rintro v h' ⟨rfl, ys2, rfl⟩
    simp -implicitDefEqProofs only [Int.sub_add_cancel, gK1 hK, gK2 hK, gK3 hK, gK4 hK, gK5 hK, gK6 hK, gK7 hK, gK8 hK, sK1 hK, sK2 hK, sK3 hK, sK4 hK, sK5 hK, sK6 hK, sK7 hK, sK8 hK, kb, List.length_append, beq_self_eq_true, L23, push_cast, Nat.reduceBEq, Nat.reduceLT, Nat.reduceLeDiff, Nat.reduceAdd, Nat.reduceSub, Nat.reduceMul, Nat.reduceEqDiff, reduceCtorEq, ↓reduceIte, Int.reduceEq, Int.reduceLT, Int.reduceLE, Int.reduceNe, Int.reduceAdd, Int.reduceSub, Int.reduceMul, Int.reduceToNat, Nat.reduceShiftRight, Nat.reduceAnd, Nat.reduceBNe]
    refine ⟨by simp only [inR]; omega, by simp only [inR]; omega, by simp only [inR]; omega, (q + 1, (q : Int) :: ys2), by simp only; omega, by simp only; omega, ?_⟩
    simp only [hYs, List.foldl_append]
    exact wk_tk rfl
  · have hqe : q = (min a1 c0 + 1).toNat := by omega
    subst hqe
    refine fin_app (n := K + 9) (by simp [hK]) (by simp [hK] <;> omega) rfl (hR _ _ (by omega)) ?_ ⟨rfl, ys, ?_⟩
    · simp [rowsRefs, rowRefs, refsLtL, refsLt, NatBlt]; omega
    · rfl
theorem fill23_02 (hK : ∀ s, (C s).length = K + 1) (hR : ∀ s n, K + 1 ≤ n → rowsRefs n (C s) = true) (hk : k < K + 1) (hY : Yields23 J C K k upd r0 r1 k0 k1 k2) (s : σ) (a0 a1 c0 c1 c2 x00 x01 x02 x10 x11 x12 : Int) (hJ : Pre J upd s ((rowE (a0) [c2]).flatMap fun tl => (tabE [a1] (c0 :: c1 :: subC [c2] tl)).map fun rest => (x00 :: x01 :: tl) :: rest)) (hi : 0 ≤ x00 ∧ 0 ≤ x01 ∧ x00 + x01 + a0 = r0 ∧ 0 ≤ a0 ∧ a1 = r1 ∧ 0 ≤ a1 ∧ x00 + c0 = k0 ∧ 0 ≤ c0 ∧ x01 + c1 = k1 ∧ 0 ≤ c1 ∧ c2 = k2 ∧ 0 ≤ c2 ∧ r0 ≤ 20 ∧ r1 ≤ 20 ∧ k0 ≤ 20 ∧ k1 ≤ 20 ∧ k2 ≤ 20) :
    VCalls Tryd.prog 56 ([I 0, I 2] ++ caps23 K) (C s ++ L23 K k a0 a1 c0 c1 c2 x00 x01 x02 x10 x11 x12) (fun v h' => v = B true ∧ ∃ ys : List Int, h' = C (((rowE (a0) [c2]).flatMap fun tl => (tabE [a1] (c0 :: c1 :: subC [c2] tl)).map fun rest => (x00 :: x01 :: tl) :: rest).foldl upd s) ++ L23 K k a0 a1 c0 c1 c2 x00 x01 (ys.getD 0 0) (ys.getD 1 0) (ys.getD 2 0) (ys.getD 3 0)) := by
  have kb := kbeq K
  refine vcalls_fn hmix h56 rfl ?_
  simp -implicitDefEqProofs only [c56, caps23, gK1 hK, gK2 hK, gK3 hK, gK4 hK, gK5 hK, gK6 hK, gK7 hK, gK8 hK, sK1 hK, sK2 hK, sK3 hK, sK4 hK, sK5 hK, sK6 hK, sK7 hK, sK8 hK, kb, List.length_append, beq_self_eq_true, L23, push_cast, Nat.reduceBEq, Nat.reduceLT, Nat.reduceLeDiff, Nat.reduceAdd, Nat.reduceSub, Nat.reduceMul, Nat.reduceEqDiff, reduceCtorEq, ↓reduceIte, Int.reduceEq, Int.reduceLT, Int.reduceLE, Int.reduceNe, Int.reduceAdd, Int.reduceSub, Int.reduceMul, Int.reduceToNat, Nat.reduceShiftRight, Nat.reduceAnd, Nat.reduceBNe]
  refine ⟨by simp only [inR]; omega, fun hlt => ?_, fun hle => ?_⟩
  · skip
    refine fin_app (n := K + 9) (by simp [hK]) (by simp [hK] <;> omega) rfl (hR _ _ (by omega)) ?_ ⟨rfl, [x02, x10, x11, x12], ?_⟩
    · simp [rowsRefs, rowRefs, refsLtL, refsLt, NatBlt]; omega
    · rw [show rowE a0 [c2] = [] from if_neg (by omega)]; rfl
  · refine ⟨by simp only [inR]; omega, by simp only [inR]; omega, ?_⟩
    have e : ((rowE (a0) [c2]).flatMap fun tl => (tabE [a1] (c0 :: c1 :: subC [c2] tl)).map fun rest => (x00 :: x01 :: tl) :: rest) = ((rowE (a1) [c0, c1, (c2 - a0)]).flatMap fun tl => (tabE [] (subC [c0, c1, (c2 - a0)] tl)).map fun rest => [x00, x01, a0] :: (tl) :: rest) := by
      rw [show rowE a0 [c2] = [[a0]] from if_pos (by omega)]
      simp only [tabE_cons, subC, List.map_flatMap, List.map_map, List.flatMap_cons, List.flatMap_nil, List.append_nil, Function.comp_def, List.nil_append, List.cons_append]
    rw [e] at hJ
    refine call_rule (fill23_10 hK hR hk hY s a0 a1 c0 c1 (c2 - a0) x00 x01 a0 x10 x11 x12 hJ (by omega)) ?_
    rintro v h' ⟨rfl, ys, rfl⟩
    simp -implicitDefEqProofs only [Int.sub_add_cancel, gK1 hK, gK2 hK, gK3 hK, gK4 hK, gK5 hK, gK6 hK, gK7 hK, gK8 hK, sK1 hK, sK2 hK, sK3 hK, sK4 hK, sK5 hK, sK6 hK, sK7 hK, sK8 hK, kb, List.length_append, beq_self_eq_true, L23, push_cast, Nat.reduceBEq, Nat.reduceLT, Nat.reduceLeDiff, Nat.reduceAdd, Nat.reduceSub, Nat.reduceMul, Nat.reduceEqDiff, reduceCtorEq, ↓reduceIte, Int.reduceEq, Int.reduceLT, Int.reduceLE, Int.reduceNe, Int.reduceAdd, Int.reduceSub, Int.reduceMul, Int.reduceToNat, Nat.reduceShiftRight, Nat.reduceAnd, Nat.reduceBNe]
    refine ⟨by simp only [inR]; omega, ?_⟩
    refine fin_app (n := K + 9) (by simp [hK]) (by simp [hK] <;> omega) rfl (hR _ _ (by omega)) ?_ ⟨rfl, a0 :: ys, ?_⟩
    · simp [rowsRefs, rowRefs, refsLtL, refsLt, NatBlt]; omega
    · rw [e]; rfl
theorem fill23_01 (hK : ∀ s, (C s).length = K + 1) (hR : ∀ s n, K + 1 ≤ n → rowsRefs n (C s) = true) (hk : k < K + 1) (hY : Yields23 J C K k upd r0 r1 k0 k1 k2) (s : σ) (a0 a1 c0 c1 c2 x00 x01 x02 x10 x11 x12 : Int) (hJ : Pre J upd s ((rowE (a0) [c1, c2]).flatMap fun tl => (tabE [a1] (c0 :: subC [c1, c2] tl)).map fun rest => (x00 :: tl) :: rest)) (hi : 0 ≤ x00 ∧ x00 + a0 = r0 ∧ 0 ≤ a0 ∧ a1 = r1 ∧ 0 ≤ a1 ∧ x00 + c0 = k0 ∧ 0 ≤ c0 ∧ c1 = k1 ∧ 0 ≤ c1 ∧ c2 = k2 ∧ 0 ≤ c2 ∧ r0 ≤ 20 ∧ r1 ≤ 20 ∧ k0 ≤ 20 ∧ k1 ≤ 20 ∧ k2 ≤ 20) :
    VCalls Tryd.prog 56 ([I 0, I 1] ++ caps23 K) (C s ++ L23 K k a0 a1 c0 c1 c2 x00 x01 x02 x10 x11 x12) (fun v h' => v = B true ∧ ∃ ys : List Int, h' = C (((rowE (a0) [c1, c2]).flatMap fun tl => (tabE [a1] (c0 :: subC [c1, c2] tl)).map fun rest => (x00 :: tl) :: rest).foldl upd s) ++ L23 K k a0 a1 c0 c1 c2 x00 (ys.getD 0 0) (ys.getD 1 0) (ys.getD 2 0) (ys.getD 3 0) (ys.getD 4 0)) := by
  have kb := kbeq K
  obtain ⟨Yp, hYp⟩ : ∃ Yp : Nat → List (List (List Int)), Yp = fun N => (List.range N).flatMap fun (q : Nat) => ((rowE ((a0 - ((q : Nat) : Int))) [c2]).flatMap fun tl => (tabE [a1] (c0 :: (c1 - ((q : Nat) : Int)) :: subC [c2] tl)).map fun rest => (x00 :: ((q : Nat) : Int) :: tl) :: rest) := ⟨_, rfl⟩
  have hY0 : Yp 0 = [] := by rw [hYp]; rfl
  have hYs : ∀ q : Nat, Yp (q + 1) = Yp q ++ ((rowE ((a0 - ((q : Nat) : Int))) [c2]).flatMap fun tl => (tabE [a1] (c0 :: (c1 - ((q : Nat) : Int)) :: subC [c2] tl)).map fun rest => (x00 :: ((q : Nat) : Int) :: tl) :: rest) := by
    intro q
    simp only [hYp, List.range_succ, List.flatMap_append, List.flatMap_cons, List.flatMap_nil, List.append_nil]
  have hYe : ((rowE (a0) [c1, c2]).flatMap fun tl => (tabE [a1] (c0 :: subC [c1, c2] tl)).map fun rest => (x00 :: tl) :: rest) = Yp (min a0 c1 + 1).toNat := by
    rw [hYp]
    simp only [rowE, subC, List.flatMap_assoc, List.flatMap_map]
  rw [hYe] at hJ ⊢
  have hpre := pre_steps hYs _ hJ
  clear hYe hYp
  refine vcalls_fn hmix h56 rfl ?_
  simp -implicitDefEqProofs only [c56, caps23, gK1 hK, gK2 hK, gK3 hK, gK4 hK, gK5 hK, gK6 hK, gK7 hK, gK8 hK, sK1 hK, sK2 hK, sK3 hK, sK4 hK, sK5 hK, sK6 hK, sK7 hK, sK8 hK, kb, List.length_append, beq_self_eq_true, L23, push_cast, Nat.reduceBEq, Nat.reduceLT, Nat.reduceLeDiff, Nat.reduceAdd, Nat.reduceSub, Nat.reduceMul, Nat.reduceEqDiff, reduceCtorEq, ↓reduceIte, Int.reduceEq, Int.reduceLT, Int.reduceLE, Int.reduceNe, Int.reduceAdd, Int.reduceSub, Int.reduceMul, Int.reduceToNat, Nat.reduceShiftRight, Nat.reduceAnd, Nat.reduceBNe]
  refine ⟨by simp only [inR]; omega, by simp only [inR]; omega, ?_⟩
  refine loop_w (α := Nat × List Int) (fun b => ⟨[(77, I b.1), (76, I (min a0 c1 + 1)), (6, .ptr (K + 8) 0), (5, .ptr (K + 2) 0), (3, .ptr (K + 3) 0), (2, .ptr (K + 5) 0), (1, I 1), (0, I 0)], C ((Yp b.1).foldl upd s) ++ L23 K k a0 a1 c0 c1 c2 x00 (b.2.getD 0 0) (b.2.getD 1 0) (b.2.getD 2 0) (b.2.getD 3 0) (b.2.getD 4 0), []⟩)
    (fun b => b.1 ≤ (min a0 c1 + 1).toNat) (fun b => (min a0 c1 + 1).toNat - b.1) (0, [x01, x02, x10, x11, x12]) (by rw [hY0]; exact wk_tk rfl) (by simp only; omega) ?_
  rintro ⟨q, ys⟩ hq
  simp only at hq
  simp -implicitDefEqProofs only [c56L0, gK1 hK, gK2 hK, gK3 hK, gK4 hK, gK5 hK, gK6 hK, gK7 hK, gK8 hK, sK1 hK, sK2 hK, sK3 hK, sK4 hK, sK5 hK, sK6 hK, sK7 hK, sK8 hK, kb, List.length_append, beq_self_eq_true, L23, push_cast, Nat.reduceBEq, Nat.reduceLT, Nat.reduceLeDiff, Nat.reduceAdd, Nat.reduceSub, Nat.reduceMul, Nat.reduceEqDiff, reduceCtorEq, ↓reduceIte, Int.reduceEq, Int.reduceLT, Int.reduceLE, Int.reduceNe, Int.reduceAdd, Int.reduceSub, Int.reduceMul, Int.reduceToNat, Nat.reduceShiftRight, Nat.reduceAnd, Nat.reduceBNe]
  refine ⟨fun hc => ?_, fun hc => ?_⟩
  · refine ⟨by simp only [inR]; omega, by simp only [inR]; omega, by simp only [inR]; omega, ?_⟩
    refine call_rule (fill23_02 hK hR hk hY _ (a0 - (q : Int)) a1 c0 (c1 - (q : Int)) c2 x00 (q : Int) (ys.getD 1 0) (ys.getD 2 0) (ys.getD 3 0) (ys.getD 4 0) (hpre q (by omega)) (by omega)) ?_
    rintro v h' ⟨rfl, ys2, rfl⟩
    simp -implicitDefEqProofs only [Int.sub_add_cancel, gK1 hK, gK2 hK, gK3 hK, gK4 hK, gK5 hK, gK6 hK, gK7 hK, gK8 hK, sK1 hK, sK2 hK, sK3 hK, sK4 hK, sK5 hK, sK6 hK, sK7 hK, sK8 hK, kb, List.length_append, beq_self_eq_true, L23, push_cast, Nat.reduceBEq, Nat.reduceLT, Nat.reduceLeDiff, Nat.reduceAdd, Nat.reduceSub, Nat.reduceMul, Nat.reduceEqDiff, reduceCtorEq, ↓reduceIte, Int.reduceEq, Int.reduceLT, Int.reduceLE, Int.reduceNe, Int.reduceAdd, Int.reduceSub, Int.reduceMul, Int.reduceToNat, Nat.reduceShiftRight, Nat.reduceAnd, Nat.reduceBNe]
    refine ⟨by simp only [inR]; omega, by simp only [inR]; omega, by simp only [inR]; omega, (q + 1, (q : Int) :: ys2), by simp only; omega, by simp only; omega, ?_⟩
    simp only [hYs, List.foldl_append]
    exact wk_tk rfl
  · have hqe : q = (min a0 c1 + 1).toNat := by omega
    subst hqe
    refine fin_app (n := K + 9) (by simp [hK]) (by simp [hK] <;> omega) rfl (hR _ _ (by omega)) ?_ ⟨rfl, ys, ?_⟩
    · simp [rowsRefs, rowRefs, refsLtL, refsLt, NatBlt]; omega
    · rfl
theorem fill23_00 (hK : ∀ s, (C s).length = K + 1) (hR : ∀ s n, K + 1 ≤ n → rowsRefs n (C s) = true) (hk : k < K + 1) (hY : Yields23 J C K k upd r0 r1 k0 k1 k2) (s : σ) (a0 a1 c0 c1 c2 x00 x01 x02 x10 x11 x12 : Int) (hJ : Pre J upd s ((rowE (a0) [c0, c1, c2]).flatMap fun tl => (tabE [a1] (subC [c0, c1, c2] tl)).map fun rest => (tl) :: rest)) (hi : a0 = r0 ∧ 0 ≤ a0 ∧ a1 = r1 ∧ 0 ≤ a1 ∧ c0 = k0 ∧ 0 ≤ c0 ∧ c1 = k1 ∧ 0 ≤ c1 ∧ c2 = k2 ∧ 0 ≤ c2 ∧ r0 ≤ 20 ∧ r1 ≤ 20 ∧ k0 ≤ 20 ∧ k1 ≤ 20 ∧ k2 ≤ 20) :
    VCalls Tryd.prog 56 ([I 0, I 0] ++ caps23 K) (C s ++ L23 K k a0 a1 c0 c1 c2 x00 x01 x02 x10 x11 x12) (fun v h' => v = B true ∧ ∃ ys : List Int, h' = C (((rowE (a0) [c0, c1, c2]).flatMap fun tl => (tabE [a1] (subC [c0, c1, c2] tl)).map fun rest => (tl) :: rest).foldl upd s) ++ L23 K k a0 a1 c0 c1 c2 (ys.getD 0 0) (ys.getD 1 0) (ys.getD 2 0) (ys.getD 3 0) (ys.getD 4 0) (ys.getD 5 0)) := by
  have kb := kbeq K
  obtain ⟨Yp, hYp⟩ : ∃ Yp : Nat → List (List (List Int)), Yp = fun N => (List.range N).flatMap fun (q : Nat) => ((rowE ((a0 - ((q : Nat) : Int))) [c1, c2]).flatMap fun tl => (tabE [a1] ((c0 - ((q : Nat) : Int)) :: subC [c1, c2] tl)).map fun rest => (((q : Nat) : Int) :: tl) :: rest) := ⟨_, rfl⟩
  have hY0 : Yp 0 = [] := by rw [hYp]; rfl
  have hYs : ∀ q : Nat, Yp (q + 1) = Yp q ++ ((rowE ((a0 - ((q : Nat) : Int))) [c1, c2]).flatMap fun tl => (tabE [a1] ((c0 - ((q : Nat) : Int)) :: subC [c1, c2] tl)).map fun rest => (((q : Nat) : Int) :: tl) :: rest) := by
    intro q
    simp only [hYp, List.range_succ, List.flatMap_append, List.flatMap_cons, List.flatMap_nil, List.append_nil]
  have hYe : ((rowE (a0) [c0, c1, c2]).flatMap fun tl => (tabE [a1] (subC [c0, c1, c2] tl)).map fun rest => (tl) :: rest) = Yp (min a0 c0 + 1).toNat := by
    rw [hYp]
    simp only [rowE, subC, List.flatMap_assoc, List.flatMap_map]
  rw [hYe] at hJ ⊢
  have hpre := pre_steps hYs _ hJ
  clear hYe hYp
  refine vcalls_fn hmix h56 rfl ?_
  simp -implicitDefEqProofs only [c56, caps23, gK1 hK, gK2 hK, gK3 hK, gK4 hK, gK5 hK, gK6 hK, gK7 hK, gK8 hK, sK1 hK, sK2 hK, sK3 hK, sK4 hK, sK5 hK, sK6 hK, sK7 hK, sK8 hK, kb, List.length_append, beq_self_eq_true, L23, push_cast, Nat.reduceBEq, Nat.reduceLT, Nat.reduceLeDiff, Nat.reduceAdd, Nat.reduceSub, Nat.reduceMul, Nat.reduceEqDiff, reduceCtorEq, ↓reduceIte, Int.reduceEq, Int.reduceLT, Int.reduceLE, Int.reduceNe, Int.reduceAdd, Int.reduceSub, Int.reduceMul, Int.reduceToNat, Nat.reduceShiftRight, Nat.reduceAnd, Nat.reduceBNe]
  refine ⟨by simp only [inR]; omega, by simp only [inR]; omega, ?_⟩
  refine loop_w (α := Nat × List Int) (fun b => ⟨[(77, I b.1), (76, I (min a0 c0 + 1)), (6, .ptr (K + 8) 0), (5, .ptr (K + 2) 0), (3, .ptr (K + 3) 0), (2, .ptr (K + 5) 0), (1, I 0), (0, I 0)], C ((Yp b.1).foldl upd s) ++ L23 K k a0 a1 c0 c1 c2 (b.2.getD 0 0) (b.2.getD 1 0) (b.2.getD 2 0) (b.2.getD 3 0) (b.2.getD 4 0) (b.2.getD 5 0), []⟩)
    (fun b => b.1 ≤ (min a0 c0 + 1).toNat) (fun b => (min a0 c0 + 1).toNat - b.1) (0, [x00, x01, x02, x10, x11, x12]) (by rw [hY0]; exact wk_tk rfl) (by simp only; omega) ?_
  rintro ⟨q, ys⟩ hq
  simp only at hq
  simp -implicitDefEqProofs only [c56L0, gK1 hK, gK2 hK, gK3 hK, gK4 hK, gK5 hK, gK6 hK, gK7 hK, gK8 hK, sK1 hK, sK2 hK, sK3 hK, sK4 hK, sK5 hK, sK6 hK, sK7 hK, sK8 hK, kb, List.length_append, beq_self_eq_true, L23, push_cast, Nat.reduceBEq, Nat.reduceLT, Nat.reduceLeDiff, Nat.reduceAdd, Nat.reduceSub, Nat.reduceMul, Nat.reduceEqDiff, reduceCtorEq, ↓reduceIte, Int.reduceEq, Int.reduceLT, Int.reduceLE, Int.reduceNe, Int.reduceAdd, Int.reduceSub, Int.reduceMul, Int.reduceToNat, Nat.reduceShiftRight, Nat.reduceAnd, Nat.reduceBNe]
  refine ⟨fun hc => ?_, fun hc => ?_⟩
  · refine ⟨by simp only [inR]; omega, by simp only [inR]; omega, by simp only [inR]; omega, ?_⟩
    refine call_rule (fill23_01 hK hR hk hY _ (a0 - (q : Int)) a1 (c0 - (q : Int)) c1 c2 (q : Int) (ys.getD 1 0) (ys.getD 2 0) (ys.getD 3 0) (ys.getD 4 0) (ys.getD 5 0) (hpre q (by omega)) (by omega)) ?_
    rintro v h' ⟨rfl, ys2, rfl⟩
    simp -implicitDefEqProofs only [Int.sub_add_cancel, gK1 hK, gK2 hK, gK3 hK, gK4 hK, gK5 hK, gK6 hK, gK7 hK, gK8 hK, sK1 hK, sK2 hK, sK3 hK, sK4 hK, sK5 hK, sK6 hK, sK7 hK, sK8 hK, kb, List.length_append, beq_self_eq_true, L23, push_cast, Nat.reduceBEq, Nat.reduceLT, Nat.reduceLeDiff, Nat.reduceAdd, Nat.reduceSub, Nat.reduceMul, Nat.reduceEqDiff, reduceCtorEq, ↓reduceIte, Int.reduceEq, Int.reduceLT, Int.reduceLE, Int.reduceNe, Int.reduceAdd, Int.reduceSub, Int.reduceMul, Int.reduceToNat, Nat.reduceShiftRight, Nat.reduceAnd, Nat.reduceBNe]
    refine ⟨by simp only [inR]; omega, by simp only [inR]; omega, by simp only [inR]; omega, (q + 1, (q : Int) :: ys2), by simp only; omega, by simp only; omega, ?_⟩
    simp only [hYs, List.foldl_append]
    exact wk_tk rfl
  · have hqe : q = (min a0 c0 + 1).toNat := by omega
    subst hqe
    refine fin_app (n := K + 9) (by simp [hK]) (by simp [hK] <;> omega) rfl (hR _ _ (by omega)) ?_ ⟨rfl, ys, ?_⟩
    · simp [rowsRefs, rowRefs, refsLtL, refsLt, NatBlt]; omega
    · rfl
end
end Go.Proofs.YtligakiolapkkaaDoor

namespace Go.Proofs.YtligakiolapkkaaDoor
open Go GoV
set_option maxHeartbeats 8000000
set_option maxRecDepth 10000
set_option linter.unusedVariables false
set_option linter.unusedSimpArgs false
def caps32 (K : Nat) : List AV := [.ptr (K + 5) 0, .ptr (K + 3) 0, .ptr (K + 1) 0, .ptr (K + 2) 0, .ptr (K + 9) 0]
def L32 (K k : Nat) (a0 a1 a2 c0 c1 x00 x01 x10 x11 x20 x21 : Int) : Heap := [.box [.yld k], .box [I a0, I a1, I a2], .box [I c0, I c1, I 0], .box [.slc (K + 6) 2 0 2, .slc (K + 7) 2 0 2, .slc (K + 8) 2 0 2], .box [.slc (K + 4) 0 0 3], .seq (.int .i64) [x00, x01] true, .seq (.int .i64) [x10, x11] true, .seq (.int .i64) [x20, x21] true, .box [.fn 56 [] [.ptr (K + 5) 0, .ptr (K + 3) 0, .ptr (K + 1) 0, .ptr (K + 2) 0, .ptr (K + 9) 0]]]
section
variable {σ : Type} {J : σ → Prop} {C : σ → Heap} {K k : Nat} {upd : σ → List (List Int) → σ} {r0 r1 r2 k0 k1 : Int}
def Yields32 (J : σ → Prop) (C : σ → Heap) (K k : Nat) (upd : σ → List (List Int) → σ) (r0 r1 r2 k0 k1 : Int) : Prop := ∀ (s : σ) (a0 a1 a2 c0 c1 x00 x01 x10 x11 x20 x21 : Int), J s → (0 ≤ x00 ∧ 0 ≤ x01 ∧ 0 ≤ x10 ∧ 0 ≤ x11 ∧ 0 ≤ x20 ∧ 0 ≤ x21) → (x00 + x01 = r0 ∧ x10 + x11 = r1 ∧ x20 + x21 = r2) → (x00 + x10 + x20 = k0 ∧ x01 + x11 + x21 = k1) →
    VYield Tryd.prog k [.slc (K + 4) 0 0 3] (C s ++ L32 K k a0 a1 a2 c0 c1 x00 x01 x10 x11 x20 x21) (fun v h' => v = B true ∧ h' = C (upd s [[x00, x01], [x10, x11], [x20, x21]]) ++ L32 K k a0 a1 a2 c0 c1 x00 x01 x10 x11 x20 x21)
theorem fill32_30 (hK : ∀ s, (C s).length = K + 1) (hR : ∀ s n, K + 1 ≤ n → rowsRefs n (C s) = true) (hk : k < K + 1) (hY : Yields32 J C K k upd r0 r1 r2 k0 k1) (s : σ) (a0 a1 a2 c0 c1 x00 x01 x10 x11 x20 x21 : Int) (hJ : Pre J upd s ((tabE [] [c0, c1]).map fun rest => [x00, x01] :: [x10, x11] :: [x20, x21] :: rest)) (hi : 0 ≤ x00 ∧ 0 ≤ x01 ∧ 0 ≤ x10 ∧ 0 ≤ x11 ∧ 0 ≤ x20 ∧ 0 ≤ x21 ∧ x00 + x01 = r0 ∧ x10 + x11 = r1 ∧ x20 + x21 = r2 ∧ x00 + x10 + x20 + c0 = k0 ∧ 0 ≤ c0 ∧ x01 + x11 + x21 + c1 = k1 ∧ 0 ≤ c1 ∧ r0 ≤ 20 ∧ r1 ≤ 20 ∧ r2 ≤ 20 ∧ k0 ≤ 20 ∧ k1 ≤ 20) :
    VCalls Tryd.prog 56 ([I 3, I 0] ++ caps32 K) (C s ++ L32 K k a0 a1 a2 c0 c1 x00 x01 x10 x11 x20 x21) (fun v h' => v = B true ∧ ∃ ys : List Int, h' = C (((tabE [] [c0, c1]).map fun rest => [x00, x01] :: [x10, x11] :: [x20, x21] :: rest).foldl upd s) ++ L32 K k a0 a1 a2 c0 c1 x00 x01 x10 x11 x20 x21) := by
  have kb := kbeq K
  by_cases hz : c0 = 0 ∧ c1 = 0
  · obtain ⟨rfl, rfl⟩ := hz
    refine vcalls_fn hmix h56 rfl ?_
    simp -implicitDefEqProofs only [c56, caps32, gK1 hK, gK2 hK, gK3 hK, gK4 hK, gK5 hK, gK6 hK, gK7 hK, gK8 hK, gK9 hK, sK1 hK, sK2 hK, sK3 hK, sK4 hK, sK5 hK, sK6 hK, sK7 hK, sK8 hK, sK9 hK, kb, List.length_append, beq_self_eq_true, L32, push_cast, Nat.reduceBEq, Nat.reduceLT, Nat.reduceLeDiff, Nat.reduceAdd, Nat.reduceSub, Nat.reduceMul, Nat.reduceEqDiff, reduceCtorEq, ↓reduceIte, Int.reduceEq, Int.reduceLT, Int.reduceLE, Int.reduceNe, Int.reduceAdd, Int.reduceSub, Int.reduceMul, Int.reduceToNat, Nat.reduceShiftRight, Nat.reduceAnd, Nat.reduceBNe]
    refine yld_rule (hY s a0 a1 a2 0 0 x00 x01 x10 x11 x20 x21 hJ.1 (by omega) (by omega) (by omega)) ?_
    rintro v h' ⟨rfl, rfl⟩
    simp -implicitDefEqProofs only [L32, push_cast, Nat.reduceBEq, Nat.reduceLT, Nat.reduceLeDiff, Nat.reduceAdd, Nat.reduceSub, Nat.reduceMul, Nat.reduceEqDiff, reduceCtorEq, ↓reduceIte, Int.reduceEq, Int.reduceLT, Int.reduceLE, Int.reduceNe, Int.reduceAdd, Int.reduceSub, Int.reduceMul, Int.reduceToNat, Nat.reduceShiftRight, Nat.reduceAnd, Nat.reduceBNe]
    refine fin_app (n := K + 10) (by simp [hK]) (by simp [hK] <;> omega) rfl (hR _ _ (by omega)) ?_ ⟨rfl, [], ?_⟩
    · simp [rowsRefs, rowRefs, refsLtL, refsLt, NatBlt]; omega
    · rfl
  · have hz2 : (decide (c0 = 0) && decide (c1 = 0)) = false := by simp only [Bool.and_eq_false_iff, decide_eq_false_iff_not]; omega
    refine vcalls_fn hmix h56 rfl ?_
    simp -implicitDefEqProofs only [c56, caps32, gK1 hK, gK2 hK, gK3 hK, gK4 hK, gK5 hK, gK6 hK, gK7 hK, gK8 hK, gK9 hK, sK1 hK, sK2 hK, sK3 hK, sK4 hK, sK5 hK, sK6 hK, sK7 hK, sK8 hK, sK9 hK, kb, List.length_append, beq_self_eq_true, L32, hz2, push_cast, Nat.reduceBEq, Nat.reduceLT, Nat.reduceLeDiff, Nat.reduceAdd, Nat.reduceSub, Nat.reduceMul, Nat.reduceEqDiff, reduceCtorEq, ↓reduceIte, Int.reduceEq, Int.reduceLT, Int.reduceLE, Int.reduceNe, Int.reduceAdd, Int.reduceSub, Int.reduceMul, Int.reduceToNat, Nat.reduceShiftRight, Nat.reduceAnd, Nat.reduceBNe]
    refine fin_app (n := K + 10) (by simp [hK]) (by simp [hK] <;> omega) rfl (hR _ _ (by omega)) ?_ ⟨rfl, [], ?_⟩
    · simp [rowsRefs, rowRefs, refsLtL, refsLt, NatBlt]; omega
    · rw [tabE_no (by simp; omega)]; rfl
theorem fill32_21 (hK : ∀ s, (C s).length = K + 1) (hR : ∀ s n, K + 1 ≤ n → rowsRefs n (C s) = true) (hk : k < K + 1) (hY : Yields32 J C K k upd r0 r1 r2 k0 k1) (s : σ) (a0 a1 a2 c0 c1 x00 x01 x10 x11 x20 x21 : Int) (hJ : Pre J upd s ((rowE (a2) [c1]).flatMap fun tl => (tabE [] (c0 :: subC [c1] tl)).map fun rest => [x00, x01] :: [x10, x11] :: (x20 :: tl) :: rest)) (hi : 0 ≤ x00 ∧ 0 ≤ x01 ∧ 0 ≤ x10 ∧ 0 ≤ x11 ∧ 0 ≤ x20 ∧ x00 + x01 = r0 ∧ x10 + x11 = r1 ∧ x20 + a2 = r2 ∧ 0 ≤ a2 ∧ x00 + x10 + x20 + c0 = k0 ∧ 0 ≤ c0 ∧ x01 + x11 + c1 = k1 ∧ 0 ≤ c1 ∧ r0 ≤ 20 ∧ r1 ≤ 20 ∧ r2 ≤ 20 ∧ k0 ≤ 20 ∧ k1 ≤ 20) :
    VCalls Tryd.prog 56 ([I 2, I 1] ++ caps32 K) (C s ++ L32 K k a0 a1 a2 c0 c1 x00 x01 x10 x11 x20 x21) (fun v h' => v = B true ∧ ∃ ys : List Int, h' = C (((rowE (a2) [c1]).flatMap fun tl => (tabE [] (c0 :: subC [c1] tl)).map fun rest => [x00, x01] :: [x10, x11] :: (x20 :: tl) :: rest).foldl upd s) ++ L32 K k a0 a1 a2 c0 c1 x00 x01 x10 x11 x20 (ys.getD 0 0)) := by
  have kb := kbeq K
  refine vcalls_fn hmix h56 rfl ?_
  simp -implicitDefEqProofs only [c56, caps32, gK1 hK, gK2 hK, gK3 hK, gK4 hK, gK5 hK, gK6 hK, gK7 hK, gK8 hK, gK9 hK, sK1 hK, sK2 hK, sK3 hK, sK4 hK, sK5 hK, sK6 hK, sK7 hK, sK8 hK, sK9 hK, kb, List.length_append, beq_self_eq_true, L32, push_cast, Nat.reduceBEq, Nat.reduceLT, Nat.reduceLeDiff, Nat.reduceAdd, Nat.reduceSub, Nat.reduceMul, Nat.reduceEqDiff, reduceCtorEq, ↓reduceIte, Int.reduceEq, Int.reduceLT, Int.reduceLE, Int.reduceNe, Int.reduceAdd, Int.reduceSub, Int.reduceMul, Int.reduceToNat, Nat.reduceShiftRight, Nat.reduceAnd, Nat.reduceBNe]
  refine ⟨by simp only [inR]; omega, fun hlt => ?_, fun hle => ?_⟩
  · skip
    refine fin_app (n := K + 10) (by simp [hK]) (by simp [hK] <;> omega) rfl (hR _ _ (by omega)) ?_ ⟨rfl, [x21], ?_⟩
    · simp [rowsRefs, rowRefs, refsLtL, refsLt, NatBlt]; omega
    · rw [show rowE a2 [c1] = [] from if_neg (by omega)]; rfl
  · refine ⟨by simp only [inR]; omega, by simp only [inR]; omega, ?_⟩
    have e : ((rowE (a2) [c1]).flatMap fun tl => (tabE [] (c0 :: subC [c1] tl)).map fun rest => [x00, x01] :: [x10, x11] :: (x20 :: tl) :: rest) = ((tabE [] [c0, (c1 - a2)]).map fun rest => [x00, x01] :: [x10, x11] :: [x20, a2] :: rest) := by
      rw [show rowE a2 [c1] = [[a2]] from if_pos (by omega)]
      simp only [tabE_cons, subC, List.map_flatMap, List.map_map, List.flatMap_cons, List.flatMap_nil, List.append_nil, Function.comp_def, List.nil_append, List.cons_append]
    rw [e] at hJ
    refine call_rule (fill32_30 hK hR hk hY s a0 a1 a2 c0 (c1 - a2) x00 x01 x10 x11 x20 a2 hJ (by omega)) ?_
    rintro v h' ⟨rfl, ys, rfl⟩
    simp -implicitDefEqProofs only [Int.sub_add_cancel, gK1 hK, gK2 hK, gK3 hK, gK4 hK, gK5 hK, gK6 hK, gK7 hK, gK8 hK, gK9 hK, sK1 hK, sK2 hK, sK3 hK, sK4 hK, sK5 hK, sK6 hK, sK7 hK, sK8 hK, sK9 hK, kb, List.length_append, beq_self_eq_true, L32, push_cast, Nat.reduceBEq, Nat.reduceLT, Nat.reduceLeDiff, Nat.reduceAdd, Nat.reduceSub, Nat.reduceMul, Nat.reduceEqDiff, reduceCtorEq, ↓reduceIte, Int.reduceEq, Int.reduceLT, Int.reduceLE, Int.reduceNe, Int.reduceAdd, Int.reduceSub, Int.reduceMul, Int.reduceToNat, Nat.reduceShiftRight, Nat.reduceAnd, Nat.reduceBNe]
    refine ⟨by simp only [inR]; omega, ?_⟩
    refine fin_app (n := K + 10) (by simp [hK]) (by simp [hK] <;> omega) rfl (hR _ _ (by omega)) ?_ ⟨rfl, a2 :: ys, ?_⟩
    · simp [rowsRefs, rowRefs, refsLtL, refsLt, NatBlt]; omega
    · rw [e]; rfl
theorem fill32_20 (hK : ∀ s, (C s).length = K + 1) (hR : ∀ s n, K + 1 ≤ n → rowsRefs n (C s) = true) (hk : k < K + 1) (hY : Yields32 J C K k upd r0 r1 r2 k0 k1) (s : σ) (a0 a1 a2 c0 c1 x00 x01 x10 x11 x20 x21 : Int) (hJ : Pre J upd s ((rowE (a2) [c0, c1]).flatMap fun tl => (tabE [] (subC [c0, c1] tl)).map fun rest => [x00, x01] :: [x10, x11] :: (tl) :: rest)) (hi : 0 ≤ x00 ∧ 0 ≤ x01 ∧ 0 ≤ x10 ∧ 0 ≤ x11 ∧ x00 + x01 = r0 ∧ x10 + x11 = r1 ∧ a2 = r2 ∧ 0 ≤ a2 ∧ x00 + x10 + c0 = k0 ∧ 0 ≤ c0 ∧ x01 + x11 + c1 = k1 ∧ 0 ≤ c1 ∧ r0 ≤ 20 ∧ r1 ≤ 20 ∧ r2 ≤ 20 ∧ k0 ≤ 20 ∧ k1 ≤ 20) :
    VCalls Tryd.prog 56 ([I 2, I 0] ++ caps32 K) (C s ++ L32 K k a0 a1 a2 c0 c1 x00 x01 x10 x11 x20 x21) (fun v h' => v = B true ∧ ∃ ys : List Int, h' = C (((rowE (a2) [c0, c1]).flatMap fun tl => (tabE [] (subC [c0, c1] tl)).map fun rest => [x00, x01] :: [x10, x11] :: (tl) :: rest).foldl upd s) ++ L32 K k a0 a1 a2 c0 c1 x00 x01 x10 x11 (ys.getD 0 0) (ys.getD 1 0)) := by
  have kb := kbeq K
  obtain ⟨Yp, hYp⟩ : ∃ Yp : Nat → List (List (List Int)), Yp = fun N => (List.range N).flatMap fun (q : Nat) => ((rowE ((a2 - ((q : Nat) : Int))) [c1]).flatMap fun tl => (tabE [] ((c0 - ((q : Nat) : Int)) :: subC [c1] tl)).map fun rest => [x00, x01] :: [x10, x11] :: (((q : Nat) : Int) :: tl) :: rest) := ⟨_, rfl⟩
  have hY0 : Yp 0 = [] := by rw [hYp]; rfl
  have hYs : ∀ q : Nat, Yp (q + 1) = Yp q ++ ((rowE ((a2 - ((q : Nat) : Int))) [c1]).flatMap fun tl => (tabE [] ((c0 - ((q : Nat) : Int)) :: subC [c1] tl)).map fun rest => [x00, x01] :: [x10, x11] :: (((q : Nat) : Int) :: tl) :: rest) := by
    intro q
    simp only [hYp, List.range_succ, List.flatMap_append, List.flatMap_cons, List.flatMap_nil, List.append_nil]
  have hYe : ((rowE (a2) [c0, c1]).flatMap fun tl => (tabE [] (subC [c0, c1] tl)).map fun rest => [x00, x01] :: [x10, x11] :: (tl) :: rest) = Yp (min a2 c0 + 1).toNat := by
    rw [hYp]
    simp only [rowE, subC, List.flatMap_assoc, List.flatMap_map]
  rw [hYe] at hJ ⊢
  have hpre := pre_steps hYs _ hJ
  clear hYe hYp
  refine vcalls_fn hmix h56 rfl ?_
  simp -implicitDefEqProofs only [c56, caps32, gK1 hK, gK2 hK, gK3 hK, gK4 hK, gK5 hK, gK6 hK, gK7 hK, gK8 hK, gK9 hK, sK1 hK, sK2 hK, sK3 hK, sK4 hK, sK5 hK, sK6 hK, sK7 hK, sK8 hK, sK9 hK, kb, List.length_append, beq_self_eq_true, L32, push_cast, Nat.reduceBEq, Nat.reduceLT, Nat.reduceLeDiff, Nat.reduceAdd, Nat.reduceSub, Nat.reduceMul, Nat.reduceEqDiff, reduceCtorEq, ↓reduceIte, Int.reduceEq, Int.reduceLT, Int.reduceLE, Int.reduceNe, Int.reduceAdd, Int.reduceSub, Int.reduceMul, Int.reduceToNat, Nat.reduceShiftRight, Nat.reduceAnd, Nat.reduceBNe]
  refine ⟨by simp only [inR]; omega, by simp only [inR]; omega, ?_⟩
  refine loop_w (α := Nat × List Int) (fun b => ⟨[(77, I b.1), (76, I (min a2 c0 + 1)), (6, .ptr (K + 9) 0), (5, .ptr (K + 2) 0), (3, .ptr (K + 3) 0), (2, .ptr (K + 5) 0), (1, I 0), (0, I 2)], C ((Yp b.1).foldl upd s) ++ L32 K k a0 a1 a2 c0 c1 x00 x01 x10 x11 (b.2.getD 0 0) (b.2.getD 1 0), []⟩)
    (fun b => b.1 ≤ (min a2 c0 + 1).toNat) (fun b => (min a2 c0 + 1).toNat - b.1) (0, [x20, x21]) (by rw [hY0]; exact wk_tk rfl) (by simp only; omega) ?_
  rintro ⟨q, ys⟩ hq
  simp only at hq
  simp -implicitDefEqProofs only [c56L0, gK1 hK, gK2 hK, gK3 hK, gK4 hK, gK5 hK, gK6 hK, gK7 hK, gK8 hK, gK9 hK, sK1 hK, sK2 hK, sK3 hK, sK4 hK, sK5 hK, sK6 hK, sK7 hK, sK8 hK, sK9 hK, kb, List.length_append, beq_self_eq_true, L32, push_cast, Nat.reduceBEq, Nat.reduceLT, Nat.reduceLeDiff, Nat.reduceAdd, Nat.reduceSub, Nat.reduceMul, Nat.reduceEqDiff, reduceCtorEq, ↓reduceIte, Int.reduceEq, Int.reduceLT, Int.reduceLE, Int.reduceNe, Int.reduceAdd, Int.reduceSub, Int.reduceMul, Int.reduceToNat, Nat.reduceShiftRight, Nat.reduceAnd, Nat.reduceBNe]
  refine ⟨fun hc => ?_, fun hc => ?_⟩
  · refine ⟨by simp only [inR]; omega, by simp only [inR]; omega, by simp only [inR]; omega, ?_⟩
    refine call_rule (fill32_21 hK hR hk hY _ a0 a1 (a2 - (q : Int)) (c0 - (q : Int)) c1 x00 x01 x10 x11 (q : Int) (ys.getD 1 0) (hpre q (by omega)) (by omega)) ?_
    rintro v h' ⟨rfl, ys2, rfl⟩
    simp -implicitDefEqProofs only [Int.sub_add_cancel, gK1 hK, gK2 hK, gK3 hK, gK4 hK, gK5 hK, gK6 hK, gK7 hK, gK8 hK, gK9 hK, sK1 hK, sK2 hK, sK3 hK, sK4 hK, sK5 hK, sK6 hK, sK7 hK, sK8 hK, sK9 hK, kb, List.length_append, beq_self_eq_true, L32, push_cast, Nat.reduceBEq, Nat.reduceLT, Nat.reduceLeDiff, Nat.reduceAdd, Nat.reduceSub, Nat.reduceMul, Nat.reduceEqDiff, reduceCtorEq, ↓reduceIte, Int.reduceEq, Int.reduceLT, Int.reduceLE, Int.reduceNe, Int.reduceAdd, Int.reduceSub, Int.reduceMul, Int.reduceToNat, Nat.reduceShiftRight, Nat.reduceAnd, Nat.reduceBNe]
    refine ⟨by simp only [inR]; omega, by simp only [inR]; omega, by simp only [inR]; omega, (q + 1, (q : Int) :: ys2), by simp only; omega, by simp only; omega, ?_⟩
    simp only [hYs, List.foldl_append]
    exact wk_tk rfl
  · have hqe : q = (min a2 c0 + 1).toNat := by omega
    subst hqe
    refine fin_app (n := K + 10) (by simp [hK]) (by simp [hK] <;> omega) rfl (hR _ _ (by omega)) ?_ ⟨rfl, ys, ?_⟩
    · simp [rowsRefs, rowRefs, refsLtL, refsLt, NatBlt]; omega
    · rfl
theorem fill32_11 (hK : ∀ s, (C s).length = K + 1) (hR : ∀ s n, K + 1 ≤ n → rowsRefs n (C s) = true) (hk : k < K + 1) (hY : Yields32 J C K k upd r0 r1 r2 k0 k1) (s : σ) (a0 a1 a2 c0 c1 x00 x01 x10 x11 x20 x21 : Int) (hJ : Pre J upd s ((rowE (a1) [c1]).flatMap fun tl => (tabE [a2] (c0 :: subC [c1] tl)).map fun rest => [x00, x01] :: (x10 :: tl) :: rest)) (hi : 0 ≤ x00 ∧ 0 ≤ x01 ∧ 0 ≤ x10 ∧ x00 + x01 = r0 ∧ x10 + a1 = r1 ∧ 0 ≤ a1 ∧ a2 = r2 ∧ 0 ≤ a2 ∧ x00 + x10 + c0 = k0 ∧ 0 ≤ c0 ∧ x01 + c1 = k1 ∧ 0 ≤ c1 ∧ r0 ≤ 20 ∧ r1 ≤ 20 ∧ r2 ≤ 20 ∧ k0 ≤ 20 ∧ k1 ≤ 20) :
    VCalls Tryd.prog 56 ([I 1, I 1] ++ caps32 K) (C s ++ L32 K k a0 a1 a2 c0 c1 x00 x01 x10 x11 x20 x21) (fun v h' => v = B true ∧ ∃ ys : List Int, h' = C (((rowE (a1) [c1]).flatMap fun tl => (tabE [a2] (c0 :: subC [c1] tl)).map fun rest => [x00, x01] :: (x10 :: tl) :: rest).foldl upd s) ++ L32 K k a0 a1 a2 c0 c1 x00 x01 x10 (ys.getD 0 0) (ys.getD 1 0) (ys.getD 2 0)) := by
  have kb := kbeq K
  refine vcalls_fn hmix h56 rfl ?_
  simp -implicitDefEqProofs only [c56, caps32, gK1 hK, gK2 hK, gK3 hK, gK4 hK, gK5 hK, gK6 hK, gK7 hK, gK8 hK, gK9 hK, sK1 hK, sK2 hK, sK3 hK, sK4 hK, sK5 hK, sK6 hK, sK7 hK, sK8 hK, sK9 hK, kb, List.length_append, beq_self_eq_true, L32, push_cast, Nat.reduceBEq, Nat.reduceLT, Nat.reduceLeDiff, Nat.reduceAdd, Nat.reduceSub, Nat.reduceMul, Nat.reduceEqDiff, reduceCtorEq, ↓reduceIte, Int.reduceEq, Int.reduceLT, Int.reduceLE, Int.reduceNe, Int.reduceAdd, Int.reduceSub, Int.reduceMul, Int.reduceToNat, Nat.reduceShiftRight, Nat.reduceAnd, Nat.reduceBNe]
  refine ⟨by simp only [inR]; omega, fun hlt => ?_, fun hle => ?_⟩
  · skip
    refine fin_app (n := K + 10) (by simp [hK]) (by simp [hK] <;> omega) rfl (hR _ _ (by omega)) ?_ ⟨rfl, [x11, x20, x21], ?_⟩
    · simp [rowsRefs, rowRefs, refsLtL, refsLt, NatBlt]; omega
    · rw [show rowE a1 [c1] = [] from if_neg (by omega)]; rfl
  · refine ⟨by simp only [inR]; omega, by simp only [inR]; omega, ?_⟩
    have e : ((rowE (a1) [c1]).flatMap fun tl => (tabE [a2] (c0 :: subC [c1] tl)).map fun rest => [x00, x01] :: (x10 :: tl) :: rest) = ((rowE (a2) [c0, (c1 - a1)]).flatMap fun tl => (tabE [] (subC [c0, (c1 - a1)] tl)).map fun rest => [x00, x01] :: [x10, a1] :: (tl) :: rest) := by
      rw [show rowE a1 [c1] = [[a1]] from if_pos (by omega)]
      simp only [tabE_cons, subC, List.map_flatMap, List.map_map, List.flatMap_cons, List.flatMap_nil, List.append_nil, Function.comp_def, List.nil_append, List.cons_append]
    rw [e] at hJ
    refine call_rule (fill32_20 hK hR hk hY s a0 a1 a2 c0 (c1 - a1) x00 x01 x10 a1 x20 x21 hJ (by omega)) ?_
    rintro v h' ⟨rfl, ys, rfl⟩
    simp -implicitDefEqProofs only [Int.sub_add_cancel, gK1 hK, gK2 hK, gK3 hK, gK4 hK, gK5 hK, gK6 hK, gK7 hK, gK8 hK, gK9 hK, sK1 hK, sK2 hK, sK3 hK, sK4 hK, sK5 hK, sK6 hK, sK7 hK, sK8 hK, sK9 hK, kb, List.length_append, beq_self_eq_true, L32, push_cast, Nat.reduceBEq, Nat.reduceLT, Nat.reduceLeDiff, Nat.reduceAdd, Nat.reduceSub, Nat.reduceMul, Nat.reduceEqDiff, reduceCtorEq, ↓reduceIte, Int.reduceEq, Int.reduceLT, Int.reduceLE, Int.reduceNe, Int.reduceAdd, Int.reduceSub, Int.reduceMul, Int.reduceToNat, Nat.reduceShiftRight, Nat.reduceAnd, Nat.reduceBNe]
    refine ⟨by simp only [inR]; omega, ?_⟩
    refine fin_app (n := K + 10) (by simp [hK]) (by simp [hK] <;> omega) rfl (hR _ _ (by omega)) ?_ ⟨rfl, a1 :: ys, ?_⟩
    · simp [rowsRefs, rowRefs, refsLtL, refsLt, NatBlt]; omega
    · rw [e]; rfl
theorem fill32_10 (hK : ∀ s, (C s).length = K + 1) (hR : ∀ s n, K + 1 ≤ n → rowsRefs n (C s) = true) (hk : k < K + 1) (hY : Yields32 J C K k upd r0 r1 r2 k0 k1) (s : σ) (a0 a1 a2 c0 c1 x00 x01 x10 x11 x20 x21 : Int) (hJ : Pre J upd s ((rowE (a1) [c0, c1]).flatMap fun tl => (tabE [a2] (subC [c0, c1] tl)).map fun rest => [x00, x01] :: (tl) :: rest)) (hi : 0 ≤ x00 ∧ 0 ≤ x01 ∧ x00 + x01 = r0 ∧ a1 = r1 ∧ 0 ≤ a1 ∧ a2 = r2 ∧ 0 ≤ a2 ∧ x00 + c0 = k0 ∧ 0 ≤ c0 ∧ x01 + c1 = k1 ∧ 0 ≤ c1 ∧ r0 ≤ 20 ∧ r1 ≤ 20 ∧ r2 ≤ 20 ∧ k0 ≤ 20 ∧ k1 ≤ 20) :
    VCalls Tryd.prog 56 ([I 1, I 0] ++ caps32 K) (C s ++ L32 K k a0 a1 a2 c0 c1 x00 x01 x10 x11 x20 x21) (fun v h' => v = B true ∧ ∃ ys : List Int, h' = C (((rowE (a1) [c0, c1]).flatMap fun tl => (tabE [a2] (subC [c0, c1] tl)).map fun rest => [x00, x01] :: (tl) :: rest).foldl upd s) ++ L32 K k a0 a1 a2 c0 c1 x00 x01 (ys.getD 0 0) (ys.getD 1 0) (ys.getD 2 0) (ys.getD 3 0)) := by
  have kb := kbeq K
  obtain ⟨Yp, hYp⟩ : ∃ Yp : Nat → List (List (List Int)), Yp = fun N => (List.range N).flatMap fun (q : Nat) => ((rowE ((a1 - ((q : Nat) : Int))) [c1]).flatMap fun tl => (tabE [a2] ((c0 - ((q : Nat) : Int)) :: subC [c1] tl)).map fun rest => [x00, x01] :: (((q : Nat) : Int) :: tl) :: rest) := ⟨_, rfl⟩
  have hY0 : Yp 0 = [] := by rw [hYp]; rfl
  have hYs : ∀ q : Nat, Yp (q + 1) = Yp q ++ ((rowE ((a1 - ((q : Nat) : Int))) [c1]).flatMap fun tl => (tabE [a2] ((c0 - ((q : Nat) : Int)) :: subC [c1] tl)).map fun rest => [x00, x01] :: (((q : Nat) : Int) :: tl) :: rest) := by
    intro q
    simp only [hYp, List.range_succ, List.flatMap_append, List.flatMap_cons, List.flatMap_nil, List.append_nil]
  have hYe : ((rowE (a1) [c0, c1]).flatMap fun tl => (tabE [a2] (subC [c0, c1] tl)).map fun rest => [x00, x01] :: (tl) :: rest) = Yp (min a1 c0 + 1).toNat := by
    rw [hYp]
    simp only [rowE, subC, List.flatMap_assoc, List.flatMap_map]
  rw [hYe] at hJ ⊢
  have hpre := pre_steps hYs _ hJ
  clear hYe hYp
  refine vcalls_fn hmix h56 rfl ?_
  simp -implicitDefEqProofs only [c56, caps32, gK1 hK, gK2 hK, gK3 hK, gK4 hK, gK5 hK, gK6 hK, gK7 hK, gK8 hK, gK9 hK, sK1 hK, sK2 hK, sK3 hK, sK4 hK, sK5 hK, sK6 hK, sK7 hK, sK8 hK, sK9 hK, kb, List.length_append, beq_self_eq_true, L32, push_cast, Nat.reduceBEq, Nat.reduceLT, Nat.reduceLeDiff, Nat.reduceAdd, Nat.reduceSub, Nat.reduceMul, Nat.reduceEqDiff, reduceCtorEq, ↓reduceIte, Int.reduceEq, Int.reduceLT, Int.reduceLE, Int.reduceNe, Int.reduceAdd, Int.reduceSub, Int.reduceMul, Int.reduceToNat, Nat.reduceShiftRight, Nat.reduceAnd, Nat.reduceBNe]
  refine ⟨by simp only [inR]; omega, by simp only [inR]; omega, ?_⟩
  refine loop_w (α := Nat × List Int) (fun b => ⟨[(77, I b.1), (76, I (min a1 c0 + 1)), (6, .ptr (K + 9) 0), (5, .ptr (K + 2) 0), (3, .ptr (K + 3) 0), (2, .ptr (K + 5) 0), (1, I 0), (0, I 1)], C ((Yp b.1).foldl upd s) ++ L32 K k a0 a1 a2 c0 c1 x00 x01 (b.2.getD 0 0) (b.2.getD 1 0) (b.2.getD 2 0) (b.2.getD 3 0), []⟩)
    (fun b => b.1 ≤ (min a1 c0 + 1).toNat) (fun b => (min a1 c0 + 1).toNat - b.1) (0, [x10, x11, x20, x21]) (by rw [hY0]; exact wk_tk rfl) (by simp only; omega) ?_
  rintro ⟨q, ys⟩ hq
  simp only at hq
  simp -implicitDefEqProofs only [c56L0, gK1 hK, gK2 hK, gK3 hK, gK4 hK, gK5 hK, gK6 hK, gK7 hK, gK8 hK, gK9 hK, sK1 hK, sK2 hK, sK3 hK, sK4 hK, sK5 hK, sK6 hK, sK7 hK, sK8 hK, sK9 hK, kb, List.length_append, beq_self_eq_true, L32, push_cast, Nat.reduceBEq, Nat.reduceLT, Nat.reduceLeDiff, Nat.reduceAdd, Nat.reduceSub, Nat.reduceMul, Nat.reduceEqDiff, reduceCtorEq, ↓reduceIte, Int.reduceEq, Int.reduceLT, Int.reduceLE, Int.reduceNe, Int.reduceAdd, Int.reduceSub, Int.reduceMul, Int.reduceToNat, Nat.reduceShiftRight, Nat.reduceAnd, Nat.reduceBNe]
  refine ⟨fun hc => ?_, fun hc => ?_⟩
  · refine ⟨by simp only [inR]; omega, by simp only [inR]; omega, by simp only [inR]; omega, ?_⟩
    refine call_rule (fill32_11 hK hR hk hY _ a0 (a1 - (q : Int)) a2 (c0 - (q : Int)) c1 x00 x01 (q : Int) (ys.getD 1 0) (ys.getD 2 0) (ys.getD 3 0) (hpre q (by omega)) (by omega)) ?_
    rintro v h' ⟨rfl, ys2, rfl⟩
    simp -implicitDefEqProofs only [Int.sub_add_cancel, gK1 hK, gK2 hK, gK3 hK, gK4 hK, gK5 hK, gK6 hK, gK7 hK, gK8 hK, gK9 hK, sK1 hK, sK2 hK, sK3 hK, sK4 hK, sK5 hK, sK6 hK, sK7 hK, sK8 hK, sK9 hK, kb, List.length_append, beq_self_eq_true, L32, push_cast, Nat.reduceBEq, Nat.reduceLT, Nat.reduceLeDiff, Nat.reduceAdd, Nat.reduceSub, Nat.reduceMul, Nat.reduceEqDiff, reduceCtorEq, ↓reduceIte, Int.reduceEq, Int.reduceLT, Int.reduceLE, Int.reduceNe, Int.reduceAdd, Int.reduceSub, Int.reduceMul, Int.reduceToNat, Nat.reduceShiftRight, Nat.reduceAnd, Nat.reduceBNe]
    refine ⟨by simp only [inR]; omega, by simp only [inR]; omega, by simp only [inR]; omega, (q + 1, (q : Int) :: ys2), by simp only; omega, by simp only; omega, ?_⟩
    simp only [hYs, List.foldl_append]
    exact wk_tk rfl
  · have hqe : q = (min a1 c0 + 1).toNat := by omega
    subst hqe
    refine fin_app (n := K + 10) (by simp [hK]) (by simp [hK] <;> omega) rfl (hR _ _ (by omega)) ?_ ⟨rfl, ys, ?_⟩
    · simp [rowsRefs, rowRefs, refsLtL, refsLt, NatBlt]; omega
    · rfl
theorem fill32_01 (hK : ∀ s, (C s).length = K + 1) (hR : ∀ s n, K + 1 ≤ n → rowsRefs n (C s) = true) (hk : k < K + 1) (hY : Yields32 J C K k upd r0 r1 r2 k0 k1) (s : σ) (a0 a1 a2 c0 c1 x00 x01 x10 x11 x20 x21 : Int) (hJ : Pre J upd s ((rowE (a0) [c1]).flatMap fun tl => (tabE [a1, a2] (c0 :: subC [c1] tl)).map fun rest => (x00 :: tl) :: rest)) (hi : 0 ≤ x00 ∧ x00 + a0 = r0 ∧ 0 ≤ a0 ∧ a1 = r1 ∧ 0 ≤ a1 ∧ a2 = r2 ∧ 0 ≤ a2 ∧ x00 + c0 = k0 ∧ 0 ≤ c0 ∧ c1 = k1 ∧ 0 ≤ c1 ∧ r0 ≤ 20 ∧ r1 ≤ 20 ∧ r2 ≤ 20 ∧ k0 ≤ 20 ∧ k1 ≤ 20) :
    VCalls Tryd.prog 56 ([I 0, I 1] ++ caps32 K) (C s ++ L32 K k a0 a1 a2 c0 c1 x00 x01 x10 x11 x20 x21) (fun v h' => v = B true ∧ ∃ ys : List Int, h' = C (((rowE (a0) [c1]).flatMap fun tl => (tabE [a1, a2] (c0 :: subC [c1] tl)).map fun rest => (x00 :: tl) :: rest).foldl upd s) ++ L32 K k a0 a1 a2 c0 c1 x00 (ys.getD 0 0) (ys.getD 1 0) (ys.getD 2 0) (ys.getD 3 0) (ys.getD 4 0)) := by
  have kb := kbeq K
  refine vcalls_fn hmix h56 rfl ?_
  simp -implicitDefEqProofs only [c56, caps32, gK1 hK, gK2 hK, gK3 hK, gK4 hK, gK5 hK, gK6 hK, gK7 hK, gK8 hK, gK9 hK, sK1 hK, sK2 hK, sK3 hK, sK4 hK, sK5 hK, sK6 hK, sK7 hK, sK8 hK, sK9 hK, kb, List.length_append, beq_self_eq_true, L32, push_cast, Nat.reduceBEq, Nat.reduceLT, Nat.reduceLeDiff, Nat.reduceAdd, Nat.reduceSub, Nat.reduceMul, Nat.reduceEqDiff, reduceCtorEq, ↓reduceIte, Int.reduceEq, Int.reduceLT, Int.reduceLE, Int.reduceNe, Int.reduceAdd, Int.reduceSub, Int.reduceMul, Int.reduceToNat, Nat.reduceShiftRight, Nat.reduceAnd, Nat.reduceBNe]
  refine ⟨by simp only [inR]; omega, fun hlt => ?_, fun hle => ?_⟩
  · skip
    refine fin_app (n := K + 10) (by simp [hK]) (by simp [hK] <;> omega) rfl (hR _ _ (by omega)) ?_ ⟨rfl, [x01, x10, x11, x20, x21], ?_⟩
    · simp [rowsRefs, rowRefs, refsLtL, refsLt, NatBlt]; omega
    · rw [show rowE a0 [c1] = [] from if_neg (by omega)]; rfl
  · refine ⟨by simp only [inR]; omega, by simp only [inR]; omega, ?_⟩
    have e : ((rowE (a0) [c1]).flatMap fun tl => (tabE [a1, a2] (c0 :: subC [c1] tl)).map fun rest => (x00 :: tl) :: rest) = ((rowE (a1) [c0, (c1 - a0)]).flatMap fun tl => (tabE [a2] (subC [c0, (c1 - a0)] tl)).map fun rest => [x00, a0] :: (tl) :: rest) := by
      rw [show rowE a0 [c1] = [[a0]] from if_pos (by omega)]
      simp only [tabE_cons, subC, List.map_flatMap, List.map_map, List.flatMap_cons, List.flatMap_nil, List.append_nil, Function.comp_def, List.nil_append, List.cons_append]
    rw [e] at hJ
    refine call_rule (fill32_10 hK hR hk hY s a0 a1 a2 c0 (c1 - a0) x00 a0 x10 x11 x20 x21 hJ (by omega)) ?_
    rintro v h' ⟨rfl, ys, rfl⟩
    simp -implicitDefEqProofs only [Int.sub_add_cancel, gK1 hK, gK2 hK, gK3 hK, gK4 hK, gK5 hK, gK6 hK, gK7 hK, gK8 hK, gK9 hK, sK1 hK, sK2 hK, sK3 hK, sK4 hK, sK5 hK, sK6 hK, sK7 hK, sK8 hK, sK9 hK, kb, List.length_append, beq_self_eq_true, L32, push_cast, Nat.reduceBEq, Nat.reduceLT, Nat.reduceLeDiff, Nat.reduceAdd, Nat.reduceSub, Nat.reduceMul, Nat.reduceEqDiff, reduceCtorEq, ↓reduceIte, Int.reduceEq, Int.reduceLT, Int.reduceLE, Int.reduceNe, Int.reduceAdd, Int.reduceSub, Int.reduceMul, Int.reduceToNat, Nat.reduceShiftRight, Nat.reduceAnd, Nat.reduceBNe]
    refine ⟨by simp only [inR]; omega, ?_⟩
    refine fin_app (n := K + 10) (by simp [hK]) (by simp [hK] <;> omega) rfl (hR _ _ (by omega)) ?_ ⟨rfl, a0 :: ys, ?_⟩
    · simp [rowsRefs, rowRefs, refsLtL, refsLt, NatBlt]; omega
    · rw [e]; rfl
theorem fill32_00 (hK : ∀ s, (C s).length = K + 1) (hR : ∀ s n, K + 1 ≤ n → rowsRefs n (C s) = true) (hk : k < K + 1) (hY : Yields32 J C K k upd r0 r1 r2 k0 k1) (s : σ) (a0 a1 a2 c0 c1 x00 x01 x10 x11 x20 x21 : Int) (hJ : Pre J upd s ((rowE (a0) [c0, c1]).flatMap fun tl => (tabE [a1, a2] (subC [c0, c1] tl)).map fun rest => (tl) :: rest)) (hi : a0 = r0 ∧ 0 ≤ a0 ∧ a1 = r1 ∧ 0 ≤ a1 ∧ a2 = r2 ∧ 0 ≤ a2 ∧ c0 = k0 ∧ 0 ≤ c0 ∧ c1 = k1 ∧ 0 ≤ c1 ∧ r0 ≤ 20 ∧ r1 ≤ 20 ∧ r2 ≤ 20 ∧ k0 ≤ 20 ∧ k1 ≤ 20) :
    VCalls Tryd.prog 56 ([I 0, I 0] ++ caps32 K) (C s ++ L32 K k a0 a1 a2 c0 c1 x00 x01 x10 x11 x20 x21) (fun v h' => v = B true ∧ ∃ ys : List Int, h' = C (((rowE (a0) [c0, c1]).flatMap fun tl => (tabE [a1, a2] (subC [c0, c1] tl)).map fun rest => (tl) :: rest).foldl upd s) ++ L32 K k a0 a1 a2 c0 c1 (ys.getD 0 0) (ys.getD 1 0) (ys.getD 2 0) (ys.getD 3 0) (ys.getD 4 0) (ys.getD 5 0)) := by
  have kb := kbeq K
  obtain ⟨Yp, hYp⟩ : ∃ Yp : Nat → List (List (List Int)), Yp = fun N => (List.range N).flatMap fun (q : Nat) => ((rowE ((a0 - ((q : Nat) : Int))) [c1]).flatMap fun tl => (tabE [a1, a2] ((c0 - ((q : Nat) : Int)) :: subC [c1] tl)).map fun rest => (((q : Nat) : Int) :: tl) :: rest) := ⟨_, rfl⟩
  have hY0 : Yp 0 = [] := by rw [hYp]; rfl
  have hYs : ∀ q : Nat, Yp (q + 1) = Yp q ++ ((rowE ((a0 - ((q : Nat) : Int))) [c1]).flatMap fun tl => (tabE [a1, a2] ((c0 - ((q : Nat) : Int)) :: subC [c1] tl)).map fun rest => (((q : Nat) : Int) :: tl) :: rest) := by
    intro q
    simp only [hYp, List.range_succ, List.flatMap_append, List.flatMap_cons, List.flatMap_nil, List.append_nil]
  have hYe : ((rowE (a0) [c0, c1]).flatMap fun tl => (tabE [a1, a2] (subC [c0, c1] tl)).map fun rest => (tl) :: rest) = Yp (min a0 c0 + 1).toNat := by
    rw [hYp]
    simp only [rowE, subC, List.flatMap_assoc, List.flatMap_map]
  rw [hYe] at hJ ⊢
  have hpre := pre_steps hYs _ hJ
  clear hYe hYp
  refine vcalls_fn hmix h56 rfl ?_
  simp -implicitDefEqProofs only [c56, caps32, gK1 hK, gK2 hK, gK3 hK, gK4 hK, gK5 hK, gK6 hK, gK7 hK, gK8 hK, gK9 hK, sK1 hK, sK2 hK, sK3 hK, sK4 hK, sK5 hK, sK6 hK, sK7 hK, sK8 hK, sK9 hK, kb, List.length_append, beq_self_eq_true, L32, push_cast, Nat.reduceBEq, Nat.reduceLT, Nat.reduceLeDiff, Nat.reduceAdd, Nat.reduceSub, Nat.reduceMul, Nat.reduceEqDiff, reduceCtorEq, ↓reduceIte, Int.reduceEq, Int.reduceLT, Int.reduceLE, Int.reduceNe, Int.reduceAdd, Int.reduceSub, Int.reduceMul, Int.reduceToNat, Nat.reduceShiftRight, Nat.reduceAnd, Nat.reduceBNe]
  refine ⟨by simp only [inR]; omega, by simp only [inR]; omega, ?_⟩
  refine loop_w (α := Nat × List Int) (fun b => ⟨[(77, I b.1), (76, I (min a0 c0 + 1)), (6, .ptr (K + 9) 0), (5, .ptr (K + 2) 0), (3, .ptr (K + 3) 0), (2, .ptr (K + 5) 0), (1, I 0), (0, I 0)], C ((Yp b.1).foldl upd s) ++ L32 K k a0 a1 a2 c0 c1 (b.2.getD 0 0) (b.2.getD 1 0) (b.2.getD 2 0) (b.2.getD 3 0) (b.2.getD 4 0) (b.2.getD 5 0), []⟩)
    (fun b => b.1 ≤ (min a0 c0 + 1).toNat) (fun b => (min a0 c0 + 1).toNat - b.1) (0, [x00, x01, x10, x11, x20, x21]) (by rw [hY0]; exact wk_tk rfl) (by simp only; omega) ?_
  rintro ⟨q, ys⟩ hq
  simp only at hq
  simp -implicitDefEqProofs only [c56L0, gK1 hK, gK2 hK, gK3 hK, gK4 hK, gK5 hK, gK6 hK, gK7 hK, gK8 hK, gK9 hK, sK1 hK, sK2 hK, sK3 hK, sK4 hK, sK5 hK, sK6 hK, sK7 hK, sK8 hK, sK9 hK, kb, List.length_append, beq_self_eq_true, L32, push_cast, Nat.reduceBEq, Nat.reduceLT, Nat.reduceLeDiff, Nat.reduceAdd, Nat.reduceSub, Nat.reduceMul, Nat.reduceEqDiff, reduceCtorEq, ↓reduceIte, Int.reduceEq, Int.reduceLT, Int.reduceLE, Int.reduceNe, Int.reduceAdd, Int.reduceSub, Int.reduceMul, Int.reduceToNat, Nat.reduceShiftRight, Nat.reduceAnd, Nat.reduceBNe]
  refine ⟨fun hc => ?_, fun hc => ?_⟩
  · refine ⟨by simp only [inR]; omega, by simp only [inR]; omega, by simp only [inR]; omega, ?_⟩
    refine call_rule (fill32_01 hK hR hk hY _ (a0 - (q : Int)) a1 a2 (c0 - (q : Int)) c1 (q : Int) (ys.getD 1 0) (ys.getD 2 0) (ys.getD 3 0) (ys.getD 4 0) (ys.getD 5 0) (hpre q (by omega)) (by omega)) ?_
    rintro v h' ⟨rfl, ys2, rfl⟩
    simp -implicitDefEqProofs only [Int.sub_add_cancel, gK1 hK, gK2 hK, gK3 hK, gK4 hK, gK5 hK, gK6 hK, gK7 hK, gK8 hK, gK9 hK, sK1 hK, sK2 hK, sK3 hK, sK4 hK, sK5 hK, sK6 hK, sK7 hK, sK8 hK, sK9 hK, kb, List.length_append, beq_self_eq_true, L32, push_cast, Nat.reduceBEq, Nat.reduceLT, Nat.reduceLeDiff, Nat.reduceAdd, Nat.reduceSub, Nat.reduceMul, Nat.reduceEqDiff, reduceCtorEq, ↓reduceIte, Int.reduceEq, Int.reduceLT, Int.reduceLE, Int.reduceNe, Int.reduceAdd, Int.reduceSub, Int.reduceMul, Int.reduceToNat, Nat.reduceShiftRight, Nat.reduceAnd, Nat.reduceBNe]
    refine ⟨by simp only [inR]; omega, by simp only [inR]; omega, by simp only [inR]; omega, (q + 1, (q : Int) :: ys2), by simp only; omega, by simp only; omega, ?_⟩
    simp only [hYs, List.foldl_append]
    exact wk_tk rfl
  · have hqe : q = (min a0 c0 + 1).toNat := by omega
    subst hqe
    refine fin_app (n := K + 10) (by simp [hK]) (by simp [hK] <;> omega) rfl (hR _ _ (by omega)) ?_ ⟨rfl, ys, ?_⟩
    · simp [rowsRefs, rowRefs, refsLtL, refsLt, NatBlt]; omega
    · rfl
end
end Go.Proofs.YtligakiolapkkaaDoor

namespace Go.Proofs.YtligakiolapkkaaDoor
open Go GoV
set_option maxHeartbeats 8000000
set_option maxRecDepth 10000
set_option linter.unusedVariables false
set_option linter.unusedSimpArgs false
def caps33 (K : Nat) : List AV := [.ptr (K + 5) 0, .ptr (K + 3) 0, .ptr (K + 1) 0, .ptr (K + 2) 0, .ptr (K + 9) 0]
def L33 (K k : Nat) (a0 a1 a2 c0 c1 c2 x00 x01 x02 x10 x11 x12 x20 x21 x22 : Int) : Heap := [.box [.yld k], .box [I a0, I a1, I a2], .box [I c0, I c1, I c2], .box [.slc (K + 6) 3 0 3, .slc (K + 7) 3 0 3, .slc (K + 8) 3 0 3], .box [.slc (K + 4) 0 0 3], .seq (.int .i64) [x00, x01, x02] true, .seq (.int .i64) [x10, x11, x12] true, .seq (.int .i64) [x20, x21, x22] true, .box [.fn 56 [] [.ptr (K + 5) 0, .ptr (K + 3) 0, .ptr (K + 1) 0, .ptr (K + 2) 0, .ptr (K + 9) 0]]]
section
variable {σ : Type} {J : σ → Prop} {C : σ → Heap} {K k : Nat} {upd : σ → List (List Int) → σ} {r0 r1 r2 k0 k1 k2 : Int}
def Yields33 (J : σ → Prop) (C : σ → Heap) (K k : Nat) (upd : σ → List (List Int) → σ) (r0 r1 r2 k0 k1 k2 : Int) : Prop := ∀ (s : σ) (a0 a1 a2 c0 c1 c2 x00 x01 x02 x10 x11 x12 x20 x21 x22 : Int), J s → (0 ≤ x00 ∧ 0 ≤ x01 ∧ 0 ≤ x02 ∧ 0 ≤ x10 ∧ 0 ≤ x11 ∧ 0 ≤ x12 ∧ 0 ≤ x20 ∧ 0 ≤ x21 ∧ 0 ≤ x22) → (x00 + x01 + x02 = r0 ∧ x10 + x11 + x12 = r1 ∧ x20 + x21 + x22 = r2) → (x00 + x10 + x20 = k0 ∧ x01 + x11 + x21 = k1 ∧ x02 + x12 + x22 = k2) →
    VYield Tryd.prog k [.slc (K + 4) 0 0 3] (C s ++ L33 K k a0 a1 a2 c0 c1 c2 x00 x01 x02 x10 x11 x12 x20 x21 x22) (fun v h' => v = B true ∧ h' = C (upd s [[x00, x01, x02], [x10, x11, x12], [x20, x21, x22]]) ++ L33 K k a0 a1 a2 c0 c1 c2 x00 x01 x02 x10 x11 x12 x20 x21 x22)
theorem fill33_30 (hK : ∀ s, (C s).length = K + 1) (hR : ∀ s n, K + 1 ≤ n → rowsRefs n (C s) = true) (hk : k < K + 1) (hY : Yields33 J C K k upd r0 r1 r2 k0 k1 k2) (s : σ) (a0 a1 a2 c0 c1 c2 x00 x01 x02 x10 x11 x12 x20 x21 x22 : Int) (hJ : Pre J upd s ((tabE [] [c0, c1, c2]).map fun rest => [x00, x01, x02] :: [x10, x11, x12] :: [x20, x21, x22] :: rest)) (hi : 0 ≤ x00 ∧ 0 ≤ x01 ∧ 0 ≤ x02 ∧ 0 ≤ x10 ∧ 0 ≤ x11 ∧ 0 ≤ x12 ∧ 0 ≤ x20 ∧ 0 ≤ x21 ∧ 0 ≤ x22 ∧ x00 + x01 + x02 = r0 ∧ x10 + x11 + x12 = r1 ∧ x20 + x21 + x22 = r2 ∧ x00 + x10 + x20 + c0 = k0 ∧ 0 ≤ c0 ∧ x01 + x11 + x21 + c1 = k1 ∧ 0 ≤ c1 ∧ x02 + x12 + x22 + c2 = k2 ∧ 0 ≤ c2 ∧ r0 ≤ 20 ∧ r1 ≤ 20 ∧ r2 ≤ 20 ∧ k0 ≤ 20 ∧ k1 ≤ 20 ∧ k2 ≤ 20) :
    VCalls Tryd.prog 56 ([I 3, I 0] ++ caps33 K) (C s ++ L33 K k a0 a1 a2 c0 c1 c2 x00 x01 x02 x10 x11 x12 x20 x21 x22) (fun v h' => v = B true ∧ ∃ ys : List Int, h' = C (((tabE [] [c0, c1, c2]).map fun rest => [x00, x01, x02] :: [x10, x11, x12] :: [x20, x21, x22] :: rest).foldl upd s) ++ L33 K k a0 a1 a2 c0 c1 c2 x00 x01 x02 x10 x11 x12 x20 x21 x22) := by
  have kb := kbeq K
  by_cases hz : c0 = 0 ∧ c1 = 0 ∧ c2 = 0
  · obtain ⟨rfl, rfl, rfl⟩ := hz
    refine vcalls_fn hmix h56 rfl ?_
    simp -implicitDefEqProofs only [c56, caps33, gK1 hK, gK2 hK, gK3 hK, gK4 hK, gK5 hK, gK6 hK, gK7 hK, gK8 hK, gK9 hK, sK1 hK, sK2 hK, sK3 hK, sK4 hK, sK5 hK, sK6 hK, sK7 hK, sK8 hK, sK9 hK, kb, List.length_append, beq_self_eq_true, L33, push_cast, Nat.reduceBEq, Nat.reduceLT, Nat.reduceLeDiff, Nat.reduceAdd, Nat.reduceSub, Nat.reduceMul, Nat.reduceEqDiff, reduceCtorEq, ↓reduceIte, Int.reduceEq, Int.reduceLT, Int.reduceLE, Int.reduceNe, Int.reduceAdd, Int.reduceSub, Int.reduceMul, Int.reduceToNat, Nat.reduceShiftRight, Nat.reduceAnd, Nat.reduceBNe]
    refine yld_rule (hY s a0 a1 a2 0 0 0 x00 x01 x02 x10 x11 x12 x20 x21 x22 hJ.1 (by omega) (by omega) (by omega)) ?_
    rintro v h' ⟨rfl, rfl⟩
    simp -implicitDefEqProofs only [L33, push_cast, Nat.reduceBEq, Nat.reduceLT, Nat.reduceLeDiff, Nat.reduceAdd, Nat.reduceSub, Nat.reduceMul, Nat.reduceEqDiff, reduceCtorEq, ↓reduceIte, Int.reduceEq, Int.reduceLT, Int.reduceLE, Int.reduceNe, Int.reduceAdd, Int.reduceSub, Int.reduceMul, Int.reduceToNat, Nat.reduceShiftRight, Nat.reduceAnd, Nat.reduceBNe]
    refine fin_app (n := K + 10) (by simp [hK]) (by simp [hK] <;> omega) rfl (hR _ _ (by omega)) ?_ ⟨rfl, [], ?_⟩
    · simp [rowsRefs, rowRefs, refsLtL, refsLt, NatBlt]; omega
    · rfl
  · have hz2 : (decide (c0 = 0) && (decide (c1 = 0) && decide (c2 = 0))) = false := by simp only [Bool.and_eq_false_iff, decide_eq_false_iff_not]; omega
    refine vcalls_fn hmix h56 rfl ?_
    simp -implicitDefEqProofs only [c56, caps33, gK1 hK, gK2 hK, gK3 hK, gK4 hK, gK5 hK, gK6 hK, gK7 hK, gK8 hK, gK9 hK, sK1 hK, sK2 hK, sK3 hK, sK4 hK, sK5 hK, sK6 hK, sK7 hK, sK8 hK, sK9 hK, kb, List.length_append, beq_self_eq_true, L33, hz2, push_cast, Nat.reduceBEq, Nat.reduceLT, Nat.reduceLeDiff, Nat.reduceAdd, Nat.reduceSub, Nat.reduceMul, Nat.reduceEqDiff, reduceCtorEq, ↓reduceIte, Int.reduceEq, Int.reduceLT, Int.reduceLE, Int.reduceNe, Int.reduceAdd, Int.reduceSub, Int.reduceMul, Int.reduceToNat, Nat.reduceShiftRight, Nat.reduceAnd, Nat.reduceBNe]
    refine fin_app (n := K + 10) (by simp [hK]) (by simp [hK] <;> omega) rfl (hR _ _ (by omega)) ?_ ⟨rfl, [], ?_⟩
    · simp [rowsRefs, rowRefs, refsLtL, refsLt, NatBlt]; omega
    · rw [tabE_no (by simp; omega)]; rfl
theorem fill33_22 (hK : ∀ s, (C s).length = K + 1) (hR : ∀ s n, K + 1 ≤ n → rowsRefs n (C s) = true) (hk : k < K + 1) (hY : Yields33 J C K k upd r0 r1 r2 k0 k1 k2) (s : σ) (a0 a1 a2 c0 c1 c2 x00 x01 x02 x10 x11 x12 x20 x21 x22 : Int) (hJ : Pre J upd s ((rowE (a2) [c2]).flatMap fun tl => (tabE [] (c0 :: c1 :: subC [c2] tl)).map fun rest => [x00, x01, x02] :: [x10, x11, x12] :: (x20 :: x21 :: tl) :: rest)) (hi : 0 ≤ x00 ∧ 0 ≤ x01 ∧ 0 ≤ x02 ∧ 0 ≤ x10 ∧ 0 ≤ x11 ∧ 0 ≤ x12 ∧ 0 ≤ x20 ∧ 0 ≤ x21 ∧ x00 + x01 + x02 = r0 ∧ x10 + x11 + x12 = r1 ∧ x20 + x21 + a2 = r2 ∧ 0 ≤ a2 ∧ x00 + x10 + x20 + c0 = k0 ∧ 0 ≤ c0 ∧ x01 + x11 + x21 + c1 = k1 ∧ 0 ≤ c1 ∧ x02 + x12 + c2 = k2 ∧ 0 ≤ c2 ∧ r0 ≤ 20 ∧ r1 ≤ 20 ∧ r2 ≤ 20 ∧ k0 ≤ 20 ∧ k1 ≤ 20 ∧ k2 ≤ 20) :
    VCalls Tryd.prog 56 ([I 2, I 2] ++ caps33 K) (C s ++ L33 K k a0 a1 a2 c0 c1 c2 x00 x01 x02 x10 x11 x12 x20 x21 x22) (fun v h' => v = B true ∧ ∃ ys : List Int, h' = C (((rowE (a2) [c2]).flatMap fun tl => (tabE [] (c0 :: c1 :: subC [c2] tl)).map fun rest => [x00, x01, x02] :: [x10, x11, x12] :: (x20 :: x21 :: tl) :: rest).foldl upd s) ++ L33 K k a0 a1 a2 c0 c1 c2 x00 x01 x02 x10 x11 x12 x20 x21 (ys.getD 0 0)) := by
  have kb := kbeq K
  refine vcalls_fn hmix h56 rfl ?_
  simp -implicitDefEqProofs only [c56, caps33, gK1 hK, gK2 hK, gK3 hK, gK4 hK, gK5 hK, gK6 hK, gK7 hK, gK8 hK, gK9 hK, sK1 hK, sK2 hK, sK3 hK, sK4 hK, sK5 hK, sK6 hK, sK7 hK, sK8 hK, sK9 hK, kb, List.length_append, beq_self_eq_true, L33, push_cast, Nat.reduceBEq, Nat.reduceLT, Nat.reduceLeDiff, Nat.reduceAdd, Nat.reduceSub, Nat.reduceMul, Nat.reduceEqDiff, reduceCtorEq, ↓reduceIte, Int.reduceEq, Int.reduceLT, Int.reduceLE, Int.reduceNe, Int.reduceAdd, Int.reduceSub, Int.reduceMul, Int.reduceToNat, Nat.reduceShiftRight, Nat.reduceAnd, Nat.reduceBNe]
  refine ⟨by simp only [inR]; omega, fun hlt => ?_, fun hle => ?_⟩
  · skip
    refine fin_app (n := K + 10) (by simp [hK]) (by simp [hK] <;> omega) rfl (hR _ _ (by omega)) ?_ ⟨rfl, [x22], ?_⟩
    · simp [rowsRefs, rowRefs, refsLtL, refsLt, NatBlt]; omega
    · rw [show rowE a2 [c2] = [] from if_neg (by omega)]; rfl
  · refine ⟨by simp only [inR]; omega, by simp only [inR]; omega, ?_⟩
    have e : ((rowE (a2) [c2]).flatMap fun tl => (tabE [] (c0 :: c1 :: subC [c2] tl)).map fun rest => [x00, x01, x02] :: [x10, x11, x12] :: (x20 :: x21 :: tl) :: rest) = ((tabE [] [c0, c1, (c2 - a2)]).map fun rest => [x00, x01, x02] :: [x10, x11, x12] :: [x20, x21, a2] :: rest) := by
      rw [show rowE a2 [c2] = [[a2]] from if_pos (by omega)]
      simp only [tabE_cons, subC, List.map_flatMap, List.map_map, List.flatMap_cons, List.flatMap_nil, List.append_nil, Function.comp_def, List.nil_append, List.cons_append]
    rw [e] at hJ
    refine call_rule (fill33_30 hK hR hk hY s a0 a1 a2 c0 c1 (c2 - a2) x00 x01 x02 x10 x11 x12 x20 x21 a2 hJ (by omega)) ?_
    rintro v h' ⟨rfl, ys, rfl⟩
    simp -implicitDefEqProofs only [Int.sub_add_cancel, gK1 hK, gK2 hK, gK3 hK, gK4 hK, gK5 hK, gK6 hK, gK7 hK, gK8 hK, gK9 hK, sK1 hK, sK2 hK, sK3 hK, sK4 hK, sK5 hK, sK6 hK, sK7 hK, sK8 hK, sK9 hK, kb, List.length_append, beq_self_eq_true, L33, push_cast, Nat.reduceBEq, Nat.reduceLT, Nat.reduceLeDiff, Nat.reduceAdd, Nat.reduceSub, Nat.reduceMul, Nat.reduceEqDiff, reduceCtorEq, ↓reduceIte, Int.reduceEq, Int.reduceLT, Int.reduceLE, Int.reduceNe, Int.reduceAdd, Int.reduceSub, Int.reduceMul, Int.reduceToNat, Nat.reduceShiftRight, Nat.reduceAnd, Nat.reduceBNe]
    refine ⟨by simp only [inR]; omega, ?_⟩
    refine fin_app (n := K + 10) (by simp [hK]) (by simp [hK] <;> omega) rfl (hR _ _ (by omega)) ?_ ⟨rfl, a2 :: ys, ?_⟩
    · simp [rowsRefs, rowRefs, refsLtL, refsLt, NatBlt]; omega
    · rw [e]; rfl
theorem fill33_21 (hK : ∀ s, (C s).length = K + 1) (hR : ∀ s n, K + 1 ≤ n → rowsRefs n (C s) = true) (hk : k < K + 1) (hY : Yields33 J C K k upd r0 r1 r2 k0 k1 k2) (s : σ) (a0 a1 a2 c0 c1 c2 x00 x01 x02 x10 x11 x12 x20 x21 x22 : Int) (hJ : Pre J upd s ((rowE (a2) [c1, c2]).flatMap fun tl => (tabE [] (c0 :: subC [c1, c2] tl)).map fun rest => [x00, x01, x02] :: [x10, x11, x12] :: (x20 :: tl) :: rest)) (hi : 0 ≤ x00 ∧ 0 ≤ x01 ∧ 0 ≤ x02 ∧ 0 ≤ x10 ∧ 0 ≤ x11 ∧ 0 ≤ x12 ∧ 0 ≤ x20 ∧ x00 + x01 + x02 = r0 ∧ x10 + x11 + x12 = r1 ∧ x20 + a2 = r2 ∧ 0 ≤ a2 ∧ x00 + x10 + x20 + c0 = k0 ∧ 0 ≤ c0 ∧ x01 + x11 + c1 = k1 ∧ 0 ≤ c1 ∧ x02 + x12 + c2 = k2 ∧ 0 ≤ c2 ∧ r0 ≤ 20 ∧ r1 ≤ 20 ∧ r2 ≤ 20 ∧ k0 ≤ 20 ∧ k1 ≤ 20 ∧ k2 ≤ 20) :
    VCalls Tryd.prog 56 ([I 2, I 1] ++ caps33 K) (C s ++ L33 K k a0 a1 a2 c0 c1 c2 x00 x01 x02 x10 x11 x12 x20 x21 x22) (fun v h' => v = B true ∧ ∃ ys : List Int, h' = C (((rowE (a2) [c1, c2]).flatMap fun tl => (tabE [] (c0 :: subC [c1, c2] tl)).map fun rest => [x00, x01, x02] :: [x10, x11, x12] :: (x20 :: tl) :: rest).foldl upd s) ++ L33 K k a0 a1 a2 c0 c1 c2 x00 x01 x02 x10 x11 x12 x20 (ys.getD 0 0) (ys.getD 1 0)) := by
  have kb := kbeq K
  obtain ⟨Yp, hYp⟩ : ∃ Yp : Nat → List (List (List Int)), Yp = fun N => (List.range N).flatMap fun (q : Nat) => ((rowE ((a2 - ((q : Nat) : Int))) [c2]).flatMap fun tl => (tabE [] (c0 :: (c1 - ((q : Nat) : Int)) :: subC [c2] tl)).map fun rest => [x00, x01, x02] :: [x10, x11, x12] :: (x20 :: ((q : Nat) : Int) :: tl) :: rest) := ⟨_, rfl⟩
  have hY0 : Yp 0 = [] := by rw [hYp]; rfl
  have hYs : ∀ q : Nat, Yp (q + 1) = Yp q ++ ((rowE ((a2 - ((q : Nat) : Int))) [c2]).flatMap fun tl => (tabE [] (c0 :: (c1 - ((q : Nat) : Int)) :: subC [c2] tl)).map fun rest => [x00, x01, x02] :: [x10, x11, x12] :: (x20 :: ((q : Nat) : Int) :: tl) :: rest) := by
    intro q
    simp only [hYp, List.range_succ, List.flatMap_append, List.flatMap_cons, List.flatMap_nil, List.append_nil]
  have hYe : ((rowE (a2) [c1, c2]).flatMap fun tl => (tabE [] (c0 :: subC [c1, c2] tl)).map fun rest => [x00, x01, x02] :: [x10, x11, x12] :: (x20 :: tl) :: rest) = Yp (min a2 c1 + 1).toNat := by
    rw [hYp]
    simp only [rowE, subC, List.flatMap_assoc, List.flatMap_map]
  rw [hYe] at hJ ⊢
  have hpre := pre_steps hYs _ hJ
  clear hYe hYp
  refine vcalls_fn hmix h56 rfl ?_
  simp -implicitDefEqProofs only [c56, caps33, gK1 hK, gK2 hK, gK3 hK, gK4 hK, gK5 hK, gK6 hK, gK7 hK, gK8 hK, gK9 hK, sK1 hK, sK2 hK, sK3 hK, sK4 hK, sK5 hK, sK6 hK, sK7 hK, sK8 hK, sK9 hK, kb, List.length_append, beq_self_eq_true, L33, push_cast, Nat.reduceBEq, Nat.reduceLT, Nat.reduceLeDiff, Nat.reduceAdd, Nat.reduceSub, Nat.reduceMul, Nat.reduceEqDiff, reduceCtorEq, ↓reduceIte, Int.reduceEq, Int.reduceLT, Int.reduceLE, Int.reduceNe, Int.reduceAdd, Int.reduceSub, Int.reduceMul, Int.reduceToNat, Nat.reduceShiftRight, Nat.reduceAnd, Nat.reduceBNe]
  refine ⟨by simp only [inR]; omega, by simp only [inR]; omega, ?_⟩
  refine loop_w (α := Nat × List Int) (fun b => ⟨[(77, I b.1), (76, I (min a2 c1 + 1)), (6, .ptr (K + 9) 0), (5, .ptr (K + 2) 0), (3, .ptr (K + 3) 0), (2, .ptr (K + 5) 0), (1, I 1), (0, I 2)], C ((Yp b.1).foldl upd s) ++ L33 K k a0 a1 a2 c0 c1 c2 x00 x01 x02 x10 x11 x12 x20 (b.2.getD 0 0) (b.2.getD 1 0), []⟩)
    (fun b => b.1 ≤ (min a2 c1 + 1).toNat) (fun b => (min a2 c1 + 1).toNat - b.1) (0, [x21, x22]) (by rw [hY0]; exact wk_tk rfl) (by simp only; omega) ?_
  rintro ⟨q, ys⟩ hq
  simp only at hq
  simp -implicitDefEqProofs only [c56L0, gK1 hK, gK2 hK, gK3 hK, gK4 hK, gK5 hK, gK6 hK, gK7 hK, gK8 hK, gK9 hK, sK1 hK, sK2 hK, sK3 hK, sK4 hK, sK5 hK, sK6 hK, sK7 hK, sK8 hK, sK9 hK, kb, List.length_append, beq_self_eq_true, L33, push_cast, Nat.reduceBEq, Nat.reduceLT, Nat.reduceLeDiff, Nat.reduceAdd, Nat.reduceSub, Nat.reduceMul, Nat.reduceEqDiff, reduceCtorEq, ↓reduceIte, Int.reduceEq, Int.reduceLT, Int.reduceLE, Int.reduceNe, Int.reduceAdd, Int.reduceSub, Int.reduceMul, Int.reduceToNat, Nat.reduceShiftRight, Nat.reduceAnd, Nat.reduceBNe]
  refine ⟨fun hc => ?_, fun hc => ?_⟩
  · refine ⟨by simp only [inR]; omega, by simp only [inR]; omega, by simp only [inR]; omega, ?_⟩
    refine call_rule (fill33_22 hK hR hk hY _ a0 a1 (a2 - (q : Int)) c0 (c1 - (q : Int)) c2 x00 x01 x02 x10 x11 x12 x20 (q : Int) (ys.getD 1 0) (hpre q (by omega)) (by omega)) ?_
    rintro v h' ⟨rfl, ys2, rfl⟩
    simp -implicitDefEqProofs only [Int.sub_add_cancel, gK1 hK, gK2 hK, gK3 hK, gK4 hK, gK5 hK, gK6 hK, gK7 hK, gK8 hK, gK9 hK, sK1 hK, sK2 hK, sK3 hK, sK4 hK, sK5 hK, sK6 hK, sK7 hK, sK8 hK, sK9 hK, kb, List.length_append, beq_self_eq_true, L33, push_cast, Nat.reduceBEq, Nat.reduceLT, Nat.reduceLeDiff, Nat.reduceAdd, Nat.reduceSub, Nat.reduceMul, Nat.reduceEqDiff, reduceCtorEq, ↓reduceIte, Int.reduceEq, Int.reduceLT, Int.reduceLE, Int.reduceNe, Int.reduceAdd, Int.reduceSub, Int.reduceMul, Int.reduceToNat, Nat.reduceShiftRight, Nat.reduceAnd, Nat.reduceBNe]
    refine ⟨by simp only [inR]; omega, by simp only [inR]; omega, by simp only [inR]; omega, (q + 1, (q : Int) :: ys2), by simp only; omega, by simp only; omega, ?_⟩
    simp only [hYs, List.foldl_append]
    exact wk_tk rfl
  · have hqe : q = (min a2 c1 + 1).toNat := by omega
    subst hqe
    refine fin_app (n := K + 10) (by simp [hK]) (by simp [hK] <;> omega) rfl (hR _ _ (by omega)) ?_ ⟨rfl, ys, ?_⟩
    · simp [rowsRefs, rowRefs, refsLtL, refsLt, NatBlt]; omega
    · rfl
theorem fill33_20 (hK : ∀ s, (C s).length = K + 1) (hR : ∀ s n, K + 1 ≤ n → rowsRefs n (C s) = true) (hk : k < K + 1) (hY : Yields33 J C K k upd r0 r1 r2 k0 k1 k2) (s : σ) (a0 a1 a2 c0 c1 c2 x00 x01 x02 x10 x11 x12 x20 x21 x22 : Int) (hJ : Pre J upd s ((rowE (a2) [c0, c1, c2]).flatMap fun tl => (tabE [] (subC [c0, c1, c2] tl)).map fun rest => [x00, x01, x02] :: [x10, x11, x12] :: (tl) :: rest)) (hi : 0 ≤ x00 ∧ 0 ≤ x01 ∧ 0 ≤ x02 ∧ 0 ≤ x10 ∧ 0 ≤ x11 ∧ 0 ≤ x12 ∧ x00 + x01 + x02 = r0 ∧ x10 + x11 + x12 = r1 ∧ a2 = r2 ∧ 0 ≤ a2 ∧ x00 + x10 + c0 = k0 ∧ 0 ≤ c0 ∧ x01 + x11 + c1 = k1 ∧ 0 ≤ c1 ∧ x02 + x12 + c2 = k2 ∧ 0 ≤ c2 ∧ r0 ≤ 20 ∧ r1 ≤ 20 ∧ r2 ≤ 20 ∧ k0 ≤ 20 ∧ k1 ≤ 20 ∧ k2 ≤ 20) :
    VCalls Tryd.prog 56 ([I 2, I 0] ++ caps33 K) (C s ++ L33 K k a0 a1 a2 c0 c1 c2 x00 x01 x02 x10 x11 x12 x20 x21 x22) (fun v h' => v = B true ∧ ∃ ys : List Int, h' = C (((rowE (a2) [c0, c1, c2]).flatMap fun tl => (tabE [] (subC [c0, c1, c2] tl)).map fun rest => [x00, x01, x02] :: [x10, x11, x12] :: (tl) :: rest).foldl upd s) ++ L33 K k a0 a1 a2 c0 c1 c2 x00 x01 x02 x10 x11 x12 (ys.getD 0 0) (ys.getD 1 0) (ys.getD 2 0)) := by
  have kb := kbeq K
  obtain ⟨Yp, hYp⟩ : ∃ Yp : Nat → List (List (List Int)), Yp = fun N => (List.range N).flatMap fun (q : Nat) => ((rowE ((a2 - ((q : Nat) : Int))) [c1, c2]).flatMap fun tl => (tabE [] ((c0 - ((q : Nat) : Int)) :: subC [c1, c2] tl)).map fun rest => [x00, x01, x02] :: [x10, x11, x12] :: (((q : Nat) : Int) :: tl) :: rest) := ⟨_, rfl⟩
  have hY0 : Yp 0 = [] := by rw [hYp]; rfl
  have hYs : ∀ q : Nat, Yp (q + 1) = Yp q ++ ((rowE ((a2 - ((q : Nat) : Int))) [c1, c2]).flatMap fun tl => (tabE [] ((c0 - ((q : Nat) : Int)) :: subC [c1, c2] tl)).map fun rest => [x00, x01, x02] :: [x10, x11, x12] :: (((q : Nat) : Int) :: tl) :: rest) := by
    intro q
    simp only [hYp, List.range_succ, List.flatMap_append, List.flatMap_cons, List.flatMap_nil, List.append_nil]
  have hYe : ((rowE (a2) [c0, c1, c2]).flatMap fun tl => (tabE [] (subC [c0, c1, c2] tl)).map fun rest => [x00, x01, x02] :: [x10, x11, x12] :: (tl) :: rest) = Yp (min a2 c0 + 1).toNat := by
    rw [hYp]
    simp only [rowE, subC, List.flatMap_assoc, List.flatMap_map]
  rw [hYe] at hJ ⊢
  have hpre := pre_steps hYs _ hJ
  clear hYe hYp
  refine vcalls_fn hmix h56 rfl ?_
  simp -implicitDefEqProofs only [c56, caps33, gK1 hK, gK2 hK, gK3 hK, gK4 hK, gK5 hK, gK6 hK, gK7 hK, gK8 hK, gK9 hK, sK1 hK, sK2 hK, sK3 hK, sK4 hK, sK5 hK, sK6 hK, sK7 hK, sK8 hK, sK9 hK, kb, List.length_append, beq_self_eq_true, L33, push_cast, Nat.reduceBEq, Nat.reduceLT, Nat.reduceLeDiff, Nat.reduceAdd, Nat.reduceSub, Nat.reduceMul, Nat.reduceEqDiff, reduceCtorEq, ↓reduceIte, Int.reduceEq, Int.reduceLT, Int.reduceLE, Int.reduceNe, Int.reduceAdd, Int.reduceSub, Int.reduceMul, Int.reduceToNat, Nat.reduceShiftRight, Nat.reduceAnd, Nat.reduceBNe]
  refine ⟨by simp only [inR]; omega, by simp only [inR]; omega, ?_⟩
  refine loop_w (α := Nat × List Int) (fun b => ⟨[(77, I b.1), (76, I (min a2 c0 + 1)), (6, .ptr (K + 9) 0), (5, .ptr (K + 2) 0), (3, .ptr (K + 3) 0), (2, .ptr (K + 5) 0), (1, I 0), (0, I 2)], C ((Yp b.1).foldl upd s) ++ L33 K k a0 a1 a2 c0 c1 c2 x00 x01 x02 x10 x11 x12 (b.2.getD 0 0) (b.2.getD 1 0) (b.2.getD 2 0), []⟩)
    (fun b => b.1 ≤ (min a2 c0 + 1).toNat) (fun b => (min a2 c0 + 1).toNat - b.1) (0, [x20, x21, x22]) (by rw [hY0]; exact wk_tk rfl) (by simp only; omega) ?_
  rintro ⟨q, ys⟩ hq
  simp only at hq
  simp -implicitDefEqProofs only [c56L0, gK1 hK, gK2 hK, gK3 hK, gK4 hK, gK5 hK, gK6 hK, gK7 hK, gK8 hK, gK9 hK, sK1 hK, sK2 hK, sK3 hK, sK4 hK, sK5 hK, sK6 hK, sK7 hK, sK8 hK, sK9 hK, kb, List.length_append, beq_self_eq_true, L33, push_cast, Nat.reduceBEq, Nat.reduceLT, Nat.reduceLeDiff, Nat.reduceAdd, Nat.reduceSub, Nat.reduceMul, Nat.reduceEqDiff, reduceCtorEq, ↓reduceIte, Int.reduceEq, Int.reduceLT, Int.reduceLE, Int.reduceNe, Int.reduceAdd, Int.reduceSub, Int.reduceMul, Int.reduceToNat, Nat.reduceShiftRight, Nat.reduceAnd, Nat.reduceBNe]
  refine ⟨fun hc => ?_, fun hc => ?_⟩
  · refine ⟨by simp only [inR]; omega, by simp only [inR]; omega, by simp only [inR]; omega, ?_⟩
    refine call_rule (fill33_21 hK hR hk hY _ a0 a1 (a2 - (q : Int)) (c0 - (q : Int)) c1 c2 x00 x01 x02 x10 x11 x12 (q : Int) (ys.getD 1 0) (ys.getD 2 0) (hpre q (by omega)) (by omega)) ?_
    rintro v h' ⟨rfl, ys2, rfl⟩
    simp -implicitDefEqProofs only [Int.sub_add_cancel, gK1 hK, gK2 hK, gK3 hK, gK4 hK, gK5 hK, gK6 hK, gK7 hK, gK8 hK, gK9 hK, sK1 hK, sK2 hK, sK3 hK, sK4 hK, sK5 hK, sK6 hK, sK7 hK, sK8 hK, sK9 hK, kb, List.length_append, beq_self_eq_true, L33, push_cast, Nat.reduceBEq, Nat.reduceLT, Nat.reduceLeDiff, Nat.reduceAdd, Nat.reduceSub, Nat.reduceMul, Nat.reduceEqDiff, reduceCtorEq, ↓reduceIte, Int.reduceEq, Int.reduceLT, Int.reduceLE, Int.reduceNe, Int.reduceAdd, Int.reduceSub, Int.reduceMul, Int.reduceToNat, Nat.reduceShiftRight, Nat.reduceAnd, Nat.reduceBNe]
    refine ⟨by simp only [inR]; omega, by simp only [inR]; omega, by simp only [inR]; omega, (q + 1, (q : Int) :: ys2), by simp only; omega, by simp only; omega, ?_⟩
    simp only [hYs, List.foldl_append]
    exact wk_tk rfl
  · have hqe : q = (min a2 c0 + 1).toNat := by omega
    subst hqe
    refine fin_app (n := K + 10) (by simp [hK]) (by simp [hK] <;> omega) rfl (hR _ _ (by omega)) ?_ ⟨rfl, ys, ?_⟩
    · simp [rowsRefs, rowRefs, refsLtL, refsLt, NatBlt]; omega
    · rfl
theorem fill33_12 (hK : ∀ s, (C s).length = K + 1) (hR : ∀ s n, K + 1 ≤ n → rowsRefs n (C s) = true) (hk : k < K + 1) (hY : Yields33 J C K k upd r0 r1 r2 k0 k1 k2) (s : σ) (a0 a1 a2 c0 c1 c2 x00 x01 x02 x10 x11 x12 x20 x21 x22 : Int) (hJ : Pre J upd s ((rowE (a1) [c2]).flatMap fun tl => (tabE [a2] (c0 :: c1 :: subC [c2] tl)).map fun rest => [x00, x01, x02] :: (x10 :: x11 :: tl) :: rest)) (hi : 0 ≤ x00 ∧ 0 ≤ x01 ∧ 0 ≤ x02 ∧ 0 ≤ x10 ∧ 0 ≤ x11 ∧ x00 + x01 + x02 = r0 ∧ x10 + x11 + a1 = r1 ∧ 0 ≤ a1 ∧ a2 = r2 ∧ 0 ≤ a2 ∧ x00 + x10 + c0 = k0 ∧ 0 ≤ c0 ∧ x01 + x11 + c1 = k1 ∧ 0 ≤ c1 ∧ x02 + c2 = k2 ∧ 0 ≤ c2 ∧ r0 ≤ 20 ∧ r1 ≤ 20 ∧ r2 ≤ 20 ∧ k0 ≤ 20 ∧ k1 ≤ 20 ∧ k2 ≤ 20) :
    VCalls Tryd.prog 56 ([I 1, I 2] ++ caps33 K) (C s ++ L33 K k a0 a1 a2 c0 c1 c2 x00 x01 x02 x10 x11 x12 x20 x21 x22) (fun v h' => v = B true ∧ ∃ ys : List Int, h' = C (((rowE (a1) [c2]).flatMap fun tl => (tabE [a2] (c0 :: c1 :: subC [c2] tl)).map fun rest => [x00, x01, x02] :: (x10 :: x11 :: tl) :: rest).foldl upd s) ++ L33 K k a0 a1 a2 c0 c1 c2 x00 x01 x02 x10 x11 (ys.getD 0 0) (ys.getD 1 0) (ys.getD 2 0) (ys.getD 3 0)) := by
  have kb := kbeq K
  refine vcalls_fn hmix h56 rfl ?_
  simp -implicitDefEqProofs only [c56, caps33, gK1 hK, gK2 hK, gK3 hK, gK4 hK, gK5 hK, gK6 hK, gK7 hK, gK8 hK, gK9 hK, sK1 hK, sK2 hK, sK3 hK, sK4 hK, sK5 hK, sK6 hK, sK7 hK, sK8 hK, sK9 hK, kb, List.length_append, beq_self_eq_true, L33, push_cast, Nat.reduceBEq, Nat.reduceLT, Nat.reduceLeDiff, Nat.reduceAdd, Nat.reduceSub, Nat.reduceMul, Nat.reduceEqDiff, reduceCtorEq, ↓reduceIte, Int.reduceEq, Int.reduceLT, Int.reduceLE, Int.reduceNe, Int.reduceAdd, Int.reduceSub, Int.reduceMul, Int.reduceToNat, Nat.reduceShiftRight, Nat.reduceAnd, Nat.reduceBNe]
  refine ⟨by simp only [inR]; omega, fun hlt => ?_, fun hle => ?_⟩
  · skip
    refine fin_app (n := K + 10) (by simp [hK]) (by simp [hK] <;> omega) rfl (hR _ _ (by omega)) ?_ ⟨rfl, [x12, x20, x21, x22], ?_⟩
    · simp [rowsRefs, rowRefs, refsLtL, refsLt, NatBlt]; omega
    · rw [show rowE a1 [c2] = [] from if_neg (by omega)]; rfl
  · refine ⟨by simp only [inR]; omega, by simp only [inR]; omega, ?_⟩
    have e : ((rowE (a1) [c2]).flatMap fun tl => (tabE [a2] (c0 :: c1 :: subC [c2] tl)).map fun rest => [x00, x01, x02] :: (x10 :: x11 :: tl) :: rest) = ((rowE (a2) [c0, c1, (c2 - a1)]).flatMap fun tl => (tabE [] (subC [c0, c1, (c2 - a1)] tl)).map fun rest => [x00, x01, x02] :: [x10, x11, a1] :: (tl) :: rest) := by
      rw [show rowE a1 [c2] = [[a1]] from if_pos (by omega)]
      simp only [tabE_cons, subC, List.map_flatMap, List.map_map, List.flatMap_cons, List.flatMap_nil, List.append_nil, Function.comp_def, List.nil_append, List.cons_append]
    rw [e] at hJ
    refine call_rule (fill33_20 hK hR hk hY s a0 a1 a2 c0 c1 (c2 - a1) x00 x01 x02 x10 x11 a1 x20 x21 x22 hJ (by omega)) ?_
    rintro v h' ⟨rfl, ys, rfl⟩
    simp -implicitDefEqProofs only [Int.sub_add_cancel, gK1 hK, gK2 hK, gK3 hK, gK4 hK, gK5 hK, gK6 hK, gK7 hK, gK8 hK, gK9 hK, sK1 hK, sK2 hK, sK3 hK, sK4 hK, sK5 hK, sK6 hK, sK7 hK, sK8 hK, sK9 hK, kb, List.length_append, beq_self_eq_true, L33, push_cast, Nat.reduceBEq, Nat.reduceLT, Nat.reduceLeDiff, Nat.reduceAdd, Nat.reduceSub, Nat.reduceMul, Nat.reduceEqDiff, reduceCtorEq, ↓reduceIte, Int.reduceEq, Int.reduceLT, Int.reduceLE, Int.reduceNe, Int.reduceAdd, Int.reduceSub, Int.reduceMul, Int.reduceToNat, Nat.reduceShiftRight, Nat.reduceAnd, Nat.reduceBNe]
    refine ⟨by simp only [inR]; omega, ?_⟩
    refine fin_app (n := K + 10) (by simp [hK]) (by simp [hK] <;> omega) rfl (hR _ _ (by omega)) ?_ ⟨rfl, a1 :: ys, ?_⟩
    · simp [rowsRefs, rowRefs, refsLtL, refsLt, NatBlt]; omega
    · rw [e]; rfl
theorem fill33_11 (hK : ∀ s, (C s).length = K + 1) (hR : ∀ s n, K + 1 ≤ n → rowsRefs n (C s) = true) (hk : k < K + 1) (hY : Yields33 J C K k upd r0 r1 r2 k0 k1 k2) (s : σ) (a0 a1 a2 c0 c1 c2 x00 x01 x02 x10 x11 x12 x20 x21 x22 : Int) (hJ : Pre J upd s ((rowE (a1) [c1, c2]).flatMap fun tl => (tabE [a2] (c0 :: subC [c1, c2] tl)).map fun rest => [x00, x01, x02] :: (x10 :: tl) :: rest)) (hi : 0 ≤ x00 ∧ 0 ≤ x01 ∧ 0 ≤ x02 ∧ 0 ≤ x10 ∧ x00 + x01 + x02 = r0 ∧ x10 + a1 = r1 ∧ 0 ≤ a1 ∧ a2 = r2 ∧ 0 ≤ a2 ∧ x00 + x10 + c0 = k0 ∧ 0 ≤ c0 ∧ x01 + c1 = k1 ∧ 0 ≤ c1 ∧ x02 + c2 = k2 ∧ 0 ≤ c2 ∧ r0 ≤ 20 ∧ r1 ≤ 20 ∧ r2 ≤ 20 ∧ k0 ≤ 20 ∧ k1 ≤ 20 ∧ k2 ≤ 20) :
    VCalls Tryd.prog 56 ([I 1, I 1] ++ caps33 K) (C s ++ L33 K k a0 a1 a2 c0 c1 c2 x00 x01 x02 x10 x11 x12 x20 x21 x22) (fun v h' => v = B true ∧ ∃ ys : List Int, h' = C (((rowE (a1) [c1, c2]).flatMap fun tl => (tabE [a2] (c0 :: subC [c1, c2] tl)).map fun rest => [x00, x01, x02] :: (x10 :: tl) :: rest).foldl upd s) ++ L33 K k a0 a1 a2 c0 c1 c2 x00 x01 x02 x10 (ys.getD 0 0) (ys.getD 1 0) (ys.getD 2 0) (ys.getD 3 0) (ys.getD 4 0)) := by
  have kb := kbeq K
  obtain ⟨Yp, hYp⟩ : ∃ Yp : Nat → List (List (List Int)), Yp = fun N => (List.range N).flatMap fun (q : Nat) => ((rowE ((a1 - ((q : Nat) : Int))) [c2]).flatMap fun tl => (tabE [a2] (c0 :: (c1 - ((q : Nat) : Int)) :: subC [c2] tl)).map fun rest => [x00, x01, x02] :: (x10 :: ((q : Nat) : Int) :: tl) :: rest) := ⟨_, rfl⟩
  have hY0 : Yp 0 = [] := by rw [hYp]; rfl
  have hYs : ∀ q : Nat, Yp (q + 1) = Yp q ++ ((rowE ((a1 - ((q : Nat) : Int))) [c2]).flatMap fun tl => (tabE [a2] (c0 :: (c1 - ((q : Nat) : Int)) :: subC [c2] tl)).map fun rest => [x00, x01, x02] :: (x10 :: ((q : Nat) : Int) :: tl) :: rest) := by
    intro q
    simp only [hYp, List.range_succ, List.flatMap_append, List.flatMap_cons, List.flatMap_nil, List.append_nil]
  have hYe : ((rowE (a1) [c1, c2]).flatMap fun tl => (tabE [a2] (c0 :: subC [c1, c2] tl)).map fun rest => [x00, x01, x02] :: (x10 :: tl) :: rest) = Yp (min a1 c1 + 1).toNat := by
    rw [hYp]
    simp only [rowE, subC, List.flatMap_assoc, List.flatMap_map]
  rw [hYe] at hJ ⊢
  have hpre := pre_steps hYs _ hJ
  clear hYe hYp
  refine vcalls_fn hmix h56 rfl ?_
  simp -implicitDefEqProofs only [c56, caps33, gK1 hK, gK2 hK, gK3 hK, gK4 hK, gK5 hK, gK6 hK, gK7 hK, gK8 hK, gK9 hK, sK1 hK, sK2 hK, sK3 hK, sK4 hK, sK5 hK, sK6 hK, sK7 hK, sK8 hK, sK9 hK, kb, List.length_append, beq_self_eq_true, L33, push_cast, Nat.reduceBEq, Nat.reduceLT, Nat.reduceLeDiff, Nat.reduceAdd, Nat.reduceSub, Nat.reduceMul, Nat.reduceEqDiff, reduceCtorEq, ↓reduceIte, Int.reduceEq, Int.reduceLT, Int.reduceLE, Int.reduceNe, Int.reduceAdd, Int.reduceSub, Int.reduceMul, Int.reduceToNat, Nat.reduceShiftRight, Nat.reduceAnd, Nat.reduceBNe]
  refine ⟨by simp only [inR]; omega, by simp only [inR]; omega, ?_⟩
  refine loop_w (α := Nat × List Int) (fun b => ⟨[(77, I b.1), (76, I (min a1 c1 + 1)), (6, .ptr (K + 9) 0), (5, .ptr (K + 2) 0), (3, .ptr (K + 3) 0), (2, .ptr (K + 5) 0), (1, I 1), (0, I 1)], C ((Yp b.1).foldl upd s) ++ L33 K k a0 a1 a2 c0 c1 c2 x00 x01 x02 x10 (b.2.getD 0 0) (b.2.getD 1 0) (b.2.getD 2 0) (b.2.getD 3 0) (b.2.getD 4 0), []⟩)
    (fun b => b.1 ≤ (min a1 c1 + 1).toNat) (fun b => (min a1 c1 + 1).toNat - b.1) (0, [x11, x12, x20, x21, x22]) (by rw [hY0]; exact wk_tk rfl) (by simp only; omega) ?_
  rintro ⟨q, ys⟩ hq
  simp only at hq
  simp -implicitDefEqProofs only [c56L0, gK1 hK, gK2 hK, gK3 hK, gK4 hK, gK5 hK, gK6 hK, gK7 hK, gK8 hK, gK9 hK, sK1 hK, sK2 hK, sK3 hK, sK4 hK, sK5 hK, sK6 hK, sK7 hK, sK8 hK, sK9 hK, kb, List.length_append, beq_self_eq_true, L33, push_cast, Nat.reduceBEq, Nat.reduceLT, Nat.reduceLeDiff, Nat.reduceAdd, Nat.reduceSub, Nat.reduceMul, Nat.reduceEqDiff, reduceCtorEq, ↓reduceIte, Int.reduceEq, Int.reduceLT, Int.reduceLE, Int.reduceNe, Int.reduceAdd, Int.reduceSub, Int.reduceMul, Int.reduceToNat, Nat.reduceShiftRight, Nat.reduceAnd, Nat.reduceBNe]
  refine ⟨fun hc => ?_, fun hc => ?_⟩
  · refine ⟨by simp only [inR]; omega, by simp only [inR]; omega, by simp only [inR]; omega, ?_⟩
    refine call_rule (fill33_12 hK hR hk hY _ a0 (a1 - (q : Int)) a2 c0 (c1 - (q : Int)) c2 x00 x01 x02 x10 (q : Int) (ys.getD 1 0) (ys.getD 2 0) (ys.getD 3 0) (ys.getD 4 0) (hpre q (by omega)) (by omega)) ?_
    rintro v h' ⟨rfl, ys2, rfl⟩
    simp -implicitDefEqProofs only [Int.sub_add_cancel, gK1 hK, gK2 hK, gK3 hK, gK4 hK, gK5 hK, gK6 hK, gK7 hK, gK8 hK, gK9 hK, sK1 hK, sK2 hK, sK3 hK, sK4 hK, sK5 hK, sK6 hK, sK7 hK, sK8 hK, sK9 hK, kb, List.length_append, beq_self_eq_true, L33, push_cast, Nat.reduceBEq, Nat.reduceLT, Nat.reduceLeDiff, Nat.reduceAdd, Nat.reduceSub, Nat.reduceMul, Nat.reduceEqDiff, reduceCtorEq, ↓reduceIte, Int.reduceEq, Int.reduceLT, Int.reduceLE, Int.reduceNe, Int.reduceAdd, Int.reduceSub, Int.reduceMul, Int.reduceToNat, Nat.reduceShiftRight, Nat.reduceAnd, Nat.reduceBNe]
    refine ⟨by simp only [inR]; omega, by simp only [inR]; omega, by simp only [inR]; omega, (q + 1, (q : Int) :: ys2), by simp only; omega, by simp only; omega, ?_⟩
    simp only [hYs, List.foldl_append]
    exact wk_tk rfl
  · have hqe : q = (min a1 c1 + 1).toNat := by omega
    subst hqe
    refine fin_app (n := K + 10) (by simp [hK]) (by simp [hK] <;> omega) rfl (hR _ _ (by omega)) ?_ ⟨rfl, ys, ?_⟩
    · simp [rowsRefs, rowRefs, refsLtL, refsLt, NatBlt]; omega
    · rfl
theorem fill33_10 (hK : ∀ s, (C s).length = K + 1) (hR : ∀ s n, K + 1 ≤ n → rowsRefs n (C s) = true) (hk : k < K + 1) (hY : Yields33 J C K k upd r0 r1 r2 k0 k1 k2) (s : σ) (a0 a1 a2 c0 c1 c2 x00 x01 x02 x10 x11 x12 x20 x21 x22 : Int) (hJ : Pre J upd s ((rowE (a1) [c0, c1, c2]).flatMap fun tl => (tabE [a2] (subC [c0, c1, c2] tl)).map fun rest => [x00, x01, x02] :: (tl) :: rest)) (hi : 0 ≤ x00 ∧ 0 ≤ x01 ∧ 0 ≤ x02 ∧ x00 + x01 + x02 = r0 ∧ a1 = r1 ∧ 0 ≤ a1 ∧ a2 = r2 ∧ 0 ≤ a2 ∧ x00 + c0 = k0 ∧ 0 ≤ c0 ∧ x01 + c1 = k1 ∧ 0 ≤ c1 ∧ x02 + c2 = k2 ∧ 0 ≤ c2 ∧ r0 ≤ 20 ∧ r1 ≤ 20 ∧ r2 ≤ 20 ∧ k0 ≤ 20 ∧ k1 ≤ 20 ∧ k2 ≤ 20) :
    VCalls Tryd.prog 56 ([I 1, I 0] ++ caps33 K) (C s ++ L33 K k a0 a1 a2 c0 c1 c2 x00 x01 x02 x10 x11 x12 x20 x21 x22) (fun v h' => v = B true ∧ ∃ ys : List Int, h' = C (((rowE (a1) [c0, c1, c2]).flatMap fun tl => (tabE [a2] (subC [c0, c1, c2] tl)).map fun rest => [x00, x01, x02] :: (tl) :: rest).foldl upd s) ++ L33 K k a0 a1 a2 c0 c1 c2 x00 x01 x02 (ys.getD 0 0) (ys.getD 1 0) (ys.getD 2 0) (ys.getD 3 0) (ys.getD 4 0) (ys.getD 5 0)) := by
  have kb := kbeq K
  obtain ⟨Yp, hYp⟩ : ∃ Yp : Nat → List (List (List Int)), Yp = fun N => (List.range N).flatMap fun (q : Nat) => ((rowE ((a1 - ((q : Nat) : Int))) [c1, c2]).flatMap fun tl => (tabE [a2] ((c0 - ((q : Nat) : Int)) :: subC [c1, c2] tl)).map fun rest => [x00, x01, x02] :: (((q : Nat) : Int) :: tl) :: rest) := ⟨_, rfl⟩
  have hY0 : Yp 0 = [] := by rw [hYp]; rfl
  have hYs : ∀ q : Nat, Yp (q + 1) = Yp q ++ ((rowE ((a1 - ((q : Nat) : Int))) [c1, c2]).flatMap fun tl => (tabE [a2] ((c0 - ((q : Nat) : Int)) :: subC [c1, c2] tl)).map fun rest => [x00, x01, x02] :: (((q : Nat) : Int) :: tl) :: rest) := by
    intro q
    simp only [hYp, List.range_succ, List.flatMap_append, List.flatMap_cons, List.flatMap_nil, List.append_nil]
  have hYe : ((rowE (a1) [c0, c1, c2]).flatMap fun tl => (tabE [a2] (subC [c0, c1, c2] tl)).map fun rest => [x00, x01, x02] :: (tl) :: rest) = Yp (min a1 c0 + 1).toNat := by
    rw [hYp]
    simp only [rowE, subC, List.flatMap_assoc, List.flatMap_map]
  rw [hYe] at hJ ⊢
  have hpre := pre_steps hYs _ hJ
  clear hYe hYp
  refine vcalls_fn hmix h56 rfl ?_
  simp -implicitDefEqProofs only [c56, caps33, gK1 hK, gK2 hK, gK3 hK, gK4 hK, gK5 hK, gK6 hK, gK7 hK, gK8 hK, gK9 hK, sK1 hK, sK2 hK, sK3 hK, sK4 hK, sK5 hK, sK6 hK, sK7 hK, sK8 hK, sK9 hK, kb, List.length_append, beq_self_eq_true, L33, push_cast, Nat.reduceBEq, Nat.reduceLT, Nat.reduceLeDiff, Nat.reduceAdd, Nat.reduceSub, Nat.reduceMul, Nat.reduceEqDiff, reduceCtorEq, ↓reduceIte, Int.reduceEq, Int.reduceLT, Int.reduceLE, Int.reduceNe, Int.reduceAdd, Int.reduceSub, Int.reduceMul, Int.reduceToNat, Nat.reduceShiftRight, Nat.reduceAnd, Nat.reduceBNe]
  refine ⟨by simp only [inR]; omega, by simp only [inR]; omega, ?_⟩
  refine loop_w (α := Nat × List Int) (fun b => ⟨[(77, I b.1), (76, I (min a1 c0 + 1)), (6, .ptr (K + 9) 0), (5, .ptr (K + 2) 0), (3, .ptr (K + 3) 0), (2, .ptr (K + 5) 0), (1, I 0), (0, I 1)], C ((Yp b.1).foldl upd s) ++ L33 K k a0 a1 a2 c0 c1 c2 x00 x01 x02 (b.2.getD 0 0) (b.2.getD 1 0) (b.2.getD 2 0) (b.2.getD 3 0) (b.2.getD 4 0) (b.2.getD 5 0), []⟩)
    (fun b => b.1 ≤ (min a1 c0 + 1).toNat) (fun b => (min a1 c0 + 1).toNat - b.1) (0, [x10, x11, x12, x20, x21, x22]) (by rw [hY0]; exact wk_tk rfl) (by simp only; omega) ?_
  rintro ⟨q, ys⟩ hq
  simp only at hq
  simp -implicitDefEqProofs only [c56L0, gK1 hK, gK2 hK, gK3 hK, gK4 hK, gK5 hK, gK6 hK, gK7 hK, gK8 hK, gK9 hK, sK1 hK, sK2 hK, sK3 hK, sK4 hK, sK5 hK, sK6 hK, sK7 hK, sK8 hK, sK9 hK, kb, List.length_append, beq_self_eq_true, L33, push_cast, Nat.reduceBEq, Nat.reduceLT, Nat.reduceLeDiff, Nat.reduceAdd, Nat.reduceSub, Nat.reduceMul, Nat.reduceEqDiff, reduceCtorEq, ↓reduceIte, Int.reduceEq, Int.reduceLT, Int.reduceLE, Int.reduceNe, Int.reduceAdd, Int.reduceSub, Int.reduceMul, Int.reduceToNat, Nat.reduceShiftRight, Nat.reduceAnd, Nat.reduceBNe]
  refine ⟨fun hc => ?_, fun hc => ?_⟩
  · refine ⟨by simp only [inR]; omega, by simp only [inR]; omega, by simp only [inR]; omega, ?_⟩
    refine call_rule (fill33_11 hK hR hk hY _ a0 (a1 - (q : Int)) a2 (c0 - (q : Int)) c1 c2 x00 x01 x02 (q : Int) (ys.getD 1 0) (ys.getD 2 0) (ys.getD 3 0) (ys.getD 4 0) (ys.getD 5 0) (hpre q (by omega)) (by omega)) ?_
    rintro v h' ⟨rfl, ys2, rfl⟩
    simp -implicitDefEqProofs only [Int.sub_add_cancel, gK1 hK, gK2 hK, gK3 hK, gK4 hK, gK5 hK, gK6 hK, gK7 hK, gK8 hK, gK9 hK, sK1 hK, sK2 hK, sK3 hK, sK4 hK, sK5 hK, sK6 hK, sK7 hK, sK8 hK, sK9 hK, kb, List.length_append, beq_self_eq_true, L33, push_cast, Nat.reduceBEq, Nat.reduceLT, Nat.reduceLeDiff, Nat.reduceAdd, Nat.reduceSub, Nat.reduceMul, Nat.reduceEqDiff, reduceCtorEq, ↓reduceIte, Int.reduceEq, Int.reduceLT, Int.reduceLE, Int.reduceNe, Int.reduceAdd, Int.reduceSub, Int.reduceMul, Int.reduceToNat, Nat.reduceShiftRight, Nat.reduceAnd, Nat.reduceBNe]
    refine ⟨by simp only [inR]; omega, by simp only [inR]; omega, by simp only [inR]; omega, (q + 1, (q : Int) :: ys2), by simp only; omega, by simp only; omega, ?_⟩
    simp only [hYs, List.foldl_append]
    exact wk_tk rfl
  · have hqe : q = (min a1 c0 + 1).toNat := by omega
    subst hqe
    refine fin_app (n := K + 10) (by simp [hK]) (by simp [hK] <;> omega) rfl (hR _ _ (by omega)) ?_ ⟨rfl, ys, ?_⟩
    · simp [rowsRefs, rowRefs, refsLtL, refsLt, NatBlt]; omega
    · rfl
theorem fill33_02 (hK : ∀ s, (C s).length = K + 1) (hR : ∀ s n, K + 1 ≤ n → rowsRefs n (C s) = true) (hk : k < K + 1) (hY : Yields33 J C K k upd r0 r1 r2 k0 k1 k2) (s : σ) (a0 a1 a2 c0 c1 c2 x00 x01 x02 x10 x11 x12 x20 x21 x22 : Int) (hJ : Pre J upd s ((rowE (a0) [c2]).flatMap fun tl => (tabE [a1, a2] (c0 :: c1 :: subC [c2] tl)).map fun rest => (x00 :: x01 :: tl) :: rest)) (hi : 0 ≤ x00 ∧ 0 ≤ x01 ∧ x00 + x01 + a0 = r0 ∧ 0 ≤ a0 ∧ a1 = r1 ∧ 0 ≤ a1 ∧ a2 = r2 ∧ 0 ≤ a2 ∧ x00 + c0 = k0 ∧ 0 ≤ c0 ∧ x01 + c1 = k1 ∧ 0 ≤ c1 ∧ c2 = k2 ∧ 0 ≤ c2 ∧ r0 ≤ 20 ∧ r1 ≤ 20 ∧ r2 ≤ 20 ∧ k0 ≤ 20 ∧ k1 ≤ 20 ∧ k2 ≤ 20) :
    VCalls Tryd.prog 56 ([I 0, I 2] ++ caps33 K) (C s ++ L33 K k a0 a1 a2 c0 c1 c2 x00 x01 x02 x10 x11 x12 x20 x21 x22) (fun v h' => v = B true ∧ ∃ ys : List Int, h' = C (((rowE (a0) [c2]).flatMap fun tl => (tabE [a1, a2] (c0 :: c1 :: subC [c2] tl)).map fun rest => (x00 :: x01 :: tl) :: rest).foldl upd s) ++ L33 K k a0 a1 a2 c0 c1 c2 x00 x01 (ys.getD 0 0) (ys.getD 1 0) (ys.getD 2 0) (ys.getD 3 0) (ys.getD 4 0) (ys.getD 5 0) (ys.getD 6 0)) := by
  have kb := kbeq K
  refine vcalls_fn hmix h56 rfl ?_
  simp -implicitDefEqProofs only [c56, caps33, gK1 hK, gK2 hK, gK3 hK, gK4 hK, gK5 hK, gK6 hK, gK7 hK, gK8 hK, gK9 hK, sK1 hK, sK2 hK, sK3 hK, sK4 hK, sK5 hK, sK6 hK, sK7 hK, sK8 hK, sK9 hK, kb, List.length_append, beq_self_eq_true, L33, push_cast, Nat.reduceBEq, Nat.reduceLT, Nat.reduceLeDiff, Nat.reduceAdd, Nat.reduceSub, Nat.reduceMul, Nat.reduceEqDiff, reduceCtorEq, ↓reduceIte, Int.reduceEq, Int.reduceLT, Int.reduceLE, Int.reduceNe, Int.reduceAdd, Int.reduceSub, Int.reduceMul, Int.reduceToNat, Nat.reduceShiftRight, Nat.reduceAnd, Nat.reduceBNe]
  refine ⟨by simp only [inR]; omega, fun hlt => ?_, fun hle => ?_⟩
  · skip
    refine fin_app (n := K + 10) (by simp [hK]) (by simp [hK] <;> omega) rfl (hR _ _ (by omega)) ?_ ⟨rfl, [x02, x10, x11, x12, x20, x21, x22], ?_⟩
    · simp [rowsRefs, rowRefs, refsLtL, refsLt, NatBlt]; omega
    · rw [show rowE a0 [c2] = [] from if_neg (by omega)]; rfl
  · refine ⟨by simp only [inR]; omega, by simp only [inR]; omega, ?_⟩
    have e : ((rowE (a0) [c2]).flatMap fun tl => (tabE [a1, a2] (c0 :: c1 :: subC [c2] tl)).map fun rest => (x00 :: x01 :: tl) :: rest) = ((rowE (a1) [c0, c1, (c2 - a0)]).flatMap fun tl => (tabE [a2] (subC [c0, c1, (c2 - a0)] tl)).map fun rest => [x00, x01, a0] :: (tl) :: rest) := by
      rw [show rowE a0 [c2] = [[a0]] from if_pos (by omega)]
      simp only [tabE_cons, subC, List.map_flatMap, List.map_map, List.flatMap_cons, List.flatMap_nil, List.append_nil, Function.comp_def, List.nil_append, List.cons_append]
    rw [e] at hJ
    refine call_rule (fill33_10 hK hR hk hY s a0 a1 a2 c0 c1 (c2 - a0) x00 x01 a0 x10 x11 x12 x20 x21 x22 hJ (by omega)) ?_
    rintro v h' ⟨rfl, ys, rfl⟩
    simp -implicitDefEqProofs only [Int.sub_add_cancel, gK1 hK, gK2 hK, gK3 hK, gK4 hK, gK5 hK, gK6 hK, gK7 hK, gK8 hK, gK9 hK, sK1 hK, sK2 hK, sK3 hK, sK4 hK, sK5 hK, sK6 hK, sK7 hK, sK8 hK, sK9 hK, kb, List.length_append, beq_self_eq_true, L33, push_cast, Nat.reduceBEq, Nat.reduceLT, Nat.reduceLeDiff, Nat.reduceAdd, Nat.reduceSub, Nat.reduceMul, Nat.reduceEqDiff, reduceCtorEq, ↓reduceIte, Int.reduceEq, Int.reduceLT, Int.reduceLE, Int.reduceNe, Int.reduceAdd, Int.reduceSub, Int.reduceMul, Int.reduceToNat, Nat.reduceShiftRight, Nat.reduceAnd, Nat.reduceBNe]
    refine ⟨by simp only [inR]; omega, ?_⟩
    refine fin_app (n := K + 10) (by simp [hK]) (by simp [hK] <;> omega) rfl (hR _ _ (by omega)) ?_ ⟨rfl, a0 :: ys, ?_⟩
    · simp [rowsRefs, rowRefs, refsLtL, refsLt, NatBlt]; omega
    · rw [e]; rfl
theorem fill33_01 (hK : ∀ s, (C s).length = K + 1) (hR : ∀ s n, K + 1 ≤ n → rowsRefs n (C s) = true) (hk : k < K + 1) (hY : Yields33 J C K k upd r0 r1 r2 k0 k1 k2) (s : σ) (a0 a1 a2 c0 c1 c2 x00 x01 x02 x10 x11 x12 x20 x21 x22 : Int) (hJ : Pre J upd s ((rowE (a0) [c1, c2]).flatMap fun tl => (tabE [a1, a2] (c0 :: subC [c1, c2] tl)).map fun rest => (x00 :: tl) :: rest)) (hi : 0 ≤ x00 ∧ x00 + a0 = r0 ∧ 0 ≤ a0 ∧ a1 = r1 ∧ 0 ≤ a1 ∧ a2 = r2 ∧ 0 ≤ a2 ∧ x00 + c0 = k0 ∧ 0 ≤ c0 ∧ c1 = k1 ∧ 0 ≤ c1 ∧ c2 = k2 ∧ 0 ≤ c2 ∧ r0 ≤ 20 ∧ r1 ≤ 20 ∧ r2 ≤ 20 ∧ k0 ≤ 20 ∧ k1 ≤ 20 ∧ k2 ≤ 20) :
    VCalls Tryd.prog 56 ([I 0, I 1] ++ caps33 K) (C s ++ L33 K k a0 a1 a2 c0 c1 c2 x00 x01 x02 x10 x11 x12 x20 x21 x22) (fun v h' => v = B true ∧ ∃ ys : List Int, h' = C (((rowE (a0) [c1, c2]).flatMap fun tl => (tabE [a1, a2] (c0 :: subC [c1, c2] tl)).map fun rest => (x00 :: tl) :: rest).foldl upd s) ++ L33 K k a0 a1 a2 c0 c1 c2 x00 (ys.getD 0 0) (ys.getD 1 0) (ys.getD 2 0) (ys.getD 3 0) (ys.getD 4 0) (ys.getD 5 0) (ys.getD 6 0) (ys.getD 7 0)) := by
  have kb := kbeq K
  obtain ⟨Yp, hYp⟩ : ∃ Yp : Nat → List (List (List Int)), Yp = fun N => (List.range N).flatMap fun (q : Nat) => ((rowE ((a0 - ((q : Nat) : Int))) [c2]).flatMap fun tl => (tabE [a1, a2] (c0 :: (c1 - ((q : Nat) : Int)) :: subC [c2] tl)).map fun rest => (x00 :: ((q : Nat) : Int) :: tl) :: rest) := ⟨_, rfl⟩
  have hY0 : Yp 0 = [] := by rw [hYp]; rfl
  have hYs : ∀ q : Nat, Yp (q + 1) = Yp q ++ ((rowE ((a0 - ((q : Nat) : Int))) [c2]).flatMap fun tl => (tabE [a1, a2] (c0 :: (c1 - ((q : Nat) : Int)) :: subC [c2] tl)).map fun rest => (x00 :: ((q : Nat) : Int) :: tl) :: rest) := by
    intro q
    simp only [hYp, List.range_succ, List.flatMap_append, List.flatMap_cons, List.flatMap_nil, List.append_nil]
  have hYe : ((rowE (a0) [c1, c2]).flatMap fun tl => (tabE [a1, a2] (c0 :: subC [c1, c2] tl)).map fun rest => (x00 :: tl) :: rest) = Yp (min a0 c1 + 1).toNat := by
    rw [hYp]
    simp only [rowE, subC, List.flatMap_assoc, List.flatMap_map]
  rw [hYe] at hJ ⊢
  have hpre := pre_steps hYs _ hJ
  clear hYe hYp
  refine vcalls_fn hmix h56 rfl ?_
  simp -implicitDefEqProofs only [c56, caps33, gK1 hK, gK2 hK, gK3 hK, gK4 hK, gK5 hK, gK6 hK, gK7 hK, gK8 hK, gK9 hK, sK1 hK, sK2 hK, sK3 hK, sK4 hK, sK5 hK, sK6 hK, sK7 hK, sK8 hK, sK9 hK, kb, List.length_append, beq_self_eq_true, L33, push_cast, Nat.reduceBEq, Nat.reduceLT, Nat.reduceLeDiff, Nat.reduceAdd, Nat.reduceSub, Nat.reduceMul, Nat.reduceEqDiff, reduceCtorEq, ↓reduceIte, Int.reduceEq, Int.reduceLT, Int.reduceLE, Int.reduceNe, Int.reduceAdd, Int.reduceSub, Int.reduceMul, Int.reduceToNat, Nat.reduceShiftRight, Nat.reduceAnd, Nat.reduceBNe]
  refine ⟨by simp only [inR]; omega, by simp only [inR]; omega, ?_⟩
  refine loop_w (α := Nat × List Int) (fun b => ⟨[(77, I b.1), (76, I (min a0 c1 + 1)), (6, .ptr (K + 9) 0), (5, .ptr (K + 2) 0), (3, .ptr (K + 3) 0), (2, .ptr (K + 5) 0), (1, I 1), (0, I 0)], C ((Yp b.1).foldl upd s) ++ L33 K k a0 a1 a2 c0 c1 c2 x00 (b.2.getD 0 0) (b.2.getD 1 0) (b.2.getD 2 0) (b.2.getD 3 0) (b.2.getD 4 0) (b.2.getD 5 0) (b.2.getD 6 0) (b.2.getD 7 0), []⟩)
    (fun b => b.1 ≤ (min a0 c1 + 1).toNat) (fun b => (min a0 c1 + 1).toNat - b.1) (0, [x01, x02, x10, x11, x12, x20, x21, x22]) (by rw [hY0]; exact wk_tk rfl) (by simp only; omega) ?_
  rintro ⟨q, ys⟩ hq
  simp only at hq
  simp -implicitDefEqProofs only [c56L0, gK1 hK, gK2 hK, gK3 hK, gK4 hK, gK5 hK, gK6 hK, gK7 hK, gK8 hK, gK9 hK, sK1 hK, sK2 hK, sK3 hK, sK4 hK, sK5 hK, sK6 hK, sK7 hK, sK8 hK, sK9 hK, kb, List.length_append, beq_self_eq_true, L33, push_cast, Nat.reduceBEq, Nat.reduceLT, Nat.reduceLeDiff, Nat.reduceAdd, Nat.reduceSub, Nat.reduceMul, Nat.reduceEqDiff, reduceCtorEq, ↓reduceIte, Int.reduceEq, Int.reduceLT, Int.reduceLE, Int.reduceNe, Int.reduceAdd, Int.reduceSub, Int.reduceMul, Int.reduceToNat, Nat.reduceShiftRight, Nat.reduceAnd, Nat.reduceBNe]
  refine ⟨fun hc => ?_, fun hc => ?_⟩
  · refine ⟨by simp only [inR]; omega, by simp only [inR]; omega, by simp only [inR]; omega, ?_⟩
    refine call_rule (fill33_02 hK hR hk hY _ (a0 - (q : Int)) a1 a2 c0 (c1 - (q : Int)) c2 x00 (q : Int) (ys.getD 1 0) (ys.getD 2 0) (ys.getD 3 0) (ys.getD 4 0) (ys.getD 5 0) (ys.getD 6 0) (ys.getD 7 0) (hpre q (by omega)) (by omega)) ?_
    rintro v h' ⟨rfl, ys2, rfl⟩
    simp -implicitDefEqProofs only [Int.sub_add_cancel, gK1 hK, gK2 hK, gK3 hK, gK4 hK, gK5 hK, gK6 hK, gK7 hK, gK8 hK, gK9 hK, sK1 hK, sK2 hK, sK3 hK, sK4 hK, sK5 hK, sK6 hK, sK7 hK, sK8 hK, sK9 hK, kb, List.length_append, beq_self_eq_true, L33, push_cast, Nat.reduceBEq, Nat.reduceLT, Nat.reduceLeDiff, Nat.reduceAdd, Nat.reduceSub, Nat.reduceMul, Nat.reduceEqDiff, reduceCtorEq, ↓reduceIte, Int.reduceEq, Int.reduceLT, Int.reduceLE, Int.reduceNe, Int.reduceAdd, Int.reduceSub, Int.reduceMul, Int.reduceToNat, Nat.reduceShiftRight, Nat.reduceAnd, Nat.reduceBNe]
    refine ⟨by simp only [inR]; omega, by simp only [inR]; omega, by simp only [inR]; omega, (q + 1, (q : Int) :: ys2), by simp only; omega, by simp only; omega, ?_⟩
    simp only [hYs, List.foldl_append]
    exact wk_tk rfl
  · have hqe : q = (min a0 c1 + 1).toNat := by omega
    subst hqe
    refine fin_app (n := K + 10) (by simp [hK]) (by simp [hK] <;> omega) rfl (hR _ _ (by omega)) ?_ ⟨rfl, ys, ?_⟩
    · simp [rowsRefs, rowRefs, refsLtL, refsLt, NatBlt]; omega
    · rfl
theorem fill33_00 (hK : ∀ s, (C s).length = K + 1) (hR : ∀ s n, K + 1 ≤ n → rowsRefs n (C s) = true) (hk : k < K + 1) (hY : Yields33 J C K k upd r0 r1 r2 k0 k1 k2) (s : σ) (a0 a1 a2 c0 c1 c2 x00 x01 x02 x10 x11 x12 x20 x21 x22 : Int) (hJ : Pre J upd s ((rowE (a0) [c0, c1, c2]).flatMap fun tl => (tabE [a1, a2] (subC [c0, c1, c2] tl)).map fun rest => (tl) :: rest)) (hi : a0 = r0 ∧ 0 ≤ a0 ∧ a1 = r1 ∧ 0 ≤ a1 ∧ a2 = r2 ∧ 0 ≤ a2 ∧ c0 = k0 ∧ 0 ≤ c0 ∧ c1 = k1 ∧ 0 ≤ c1 ∧ c2 = k2 ∧ 0 ≤ c2 ∧ r0 ≤ 20 ∧ r1 ≤ 20 ∧ r2 ≤ 20 ∧ k0 ≤ 20 ∧ k1 ≤ 20 ∧ k2 ≤ 20) :
    VCalls Tryd.prog 56 ([I 0, I 0] ++ caps33 K) (C s ++ L33 K k a0 a1 a2 c0 c1 c2 x00 x01 x02 x10 x11 x12 x20 x21 x22) (fun v h' => v = B true ∧ ∃ ys : List Int, h' = C (((rowE (a0) [c0, c1, c2]).flatMap fun tl => (tabE [a1, a2] (subC [c0, c1, c2] tl)).map fun rest => (tl) :: rest).foldl upd s) ++ L33 K k a0 a1 a2 c0 c1 c2 (ys.getD 0 0) (ys.getD 1 0) (ys.getD 2 0) (ys.getD 3 0) (ys.getD 4 0) (ys.getD 5 0) (ys.getD 6 0) (ys.getD 7 0) (ys.getD 8 0)) := by
  have kb := kbeq K
  obtain ⟨Yp, hYp⟩ : ∃ Yp : Nat → List (List (List Int)), Yp = fun N => (List.range N).flatMap fun (q : Nat) => ((rowE ((a0 - ((q : Nat) : Int))) [c1, c2]).flatMap fun tl => (tabE [a1, a2] ((c0 - ((q : Nat) : Int)) :: subC [c1, c2] tl)).map fun rest => (((q : Nat) : Int) :: tl) :: rest) := ⟨_, rfl⟩
  have hY0 : Yp 0 = [] := by rw [hYp]; rfl
  have hYs : ∀ q : Nat, Yp (q + 1) = Yp q ++ ((rowE ((a0 - ((q : Nat) : Int))) [c1, c2]).flatMap fun tl => (tabE [a1, a2] ((c0 - ((q : Nat) : Int)) :: subC [c1, c2] tl)).map fun rest => (((q : Nat) : Int) :: tl) :: rest) := by
    intro q
    simp only [hYp, List.range_succ, List.flatMap_append, List.flatMap_cons, List.flatMap_nil, List.append_nil]
  have hYe : ((rowE (a0) [c0, c1, c2]).flatMap fun tl => (tabE [a1, a2] (subC [c0, c1, c2] tl)).map fun rest => (tl) :: rest) = Yp (min a0 c0 + 1).toNat := by
    rw [hYp]
    simp only [rowE, subC, List.flatMap_assoc, List.flatMap_map]
  rw [hYe] at hJ ⊢
  have hpre := pre_steps hYs _ hJ
  clear hYe hYp
  refine vcalls_fn hmix h56 rfl ?_
  simp -implicitDefEqProofs only [c56, caps33, gK1 hK, gK2 hK, gK3 hK, gK4 hK, gK5 hK, gK6 hK, gK7 hK, gK8 hK, gK9 hK, sK1 hK, sK2 hK, sK3 hK, sK4 hK, sK5 hK, sK6 hK, sK7 hK, sK8 hK, sK9 hK, kb, List.length_append, beq_self_eq_true, L33, push_cast, Nat.reduceBEq, Nat.reduceLT, Nat.reduceLeDiff, Nat.reduceAdd, Nat.reduceSub, Nat.reduceMul, Nat.reduceEqDiff, reduceCtorEq, ↓reduceIte, Int.reduceEq, Int.reduceLT, Int.reduceLE, Int.reduceNe, Int.reduceAdd, Int.reduceSub, Int.reduceMul, Int.reduceToNat, Nat.reduceShiftRight, Nat.reduceAnd, Nat.reduceBNe]
  refine ⟨by simp only [inR]; omega, by simp only [inR]; omega, ?_⟩
  refine loop_w (α := Nat × List Int) (fun b => ⟨[(77, I b.1), (76, I (min a0 c0 + 1)), (6, .ptr (K + 9) 0), (5, .ptr (K + 2) 0), (3, .ptr (K + 3) 0), (2, .ptr (K + 5) 0), (1, I 0), (0, I 0)], C ((Yp b.1).foldl upd s) ++ L33 K k a0 a1 a2 c0 c1 c2 (b.2.getD 0 0) (b.2.getD 1 0) (b.2.getD 2 0) (b.2.getD 3 0) (b.2.getD 4 0) (b.2.getD 5 0) (b.2.getD 6 0) (b.2.getD 7 0) (b.2.getD 8 0), []⟩)
    (fun b => b.1 ≤ (min a0 c0 + 1).toNat) (fun b => (min a0 c0 + 1).toNat - b.1) (0, [x00, x01, x02, x10, x11, x12, x20, x21, x22]) (by rw [hY0]; exact wk_tk rfl) (by simp only; omega) ?_
  rintro ⟨q, ys⟩ hq
  simp only at hq
  simp -implicitDefEqProofs only [c56L0, gK1 hK, gK2 hK, gK3 hK, gK4 hK, gK5 hK, gK6 hK, gK7 hK, gK8 hK, gK9 hK, sK1 hK, sK2 hK, sK3 hK, sK4 hK, sK5 hK, sK6 hK, sK7 hK, sK8 hK, sK9 hK, kb, List.length_append, beq_self_eq_true, L33, push_cast, Nat.reduceBEq, Nat.reduceLT, Nat.reduceLeDiff, Nat.reduceAdd, Nat.reduceSub, Nat.reduceMul, Nat.reduceEqDiff, reduceCtorEq, ↓reduceIte, Int.reduceEq, Int.reduceLT, Int.reduceLE, Int.reduceNe, Int.reduceAdd, Int.reduceSub, Int.reduceMul, Int.reduceToNat, Nat.reduceShiftRight, Nat.reduceAnd, Nat.reduceBNe]
  refine ⟨fun hc => ?_, fun hc => ?_⟩
  · refine ⟨by simp only [inR]; omega, by simp only [inR]; omega, by simp only [inR]; omega, ?_⟩
    refine call_rule (fill33_01 hK hR hk hY _ (a0 - (q : Int)) a1 a2 (c0 - (q : Int)) c1 c2 (q : Int) (ys.getD 1 0) (ys.getD 2 0) (ys.getD 3 0) (ys.getD 4 0) (ys.getD 5 0) (ys.getD 6 0) (ys.getD 7 0) (ys.getD 8 0) (hpre q (by omega)) (by omega)) ?_
    rintro v h' ⟨rfl, ys2, rfl⟩
    simp -implicitDefEqProofs only [Int.sub_add_cancel, gK1 hK, gK2 hK, gK3 hK, gK4 hK, gK5 hK, gK6 hK, gK7 hK, gK8 hK, gK9 hK, sK1 hK, sK2 hK, sK3 hK, sK4 hK, sK5 hK, sK6 hK, sK7 hK, sK8 hK, sK9 hK, kb, List.length_append, beq_self_eq_true, L33, push_cast, Nat.reduceBEq, Nat.reduceLT, Nat.reduceLeDiff, Nat.reduceAdd, Nat.reduceSub, Nat.reduceMul, Nat.reduceEqDiff, reduceCtorEq, ↓reduceIte, Int.reduceEq, Int.reduceLT, Int.reduceLE, Int.reduceNe, Int.reduceAdd, Int.reduceSub, Int.reduceMul, Int.reduceToNat, Nat.reduceShiftRight, Nat.reduceAnd, Nat.reduceBNe]
    refine ⟨by simp only [inR]; omega, by simp only [inR]; omega, by simp only [inR]; omega, (q + 1, (q : Int) :: ys2), by simp only; omega, by simp only; omega, ?_⟩
    simp only [hYs, List.foldl_append]
    exact wk_tk rfl
  · have hqe : q = (min a0 c0 + 1).toNat := by omega
    subst hqe
    refine fin_app (n := K + 10) (by simp [hK]) (by simp [hK] <;> omega) rfl (hR _ _ (by omega)) ?_ ⟨rfl, ys, ?_⟩
    · simp [rowsRefs, rowRefs, refsLtL, refsLt, NatBlt]; omega
    · rfl
end
end Go.Proofs.YtligakiolapkkaaDoor

namespace Go.Proofs.YtligakiolapkkaaDoor
open Go GoV
set_option maxRecDepth 10000
theorem fin_pre {B n : Nat} {v : AV} {Q : AV → Heap → Prop} {C L : Heap} (hn : C.length = n) (hB : B ≤ n) (hv : refsLt n v = true) (hC : rowsRefs n C = true) (hq : Q v C) : finK1 B v Q (C ++ L) := by
  subst hn
  refine ⟨C.length, hB, hv, ?_, ?_⟩
  · rw [List.take_left]; exact hC
  · rw [List.take_left]; exact hq
theorem all_pc (t : List (List Int)) : PC Tryd.prog 46 [TT t] (.fn 55 [] [.imm (.list (.list (.int .i64))) t]) := by
  refine pc_fn hmix h46 rfl ?_
  simp -implicitDefEqProofs only [c46, push_cast, Nat.reduceBEq, Nat.reduceLT, Nat.reduceLeDiff, Nat.reduceAdd, Nat.reduceSub, Nat.reduceMul, Nat.reduceEqDiff, reduceCtorEq, ↓reduceIte, Int.reduceEq, Int.reduceLT, Int.reduceLE, Int.reduceNe, Int.reduceAdd, Int.reduceSub, Int.reduceMul, Int.reduceToNat, Nat.reduceShiftRight, Nat.reduceAnd, Nat.reduceBNe]
  exact finR 1 rfl ⟨rfl, trivial, ⟨⟨Nat.le_refl _, ⟨rfl, rfl⟩⟩, trivial⟩⟩
abbrev TTT (l : List (List (List Int))) : AV := .dat (.list (.list (.list (.int .i64)))) l
end Go.Proofs.YtligakiolapkkaaDoor

namespace Go.Proofs.YtligakiolapkkaaDoor
open Go GoV
set_option maxHeartbeats 8000000
set_option maxRecDepth 10000
set_option linter.unusedVariables false
set_option linter.unusedSimpArgs false
theorem tab_hyp22 {x00 x01 x10 x11 : Int} (h : Tab [[x00, x01], [x10, x11]]) : 0 ≤ x00 ∧ 0 ≤ x01 ∧ 0 ≤ x10 ∧ 0 ≤ x11 ∧ x00 + x01 + x10 + x11 ≤ 20 := by
  obtain ⟨_, _, h3, h4⟩ := h
  have := rng2 (h3 [x00, x01] (by simp)).2
  have := rng2 (h3 [x10, x11] (by simp)).2
  simp only [totL, sumL, List.map_cons, List.map_nil] at h4
  omega
section
variable {σ : Type} {J : σ → Prop} {C : σ → Heap} {K k : Nat} {upd : σ → List (List Int) → σ}
theorem all22 (hK : ∀ s, (C s).length = K + 1) (hR : ∀ s n, K + 1 ≤ n → rowsRefs n (C s) = true) (hk : k < K + 1) {x00 x01 x10 x11 : Int} (ht : Tab [[x00, x01], [x10, x11]])
    (hY : Yields22 J C K k upd (x00 + x01) (x10 + x11) (x00 + x10) (x01 + x11)) (s : σ) (hJ : Pre J upd s (tabE [(x00 + x01), (x10 + x11)] [(x00 + x10), (x01 + x11)])) :
    VCalls Tryd.prog 55 [.yld k, .imm (.list (.list (.int .i64))) [[x00, x01], [x10, x11]]] (C s) (fun v h' => h' = C ((tabE [(x00 + x01), (x10 + x11)] [(x00 + x10), (x01 + x11)]).foldl upd s)) := by
  have kb := kbeq K
  have m7 : K + 7 - 1 = K + 6 := rfl
  have m8 : K + 8 - 1 = K + 7 := rfl
  have m9 : K + 9 - 1 = K + 8 := rfl
  have hr := tab_hyp22 ht
  have hs := sums_22 x00 x01 x10 x11 (by omega)
  refine vcalls_fn hmix h55 rfl ?_
  simp -implicitDefEqProofs only [c55, hK, List.length_append, List.length_cons, List.length_nil, Nat.add_assoc, Nat.reduceAdd, kb, push_cast, Nat.reduceBEq, Nat.reduceLT, Nat.reduceLeDiff, Nat.reduceAdd, Nat.reduceSub, Nat.reduceMul, Nat.reduceEqDiff, reduceCtorEq, ↓reduceIte, Int.reduceEq, Int.reduceLT, Int.reduceLE, Int.reduceNe, Int.reduceAdd, Int.reduceSub, Int.reduceMul, Int.reduceToNat, Nat.reduceShiftRight, Nat.reduceAnd, Nat.reduceBNe]
  refine callF hs ⟨rfl, trivial⟩ rfl rfl ?_
  simp -implicitDefEqProofs only [hK, List.length_append, List.length_cons, List.length_nil, Nat.add_assoc, Nat.reduceAdd, kb, List.append_assoc, List.cons_append, List.nil_append, gK1 hK, gK2 hK, gK3 hK, gK4 hK, gK5 hK, gK6 hK, gK7 hK, gK8 hK, sK1 hK, sK2 hK, sK3 hK, sK4 hK, sK5 hK, sK6 hK, sK7 hK, sK8 hK, push_cast, Nat.reduceBEq, Nat.reduceLT, Nat.reduceLeDiff, Nat.reduceAdd, Nat.reduceSub, Nat.reduceMul, Nat.reduceEqDiff, reduceCtorEq, ↓reduceIte, Int.reduceEq, Int.reduceLT, Int.reduceLE, Int.reduceNe, Int.reduceAdd, Int.reduceSub, Int.reduceMul, Int.reduceToNat, Nat.reduceShiftRight, Nat.reduceAnd, Nat.reduceBNe]
  refine ⟨⟨by simp only [two47]; omega, by simp only [two47]; omega⟩, ?_⟩
  repeat first
    | (refine LoopW.wk (wk_t [18, 17, 5, 4, 3, 2, 1] rfl) (LoopW.unroll ?_); simp -implicitDefEqProofs only [c55L0, m7, m8, m9, hK, List.length_append, List.length_cons, List.length_nil, Nat.add_assoc, Nat.reduceAdd, kb, List.append_assoc, List.cons_append, List.nil_append, gK1 hK, gK2 hK, gK3 hK, gK4 hK, gK5 hK, gK6 hK, gK7 hK, gK8 hK, sK1 hK, sK2 hK, sK3 hK, sK4 hK, sK5 hK, sK6 hK, sK7 hK, sK8 hK, List.getD_cons_zero, List.getD_cons_succ, Int.zero_add, push_cast, Nat.reduceBEq, Nat.reduceLT, Nat.reduceLeDiff, Nat.reduceAdd, Nat.reduceSub, Nat.reduceMul, Nat.reduceEqDiff, reduceCtorEq, ↓reduceIte, Int.reduceEq, Int.reduceLT, Int.reduceLE, Int.reduceNe, Int.reduceAdd, Int.reduceSub, Int.reduceMul, Int.reduceToNat, Nat.reduceShiftRight, Nat.reduceAnd, Nat.reduceBNe])
    | (refine ⟨by first | (simp only [inR]; omega) | (simp only [two47]; omega) | omega, ?_⟩)
  refine call_rule (fill22_00 hK hR hk hY s (x00 + x01) (x10 + x11) (x00 + x10) (x01 + x11) 0 0 0 0 hJ (by omega)) ?_
  rintro v h' ⟨rfl, ys, rfl⟩
  simp -implicitDefEqProofs only [push_cast, Nat.reduceBEq, Nat.reduceLT, Nat.reduceLeDiff, Nat.reduceAdd, Nat.reduceSub, Nat.reduceMul, Nat.reduceEqDiff, reduceCtorEq, ↓reduceIte, Int.reduceEq, Int.reduceLT, Int.reduceLE, Int.reduceNe, Int.reduceAdd, Int.reduceSub, Int.reduceMul, Int.reduceToNat, Nat.reduceShiftRight, Nat.reduceAnd, Nat.reduceBNe]
  exact fin_pre (hK _) (Nat.le_refl _) rfl (hR _ _ (Nat.le_refl _)) rfl
end
end Go.Proofs.YtligakiolapkkaaDoor

namespace Go.Proofs.YtligakiolapkkaaDoor
open Go GoV
set_option maxHeartbeats 8000000
set_option maxRecDepth 10000
set_option linter.unusedVariables false
set_option linter.unusedSimpArgs false
theorem tab_hyp23 {x00 x01 x02 x10 x11 x12 : Int} (h : Tab [[x00, x01, x02], [x10, x11, x12]]) : 0 ≤ x00 ∧ 0 ≤ x01 ∧ 0 ≤ x02 ∧ 0 ≤ x10 ∧ 0 ≤ x11 ∧ 0 ≤ x12 ∧ x00 + x01 + x02 + x10 + x11 + x12 ≤ 20 := by
  obtain ⟨_, _, h3, h4⟩ := h
  have := rng3 (h3 [x00, x01, x02] (by simp)).2
  have := rng3 (h3 [x10, x11, x12] (by simp)).2
  simp only [totL, sumL, List.map_cons, List.map_nil] at h4
  omega
section
variable {σ : Type} {J : σ → Prop} {C : σ → Heap} {K k : Nat} {upd : σ → List (List Int) → σ}
theorem all23 (hK : ∀ s, (C s).length = K + 1) (hR : ∀ s n, K + 1 ≤ n → rowsRefs n (C s) = true) (hk : k < K + 1) {x00 x01 x02 x10 x11 x12 : Int} (ht : Tab [[x00, x01, x02], [x10, x11, x12]])
    (hY : Yields23 J C K k upd (x00 + x01 + x02) (x10 + x11 + x12) (x00 + x10) (x01 + x11) (x02 + x12)) (s : σ) (hJ : Pre J upd s (tabE [(x00 + x01 + x02), (x10 + x11 + x12)] [(x00 + x10), (x01 + x11), (x02 + x12)])) :
    VCalls Tryd.prog 55 [.yld k, .imm (.list (.list (.int .i64))) [[x00, x01, x02], [x10, x11, x12]]] (C s) (fun v h' => h' = C ((tabE [(x00 + x01 + x02), (x10 + x11 + x12)] [(x00 + x10), (x01 + x11), (x02 + x12)]).foldl upd s)) := by
  have kb := kbeq K
  have m7 : K + 7 - 1 = K + 6 := rfl
  have m8 : K + 8 - 1 = K + 7 := rfl
  have m9 : K + 9 - 1 = K + 8 := rfl
  have hr := tab_hyp23 ht
  have hs := sums_23 x00 x01 x02 x10 x11 x12 (by omega)
  refine vcalls_fn hmix h55 rfl ?_
  simp -implicitDefEqProofs only [c55, hK, List.length_append, List.length_cons, List.length_nil, Nat.add_assoc, Nat.reduceAdd, kb, push_cast, Nat.reduceBEq, Nat.reduceLT, Nat.reduceLeDiff, Nat.reduceAdd, Nat.reduceSub, Nat.reduceMul, Nat.reduceEqDiff, reduceCtorEq, ↓reduceIte, Int.reduceEq, Int.reduceLT, Int.reduceLE, Int.reduceNe, Int.reduceAdd, Int.reduceSub, Int.reduceMul, Int.reduceToNat, Nat.reduceShiftRight, Nat.reduceAnd, Nat.reduceBNe]
  refine callF hs ⟨rfl, trivial⟩ rfl rfl ?_
  simp -implicitDefEqProofs only [hK, List.length_append, List.length_cons, List.length_nil, Nat.add_assoc, Nat.reduceAdd, kb, List.append_assoc, List.cons_append, List.nil_append, gK1 hK, gK2 hK, gK3 hK, gK4 hK, gK5 hK, gK6 hK, gK7 hK, gK8 hK, sK1 hK, sK2 hK, sK3 hK, sK4 hK, sK5 hK, sK6 hK, sK7 hK, sK8 hK, push_cast, Nat.reduceBEq, Nat.reduceLT, Nat.reduceLeDiff, Nat.reduceAdd, Nat.reduceSub, Nat.reduceMul, Nat.reduceEqDiff, reduceCtorEq, ↓reduceIte, Int.reduceEq, Int.reduceLT, Int.reduceLE, Int.reduceNe, Int.reduceAdd, Int.reduceSub, Int.reduceMul, Int.reduceToNat, Nat.reduceShiftRight, Nat.reduceAnd, Nat.reduceBNe]
  refine ⟨⟨by simp only [two47]; omega, by simp only [two47]; omega⟩, ?_⟩
  repeat first
    | (refine LoopW.wk (wk_t [18, 17, 5, 4, 3, 2, 1] rfl) (LoopW.unroll ?_); simp -implicitDefEqProofs only [c55L0, m7, m8, m9, hK, List.length_append, List.length_cons, List.length_nil, Nat.add_assoc, Nat.reduceAdd, kb, List.append_assoc, List.cons_append, List.nil_append, gK1 hK, gK2 hK, gK3 hK, gK4 hK, gK5 hK, gK6 hK, gK7 hK, gK8 hK, sK1 hK, sK2 hK, sK3 hK, sK4 hK, sK5 hK, sK6 hK, sK7 hK, sK8 hK, List.getD_cons_zero, List.getD_cons_succ, Int.zero_add, push_cast, Nat.reduceBEq, Nat.reduceLT, Nat.reduceLeDiff, Nat.reduceAdd, Nat.reduceSub, Nat.reduceMul, Nat.reduceEqDiff, reduceCtorEq, ↓reduceIte, Int.reduceEq, Int.reduceLT, Int.reduceLE, Int.reduceNe, Int.reduceAdd, Int.reduceSub, Int.reduceMul, Int.reduceToNat, Nat.reduceShiftRight, Nat.reduceAnd, Nat.reduceBNe])
    | (refine ⟨by first | (simp only [inR]; omega) | (simp only [two47]; omega) | omega, ?_⟩)
  refine call_rule (fill23_00 hK hR hk hY s (x00 + x01 + x02) (x10 + x11 + x12) (x00 + x10) (x01 + x11) (x02 + x12) 0 0 0 0 0 0 hJ (by omega)) ?_
  rintro v h' ⟨rfl, ys, rfl⟩
  simp -implicitDefEqProofs only [push_cast, Nat.reduceBEq, Nat.reduceLT, Nat.reduceLeDiff, Nat.reduceAdd, Nat.reduceSub, Nat.reduceMul, Nat.reduceEqDiff, reduceCtorEq, ↓reduceIte, Int.reduceEq, Int.reduceLT, Int.reduceLE, Int.reduceNe, Int.reduceAdd, Int.reduceSub, Int.reduceMul, Int.reduceToNat, Nat.reduceShiftRight, Nat.reduceAnd, Nat.reduceBNe]
  exact fin_pre (hK _) (Nat.le_refl _) rfl (hR _ _ (Nat.le_refl _)) rfl
end
end Go.Proofs.YtligakiolapkkaaDoor

namespace Go.Proofs.YtligakiolapkkaaDoor
open Go GoV
set_option maxHeartbeats 8000000
set_option maxRecDepth 10000
set_option linter.unusedVariables false
set_option linter.unusedSimpArgs false
theorem tab_hyp32 {x00 x01 x10 x11 x20 x21 : Int} (h : Tab [[x00, x01], [x10, x11], [x20, x21]]) : 0 ≤ x00 ∧ 0 ≤ x01 ∧ 0 ≤ x10 ∧ 0 ≤ x11 ∧ 0 ≤ x20 ∧ 0 ≤ x21 ∧ x00 + x01 + x10 + x11 + x20 + x21 ≤ 20 := by
  obtain ⟨_, _, h3, h4⟩ := h
  have := rng2 (h3 [x00, x01] (by simp)).2
  have := rng2 (h3 [x10, x11] (by simp)).2
  have := rng2 (h3 [x20, x21] (by simp)).2
  simp only [totL, sumL, List.map_cons, List.map_nil] at h4
  omega
section
variable {σ : Type} {J : σ → Prop} {C : σ → Heap} {K k : Nat} {upd : σ → List (List Int) → σ}
theorem all32 (hK : ∀ s, (C s).length = K + 1) (hR : ∀ s n, K + 1 ≤ n → rowsRefs n (C s) = true) (hk : k < K + 1) {x00 x01 x10 x11 x20 x21 : Int} (ht : Tab [[x00, x01], [x10, x11], [x20, x21]])
    (hY : Yields32 J C K k upd (x00 + x01) (x10 + x11) (x20 + x21) (x00 + x10 + x20) (x01 + x11 + x21)) (s : σ) (hJ : Pre J upd s (tabE [(x00 + x01), (x10 + x11), (x20 + x21)] [(x00 + x10 + x20), (x01 + x11 + x21)])) :
    VCalls Tryd.prog 55 [.yld k, .imm (.list (.list (.int .i64))) [[x00, x01], [x10, x11], [x20, x21]]] (C s) (fun v h' => h' = C ((tabE [(x00 + x01), (x10 + x11), (x20 + x21)] [(x00 + x10 + x20), (x01 + x11 + x21)]).foldl upd s)) := by
  have kb := kbeq K
  have m7 : K + 7 - 1 = K + 6 := rfl
  have m8 : K + 8 - 1 = K + 7 := rfl
  have m9 : K + 9 - 1 = K + 8 := rfl
  have m10 : K + 10 - 1 = K + 9 := rfl
  have hr := tab_hyp32 ht
  have hs := sums_32 x00 x01 x10 x11 x20 x21 (by omega)
  refine vcalls_fn hmix h55 rfl ?_
  simp -implicitDefEqProofs only [c55, hK, List.length_append, List.length_cons, List.length_nil, Nat.add_assoc, Nat.reduceAdd, kb, push_cast, Nat.reduceBEq, Nat.reduceLT, Nat.reduceLeDiff, Nat.reduceAdd, Nat.reduceSub, Nat.reduceMul, Nat.reduceEqDiff, reduceCtorEq, ↓reduceIte, Int.reduceEq, Int.reduceLT, Int.reduceLE, Int.reduceNe, Int.reduceAdd, Int.reduceSub, Int.reduceMul, Int.reduceToNat, Nat.reduceShiftRight, Nat.reduceAnd, Nat.reduceBNe]
  refine callF hs ⟨rfl, trivial⟩ rfl rfl ?_
  simp -implicitDefEqProofs only [hK, List.length_append, List.length_cons, List.length_nil, Nat.add_assoc, Nat.reduceAdd, kb, List.append_assoc, List.cons_append, List.nil_append, gK1 hK, gK2 hK, gK3 hK, gK4 hK, gK5 hK, gK6 hK, gK7 hK, gK8 hK, gK9 hK, sK1 hK, sK2 hK, sK3 hK, sK4 hK, sK5 hK, sK6 hK, sK7 hK, sK8 hK, sK9 hK, push_cast, Nat.reduceBEq, Nat.reduceLT, Nat.reduceLeDiff, Nat.reduceAdd, Nat.reduceSub, Nat.reduceMul, Nat.reduceEqDiff, reduceCtorEq, ↓reduceIte, Int.reduceEq, Int.reduceLT, Int.reduceLE, Int.reduceNe, Int.reduceAdd, Int.reduceSub, Int.reduceMul, Int.reduceToNat, Nat.reduceShiftRight, Nat.reduceAnd, Nat.reduceBNe]
  refine ⟨⟨by simp only [two47]; omega, by simp only [two47]; omega⟩, ?_⟩
  repeat first
    | (refine LoopW.wk (wk_t [18, 17, 5, 4, 3, 2, 1] rfl) (LoopW.unroll ?_); simp -implicitDefEqProofs only [c55L0, m7, m8, m9, m10, hK, List.length_append, List.length_cons, List.length_nil, Nat.add_assoc, Nat.reduceAdd, kb, List.append_assoc, List.cons_append, List.nil_append, gK1 hK, gK2 hK, gK3 hK, gK4 hK, gK5 hK, gK6 hK, gK7 hK, gK8 hK, gK9 hK, sK1 hK, sK2 hK, sK3 hK, sK4 hK, sK5 hK, sK6 hK, sK7 hK, sK8 hK, sK9 hK, List.getD_cons_zero, List.getD_cons_succ, Int.zero_add, push_cast, Nat.reduceBEq, Nat.reduceLT, Nat.reduceLeDiff, Nat.reduceAdd, Nat.reduceSub, Nat.reduceMul, Nat.reduceEqDiff, reduceCtorEq, ↓reduceIte, Int.reduceEq, Int.reduceLT, Int.reduceLE, Int.reduceNe, Int.reduceAdd, Int.reduceSub, Int.reduceMul, Int.reduceToNat, Nat.reduceShiftRight, Nat.reduceAnd, Nat.reduceBNe])
    | (refine ⟨by first | (simp only [inR]; omega) | (simp only [two47]; omega) | omega, ?_⟩)
  refine call_rule (fill32_00 hK hR hk hY s (x00 + x01) (x10 + x11) (x20 + x21) (x00 + x10 + x20) (x01 + x11 + x21) 0 0 0 0 0 0 hJ (by omega)) ?_
  rintro v h' ⟨rfl, ys, rfl⟩
  simp -implicitDefEqProofs only [push_cast, Nat.reduceBEq, Nat.reduceLT, Nat.reduceLeDiff, Nat.reduceAdd, Nat.reduceSub, Nat.reduceMul, Nat.reduceEqDiff, reduceCtorEq, ↓reduceIte, Int.reduceEq, Int.reduceLT, Int.reduceLE, Int.reduceNe, Int.reduceAdd, Int.reduceSub, Int.reduceMul, Int.reduceToNat, Nat.reduceShiftRight, Nat.reduceAnd, Nat.reduceBNe]
  exact fin_pre (hK _) (Nat.le_refl _) rfl (hR _ _ (Nat.le_refl _)) rfl
end
end Go.Proofs.YtligakiolapkkaaDoor

namespace Go.Proofs.YtligakiolapkkaaDoor
open Go GoV
set_option maxHeartbeats 8000000
set_option maxRecDepth 10000
set_option linter.unusedVariables false
set_option linter.unusedSimpArgs false
theorem tab_hyp33 {x00 x01 x02 x10 x11 x12 x20 x21 x22 : Int} (h : Tab [[x00, x01, x02], [x10, x11, x12], [x20, x21, x22]]) : 0 ≤ x00 ∧ 0 ≤ x01 ∧ 0 ≤ x02 ∧ 0 ≤ x10 ∧ 0 ≤ x11 ∧ 0 ≤ x12 ∧ 0 ≤ x20 ∧ 0 ≤ x21 ∧ 0 ≤ x22 ∧ x00 + x01 + x02 + x10 + x11 + x12 + x20 + x21 + x22 ≤ 20 := by
  obtain ⟨_, _, h3, h4⟩ := h
  have := rng3 (h3 [x00, x01, x02] (by simp)).2
  have := rng3 (h3 [x10, x11, x12] (by simp)).2
  have := rng3 (h3 [x20, x21, x22] (by simp)).2
  simp only [totL, sumL, List.map_cons, List.map_nil] at h4
  omega
section
variable {σ : Type} {J : σ → Prop} {C : σ → Heap} {K k : Nat} {upd : σ → List (List Int) → σ}
theorem all33 (hK : ∀ s, (C s).length = K + 1) (hR : ∀ s n, K + 1 ≤ n → rowsRefs n (C s) = true) (hk : k < K + 1) {x00 x01 x02 x10 x11 x12 x20 x21 x22 : Int} (ht : Tab [[x00, x01, x02], [x10, x11, x12], [x20, x21, x22]])
    (hY : Yields33 J C K k upd (x00 + x01 + x02) (x10 + x11 + x12) (x20 + x21 + x22) (x00 + x10 + x20) (x01 + x11 + x21) (x02 + x12 + x22)) (s : σ) (hJ : Pre J upd s (tabE [(x00 + x01 + x02), (x10 + x11 + x12), (x20 + x21 + x22)] [(x00 + x10 + x20), (x01 + x11 + x21), (x02 + x12 + x22)])) :
    VCalls Tryd.prog 55 [.yld k, .imm (.list (.list (.int .i64))) [[x00, x01, x02], [x10, x11, x12], [x20, x21, x22]]] (C s) (fun v h' => h' = C ((tabE [(x00 + x01 + x02), (x10 + x11 + x12), (x20 + x21 + x22)] [(x00 + x10 + x20), (x01 + x11 + x21), (x02 + x12 + x22)]).foldl upd s)) := by
  have kb := kbeq K
  have m7 : K + 7 - 1 = K + 6 := rfl
  have m8 : K + 8 - 1 = K + 7 := rfl
  have m9 : K + 9 - 1 = K + 8 := rfl
  have m10 : K + 10 - 1 = K + 9 := rfl
  have hr := tab_hyp33 ht
  have hs := sums_33 x00 x01 x02 x10 x11 x12 x20 x21 x22 (by omega)
  refine vcalls_fn hmix h55 rfl ?_
  simp -implicitDefEqProofs only [c55, hK, List.length_append, List.length_cons, List.length_nil, Nat.add_assoc, Nat.reduceAdd, kb, push_cast, Nat.reduceBEq, Nat.reduceLT, Nat.reduceLeDiff, Nat.reduceAdd, Nat.reduceSub, Nat.reduceMul, Nat.reduceEqDiff, reduceCtorEq, ↓reduceIte, Int.reduceEq, Int.reduceLT, Int.reduceLE, Int.reduceNe, Int.reduceAdd, Int.reduceSub, Int.reduceMul, Int.reduceToNat, Nat.reduceShiftRight, Nat.reduceAnd, Nat.reduceBNe]
  refine callF hs ⟨rfl, trivial⟩ rfl rfl ?_
  simp -implicitDefEqProofs only [hK, List.length_append, List.length_cons, List.length_nil, Nat.add_assoc, Nat.reduceAdd, kb, List.append_assoc, List.cons_append, List.nil_append, gK1 hK, gK2 hK, gK3 hK, gK4 hK, gK5 hK, gK6 hK, gK7 hK, gK8 hK, gK9 hK, sK1 hK, sK2 hK, sK3 hK, sK4 hK, sK5 hK, sK6 hK, sK7 hK, sK8 hK, sK9 hK, push_cast, Nat.reduceBEq, Nat.reduceLT, Nat.reduceLeDiff, Nat.reduceAdd, Nat.reduceSub, Nat.reduceMul, Nat.reduceEqDiff, reduceCtorEq, ↓reduceIte, Int.reduceEq, Int.reduceLT, Int.reduceLE, Int.reduceNe, Int.reduceAdd, Int.reduceSub, Int.reduceMul, Int.reduceToNat, Nat.reduceShiftRight, Nat.reduceAnd, Nat.reduceBNe]
  refine ⟨⟨by simp only [two47]; omega, by simp only [two47]; omega⟩, ?_⟩
  repeat first
    | (refine LoopW.wk (wk_t [18, 17, 5, 4, 3, 2, 1] rfl) (LoopW.unroll ?_); simp -implicitDefEqProofs only [c55L0, m7, m8, m9, m10, hK, List.length_append, List.length_cons, List.length_nil, Nat.add_assoc, Nat.reduceAdd, kb, List.append_assoc, List.cons_append, List.nil_append, gK1 hK, gK2 hK, gK3 hK, gK4 hK, gK5 hK, gK6 hK, gK7 hK, gK8 hK, gK9 hK, sK1 hK, sK2 hK, sK3 hK, sK4 hK, sK5 hK, sK6 hK, sK7 hK, sK8 hK, sK9 hK, List.getD_cons_zero, List.getD_cons_succ, Int.zero_add, push_cast, Nat.reduceBEq, Nat.reduceLT, Nat.reduceLeDiff, Nat.reduceAdd, Nat.reduceSub, Nat.reduceMul, Nat.reduceEqDiff, reduceCtorEq, ↓reduceIte, Int.reduceEq, Int.reduceLT, Int.reduceLE, Int.reduceNe, Int.reduceAdd, Int.reduceSub, Int.reduceMul, Int.reduceToNat, Nat.reduceShiftRight, Nat.reduceAnd, Nat.reduceBNe])
    | (refine ⟨by first | (simp only [inR]; omega) | (simp only [two47]; omega) | omega, ?_⟩)
  refine call_rule (fill33_00 hK hR hk hY s (x00 + x01 + x02) (x10 + x11 + x12) (x20 + x21 + x22) (x00 + x10 + x20) (x01 + x11 + x21) (x02 + x12 + x22) 0 0 0 0 0 0 0 0 0 hJ (by omega)) ?_
  rintro v h' ⟨rfl, ys, rfl⟩
  simp -implicitDefEqProofs only [push_cast, Nat.reduceBEq, Nat.reduceLT, Nat.reduceLeDiff, Nat.reduceAdd, Nat.reduceSub, Nat.reduceMul, Nat.reduceEqDiff, reduceCtorEq, ↓reduceIte, Int.reduceEq, Int.reduceLT, Int.reduceLE, Int.reduceNe, Int.reduceAdd, Int.reduceSub, Int.reduceMul, Int.reduceToNat, Nat.reduceShiftRight, Nat.reduceAnd, Nat.reduceBNe]
  exact fin_pre (hK _) (Nat.le_refl _) rfl (hR _ _ (Nat.le_refl _)) rfl
end
end Go.Proofs.YtligakiolapkkaaDoor

namespace Go.Proofs.YtligakiolapkkaaDoor
open Go GoV
set_option maxHeartbeats 8000000
set_option maxRecDepth 10000
set_option linter.unusedVariables false
set_option linter.unusedSimpArgs false
/-- all tables with the margins of a table -/
def allL (t : List (List Int)) : List (List (List Int)) := tabE (rowsL t) (colsL t)
theorem rowsL_22 (a b c d : Int) : rowsL [[a, b], [c, d]] = [a + b, c + d] := by
  simp only [rowsL, List.map_cons, List.map_nil, sumL, Int.add_zero, Int.add_assoc]
theorem colsL_22 (a b c d : Int) : colsL [[a, b], [c, d]] = [a + c, b + d] := by
  show rowsL [[a, c], [b, d]] = _
  simp only [rowsL, List.map_cons, List.map_nil, sumL, Int.add_zero, Int.add_assoc]
theorem allL_22 (a b c d : Int) : allL [[a, b], [c, d]] = tabE [a + b, c + d] [a + c, b + d] := by rw [allL, rowsL_22, colsL_22]
theorem rowsL_23 (a b c d e f : Int) : rowsL [[a, b, c], [d, e, f]] = [a + b + c, d + e + f] := by
  simp only [rowsL, List.map_cons, List.map_nil, sumL, Int.add_zero, Int.add_assoc]
theorem colsL_23 (a b c d e f : Int) : colsL [[a, b, c], [d, e, f]] = [a + d, b + e, c + f] := by
  show rowsL [[a, d], [b, e], [c, f]] = _
  simp only [rowsL, List.map_cons, List.map_nil, sumL, Int.add_zero, Int.add_assoc]
theorem allL_23 (a b c d e f : Int) : allL [[a, b, c], [d, e, f]] = tabE [a + b + c, d + e + f] [a + d, b + e, c + f] := by rw [allL, rowsL_23, colsL_23]
theorem rowsL_32 (a b c d e f : Int) : rowsL [[a, b], [c, d], [e, f]] = [a + b, c + d, e + f] := by
  simp only [rowsL, List.map_cons, List.map_nil, sumL, Int.add_zero, Int.add_assoc]
theorem colsL_32 (a b c d e f : Int) : colsL [[a, b], [c, d], [e, f]] = [a + c + e, b + d + f] := by
  show rowsL [[a, c, e], [b, d, f]] = _
  simp only [rowsL, List.map_cons, List.map_nil, sumL, Int.add_zero, Int.add_assoc]
theorem allL_32 (a b c d e f : Int) : allL [[a, b], [c, d], [e, f]] = tabE [a + b, c + d, e + f] [a + c + e, b + d + f] := by rw [allL, rowsL_32, colsL_32]
theorem rowsL_33 (a b c d e f g i j : Int) : rowsL [[a, b, c], [d, e, f], [g, i, j]] = [a + b + c, d + e + f, g + i + j] := by
  simp only [rowsL, List.map_cons, List.map_nil, sumL, Int.add_zero, Int.add_assoc]
theorem colsL_33 (a b c d e f g i j : Int) : colsL [[a, b, c], [d, e, f], [g, i, j]] = [a + d + g, b + e + i, c + f + j] := by
  show rowsL [[a, d, g], [b, e, i], [c, f, j]] = _
  simp only [rowsL, List.map_cons, List.map_nil, sumL, Int.add_zero, Int.add_assoc]
theorem allL_33 (a b c d e f g i j : Int) : allL [[a, b, c], [d, e, f], [g, i, j]] = tabE [a + b + c, d + e + f, g + i + j] [a + d + g, b + e + i, c + f + j] := by rw [allL, rowsL_33, colsL_33]

theorem rowE_mem : ∀ (cs : List Int) (a : Int), ∀ r ∈ rowE a cs, r.length = cs.length
  | [], _, r, h => by simp [rowE] at h
  | [c], a, r, h => by
    unfold rowE at h
    split at h
    · simp at h; subst h; rfl
    · simp at h
  | c :: d :: cs, a, r, h => by
    unfold rowE at h
    simp only [List.mem_flatMap, List.mem_map] at h
    obtain ⟨x, _, l, hl, rfl⟩ := h
    have := rowE_mem (d :: cs) _ l hl
    simp only [List.length_cons] at this ⊢
    omega
theorem tabE_mem : ∀ (l cs : List Int) (m : Nat), cs.length ≤ m → ∀ t ∈ tabE l cs, t.length = l.length ∧ ∀ r ∈ t, r.length ≤ m
  | [], cs, m, _, t, h => by
    unfold tabE at h
    split at h
    · simp at h; subst h; exact ⟨rfl, by simp⟩
    · simp at h
  | a :: l, cs, m, hm, t, h => by
    rw [tabE_cons] at h
    simp only [List.mem_flatMap, List.mem_map] at h
    obtain ⟨r, hr, u, hu, rfl⟩ := h
    obtain ⟨h1, h2⟩ := tabE_mem l _ m (Nat.le_trans (subC_len _ _) hm) u hu
    refine ⟨by simp [h1], fun q hq => ?_⟩
    rcases List.mem_cons.1 hq with rfl | hq
    · rw [rowE_mem cs a _ hr]; exact hm
    · exact h2 q hq
theorem allL_small {t : List (List Int)} (h : Tab t) : (allL t).length ≤ 1000000000000 ∧ ∀ x ∈ allL t, x.length ≤ 1000 ∧ ∀ r ∈ x, r.length ≤ 1000 := by
  obtain ⟨h1, h2, _, h4, h5⟩ := tab_rows h
  have hw := h.wid
  have hl := h.len
  refine ⟨?_, fun x hx => ?_⟩
  · have h6 := tabE_len (rowsL t) (colsL t) 3 (by omega) (fun a ha => (h1 a ha).2)
    have h7 : (21 ^ 3) ^ (rowsL t).length ≤ (21 ^ 3) ^ 3 := Nat.pow_le_pow_right (by omega) (by omega)
    have h8 : (21 ^ 3) ^ 3 ≤ 1000000000000 := by decide
    exact Nat.le_trans h6 (Nat.le_trans h7 h8)
  · obtain ⟨h6, h7⟩ := tabE_mem (rowsL t) (colsL t) 3 (by omega) x hx
    exact ⟨by omega, fun r hr => by have := h7 r hr; omega⟩

end Go.Proofs.YtligakiolapkkaaDoor

namespace Go.Proofs.YtligakiolapkkaaDoor
open Go GoV
set_option linter.unusedVariables false
set_option linter.unusedSimpArgs false
def ch : Nat → Nat → Nat
  | _, 0 => 1
  | 0, _ + 1 => 0
  | n + 1, k + 1 => ch n k + ch n (k + 1)
theorem ch_n0 (n : Nat) : ch n 0 = 1 := by cases n <;> rfl
theorem ch_gt : ∀ n k, n < k → ch n k = 0
  | _, 0, h => by omega
  | 0, _ + 1, _ => rfl
  | n + 1, k + 1, h => by
    show ch n k + ch n (k + 1) = 0
    rw [ch_gt n k (by omega), ch_gt n (k + 1) (by omega)]
theorem ch_fct : ∀ n k, k ≤ n → ch n k * (fct k * fct (n - k)) = fct n
  | n, 0, _ => by rw [ch_n0]; show 1 * (1 * fct n) = fct n; omega
  | 0, k + 1, h => by omega
  | n + 1, k + 1, h => by
    show (ch n k + ch n (k + 1)) * (fct (k + 1) * fct (n + 1 - (k + 1))) = fct (n + 1)
    have h1 := ch_fct n k (by omega)
    rw [Nat.add_sub_add_right, Nat.add_mul]
    have e1 : ch n k * (fct (k + 1) * fct (n - k)) = fct n * (k + 1) := by
      rw [fct_succ k, ← h1]
      simp only [Nat.mul_comm, Nat.mul_left_comm, Nat.mul_assoc]
    by_cases e : k = n
    · subst e
      rw [ch_gt k (k + 1) (by omega), Nat.zero_mul, e1, fct_succ]
      rw [Nat.mul_comm]; rfl
    · have h2 := ch_fct n (k + 1) (by omega)
      have e2 : ch n (k + 1) * (fct (k + 1) * fct (n - k)) = fct n * (n - k) := by
        rw [show n - k = (n - (k + 1)) + 1 by omega, fct_succ (n - (k + 1)), ← h2]
        simp only [Nat.mul_comm, Nat.mul_left_comm, Nat.mul_assoc]
      rw [e1, e2, ← Nat.mul_add, fct_succ, Nat.mul_comm]
      congr 1
      omega
def sumR : Nat → (Nat → Nat) → Nat
  | 0, _ => 0
  | n + 1, f => sumR n f + f n
theorem sumR_congr {f g : Nat → Nat} : ∀ n, (∀ x, x < n → f x = g x) → sumR n f = sumR n g
  | 0, _ => rfl
  | n + 1, h => by
    show sumR n f + f n = sumR n g + g n
    rw [sumR_congr n (fun x hx => h x (by omega)), h n (by omega)]
theorem sumR_zero {f : Nat → Nat} : ∀ n, (∀ x, x < n → f x = 0) → sumR n f = 0
  | 0, _ => rfl
  | n + 1, h => by
    show sumR n f + f n = 0
    rw [sumR_zero n (fun x hx => h x (by omega)), h n (by omega)]
theorem sumR_first {f : Nat → Nat} : ∀ n, sumR (n + 1) f = f 0 + sumR n (fun x => f (x + 1))
  | 0 => by show 0 + f 0 = f 0 + 0; omega
  | n + 1 => by
    show sumR (n + 1) f + f (n + 1) = f 0 + (sumR n (fun x => f (x + 1)) + f (n + 1))
    rw [sumR_first n]; omega
theorem sumR_add {f g : Nat → Nat} : ∀ n, sumR n (fun x => f x + g x) = sumR n f + sumR n g
  | 0 => rfl
  | n + 1 => by
    show sumR n (fun x => f x + g x) + (f n + g n) = (sumR n f + f n) + (sumR n g + g n)
    rw [sumR_add n]; omega
theorem sumR_mul {f : Nat → Nat} (k : Nat) : ∀ n, sumR n (fun x => f x * k) = sumR n f * k
  | 0 => by show 0 = 0 * k; omega
  | n + 1 => by
    show sumR n (fun x => f x * k) + f n * k = (sumR n f + f n) * k
    rw [sumR_mul k n, Nat.add_mul]
theorem sumR_more {f : Nat → Nat} (n : Nat) : ∀ m, (∀ x, n ≤ x → f x = 0) → sumR (n + m) f = sumR n f
  | 0, _ => rfl
  | m + 1, h => by
    show sumR (n + m) f + f (n + m) = _
    rw [sumR_more n m h, h _ (by omega)]; rfl
theorem vand : ∀ c m a, sumR (a + 1) (fun x => ch c x * ch m (a - x)) = ch (c + m) a
  | 0, m, a => by
    rw [sumR_first, sumR_zero a (fun x _ => by show ch 0 (x + 1) * _ = 0; rw [show ch 0 (x + 1) = 0 from rfl, Nat.zero_mul])]
    show ch 0 0 * ch m (a - 0) + 0 = ch (0 + m) a
    rw [show ch 0 0 = 1 from rfl, Nat.one_mul, Nat.sub_zero, Nat.zero_add, Nat.add_zero]
  | c + 1, m, 0 => by
    show 0 + ch (c + 1) 0 * ch m 0 = ch (c + 1 + m) 0
    rw [ch_n0, ch_n0, ch_n0]
  | c + 1, m, a + 1 => by
    have h1 := vand c m a
    have h2 := vand c m (a + 1)
    rw [sumR_first] at h2 ⊢
    have e : sumR (a + 1) (fun x => ch (c + 1) (x + 1) * ch m (a + 1 - (x + 1))) = sumR (a + 1) (fun x => ch c x * ch m (a - x)) + sumR (a + 1) (fun x => ch c (x + 1) * ch m (a + 1 - (x + 1))) := by
      rw [← sumR_add]
      refine sumR_congr _ (fun x _ => ?_)
      rw [Nat.add_sub_add_right, ← Nat.add_mul]; rfl
    rw [e, h1, show c + 1 + m = (c + m) + 1 by omega]
    show ch (c + 1) 0 * _ + _ = ch (c + m) a + ch (c + m) (a + 1)
    rw [← h2, ch_n0, ch_n0]
    omega
def sumN : List Nat → Nat
  | [] => 0
  | x :: r => x + sumN r
def MM : List Nat → Nat
  | [] => 1
  | x :: r => ch (x + sumN r) x * MM r
def rowN : Nat → List Nat → List (List Nat)
  | _, [] => []
  | a, [c] => if a ≤ c then [[a]] else []
  | a, c :: d :: cs => (List.range (min a c + 1)).flatMap fun x => (rowN (a - x) (d :: cs)).map fun l => x :: l
def subN : List Nat → List Nat → List Nat
  | c :: cs, x :: xs => (c - x) :: subN cs xs
  | _, _ => []
def sumB {α : Type} (f : α → Nat) : List α → Nat
  | [] => 0
  | x :: r => f x + sumB f r
theorem sumB_app {α : Type} {f : α → Nat} : ∀ (a b : List α), sumB f (a ++ b) = sumB f a + sumB f b
  | [], b => by simp [sumB]
  | x :: a, b => by
    show f x + sumB f (a ++ b) = (f x + sumB f a) + sumB f b
    rw [sumB_app a b]; omega
theorem sumB_map {α β : Type} {f : β → Nat} {g : α → β} : ∀ (a : List α), sumB f (a.map g) = sumB (fun x => f (g x)) a
  | [] => rfl
  | x :: a => by
    show f (g x) + sumB f (a.map g) = f (g x) + sumB (fun x => f (g x)) a
    rw [sumB_map a]
theorem sumB_flat {α β : Type} {f : β → Nat} {g : α → List β} : ∀ (a : List α), sumB f (a.flatMap g) = sumB (fun x => sumB f (g x)) a
  | [] => rfl
  | x :: a => by
    rw [List.flatMap_cons, sumB_app, sumB_flat a]; rfl
theorem sumB_congr {α : Type} {f g : α → Nat} : ∀ (a : List α), (∀ x ∈ a, f x = g x) → sumB f a = sumB g a
  | [], _ => rfl
  | x :: a, h => by
    show f x + sumB f a = g x + sumB g a
    rw [h x (by simp), sumB_congr a (fun y hy => h y (by simp [hy]))]
theorem sumB_mul {α : Type} {f : α → Nat} (k : Nat) : ∀ (a : List α), sumB (fun x => k * f x) a = k * sumB f a
  | [] => by simp [sumB]
  | x :: a => by
    show k * f x + sumB (fun x => k * f x) a = k * (f x + sumB f a)
    rw [sumB_mul k a, Nat.mul_add]
theorem sumB_range {f : Nat → Nat} : ∀ n, sumB f (List.range n) = sumR n f
  | 0 => rfl
  | n + 1 => by
    rw [List.range_succ, sumB_app, sumB_range n]
    show sumR n f + (f n + 0) = sumR n f + f n
    rfl
theorem rowN_props : ∀ (cs : List Nat) (a : Nat), ∀ r ∈ rowN a cs, sumN r = a ∧ a ≤ sumN cs ∧ sumN (subN cs r) = sumN cs - a ∧ r.length = cs.length ∧ (subN cs r).length = cs.length
  | [], _, r, h => by simp [rowN] at h
  | [c], a, r, h => by
    unfold rowN at h
    split at h
    · simp at h; subst h; simp [sumN, subN]; assumption
    · simp at h
  | c :: d :: cs, a, r, h => by
    unfold rowN at h
    simp only [List.mem_flatMap, List.mem_map] at h
    obtain ⟨x, hx, l, hl, rfl⟩ := h
    have hx := List.mem_range.1 hx
    obtain ⟨h1, h2, h3, h4, h5⟩ := rowN_props (d :: cs) (a - x) l hl
    refine ⟨?_, ?_, ?_, by simp only [List.length_cons] at h4 ⊢; omega, by simp only [subN, List.length_cons] at h5 ⊢; omega⟩
    · show x + sumN l = a; omega
    · show a ≤ c + sumN (d :: cs); omega
    · show c - x + sumN (subN (d :: cs) l) = c + sumN (d :: cs) - a; omega
theorem vrow : ∀ (cs : List Nat) (a : Nat), cs ≠ [] → a ≤ sumN cs → sumB (fun r => MM r * MM (subN cs r)) (rowN a cs) = MM cs
  | [], _, h, _ => absurd rfl h
  | [c], a, _, h => by
    have h : a ≤ c + 0 := h
    unfold rowN
    rw [if_pos (by omega)]
    have hcc : ∀ n, ch n n = 1 := by
      intro n
      induction n with
      | zero => rfl
      | succ n ih => show ch n n + ch n (n + 1) = 1; rw [ih, ch_gt n (n + 1) (by omega)]
    show (ch (a + 0) a * 1) * (ch (c - a + 0) (c - a) * 1) + 0 = ch (c + 0) c * 1
    simp only [Nat.add_zero, hcc]
  | c :: d :: cs, a, _, h => by
    have h : a ≤ c + sumN (d :: cs) := h
    have ih := vrow (d :: cs)
    unfold rowN
    obtain ⟨cs', hcs⟩ : ∃ cs', d :: cs = cs' := ⟨_, rfl⟩
    have hne : cs' ≠ [] := by rw [← hcs]; simp
    rw [hcs] at ih h ⊢
    rw [sumB_flat, sumB_range]
    have key : ∀ x, x < min a c + 1 → sumB (fun r => MM r * MM (subN (c :: cs') r)) ((rowN (a - x) cs').map fun l => x :: l) = (ch a x * ch (c + sumN cs' - a) (c - x)) * MM cs' := by
      intro x hx
      rw [sumB_map]
      have e : sumB (fun l => MM (x :: l) * MM (subN (c :: cs') (x :: l))) (rowN (a - x) cs') = sumB (fun l => (ch a x * ch (c - x + (sumN cs' - (a - x))) (c - x)) * (MM l * MM (subN cs' l))) (rowN (a - x) cs') := by
        refine sumB_congr _ (fun l hl => ?_)
        obtain ⟨h1, h2, h3, _, _⟩ := rowN_props cs' (a - x) l hl
        show (ch (x + sumN l) x * MM l) * (ch (c - x + sumN (subN cs' l)) (c - x) * MM (subN cs' l)) = _
        rw [h1, h3, show x + (a - x) = a by omega]
        simp only [Nat.mul_comm, Nat.mul_left_comm, Nat.mul_assoc]
      rw [e, sumB_mul]
      by_cases hle : a - x ≤ sumN cs'
      · rw [ih _ hne hle, show c - x + (sumN cs' - (a - x)) = c + sumN cs' - a by omega]
      · have hem : rowN (a - x) cs' = [] := by
          cases hr : rowN (a - x) cs' with
          | nil => rfl
          | cons r rs => exact absurd (rowN_props cs' (a - x) r (by rw [hr]; simp)).2.1 hle
        rw [hem, ch_gt (c + sumN cs' - a) (c - x) (by omega)]
        simp [sumB]
    rw [sumR_congr _ key, sumR_mul]
    show _ = ch (c + sumN cs') c * MM cs'
    congr 1
    have hv := vand a (c + sumN cs' - a) c
    rw [show a + (c + sumN cs' - a) = c + sumN cs' by omega] at hv
    rw [← hv]
    by_cases hac : a ≤ c
    · have := sumR_more (f := fun x => ch a x * ch (c + sumN cs' - a) (c - x)) (a + 1) (c - a) (fun x hx => by show ch a x * _ = 0; rw [ch_gt a x (by omega), Nat.zero_mul])
      rw [show a + 1 + (c - a) = c + 1 by omega] at this
      rw [Nat.min_eq_left hac, this]
    · rw [Nat.min_eq_right (by omega)]
def tabN : List Nat → List Nat → List (List (List Nat))
  | [], cs => if cs.all (fun c => decide (c = 0)) then [[]] else []
  | a :: l, cs => (rowN a cs).flatMap fun r => (tabN l (subN cs r)).map fun t => r :: t
def WW : List (List Nat) → Nat
  | [] => 1
  | r :: t => MM r * WW t
theorem MM_zero : ∀ (cs : List Nat), sumN cs = 0 → MM cs = 1 ∧ cs.all (fun c => decide (c = 0)) = true
  | [], _ => ⟨rfl, rfl⟩
  | c :: cs, h => by
    have h : c + sumN cs = 0 := h
    obtain ⟨h1, h2⟩ := MM_zero cs (by omega)
    have hc : c = 0 := by omega
    subst hc
    refine ⟨?_, by simp [h2]⟩
    show ch (0 + sumN cs) 0 * MM cs = 1
    rw [ch_n0, h1]
theorem vtab : ∀ (l cs : List Nat), cs ≠ [] → sumN l = sumN cs → sumB WW (tabN l cs) = MM cs
  | [], cs, _, h => by
    obtain ⟨h1, h2⟩ := MM_zero cs h.symm
    unfold tabN
    rw [h2, h1]; rfl
  | a :: l, cs, hne, h => by
    have h : a + sumN l = sumN cs := h
    unfold tabN
    rw [sumB_flat, ← vrow cs a hne (by omega)]
    refine sumB_congr _ (fun r hr => ?_)
    obtain ⟨h1, h2, h3, h4, h5⟩ := rowN_props cs a r hr
    rw [sumB_map]
    show sumB (fun t => MM r * WW t) (tabN l (subN cs r)) = _
    rw [sumB_mul, vtab l (subN cs r) (by intro e; rw [e] at h5; simp at h5; exact hne (List.eq_nil_of_length_eq_zero h5.symm)) (by omega)]
/-! to the integers -/
def castL (l : List Nat) : List Int := l.map fun (n : Nat) => (n : Int)
theorem castL_cons (x : Nat) (l : List Nat) : castL (x :: l) = (x : Int) :: castL l := rfl
theorem sumL_cast : ∀ l : List Nat, sumL (castL l) = (sumN l : Nat)
  | [] => rfl
  | x :: l => by
    show (x : Int) + sumL (castL l) = ((x + sumN l : Nat) : Int)
    rw [sumL_cast l]; omega
theorem castL_of : ∀ (l : List Int), (∀ x ∈ l, 0 ≤ x) → ∃ m, l = castL m
  | [], _ => ⟨[], rfl⟩
  | x :: l, h => by
    obtain ⟨m, e⟩ := castL_of l (fun y hy => h y (by simp [hy]))
    refine ⟨x.toNat :: m, ?_⟩
    rw [castL_cons, ← e, Int.toNat_of_nonneg (h x (by simp))]
theorem flatMap_congr' {α β : Type} {f g : α → List β} : ∀ (l : List α), (∀ x ∈ l, f x = g x) → l.flatMap f = l.flatMap g
  | [], _ => rfl
  | a :: l, h => by
    rw [List.flatMap_cons, List.flatMap_cons, h a (by simp), flatMap_congr' l (fun x hx => h x (by simp [hx]))]
theorem rowE_cast : ∀ (cs : List Nat) (a : Nat), rowE (a : Int) (castL cs) = (rowN a cs).map castL
  | [], _ => rfl
  | [c], a => by
    show (if (a : Int) ≤ (c : Int) then [[(a : Int)]] else []) = (if a ≤ c then [[a]] else []).map castL
    by_cases h : a ≤ c
    · rw [if_pos h, if_pos (by omega)]; rfl
    · rw [if_neg h, if_neg (by omega)]; rfl
  | c :: d :: cs, a => by
    have ih := rowE_cast (d :: cs)
    show ((List.range (min (a : Int) (c : Int) + 1).toNat).flatMap fun (x : Nat) => (rowE ((a : Int) - (x : Int)) (castL (d :: cs))).map fun l => (x : Int) :: l) = ((List.range (min a c + 1)).flatMap fun x => (rowN (a - x) (d :: cs)).map fun l => x :: l).map castL
    rw [show (min (a : Int) (c : Int) + 1).toNat = min a c + 1 by omega, List.map_flatMap]
    refine flatMap_congr' _ (fun x hx => ?_)
    have hx := List.mem_range.1 hx
    rw [show (a : Int) - (x : Int) = ((a - x : Nat) : Int) by omega, ih, List.map_map, List.map_map]
    rfl
theorem rowN_le : ∀ (cs : List Nat) (a : Nat), ∀ r ∈ rowN a cs, subC (castL cs) (castL r) = castL (subN cs r)
  | [], _, r, h => by simp [rowN] at h
  | [c], a, r, h => by
    unfold rowN at h
    split at h
    · rename_i hle
      simp at h; subst h
      show [(c : Int) - (a : Int)] = [((c - a : Nat) : Int)]
      congr 1; omega
    · simp at h
  | c :: d :: cs, a, r, h => by
    unfold rowN at h
    simp only [List.mem_flatMap, List.mem_map] at h
    obtain ⟨x, hx, l, hl, rfl⟩ := h
    have hx := List.mem_range.1 hx
    show ((c : Int) - (x : Int)) :: subC (castL (d :: cs)) (castL l) = ((c - x : Nat) : Int) :: castL (subN (d :: cs) l)
    rw [rowN_le (d :: cs) _ l hl]
    congr 1; omega
theorem tabE_cast : ∀ (l cs : List Nat), tabE (castL l) (castL cs) = (tabN l cs).map (List.map castL)
  | [], cs => by
    show (if (castL cs).all (fun c => decide (c = 0)) then [[]] else []) = (if cs.all (fun c => decide (c = 0)) then [[]] else []).map (List.map castL)
    have e : (castL cs).all (fun c => decide (c = 0)) = cs.all (fun c => decide (c = 0)) := by
      rw [castL, List.all_map]
      congr 1
      funext x
      simp
    rw [e]
    split <;> rfl
  | a :: l, cs => by
    show (tabE ((a : Int) :: castL l) (castL cs)) = ((rowN a cs).flatMap fun r => (tabN l (subN cs r)).map fun t => r :: t).map (List.map castL)
    rw [tabE_cons, rowE_cast, List.map_flatMap, List.flatMap_map]
    refine flatMap_congr' _ (fun r hr => ?_)
    rw [rowN_le cs a r hr, tabE_cast l, List.map_map, List.map_map]
    rfl
theorem fold_div : ∀ (r : List Nat) (K : Nat), (castL r).foldl (fun o x => o / fct x.toNat) (K * fct (sumN r)) = K * MM r
  | [], K => by
    show K * fct 0 = K * 1
    rfl
  | x :: r, K => by
    show (castL r).foldl (fun o x => o / fct x.toNat) (K * fct (x + sumN r) / fct ((x : Int)).toNat) = K * (ch (x + sumN r) x * MM r)
    have h := ch_fct (x + sumN r) x (by omega)
    rw [Nat.add_sub_cancel_left] at h
    have e : K * fct (x + sumN r) / fct ((x : Int)).toNat = (K * ch (x + sumN r) x) * fct (sumN r) := by
      rw [Int.toNat_natCast, ← h, show K * (ch (x + sumN r) x * (fct x * fct (sumN r))) = ((K * ch (x + sumN r) x) * fct (sumN r)) * fct x by simp only [Nat.mul_comm, Nat.mul_left_comm, Nat.mul_assoc], Nat.mul_div_cancel _ (fct_pos x)]
    rw [e, fold_div r, Nat.mul_assoc]
theorem overN_MM (r : List Nat) : overN (sumN r) (castL r) = MM r := by
  have h := fold_div r 1
  rw [Nat.one_mul, Nat.one_mul] at h
  exact h
theorem waysN_WW : ∀ (t : List (List Nat)), waysN (t.map castL) = WW t
  | [] => rfl
  | r :: t => by
    show overN (sumL (castL r)).toNat (castL r) * waysN (t.map castL) = MM r * WW t
    rw [waysN_WW t, sumL_cast, Int.toNat_natCast, overN_MM]
/-- **the ways of all tables with the margins add up to the total** -/
theorem ways_total {t : List (List Int)} (h : Tab t) : sumB waysN (allL t) = totalN t := by
  obtain ⟨h1, h2, h3, h4, h5, h6⟩ := tab_rows h
  obtain ⟨l, hl⟩ := castL_of (rowsL t) (fun x hx => (h1 x hx).1)
  obtain ⟨cs, hc⟩ := castL_of (colsL t) (fun x hx => (h2 x hx).1)
  have hw := h.wid
  have e1 : sumN l = sumN cs := by
    have e2 := h3
    have e3 := h4
    rw [hl, sumL_cast] at e2
    rw [hc, sumL_cast] at e3
    omega
  have hne : cs ≠ [] := by
    intro e; rw [e] at hc; rw [hc] at h6; simp [castL] at h6; omega
  rw [allL, hl, hc, tabE_cast, sumB_map, totalN, ← h4, hc, sumL_cast, Int.toNat_natCast, overN_MM, ← vtab l cs hne e1]
  exact sumB_congr _ (fun x _ => waysN_WW x)
theorem ways_le_total {t : List (List Int)} (h : Tab t) : sumB waysN (allL t) ≤ 2432902008176640000 := by
  rw [ways_total h]
  obtain ⟨h1, h2, h3, h4, h5, h6⟩ := tab_rows h
  have ht := h.tot
  refine Nat.le_trans (overN_le _ _) (fct_le20 ?_)
  omega
end Go.Proofs.YtligakiolapkkaaDoor

namespace Go.Proofs.YtligakiolapkkaaDoor
open Go GoV
set_option maxHeartbeats 8000000
set_option maxRecDepth 10000
set_option linter.unusedVariables false
set_option linter.unusedSimpArgs false
abbrev U (n : Int) : AV := .dat (.int .u64) n
abbrev i63 (n : Int) : Prop := -9223372036854775808 ≤ n ∧ n ≤ 9223372036854775807
theorem size_pc (n : Int) (h : i63 n) : PC Tryd.prog 59 [I n] (U n.natAbs) := by
  refine pc_fn hmix h59 rfl ?_
  simp -implicitDefEqProofs only [c59, push_cast, Nat.reduceBEq, Nat.reduceLT, Nat.reduceLeDiff, Nat.reduceAdd, Nat.reduceSub, Nat.reduceMul, Nat.reduceEqDiff, reduceCtorEq, ↓reduceIte, Int.reduceEq, Int.reduceLT, Int.reduceLE, Int.reduceNe, Int.reduceAdd, Int.reduceSub, Int.reduceMul, Int.reduceToNat, Nat.reduceShiftRight, Nat.reduceAnd, Nat.reduceBNe]
  refine ⟨fun h => ?_, fun h => ?_⟩
  · rw [show (-(n % 18446744073709551616)) % 18446744073709551616 = (n.natAbs : Int) by omega]
    exact finC rfl rfl
  · rw [show n % 18446744073709551616 = (n.natAbs : Int) by omega]
    exact finC rfl rfl
theorem gcd_pc (a b : Nat) (ha : a < 18446744073709551616) (hb : b < 18446744073709551616) : PC Tryd.prog 58 [U a, U b] (U (Nat.gcd a b)) := by
  refine pc_fn hmix h58 rfl ?_
  simp -implicitDefEqProofs only [c58, push_cast, Nat.reduceBEq, Nat.reduceLT, Nat.reduceLeDiff, Nat.reduceAdd, Nat.reduceSub, Nat.reduceMul, Nat.reduceEqDiff, reduceCtorEq, ↓reduceIte, Int.reduceEq, Int.reduceLT, Int.reduceLE, Int.reduceNe, Int.reduceAdd, Int.reduceSub, Int.reduceMul, Int.reduceToNat, Nat.reduceShiftRight, Nat.reduceAnd, Nat.reduceBNe]
  refine loop_w (α := Nat × Nat) (fun p => ⟨[(1, U p.2), (0, U p.1)], [], []⟩) (fun p => Nat.gcd p.1 p.2 = Nat.gcd a b ∧ p.1 < 18446744073709551616 ∧ p.2 < 18446744073709551616) (fun p => p.1) (a, b) (wk_cut [1, 0] 0 rfl ⟨rfl, rfl, rfl⟩ rfl) ⟨rfl, ha, hb⟩ ?_
  rintro ⟨x, y⟩ ⟨hg, hx, hy⟩
  simp -implicitDefEqProofs only [c58L0, push_cast, Nat.reduceBEq, Nat.reduceLT, Nat.reduceLeDiff, Nat.reduceAdd, Nat.reduceSub, Nat.reduceMul, Nat.reduceEqDiff, reduceCtorEq, ↓reduceIte, Int.reduceEq, Int.reduceLT, Int.reduceLE, Int.reduceNe, Int.reduceAdd, Int.reduceSub, Int.reduceMul, Int.reduceToNat, Nat.reduceShiftRight, Nat.reduceAnd, Nat.reduceBNe]
  refine ⟨fun h => ⟨by omega, (y % x, x), ⟨?_, ?_, hx⟩, ?_, ?_⟩, fun h => ?_⟩
  · rw [← hg]; show Nat.gcd (y % x) x = Nat.gcd x y
    rw [Nat.gcd_rec x y]
  · exact Nat.lt_of_le_of_lt (Nat.mod_le _ _) hy
  · exact Nat.mod_lt _ (by omega)
  · rw [show (y : Int).tmod (x : Int) = ((y % x : Nat) : Int) by rw [Int.tmod_eq_emod_of_nonneg (by omega)]; rfl]
    exact wk_c rfl ⟨rfl, rfl, rfl⟩ rfl
  · have : x = 0 := by omega
    subst this
    rw [Nat.gcd_zero_left] at hg
    simp only at hg
    rw [← hg]
    exact finC rfl rfl
abbrev W2 (a b : Int) : AV := .agg [U a, U b]
theorem less_pc (a0 a1 b0 b1 : Int) : PC Tryd.prog 66 [W2 a0 a1, W2 b0 b1] (B (decide (a0 < b0 ∨ (a0 = b0 ∧ a1 < b1)))) := by
  refine pc_fn hmix h66 rfl ?_
  simp -implicitDefEqProofs only [c66, push_cast, Nat.reduceBEq, Nat.reduceLT, Nat.reduceLeDiff, Nat.reduceAdd, Nat.reduceSub, Nat.reduceMul, Nat.reduceEqDiff, reduceCtorEq, ↓reduceIte, Int.reduceEq, Int.reduceLT, Int.reduceLE, Int.reduceNe, Int.reduceAdd, Int.reduceSub, Int.reduceMul, Int.reduceToNat, Nat.reduceShiftRight, Nat.reduceAnd, Nat.reduceBNe]
  refine ⟨fun h => ?_, fun h => ⟨fun h1 => ?_, fun h1 => ?_⟩⟩
  · rw [decide_eq_true (Or.inl h)]; exact finC rfl rfl
  · by_cases h2 : a1 < b1
    · rw [decide_eq_true h2, decide_eq_true (Or.inr ⟨h1, h2⟩)]; exact finC rfl rfl
    · rw [decide_eq_false h2, decide_eq_false (by omega)]; exact finC rfl rfl
  · rw [decide_eq_false (by omega)]; exact finC rfl rfl
theorem made_pc (neg : Bool) (x y : Int) (hx : 0 ≤ x ∧ x ≤ 4611686018427387903) (hy : 0 ≤ y ∧ y ≤ 4611686018427387903) : PC Tryd.prog 62 [B neg, W2 0 x, W2 0 y] (.agg [I (if neg then -x else x), I y]) := by
  have h1 := less_pc 0 4611686018427387903 0 x
  have h2 := less_pc 0 4611686018427387903 0 y
  rw [decide_eq_false (by omega)] at h1 h2
  refine pc_fn hmix h62 rfl ?_
  cases neg with
  | true =>
    simp -implicitDefEqProofs only [c62, push_cast, Nat.reduceBEq, Nat.reduceLT, Nat.reduceLeDiff, Nat.reduceAdd, Nat.reduceSub, Nat.reduceMul, Nat.reduceEqDiff, reduceCtorEq, ↓reduceIte, Int.reduceEq, Int.reduceLT, Int.reduceLE, Int.reduceNe, Int.reduceAdd, Int.reduceSub, Int.reduceMul, Int.reduceToNat, Nat.reduceShiftRight, Nat.reduceAnd, Nat.reduceBNe]
    refine callF h1 ⟨⟨rfl, rfl⟩, ⟨rfl, rfl⟩, trivial⟩ rfl rfl ?_
    simp -implicitDefEqProofs only [push_cast, Nat.reduceBEq, Nat.reduceLT, Nat.reduceLeDiff, Nat.reduceAdd, Nat.reduceSub, Nat.reduceMul, Nat.reduceEqDiff, reduceCtorEq, ↓reduceIte, Int.reduceEq, Int.reduceLT, Int.reduceLE, Int.reduceNe, Int.reduceAdd, Int.reduceSub, Int.reduceMul, Int.reduceToNat, Nat.reduceShiftRight, Nat.reduceAnd, Nat.reduceBNe]
    refine callF h2 ⟨⟨rfl, rfl⟩, ⟨rfl, rfl⟩, trivial⟩ rfl rfl ?_
    simp -implicitDefEqProofs only [push_cast, Nat.reduceBEq, Nat.reduceLT, Nat.reduceLeDiff, Nat.reduceAdd, Nat.reduceSub, Nat.reduceMul, Nat.reduceEqDiff, reduceCtorEq, ↓reduceIte, Int.reduceEq, Int.reduceLT, Int.reduceLE, Int.reduceNe, Int.reduceAdd, Int.reduceSub, Int.reduceMul, Int.reduceToNat, Nat.reduceShiftRight, Nat.reduceAnd, Nat.reduceBNe]
    refine ⟨by simp only [inR]; omega, by simp only [inR]; omega, by simp only [inR]; omega, ?_⟩
    exact finC rfl rfl
  | false =>
    simp -implicitDefEqProofs only [c62, push_cast, Nat.reduceBEq, Nat.reduceLT, Nat.reduceLeDiff, Nat.reduceAdd, Nat.reduceSub, Nat.reduceMul, Nat.reduceEqDiff, reduceCtorEq, ↓reduceIte, Int.reduceEq, Int.reduceLT, Int.reduceLE, Int.reduceNe, Int.reduceAdd, Int.reduceSub, Int.reduceMul, Int.reduceToNat, Nat.reduceShiftRight, Nat.reduceAnd, Nat.reduceBNe]
    refine callF h1 ⟨⟨rfl, rfl⟩, ⟨rfl, rfl⟩, trivial⟩ rfl rfl ?_
    simp -implicitDefEqProofs only [push_cast, Nat.reduceBEq, Nat.reduceLT, Nat.reduceLeDiff, Nat.reduceAdd, Nat.reduceSub, Nat.reduceMul, Nat.reduceEqDiff, reduceCtorEq, ↓reduceIte, Int.reduceEq, Int.reduceLT, Int.reduceLE, Int.reduceNe, Int.reduceAdd, Int.reduceSub, Int.reduceMul, Int.reduceToNat, Nat.reduceShiftRight, Nat.reduceAnd, Nat.reduceBNe]
    refine callF h2 ⟨⟨rfl, rfl⟩, ⟨rfl, rfl⟩, trivial⟩ rfl rfl ?_
    simp -implicitDefEqProofs only [push_cast, Nat.reduceBEq, Nat.reduceLT, Nat.reduceLeDiff, Nat.reduceAdd, Nat.reduceSub, Nat.reduceMul, Nat.reduceEqDiff, reduceCtorEq, ↓reduceIte, Int.reduceEq, Int.reduceLT, Int.reduceLE, Int.reduceNe, Int.reduceAdd, Int.reduceSub, Int.reduceMul, Int.reduceToNat, Nat.reduceShiftRight, Nat.reduceAnd, Nat.reduceBNe]
    refine ⟨by simp only [inR]; omega, by simp only [inR]; omega, ?_⟩
    exact finC rfl rfl
def H4 (n d g : Int) : Heap := [.box [I n], .box [I d], .box [I 0, I 0], .box [U g]]
theorem make1_vc (n d g q1 q2 : Nat) (hn : n ≤ 4611686018427387903) (hd : 1 ≤ d ∧ d ≤ 4611686018427387903) (hg : 0 < g) (h1 : n / g = q1) (h2 : d / g = q2) :
    VCalls Tryd.prog 61 [.ptr 0 0, .ptr 1 0, .ptr 3 0] (H4 n d g ++ [.box [I 0, I 0], .box [I 0]]) (fun v h' => v = .agg [I q1, I q2] ∧ h' = H4 n d g ++ [.box [I 0, I 0], .box [I 0]]) := by
  have hs1 := size_pc n (by simp only [i63]; omega)
  have hs2 := size_pc d (by simp only [i63]; omega)
  rw [Int.natAbs_natCast] at hs1 hs2
  have hdn : ((d : Int) < 0) = False := by rw [eq_iff_iff]; exact ⟨fun h => by omega, False.elim⟩
  have hnn : ((n : Int) < 0) = False := by rw [eq_iff_iff]; exact ⟨fun h => by omega, False.elim⟩
  have hq1 : q1 ≤ n := by rw [← h1]; exact Nat.div_le_self _ _
  have hq2 : q2 ≤ d := by rw [← h2]; exact Nat.div_le_self _ _
  have hm := made_pc false q1 q2 ⟨by omega, by omega⟩ ⟨by omega, by omega⟩
  rw [if_neg (by decide)] at hm
  have e1 : (n : Int).tdiv (g : Int) = (q1 : Int) := by rw [Int.tdiv_eq_ediv_of_nonneg (by omega), ← h1]; rfl
  have e2 : (d : Int).tdiv (g : Int) = (q2 : Int) := by rw [Int.tdiv_eq_ediv_of_nonneg (by omega), ← h2]; rfl
  refine vcalls_fn hmix h61 rfl ?_
  cases hb : decide ((n : Int) = 0)
  all_goals
    simp -implicitDefEqProofs only [c61, H4, hdn, hnn, hb, beq_self_eq_true, push_cast, Nat.reduceBEq, Nat.reduceLT, Nat.reduceLeDiff, Nat.reduceAdd, Nat.reduceSub, Nat.reduceMul, Nat.reduceEqDiff, reduceCtorEq, ↓reduceIte, Int.reduceEq, Int.reduceLT, Int.reduceLE, Int.reduceNe, Int.reduceAdd, Int.reduceSub, Int.reduceMul, Int.reduceToNat, Nat.reduceShiftRight, Nat.reduceAnd, Nat.reduceBNe]
    refine ppF hs1 ⟨rfl, trivial⟩ rfl rfl ?_
    simp -implicitDefEqProofs only [e1, push_cast, Nat.reduceBEq, Nat.reduceLT, Nat.reduceLeDiff, Nat.reduceAdd, Nat.reduceSub, Nat.reduceMul, Nat.reduceEqDiff, reduceCtorEq, ↓reduceIte, Int.reduceEq, Int.reduceLT, Int.reduceLE, Int.reduceNe, Int.reduceAdd, Int.reduceSub, Int.reduceMul, Int.reduceToNat, Nat.reduceShiftRight, Nat.reduceAnd, Nat.reduceBNe]
    refine ⟨by simp only [inR]; omega, ?_⟩
    refine ppF hs2 ⟨rfl, trivial⟩ rfl rfl ?_
    simp -implicitDefEqProofs only [e2, push_cast, Nat.reduceBEq, Nat.reduceLT, Nat.reduceLeDiff, Nat.reduceAdd, Nat.reduceSub, Nat.reduceMul, Nat.reduceEqDiff, reduceCtorEq, ↓reduceIte, Int.reduceEq, Int.reduceLT, Int.reduceLE, Int.reduceNe, Int.reduceAdd, Int.reduceSub, Int.reduceMul, Int.reduceToNat, Nat.reduceShiftRight, Nat.reduceAnd, Nat.reduceBNe]
    refine ⟨by simp only [inR]; omega, ?_⟩
    refine ppF hm ⟨rfl, ⟨rfl, rfl⟩, ⟨rfl, rfl⟩, trivial⟩ rfl rfl ?_
    simp -implicitDefEqProofs only [push_cast, Nat.reduceBEq, Nat.reduceLT, Nat.reduceLeDiff, Nat.reduceAdd, Nat.reduceSub, Nat.reduceMul, Nat.reduceEqDiff, reduceCtorEq, ↓reduceIte, Int.reduceEq, Int.reduceLT, Int.reduceLE, Int.reduceNe, Int.reduceAdd, Int.reduceSub, Int.reduceMul, Int.reduceToNat, Nat.reduceShiftRight, Nat.reduceAnd, Nat.reduceBNe]
    exact fin1 6 rfl ⟨rfl, rfl⟩
theorem fit_vc (n d g q1 q2 : Nat) (hn : n ≤ 4611686018427387903) (hd : 1 ≤ d ∧ d ≤ 4611686018427387903) (hg : 0 < g) (h1 : n / g = q1) (h2 : d / g = q2) :
    VCalls Tryd.prog 60 [.fn 61 [] [.ptr 0 0, .ptr 1 0, .ptr 3 0]] (H4 n d g) (fun v h' => v = .tup [.agg [I q1, I q2], I 0] ∧ h' = H4 n d g) := by
  have hv := make1_vc n d g q1 q2 hn hd hg h1 h2
  refine vcalls_fn hmix h60 rfl ?_
  simp -implicitDefEqProofs only [c60, H4, push_cast, Nat.reduceBEq, Nat.reduceLT, Nat.reduceLeDiff, Nat.reduceAdd, Nat.reduceSub, Nat.reduceMul, Nat.reduceEqDiff, reduceCtorEq, ↓reduceIte, Int.reduceEq, Int.reduceLT, Int.reduceLE, Int.reduceNe, Int.reduceAdd, Int.reduceSub, Int.reduceMul, Int.reduceToNat, Nat.reduceShiftRight, Nat.reduceAnd, Nat.reduceBNe]
  refine call_rule hv ?_
  rintro v h' ⟨rfl, rfl⟩
  simp -implicitDefEqProofs only [H4, push_cast, Nat.reduceBEq, Nat.reduceLT, Nat.reduceLeDiff, Nat.reduceAdd, Nat.reduceSub, Nat.reduceMul, Nat.reduceEqDiff, reduceCtorEq, ↓reduceIte, Int.reduceEq, Int.reduceLT, Int.reduceLE, Int.reduceNe, Int.reduceAdd, Int.reduceSub, Int.reduceMul, Int.reduceToNat, Nat.reduceShiftRight, Nat.reduceAnd, Nat.reduceBNe]
  rw [outMarks_clo]
  refine vdef_fn hmix hd69 rfl ?_
  simp -implicitDefEqProofs only [d69, push_cast, Nat.reduceBEq, Nat.reduceLT, Nat.reduceLeDiff, Nat.reduceAdd, Nat.reduceSub, Nat.reduceMul, Nat.reduceEqDiff, reduceCtorEq, ↓reduceIte, Int.reduceEq, Int.reduceLT, Int.reduceLE, Int.reduceNe, Int.reduceAdd, Int.reduceSub, Int.reduceMul, Int.reduceToNat, Nat.reduceShiftRight, Nat.reduceAnd, Nat.reduceBNe]
  refine ⟨rfl, 6, Nat.le_refl _, rfl, ?_⟩
  simp -implicitDefEqProofs only [push_cast, Nat.reduceBEq, Nat.reduceLT, Nat.reduceLeDiff, Nat.reduceAdd, Nat.reduceSub, Nat.reduceMul, Nat.reduceEqDiff, reduceCtorEq, ↓reduceIte, Int.reduceEq, Int.reduceLT, Int.reduceLE, Int.reduceNe, Int.reduceAdd, Int.reduceSub, Int.reduceMul, Int.reduceToNat, Nat.reduceShiftRight, Nat.reduceAnd, Nat.reduceBNe]
  exact fin1 4 rfl ⟨rfl, rfl⟩
theorem make_pc (n d : Nat) (hn : n ≤ 4611686018427387903) (hd : 1 ≤ d ∧ d ≤ 4611686018427387903) : PC Tryd.prog 48 [I n, I d] (.tup [.agg [I (n / Nat.gcd n d : Nat), I (d / Nat.gcd n d : Nat)], I 0]) := by
  have hs1 := size_pc n (by simp only [i63]; omega)
  have hs2 := size_pc d (by simp only [i63]; omega)
  have hg := gcd_pc n d (by omega) (by omega)
  have hgp : 0 < Nat.gcd n d := Nat.gcd_pos_of_pos_right _ (by omega)
  rw [Int.natAbs_natCast] at hs1 hs2
  have hd0 : ((d : Int) = 0) = False := by rw [eq_iff_iff]; exact ⟨fun h => by omega, False.elim⟩
  obtain ⟨g, hge⟩ : ∃ g, Nat.gcd n d = g := ⟨_, rfl⟩
  rw [hge] at hg hgp ⊢
  obtain ⟨q1, h1⟩ : ∃ q, n / g = q := ⟨_, rfl⟩
  obtain ⟨q2, h2⟩ : ∃ q, d / g = q := ⟨_, rfl⟩
  rw [h1, h2]
  refine pc_fn hmix h48 rfl ?_
  simp -implicitDefEqProofs only [c48, hd0, push_cast, Nat.reduceBEq, Nat.reduceLT, Nat.reduceLeDiff, Nat.reduceAdd, Nat.reduceSub, Nat.reduceMul, Nat.reduceEqDiff, reduceCtorEq, ↓reduceIte, Int.reduceEq, Int.reduceLT, Int.reduceLE, Int.reduceNe, Int.reduceAdd, Int.reduceSub, Int.reduceMul, Int.reduceToNat, Nat.reduceShiftRight, Nat.reduceAnd, Nat.reduceBNe]
  refine qqF hs1 ⟨rfl, trivial⟩ rfl rfl ?_
  simp -implicitDefEqProofs only [push_cast, Nat.reduceBEq, Nat.reduceLT, Nat.reduceLeDiff, Nat.reduceAdd, Nat.reduceSub, Nat.reduceMul, Nat.reduceEqDiff, reduceCtorEq, ↓reduceIte, Int.reduceEq, Int.reduceLT, Int.reduceLE, Int.reduceNe, Int.reduceAdd, Int.reduceSub, Int.reduceMul, Int.reduceToNat, Nat.reduceShiftRight, Nat.reduceAnd, Nat.reduceBNe]
  refine qqF hs2 ⟨rfl, trivial⟩ rfl rfl ?_
  simp -implicitDefEqProofs only [push_cast, Nat.reduceBEq, Nat.reduceLT, Nat.reduceLeDiff, Nat.reduceAdd, Nat.reduceSub, Nat.reduceMul, Nat.reduceEqDiff, reduceCtorEq, ↓reduceIte, Int.reduceEq, Int.reduceLT, Int.reduceLE, Int.reduceNe, Int.reduceAdd, Int.reduceSub, Int.reduceMul, Int.reduceToNat, Nat.reduceShiftRight, Nat.reduceAnd, Nat.reduceBNe]
  refine qqF hg ⟨rfl, rfl, trivial⟩ rfl rfl ?_
  simp -implicitDefEqProofs only [push_cast, Nat.reduceBEq, Nat.reduceLT, Nat.reduceLeDiff, Nat.reduceAdd, Nat.reduceSub, Nat.reduceMul, Nat.reduceEqDiff, reduceCtorEq, ↓reduceIte, Int.reduceEq, Int.reduceLT, Int.reduceLE, Int.reduceNe, Int.reduceAdd, Int.reduceSub, Int.reduceMul, Int.reduceToNat, Nat.reduceShiftRight, Nat.reduceAnd, Nat.reduceBNe]
  refine call_rule (fit_vc n d g q1 q2 hn hd hgp h1 h2) ?_
  rintro v h' ⟨rfl, rfl⟩
  simp -implicitDefEqProofs only [H4, push_cast, Nat.reduceBEq, Nat.reduceLT, Nat.reduceLeDiff, Nat.reduceAdd, Nat.reduceSub, Nat.reduceMul, Nat.reduceEqDiff, reduceCtorEq, ↓reduceIte, Int.reduceEq, Int.reduceLT, Int.reduceLE, Int.reduceNe, Int.reduceAdd, Int.reduceSub, Int.reduceMul, Int.reduceToNat, Nat.reduceShiftRight, Nat.reduceAnd, Nat.reduceBNe]
  exact finC rfl rfl
end Go.Proofs.YtligakiolapkkaaDoor

namespace Go.Proofs.YtligakiolapkkaaDoor
open Go GoV
set_option maxHeartbeats 8000000
set_option maxRecDepth 10000
set_option linter.unusedVariables false
set_option linter.unusedSimpArgs false
def tailT (t : List (List Int)) (tot own : Nat) : List (Nat × AV) := [(22, .fn 55 [] [.imm (.list (.list (.int .i64))) t]), (21, TT t), (20, I own), (19, TT t), (16, .dat .bool false), (15, I 0), (14, I 0), (13, I tot), (12, .tup [I tot, I 0]), (11, TT t), (10, .tup [I tot, I 0]), (7, .ptr 2 0), (6, .ptr 1 0), (5, I 0), (4, I tot), (3, I 0), (2, .ptr 0 0), (0, TT t)]
def tailC (t : List (List Int)) (tot own s : Nat) : Heap := [.box [I 0, I 0], .box [I own], .box [I s], .dfr, .loop .ready none 37 (tailT t tot own) [23] k27a0 k27b0 3]
def tailU (own s : Nat) (x : List (List Int)) : Nat := if waysN x ≤ own then s + waysN x else s
def tsum (t : List (List Int)) : Nat := sumB (fun x => if waysN x ≤ waysN t then waysN x else 0) (allL t)
theorem tail_fold (own : Nat) : ∀ (l : List (List (List Int))) (s : Nat), l.foldl (tailU own) s = s + sumB (fun x => if waysN x ≤ own then waysN x else 0) l
  | [], s => rfl
  | x :: l, s => by
    rw [List.foldl_cons, tail_fold own l, tailU]
    show _ = s + ((if waysN x ≤ own then waysN x else 0) + _)
    split <;> omega
theorem tail_pre (own : Nat) : ∀ (l : List (List (List Int))) (s : Nat), s + sumB waysN l ≤ 2432902008176640000 → Pre (fun s : Nat => s ≤ 2432902008176640000) (tailU own) s l
  | [], s, _ => trivial
  | x :: l, s, h => by
    have h : s + (waysN x + sumB waysN l) ≤ 2432902008176640000 := h
    refine ⟨by show s ≤ _; omega, tail_pre own l _ ?_⟩
    unfold tailU
    split <;> omega
theorem tsum_le {t : List (List Int)} (h : Tab t) : tsum t ≤ totalN t := by
  rw [← ways_total h]
  have key : ∀ l : List (List (List Int)), sumB (fun x => if waysN x ≤ waysN t then waysN x else 0) l ≤ sumB waysN l := by
    intro l
    induction l with
    | nil => exact Nat.le_refl _
    | cons x l ih =>
      show (if waysN x ≤ waysN t then waysN x else 0) + _ ≤ waysN x + _
      split <;> omega
  exact key _
theorem total_pos {t : List (List Int)} (h : Tab t) : 1 ≤ totalN t ∧ totalN t ≤ 2432902008176640000 := by
  have h1 := ways_le_total h
  rw [ways_total h] at h1
  refine ⟨?_, h1⟩
  obtain ⟨_, h2, _, h4, _, _⟩ := tab_rows h
  obtain ⟨cs, hc⟩ := castL_of (colsL t) (fun x hx => (h2 x hx).1)
  have e : totalN t = MM cs := by rw [totalN, ← h4, hc, sumL_cast, Int.toNat_natCast, overN_MM]
  rw [e]
  clear e hc h1 h2 h4 h
  induction cs with
  | nil => exact Nat.le_refl _
  | cons c cs ih =>
    have : 0 < ch (c + sumN cs) c := by
      have h := ch_fct (c + sumN cs) c (by omega)
      have hp := fct_pos (c + sumN cs)
      rcases Nat.eq_zero_or_pos (ch (c + sumN cs) c) with h0 | h0
      · rw [h0, Nat.zero_mul] at h; omega
      · exact h0
    show 1 ≤ ch (c + sumN cs) c * MM cs
    exact Nat.mul_pos this ih
abbrev tailR (t : List (List Int)) : AV := .agg [I (tsum t / Nat.gcd (tsum t) (totalN t) : Nat), I (totalN t / Nat.gcd (tsum t) (totalN t) : Nat)]
theorem mkTab22 {y00 y01 y10 y11 : Int} (h : 0 ≤ y00 ∧ 0 ≤ y01 ∧ 0 ≤ y10 ∧ 0 ≤ y11) (ht : 1 ≤ y00 + y01 + y10 + y11 ∧ y00 + y01 + y10 + y11 ≤ 20) : Tab [[y00, y01], [y10, y11]] := by
  refine ⟨⟨by simp, by simp⟩, ⟨by simp [wid], by simp [wid]⟩, ?_, ?_⟩
  · intro r hr
    simp only [List.mem_cons, List.not_mem_nil, or_false] at hr
    rcases hr with rfl | rfl <;> refine ⟨rfl, fun x hx => ?_⟩ <;> simp only [List.mem_cons, List.not_mem_nil, or_false] at hx <;> omega
  · simp only [totL, sumL, List.map_cons, List.map_nil]
    omega
theorem Tail22 (a b c d : Int) (ht : Tab [[a, b], [c, d]]) : PC Tryd.prog 27 [TT [[a, b], [c, d]]] (.tup [tailR [[a, b], [c, d]], I 0]) := by
  have hto := total_pc [[a, b], [c, d]] (by simp) (by simp)
  rw [tab_valid ht] at hto
  have hq := tab_hyp22 ht
  have hcnt := count_pc ht (by simp)
  have htot := total_pos ht
  have htot1 : 1 ≤ a + b + c + d := by have := ht.tot; simp only [totL, sumL, List.map_cons, List.map_nil] at this; omega
  have hsum := tsum_le ht
  have hmk := make_pc (tsum [[a, b], [c, d]]) (totalN [[a, b], [c, d]]) (by omega) (by omega)
  have hbound := ways_le_total ht
  have hfold := tail_fold (waysN [[a, b], [c, d]]) (allL [[a, b], [c, d]]) 0
  have hpre := tail_pre (waysN [[a, b], [c, d]]) (allL [[a, b], [c, d]]) 0 (by omega)
  rw [show (0 : Nat) + sumB (fun x => if waysN x ≤ waysN [[a, b], [c, d]] then waysN x else 0) (allL [[a, b], [c, d]]) = tsum [[a, b], [c, d]] from Nat.zero_add _] at hfold
  obtain ⟨tot, htt⟩ : ∃ n, totalN [[a, b], [c, d]] = n := ⟨_, rfl⟩
  obtain ⟨own, how⟩ : ∃ n, waysN [[a, b], [c, d]] = n := ⟨_, rfl⟩
  obtain ⟨sm, hsm⟩ : ∃ n, tsum [[a, b], [c, d]] = n := ⟨_, rfl⟩
  unfold tailR
  rw [htt, hsm] at hmk ⊢
  rw [hsm] at hfold
  rw [how] at hcnt hfold hpre
  rw [htt] at hto
  obtain ⟨q1, h1⟩ : ∃ q, sm / Nat.gcd sm tot = q := ⟨_, rfl⟩
  obtain ⟨q2, h2⟩ : ∃ q, tot / Nat.gcd sm tot = q := ⟨_, rfl⟩
  rw [h1, h2] at hmk ⊢
  rw [allL_22] at hfold hpre
  refine pc_fn hmix h27 rfl ?_
  simp -implicitDefEqProofs only [c27, push_cast, Nat.reduceBEq, Nat.reduceLT, Nat.reduceLeDiff, Nat.reduceAdd, Nat.reduceSub, Nat.reduceMul, Nat.reduceEqDiff, reduceCtorEq, ↓reduceIte, Int.reduceEq, Int.reduceLT, Int.reduceLE, Int.reduceNe, Int.reduceAdd, Int.reduceSub, Int.reduceMul, Int.reduceToNat, Nat.reduceShiftRight, Nat.reduceAnd, Nat.reduceBNe]
  refine callF hto ⟨rfl, trivial⟩ rfl rfl ?_
  simp -implicitDefEqProofs only [push_cast, Nat.reduceBEq, Nat.reduceLT, Nat.reduceLeDiff, Nat.reduceAdd, Nat.reduceSub, Nat.reduceMul, Nat.reduceEqDiff, reduceCtorEq, ↓reduceIte, Int.reduceEq, Int.reduceLT, Int.reduceLE, Int.reduceNe, Int.reduceAdd, Int.reduceSub, Int.reduceMul, Int.reduceToNat, Nat.reduceShiftRight, Nat.reduceAnd, Nat.reduceBNe]
  refine callF hcnt ⟨rfl, trivial⟩ rfl rfl ?_
  simp -implicitDefEqProofs only [push_cast, Nat.reduceBEq, Nat.reduceLT, Nat.reduceLeDiff, Nat.reduceAdd, Nat.reduceSub, Nat.reduceMul, Nat.reduceEqDiff, reduceCtorEq, ↓reduceIte, Int.reduceEq, Int.reduceLT, Int.reduceLE, Int.reduceNe, Int.reduceAdd, Int.reduceSub, Int.reduceMul, Int.reduceToNat, Nat.reduceShiftRight, Nat.reduceAnd, Nat.reduceBNe]
  refine callF (all_pc _) ⟨rfl, trivial⟩ rfl rfl ?_
  simp -implicitDefEqProofs only [push_cast, Nat.reduceBEq, Nat.reduceLT, Nat.reduceLeDiff, Nat.reduceAdd, Nat.reduceSub, Nat.reduceMul, Nat.reduceEqDiff, reduceCtorEq, ↓reduceIte, Int.reduceEq, Int.reduceLT, Int.reduceLE, Int.reduceNe, Int.reduceAdd, Int.reduceSub, Int.reduceMul, Int.reduceToNat, Nat.reduceShiftRight, Nat.reduceAnd, Nat.reduceBNe]
  refine rangeF_n rfl (fun _ h2 => h2 = tailC [[a, b], [c, d]] tot own sm) ?_ ?_
  · refine VC.mono (.fn 55) _ _ _ _ ?_ (all22 (K := 4) (k := 4) (C := tailC [[a, b], [c, d]] tot own) (upd := tailU own) (J := fun s => s ≤ 2432902008176640000) (fun _ => rfl) ?_ (by omega) ht ?_ 0 hpre)
    · intro v h' e
      rw [e, hfold]
    · intro s n hn
      simp [tailC, tailT, rowsRefs, rowRefs, refsLtL, refsLt, refsT, NatBlt]; omega
    · intro s a0 a1 c0 c1 y00 y01 y10 y11 hJ hp hr hc
      have hJ : s ≤ 2432902008176640000 := hJ
      have hty := mkTab22 (by omega) (by omega)
      have hcy := count_pc hty (by simp)
      have hwy := ways_small hty
      obtain ⟨w, hw⟩ : ∃ w, waysN [[y00, y01], [y10, y11]] = w := ⟨_, rfl⟩
      have hu : tailU own s [[y00, y01], [y10, y11]] = if w ≤ own then s + w else s := by rw [tailU, hw]
      rw [hw] at hcy hwy
      rw [hu]
      refine vyield_trim (vyield_of_awp hmix rfl h27A0 h27B0 rfl rfl ?_)
      simp -implicitDefEqProofs only [c27A0, c27B0, tailC, tailT, L22, List.cons_append, List.nil_append, push_cast, Nat.reduceBEq, Nat.reduceLT, Nat.reduceLeDiff, Nat.reduceAdd, Nat.reduceSub, Nat.reduceMul, Nat.reduceEqDiff, reduceCtorEq, ↓reduceIte, Int.reduceEq, Int.reduceLT, Int.reduceLE, Int.reduceNe, Int.reduceAdd, Int.reduceSub, Int.reduceMul, Int.reduceToNat, Nat.reduceShiftRight, Nat.reduceAnd, Nat.reduceBNe]
      refine callB hcy ⟨⟨rfl, ⟨⟨rfl, Nat.le_refl _⟩, rfl⟩, ⟨⟨rfl, Nat.le_refl _⟩, rfl⟩, trivial⟩, trivial⟩ rfl rfl ?_
      simp -implicitDefEqProofs only [push_cast, Nat.reduceBEq, Nat.reduceLT, Nat.reduceLeDiff, Nat.reduceAdd, Nat.reduceSub, Nat.reduceMul, Nat.reduceEqDiff, reduceCtorEq, ↓reduceIte, Int.reduceEq, Int.reduceLT, Int.reduceLE, Int.reduceNe, Int.reduceAdd, Int.reduceSub, Int.reduceMul, Int.reduceToNat, Nat.reduceShiftRight, Nat.reduceAnd, Nat.reduceBNe]
      refine ⟨fun h => ⟨by simp only [inR]; omega, 13, Nat.le_refl _, rfl, ?_, ?_⟩, fun h => ⟨13, Nat.le_refl _, rfl, ?_, ?_⟩⟩
      · simp only [List.take, rowsRefs, rowRefs, refsLtL, refsLt, refsT, NatBlt]
        rfl
      · rw [if_pos (by omega)]; rfl
      · simp only [List.take, rowsRefs, rowRefs, refsLtL, refsLt, refsT, NatBlt]
        rfl
      · rw [if_neg (by omega)]; rfl
  · rintro v h2 rfl
    simp -implicitDefEqProofs only [tailC, push_cast, Nat.reduceBEq, Nat.reduceLT, Nat.reduceLeDiff, Nat.reduceAdd, Nat.reduceSub, Nat.reduceMul, Nat.reduceEqDiff, reduceCtorEq, ↓reduceIte, Int.reduceEq, Int.reduceLT, Int.reduceLE, Int.reduceNe, Int.reduceAdd, Int.reduceSub, Int.reduceMul, Int.reduceToNat, Nat.reduceShiftRight, Nat.reduceAnd, Nat.reduceBNe]
    refine callF hmk ⟨rfl, rfl, trivial⟩ rfl rfl ?_
    simp -implicitDefEqProofs only [push_cast, Nat.reduceBEq, Nat.reduceLT, Nat.reduceLeDiff, Nat.reduceAdd, Nat.reduceSub, Nat.reduceMul, Nat.reduceEqDiff, reduceCtorEq, ↓reduceIte, Int.reduceEq, Int.reduceLT, Int.reduceLE, Int.reduceNe, Int.reduceAdd, Int.reduceSub, Int.reduceMul, Int.reduceToNat, Nat.reduceShiftRight, Nat.reduceAnd, Nat.reduceBNe]
    exact finC rfl rfl
theorem mkTab23 {y00 y01 y02 y10 y11 y12 : Int} (h : 0 ≤ y00 ∧ 0 ≤ y01 ∧ 0 ≤ y02 ∧ 0 ≤ y10 ∧ 0 ≤ y11 ∧ 0 ≤ y12) (ht : 1 ≤ y00 + y01 + y02 + y10 + y11 + y12 ∧ y00 + y01 + y02 + y10 + y11 + y12 ≤ 20) : Tab [[y00, y01, y02], [y10, y11, y12]] := by
  refine ⟨⟨by simp, by simp⟩, ⟨by simp [wid], by simp [wid]⟩, ?_, ?_⟩
  · intro r hr
    simp only [List.mem_cons, List.not_mem_nil, or_false] at hr
    rcases hr with rfl | rfl <;> refine ⟨rfl, fun x hx => ?_⟩ <;> simp only [List.mem_cons, List.not_mem_nil, or_false] at hx <;> omega
  · simp only [totL, sumL, List.map_cons, List.map_nil]
    omega
theorem Tail23 (a b c d e f : Int) (ht : Tab [[a, b, c], [d, e, f]]) : PC Tryd.prog 27 [TT [[a, b, c], [d, e, f]]] (.tup [tailR [[a, b, c], [d, e, f]], I 0]) := by
  have hto := total_pc [[a, b, c], [d, e, f]] (by simp) (by simp)
  rw [tab_valid ht] at hto
  have hq := tab_hyp23 ht
  have hcnt := count_pc ht (by simp)
  have htot := total_pos ht
  have htot1 : 1 ≤ a + b + c + d + e + f := by have := ht.tot; simp only [totL, sumL, List.map_cons, List.map_nil] at this; omega
  have hsum := tsum_le ht
  have hmk := make_pc (tsum [[a, b, c], [d, e, f]]) (totalN [[a, b, c], [d, e, f]]) (by omega) (by omega)
  have hbound := ways_le_total ht
  have hfold := tail_fold (waysN [[a, b, c], [d, e, f]]) (allL [[a, b, c], [d, e, f]]) 0
  have hpre := tail_pre (waysN [[a, b, c], [d, e, f]]) (allL [[a, b, c], [d, e, f]]) 0 (by omega)
  rw [show (0 : Nat) + sumB (fun x => if waysN x ≤ waysN [[a, b, c], [d, e, f]] then waysN x else 0) (allL [[a, b, c], [d, e, f]]) = tsum [[a, b, c], [d, e, f]] from Nat.zero_add _] at hfold
  obtain ⟨tot, htt⟩ : ∃ n, totalN [[a, b, c], [d, e, f]] = n := ⟨_, rfl⟩
  obtain ⟨own, how⟩ : ∃ n, waysN [[a, b, c], [d, e, f]] = n := ⟨_, rfl⟩
  obtain ⟨sm, hsm⟩ : ∃ n, tsum [[a, b, c], [d, e, f]] = n := ⟨_, rfl⟩
  unfold tailR
  rw [htt, hsm] at hmk ⊢
  rw [hsm] at hfold
  rw [how] at hcnt hfold hpre
  rw [htt] at hto
  obtain ⟨q1, h1⟩ : ∃ q, sm / Nat.gcd sm tot = q := ⟨_, rfl⟩
  obtain ⟨q2, h2⟩ : ∃ q, tot / Nat.gcd sm tot = q := ⟨_, rfl⟩
  rw [h1, h2] at hmk ⊢
  rw [allL_23] at hfold hpre
  refine pc_fn hmix h27 rfl ?_
  simp -implicitDefEqProofs only [c27, push_cast, Nat.reduceBEq, Nat.reduceLT, Nat.reduceLeDiff, Nat.reduceAdd, Nat.reduceSub, Nat.reduceMul, Nat.reduceEqDiff, reduceCtorEq, ↓reduceIte, Int.reduceEq, Int.reduceLT, Int.reduceLE, Int.reduceNe, Int.reduceAdd, Int.reduceSub, Int.reduceMul, Int.reduceToNat, Nat.reduceShiftRight, Nat.reduceAnd, Nat.reduceBNe]
  refine callF hto ⟨rfl, trivial⟩ rfl rfl ?_
  simp -implicitDefEqProofs only [push_cast, Nat.reduceBEq, Nat.reduceLT, Nat.reduceLeDiff, Nat.reduceAdd, Nat.reduceSub, Nat.reduceMul, Nat.reduceEqDiff, reduceCtorEq, ↓reduceIte, Int.reduceEq, Int.reduceLT, Int.reduceLE, Int.reduceNe, Int.reduceAdd, Int.reduceSub, Int.reduceMul, Int.reduceToNat, Nat.reduceShiftRight, Nat.reduceAnd, Nat.reduceBNe]
  refine callF hcnt ⟨rfl, trivial⟩ rfl rfl ?_
  simp -implicitDefEqProofs only [push_cast, Nat.reduceBEq, Nat.reduceLT, Nat.reduceLeDiff, Nat.reduceAdd, Nat.reduceSub, Nat.reduceMul, Nat.reduceEqDiff, reduceCtorEq, ↓reduceIte, Int.reduceEq, Int.reduceLT, Int.reduceLE, Int.reduceNe, Int.reduceAdd, Int.reduceSub, Int.reduceMul, Int.reduceToNat, Nat.reduceShiftRight, Nat.reduceAnd, Nat.reduceBNe]
  refine callF (all_pc _) ⟨rfl, trivial⟩ rfl rfl ?_
  simp -implicitDefEqProofs only [push_cast, Nat.reduceBEq, Nat.reduceLT, Nat.reduceLeDiff, Nat.reduceAdd, Nat.reduceSub, Nat.reduceMul, Nat.reduceEqDiff, reduceCtorEq, ↓reduceIte, Int.reduceEq, Int.reduceLT, Int.reduceLE, Int.reduceNe, Int.reduceAdd, Int.reduceSub, Int.reduceMul, Int.reduceToNat, Nat.reduceShiftRight, Nat.reduceAnd, Nat.reduceBNe]
  refine rangeF_n rfl (fun _ h2 => h2 = tailC [[a, b, c], [d, e, f]] tot own sm) ?_ ?_
  · refine VC.mono (.fn 55) _ _ _ _ ?_ (all23 (K := 4) (k := 4) (C := tailC [[a, b, c], [d, e, f]] tot own) (upd := tailU own) (J := fun s => s ≤ 2432902008176640000) (fun _ => rfl) ?_ (by omega) ht ?_ 0 hpre)
    · intro v h' e
      rw [e, hfold]
    · intro s n hn
      simp [tailC, tailT, rowsRefs, rowRefs, refsLtL, refsLt, refsT, NatBlt]; omega
    · intro s a0 a1 c0 c1 c2 y00 y01 y02 y10 y11 y12 hJ hp hr hc
      have hJ : s ≤ 2432902008176640000 := hJ
      have hty := mkTab23 (by omega) (by omega)
      have hcy := count_pc hty (by simp)
      have hwy := ways_small hty
      obtain ⟨w, hw⟩ : ∃ w, waysN [[y00, y01, y02], [y10, y11, y12]] = w := ⟨_, rfl⟩
      have hu : tailU own s [[y00, y01, y02], [y10, y11, y12]] = if w ≤ own then s + w else s := by rw [tailU, hw]
      rw [hw] at hcy hwy
      rw [hu]
      refine vyield_trim (vyield_of_awp hmix rfl h27A0 h27B0 rfl rfl ?_)
      simp -implicitDefEqProofs only [c27A0, c27B0, tailC, tailT, L23, List.cons_append, List.nil_append, push_cast, Nat.reduceBEq, Nat.reduceLT, Nat.reduceLeDiff, Nat.reduceAdd, Nat.reduceSub, Nat.reduceMul, Nat.reduceEqDiff, reduceCtorEq, ↓reduceIte, Int.reduceEq, Int.reduceLT, Int.reduceLE, Int.reduceNe, Int.reduceAdd, Int.reduceSub, Int.reduceMul, Int.reduceToNat, Nat.reduceShiftRight, Nat.reduceAnd, Nat.reduceBNe]
      refine callB hcy ⟨⟨rfl, ⟨⟨rfl, Nat.le_refl _⟩, rfl⟩, ⟨⟨rfl, Nat.le_refl _⟩, rfl⟩, trivial⟩, trivial⟩ rfl rfl ?_
      simp -implicitDefEqProofs only [push_cast, Nat.reduceBEq, Nat.reduceLT, Nat.reduceLeDiff, Nat.reduceAdd, Nat.reduceSub, Nat.reduceMul, Nat.reduceEqDiff, reduceCtorEq, ↓reduceIte, Int.reduceEq, Int.reduceLT, Int.reduceLE, Int.reduceNe, Int.reduceAdd, Int.reduceSub, Int.reduceMul, Int.reduceToNat, Nat.reduceShiftRight, Nat.reduceAnd, Nat.reduceBNe]
      refine ⟨fun h => ⟨by simp only [inR]; omega, 13, Nat.le_refl _, rfl, ?_, ?_⟩, fun h => ⟨13, Nat.le_refl _, rfl, ?_, ?_⟩⟩
      · simp only [List.take, rowsRefs, rowRefs, refsLtL, refsLt, refsT, NatBlt]
        rfl
      · rw [if_pos (by omega)]; rfl
      · simp only [List.take, rowsRefs, rowRefs, refsLtL, refsLt, refsT, NatBlt]
        rfl
      · rw [if_neg (by omega)]; rfl
  · rintro v h2 rfl
    simp -implicitDefEqProofs only [tailC, push_cast, Nat.reduceBEq, Nat.reduceLT, Nat.reduceLeDiff, Nat.reduceAdd, Nat.reduceSub, Nat.reduceMul, Nat.reduceEqDiff, reduceCtorEq, ↓reduceIte, Int.reduceEq, Int.reduceLT, Int.reduceLE, Int.reduceNe, Int.reduceAdd, Int.reduceSub, Int.reduceMul, Int.reduceToNat, Nat.reduceShiftRight, Nat.reduceAnd, Nat.reduceBNe]
    refine callF hmk ⟨rfl, rfl, trivial⟩ rfl rfl ?_
    simp -implicitDefEqProofs only [push_cast, Nat.reduceBEq, Nat.reduceLT, Nat.reduceLeDiff, Nat.reduceAdd, Nat.reduceSub, Nat.reduceMul, Nat.reduceEqDiff, reduceCtorEq, ↓reduceIte, Int.reduceEq, Int.reduceLT, Int.reduceLE, Int.reduceNe, Int.reduceAdd, Int.reduceSub, Int.reduceMul, Int.reduceToNat, Nat.reduceShiftRight, Nat.reduceAnd, Nat.reduceBNe]
    exact finC rfl rfl
theorem mkTab32 {y00 y01 y10 y11 y20 y21 : Int} (h : 0 ≤ y00 ∧ 0 ≤ y01 ∧ 0 ≤ y10 ∧ 0 ≤ y11 ∧ 0 ≤ y20 ∧ 0 ≤ y21) (ht : 1 ≤ y00 + y01 + y10 + y11 + y20 + y21 ∧ y00 + y01 + y10 + y11 + y20 + y21 ≤ 20) : Tab [[y00, y01], [y10, y11], [y20, y21]] := by
  refine ⟨⟨by simp, by simp⟩, ⟨by simp [wid], by simp [wid]⟩, ?_, ?_⟩
  · intro r hr
    simp only [List.mem_cons, List.not_mem_nil, or_false] at hr
    rcases hr with rfl | rfl | rfl <;> refine ⟨rfl, fun x hx => ?_⟩ <;> simp only [List.mem_cons, List.not_mem_nil, or_false] at hx <;> omega
  · simp only [totL, sumL, List.map_cons, List.map_nil]
    omega
theorem Tail32 (a b c d e f : Int) (ht : Tab [[a, b], [c, d], [e, f]]) : PC Tryd.prog 27 [TT [[a, b], [c, d], [e, f]]] (.tup [tailR [[a, b], [c, d], [e, f]], I 0]) := by
  have hto := total_pc [[a, b], [c, d], [e, f]] (by simp) (by simp)
  rw [tab_valid ht] at hto
  have hq := tab_hyp32 ht
  have hcnt := count_pc ht (by simp)
  have htot := total_pos ht
  have htot1 : 1 ≤ a + b + c + d + e + f := by have := ht.tot; simp only [totL, sumL, List.map_cons, List.map_nil] at this; omega
  have hsum := tsum_le ht
  have hmk := make_pc (tsum [[a, b], [c, d], [e, f]]) (totalN [[a, b], [c, d], [e, f]]) (by omega) (by omega)
  have hbound := ways_le_total ht
  have hfold := tail_fold (waysN [[a, b], [c, d], [e, f]]) (allL [[a, b], [c, d], [e, f]]) 0
  have hpre := tail_pre (waysN [[a, b], [c, d], [e, f]]) (allL [[a, b], [c, d], [e, f]]) 0 (by omega)
  rw [show (0 : Nat) + sumB (fun x => if waysN x ≤ waysN [[a, b], [c, d], [e, f]] then waysN x else 0) (allL [[a, b], [c, d], [e, f]]) = tsum [[a, b], [c, d], [e, f]] from Nat.zero_add _] at hfold
  obtain ⟨tot, htt⟩ : ∃ n, totalN [[a, b], [c, d], [e, f]] = n := ⟨_, rfl⟩
  obtain ⟨own, how⟩ : ∃ n, waysN [[a, b], [c, d], [e, f]] = n := ⟨_, rfl⟩
  obtain ⟨sm, hsm⟩ : ∃ n, tsum [[a, b], [c, d], [e, f]] = n := ⟨_, rfl⟩
  unfold tailR
  rw [htt, hsm] at hmk ⊢
  rw [hsm] at hfold
  rw [how] at hcnt hfold hpre
  rw [htt] at hto
  obtain ⟨q1, h1⟩ : ∃ q, sm / Nat.gcd sm tot = q := ⟨_, rfl⟩
  obtain ⟨q2, h2⟩ : ∃ q, tot / Nat.gcd sm tot = q := ⟨_, rfl⟩
  rw [h1, h2] at hmk ⊢
  rw [allL_32] at hfold hpre
  refine pc_fn hmix h27 rfl ?_
  simp -implicitDefEqProofs only [c27, push_cast, Nat.reduceBEq, Nat.reduceLT, Nat.reduceLeDiff, Nat.reduceAdd, Nat.reduceSub, Nat.reduceMul, Nat.reduceEqDiff, reduceCtorEq, ↓reduceIte, Int.reduceEq, Int.reduceLT, Int.reduceLE, Int.reduceNe, Int.reduceAdd, Int.reduceSub, Int.reduceMul, Int.reduceToNat, Nat.reduceShiftRight, Nat.reduceAnd, Nat.reduceBNe]
  refine callF hto ⟨rfl, trivial⟩ rfl rfl ?_
  simp -implicitDefEqProofs only [push_cast, Nat.reduceBEq, Nat.reduceLT, Nat.reduceLeDiff, Nat.reduceAdd, Nat.reduceSub, Nat.reduceMul, Nat.reduceEqDiff, reduceCtorEq, ↓reduceIte, Int.reduceEq, Int.reduceLT, Int.reduceLE, Int.reduceNe, Int.reduceAdd, Int.reduceSub, Int.reduceMul, Int.reduceToNat, Nat.reduceShiftRight, Nat.reduceAnd, Nat.reduceBNe]
  refine callF hcnt ⟨rfl, trivial⟩ rfl rfl ?_
  simp -implicitDefEqProofs only [push_cast, Nat.reduceBEq, Nat.reduceLT, Nat.reduceLeDiff, Nat.reduceAdd, Nat.reduceSub, Nat.reduceMul, Nat.reduceEqDiff, reduceCtorEq, ↓reduceIte, Int.reduceEq, Int.reduceLT, Int.reduceLE, Int.reduceNe, Int.reduceAdd, Int.reduceSub, Int.reduceMul, Int.reduceToNat, Nat.reduceShiftRight, Nat.reduceAnd, Nat.reduceBNe]
  refine callF (all_pc _) ⟨rfl, trivial⟩ rfl rfl ?_
  simp -implicitDefEqProofs only [push_cast, Nat.reduceBEq, Nat.reduceLT, Nat.reduceLeDiff, Nat.reduceAdd, Nat.reduceSub, Nat.reduceMul, Nat.reduceEqDiff, reduceCtorEq, ↓reduceIte, Int.reduceEq, Int.reduceLT, Int.reduceLE, Int.reduceNe, Int.reduceAdd, Int.reduceSub, Int.reduceMul, Int.reduceToNat, Nat.reduceShiftRight, Nat.reduceAnd, Nat.reduceBNe]
  refine rangeF_n rfl (fun _ h2 => h2 = tailC [[a, b], [c, d], [e, f]] tot own sm) ?_ ?_
  · refine VC.mono (.fn 55) _ _ _ _ ?_ (all32 (K := 4) (k := 4) (C := tailC [[a, b], [c, d], [e, f]] tot own) (upd := tailU own) (J := fun s => s ≤ 2432902008176640000) (fun _ => rfl) ?_ (by omega) ht ?_ 0 hpre)
    · intro v h' e
      rw [e, hfold]
    · intro s n hn
      simp [tailC, tailT, rowsRefs, rowRefs, refsLtL, refsLt, refsT, NatBlt]; omega
    · intro s a0 a1 a2 c0 c1 y00 y01 y10 y11 y20 y21 hJ hp hr hc
      have hJ : s ≤ 2432902008176640000 := hJ
      have hty := mkTab32 (by omega) (by omega)
      have hcy := count_pc hty (by simp)
      have hwy := ways_small hty
      obtain ⟨w, hw⟩ : ∃ w, waysN [[y00, y01], [y10, y11], [y20, y21]] = w := ⟨_, rfl⟩
      have hu : tailU own s [[y00, y01], [y10, y11], [y20, y21]] = if w ≤ own then s + w else s := by rw [tailU, hw]
      rw [hw] at hcy hwy
      rw [hu]
      refine vyield_trim (vyield_of_awp hmix rfl h27A0 h27B0 rfl rfl ?_)
      simp -implicitDefEqProofs only [c27A0, c27B0, tailC, tailT, L32, List.cons_append, List.nil_append, push_cast, Nat.reduceBEq, Nat.reduceLT, Nat.reduceLeDiff, Nat.reduceAdd, Nat.reduceSub, Nat.reduceMul, Nat.reduceEqDiff, reduceCtorEq, ↓reduceIte, Int.reduceEq, Int.reduceLT, Int.reduceLE, Int.reduceNe, Int.reduceAdd, Int.reduceSub, Int.reduceMul, Int.reduceToNat, Nat.reduceShiftRight, Nat.reduceAnd, Nat.reduceBNe]
      refine callB hcy ⟨⟨rfl, ⟨⟨rfl, Nat.le_refl _⟩, rfl⟩, ⟨⟨rfl, Nat.le_refl _⟩, rfl⟩, ⟨⟨rfl, Nat.le_refl _⟩, rfl⟩, trivial⟩, trivial⟩ rfl rfl ?_
      simp -implicitDefEqProofs only [push_cast, Nat.reduceBEq, Nat.reduceLT, Nat.reduceLeDiff, Nat.reduceAdd, Nat.reduceSub, Nat.reduceMul, Nat.reduceEqDiff, reduceCtorEq, ↓reduceIte, Int.reduceEq, Int.reduceLT, Int.reduceLE, Int.reduceNe, Int.reduceAdd, Int.reduceSub, Int.reduceMul, Int.reduceToNat, Nat.reduceShiftRight, Nat.reduceAnd, Nat.reduceBNe]
      refine ⟨fun h => ⟨by simp only [inR]; omega, 14, Nat.le_refl _, rfl, ?_, ?_⟩, fun h => ⟨14, Nat.le_refl _, rfl, ?_, ?_⟩⟩
      · simp only [List.take, rowsRefs, rowRefs, refsLtL, refsLt, refsT, NatBlt]
        rfl
      · rw [if_pos (by omega)]; rfl
      · simp only [List.take, rowsRefs, rowRefs, refsLtL, refsLt, refsT, NatBlt]
        rfl
      · rw [if_neg (by omega)]; rfl
  · rintro v h2 rfl
    simp -implicitDefEqProofs only [tailC, push_cast, Nat.reduceBEq, Nat.reduceLT, Nat.reduceLeDiff, Nat.reduceAdd, Nat.reduceSub, Nat.reduceMul, Nat.reduceEqDiff, reduceCtorEq, ↓reduceIte, Int.reduceEq, Int.reduceLT, Int.reduceLE, Int.reduceNe, Int.reduceAdd, Int.reduceSub, Int.reduceMul, Int.reduceToNat, Nat.reduceShiftRight, Nat.reduceAnd, Nat.reduceBNe]
    refine callF hmk ⟨rfl, rfl, trivial⟩ rfl rfl ?_
    simp -implicitDefEqProofs only [push_cast, Nat.reduceBEq, Nat.reduceLT, Nat.reduceLeDiff, Nat.reduceAdd, Nat.reduceSub, Nat.reduceMul, Nat.reduceEqDiff, reduceCtorEq, ↓reduceIte, Int.reduceEq, Int.reduceLT, Int.reduceLE, Int.reduceNe, Int.reduceAdd, Int.reduceSub, Int.reduceMul, Int.reduceToNat, Nat.reduceShiftRight, Nat.reduceAnd, Nat.reduceBNe]
    exact finC rfl rfl
theorem mkTab33 {y00 y01 y02 y10 y11 y12 y20 y21 y22 : Int} (h : 0 ≤ y00 ∧ 0 ≤ y01 ∧ 0 ≤ y02 ∧ 0 ≤ y10 ∧ 0 ≤ y11 ∧ 0 ≤ y12 ∧ 0 ≤ y20 ∧ 0 ≤ y21 ∧ 0 ≤ y22) (ht : 1 ≤ y00 + y01 + y02 + y10 + y11 + y12 + y20 + y21 + y22 ∧ y00 + y01 + y02 + y10 + y11 + y12 + y20 + y21 + y22 ≤ 20) : Tab [[y00, y01, y02], [y10, y11, y12], [y20, y21, y22]] := by
  refine ⟨⟨by simp, by simp⟩, ⟨by simp [wid], by simp [wid]⟩, ?_, ?_⟩
  · intro r hr
    simp only [List.mem_cons, List.not_mem_nil, or_false] at hr
    rcases hr with rfl | rfl | rfl <;> refine ⟨rfl, fun x hx => ?_⟩ <;> simp only [List.mem_cons, List.not_mem_nil, or_false] at hx <;> omega
  · simp only [totL, sumL, List.map_cons, List.map_nil]
    omega
theorem Tail33 (a b c d e f g i j : Int) (ht : Tab [[a, b, c], [d, e, f], [g, i, j]]) : PC Tryd.prog 27 [TT [[a, b, c], [d, e, f], [g, i, j]]] (.tup [tailR [[a, b, c], [d, e, f], [g, i, j]], I 0]) := by
  have hto := total_pc [[a, b, c], [d, e, f], [g, i, j]] (by simp) (by simp)
  rw [tab_valid ht] at hto
  have hq := tab_hyp33 ht
  have hcnt := count_pc ht (by simp)
  have htot := total_pos ht
  have htot1 : 1 ≤ a + b + c + d + e + f + g + i + j := by have := ht.tot; simp only [totL, sumL, List.map_cons, List.map_nil] at this; omega
  have hsum := tsum_le ht
  have hmk := make_pc (tsum [[a, b, c], [d, e, f], [g, i, j]]) (totalN [[a, b, c], [d, e, f], [g, i, j]]) (by omega) (by omega)
  have hbound := ways_le_total ht
  have hfold := tail_fold (waysN [[a, b, c], [d, e, f], [g, i, j]]) (allL [[a, b, c], [d, e, f], [g, i, j]]) 0
  have hpre := tail_pre (waysN [[a, b, c], [d, e, f], [g, i, j]]) (allL [[a, b, c], [d, e, f], [g, i, j]]) 0 (by omega)
  rw [show (0 : Nat) + sumB (fun x => if waysN x ≤ waysN [[a, b, c], [d, e, f], [g, i, j]] then waysN x else 0) (allL [[a, b, c], [d, e, f], [g, i, j]]) = tsum [[a, b, c], [d, e, f], [g, i, j]] from Nat.zero_add _] at hfold
  obtain ⟨tot, htt⟩ : ∃ n, totalN [[a, b, c], [d, e, f], [g, i, j]] = n := ⟨_, rfl⟩
  obtain ⟨own, how⟩ : ∃ n, waysN [[a, b, c], [d, e, f], [g, i, j]] = n := ⟨_, rfl⟩
  obtain ⟨sm, hsm⟩ : ∃ n, tsum [[a, b, c], [d, e, f], [g, i, j]] = n := ⟨_, rfl⟩
  unfold tailR
  rw [htt, hsm] at hmk ⊢
  rw [hsm] at hfold
  rw [how] at hcnt hfold hpre
  rw [htt] at hto
  obtain ⟨q1, h1⟩ : ∃ q, sm / Nat.gcd sm tot = q := ⟨_, rfl⟩
  obtain ⟨q2, h2⟩ : ∃ q, tot / Nat.gcd sm tot = q := ⟨_, rfl⟩
  rw [h1, h2] at hmk ⊢
  rw [allL_33] at hfold hpre
  refine pc_fn hmix h27 rfl ?_
  simp -implicitDefEqProofs only [c27, push_cast, Nat.reduceBEq, Nat.reduceLT, Nat.reduceLeDiff, Nat.reduceAdd, Nat.reduceSub, Nat.reduceMul, Nat.reduceEqDiff, reduceCtorEq, ↓reduceIte, Int.reduceEq, Int.reduceLT, Int.reduceLE, Int.reduceNe, Int.reduceAdd, Int.reduceSub, Int.reduceMul, Int.reduceToNat, Nat.reduceShiftRight, Nat.reduceAnd, Nat.reduceBNe]
  refine callF hto ⟨rfl, trivial⟩ rfl rfl ?_
  simp -implicitDefEqProofs only [push_cast, Nat.reduceBEq, Nat.reduceLT, Nat.reduceLeDiff, Nat.reduceAdd, Nat.reduceSub, Nat.reduceMul, Nat.reduceEqDiff, reduceCtorEq, ↓reduceIte, Int.reduceEq, Int.reduceLT, Int.reduceLE, Int.reduceNe, Int.reduceAdd, Int.reduceSub, Int.reduceMul, Int.reduceToNat, Nat.reduceShiftRight, Nat.reduceAnd, Nat.reduceBNe]
  refine callF hcnt ⟨rfl, trivial⟩ rfl rfl ?_
  simp -implicitDefEqProofs only [push_cast, Nat.reduceBEq, Nat.reduceLT, Nat.reduceLeDiff, Nat.reduceAdd, Nat.reduceSub, Nat.reduceMul, Nat.reduceEqDiff, reduceCtorEq, ↓reduceIte, Int.reduceEq, Int.reduceLT, Int.reduceLE, Int.reduceNe, Int.reduceAdd, Int.reduceSub, Int.reduceMul, Int.reduceToNat, Nat.reduceShiftRight, Nat.reduceAnd, Nat.reduceBNe]
  refine callF (all_pc _) ⟨rfl, trivial⟩ rfl rfl ?_
  simp -implicitDefEqProofs only [push_cast, Nat.reduceBEq, Nat.reduceLT, Nat.reduceLeDiff, Nat.reduceAdd, Nat.reduceSub, Nat.reduceMul, Nat.reduceEqDiff, reduceCtorEq, ↓reduceIte, Int.reduceEq, Int.reduceLT, Int.reduceLE, Int.reduceNe, Int.reduceAdd, Int.reduceSub, Int.reduceMul, Int.reduceToNat, Nat.reduceShiftRight, Nat.reduceAnd, Nat.reduceBNe]
  refine rangeF_n rfl (fun _ h2 => h2 = tailC [[a, b, c], [d, e, f], [g, i, j]] tot own sm) ?_ ?_
  · refine VC.mono (.fn 55) _ _ _ _ ?_ (all33 (K := 4) (k := 4) (C := tailC [[a, b, c], [d, e, f], [g, i, j]] tot own) (upd := tailU own) (J := fun s => s ≤ 2432902008176640000) (fun _ => rfl) ?_ (by omega) ht ?_ 0 hpre)
    · intro v h' e
      rw [e, hfold]
    · intro s n hn
      simp [tailC, tailT, rowsRefs, rowRefs, refsLtL, refsLt, refsT, NatBlt]; omega
    · intro s a0 a1 a2 c0 c1 c2 y00 y01 y02 y10 y11 y12 y20 y21 y22 hJ hp hr hc
      have hJ : s ≤ 2432902008176640000 := hJ
      have hty := mkTab33 (by omega) (by omega)
      have hcy := count_pc hty (by simp)
      have hwy := ways_small hty
      obtain ⟨w, hw⟩ : ∃ w, waysN [[y00, y01, y02], [y10, y11, y12], [y20, y21, y22]] = w := ⟨_, rfl⟩
      have hu : tailU own s [[y00, y01, y02], [y10, y11, y12], [y20, y21, y22]] = if w ≤ own then s + w else s := by rw [tailU, hw]
      rw [hw] at hcy hwy
      rw [hu]
      refine vyield_trim (vyield_of_awp hmix rfl h27A0 h27B0 rfl rfl ?_)
      simp -implicitDefEqProofs only [c27A0, c27B0, tailC, tailT, L33, List.cons_append, List.nil_append, push_cast, Nat.reduceBEq, Nat.reduceLT, Nat.reduceLeDiff, Nat.reduceAdd, Nat.reduceSub, Nat.reduceMul, Nat.reduceEqDiff, reduceCtorEq, ↓reduceIte, Int.reduceEq, Int.reduceLT, Int.reduceLE, Int.reduceNe, Int.reduceAdd, Int.reduceSub, Int.reduceMul, Int.reduceToNat, Nat.reduceShiftRight, Nat.reduceAnd, Nat.reduceBNe]
      refine callB hcy ⟨⟨rfl, ⟨⟨rfl, Nat.le_refl _⟩, rfl⟩, ⟨⟨rfl, Nat.le_refl _⟩, rfl⟩, ⟨⟨rfl, Nat.le_refl _⟩, rfl⟩, trivial⟩, trivial⟩ rfl rfl ?_
      simp -implicitDefEqProofs only [push_cast, Nat.reduceBEq, Nat.reduceLT, Nat.reduceLeDiff, Nat.reduceAdd, Nat.reduceSub, Nat.reduceMul, Nat.reduceEqDiff, reduceCtorEq, ↓reduceIte, Int.reduceEq, Int.reduceLT, Int.reduceLE, Int.reduceNe, Int.reduceAdd, Int.reduceSub, Int.reduceMul, Int.reduceToNat, Nat.reduceShiftRight, Nat.reduceAnd, Nat.reduceBNe]
      refine ⟨fun h => ⟨by simp only [inR]; omega, 14, Nat.le_refl _, rfl, ?_, ?_⟩, fun h => ⟨14, Nat.le_refl _, rfl, ?_, ?_⟩⟩
      · simp only [List.take, rowsRefs, rowRefs, refsLtL, refsLt, refsT, NatBlt]
        rfl
      · rw [if_pos (by omega)]; rfl
      · simp only [List.take, rowsRefs, rowRefs, refsLtL, refsLt, refsT, NatBlt]
        rfl
      · rw [if_neg (by omega)]; rfl
  · rintro v h2 rfl
    simp -implicitDefEqProofs only [tailC, push_cast, Nat.reduceBEq, Nat.reduceLT, Nat.reduceLeDiff, Nat.reduceAdd, Nat.reduceSub, Nat.reduceMul, Nat.reduceEqDiff, reduceCtorEq, ↓reduceIte, Int.reduceEq, Int.reduceLT, Int.reduceLE, Int.reduceNe, Int.reduceAdd, Int.reduceSub, Int.reduceMul, Int.reduceToNat, Nat.reduceShiftRight, Nat.reduceAnd, Nat.reduceBNe]
    refine callF hmk ⟨rfl, rfl, trivial⟩ rfl rfl ?_
    simp -implicitDefEqProofs only [push_cast, Nat.reduceBEq, Nat.reduceLT, Nat.reduceLeDiff, Nat.reduceAdd, Nat.reduceSub, Nat.reduceMul, Nat.reduceEqDiff, reduceCtorEq, ↓reduceIte, Int.reduceEq, Int.reduceLT, Int.reduceLE, Int.reduceNe, Int.reduceAdd, Int.reduceSub, Int.reduceMul, Int.reduceToNat, Nat.reduceShiftRight, Nat.reduceAnd, Nat.reduceBNe]
    exact finC rfl rfl
theorem tail_bad (t : List (List Int)) (hl : t.length ≤ 1000) (hr : ∀ r ∈ t, r.length ≤ 1000) (hv : validB t = false) : PC Tryd.prog 27 [TT t] (.tup [.agg [I 0, I 0], I 300]) := by
  have hto := total_pc t hl hr
  rw [hv] at hto
  refine pc_fn hmix h27 rfl ?_
  simp -implicitDefEqProofs only [c27, push_cast, Nat.reduceBEq, Nat.reduceLT, Nat.reduceLeDiff, Nat.reduceAdd, Nat.reduceSub, Nat.reduceMul, Nat.reduceEqDiff, reduceCtorEq, ↓reduceIte, Int.reduceEq, Int.reduceLT, Int.reduceLE, Int.reduceNe, Int.reduceAdd, Int.reduceSub, Int.reduceMul, Int.reduceToNat, Nat.reduceShiftRight, Nat.reduceAnd, Nat.reduceBNe]
  refine callF hto ⟨rfl, trivial⟩ rfl rfl ?_
  simp -implicitDefEqProofs only [push_cast, Nat.reduceBEq, Nat.reduceLT, Nat.reduceLeDiff, Nat.reduceAdd, Nat.reduceSub, Nat.reduceMul, Nat.reduceEqDiff, reduceCtorEq, ↓reduceIte, Int.reduceEq, Int.reduceLT, Int.reduceLE, Int.reduceNe, Int.reduceAdd, Int.reduceSub, Int.reduceMul, Int.reduceToNat, Nat.reduceShiftRight, Nat.reduceAnd, Nat.reduceBNe]
  exact finC rfl rfl
theorem tail_pc {t : List (List Int)} (h : Tab t) : PC Tryd.prog 27 [TT t] (.tup [tailR t, I 0]) :=
  shapes (P := fun t => PC Tryd.prog 27 [TT t] (.tup [tailR t, I 0])) h (fun a b c d h _ => Tail22 a b c d h) (fun a b c d e f h _ => Tail23 a b c d e f h) (fun a b c d e f h _ => Tail32 a b c d e f h) (fun a b c d e f g i j h _ => Tail33 a b c d e f g i j h)
end Go.Proofs.YtligakiolapkkaaDoor

namespace Go.Proofs.YtligakiolapkkaaDoor
open Go GoV
set_option maxHeartbeats 8000000
set_option maxRecDepth 10000
set_option linter.unusedVariables false
set_option linter.unusedSimpArgs false
abbrev QA (n d : Int) : AV := .agg [I n, I d]
/-- a fraction's form -/
def okQ (n d : Int) : Prop := (1 ≤ d ∧ d ≤ 4611686018427387903) ∧ (n.natAbs ≤ 4611686018427387903 ∧ Nat.gcd n.natAbs d.toNat = 1)
instance (n d : Int) : Decidable (okQ n d) := by unfold okQ; infer_instance
theorem reduced_pc (n d : Nat) (hn : n ≤ 9223372036854775807) (hd : 1 ≤ d ∧ d ≤ 9223372036854775807) : PC Tryd.prog 29 [I n, I d] (QA (n / Nat.gcd n d : Nat) (d / Nat.gcd n d : Nat)) := by
  obtain ⟨q1, h1⟩ : ∃ q, n / Nat.gcd n d = q := ⟨_, rfl⟩
  obtain ⟨q2, h2⟩ : ∃ q, d / Nat.gcd n d = q := ⟨_, rfl⟩
  rw [h1, h2]
  refine pc_fn hmix h29 rfl ?_
  simp -implicitDefEqProofs only [c29, push_cast, Nat.reduceBEq, Nat.reduceLT, Nat.reduceLeDiff, Nat.reduceAdd, Nat.reduceSub, Nat.reduceMul, Nat.reduceEqDiff, reduceCtorEq, ↓reduceIte, Int.reduceEq, Int.reduceLT, Int.reduceLE, Int.reduceNe, Int.reduceAdd, Int.reduceSub, Int.reduceMul, Int.reduceToNat, Nat.reduceShiftRight, Nat.reduceAnd, Nat.reduceBNe]
  refine loop_w (α := Nat × Nat) (fun p => ⟨[(6, I p.2), (5, I p.1), (4, .ptr 0 0), (1, I d), (0, I n)], [.box [I 0, I 0]], []⟩) (fun p => Nat.gcd p.1 p.2 = Nat.gcd n d ∧ p.1 ≤ 9223372036854775807 ∧ p.2 ≤ 9223372036854775807) (fun p => p.2) (n, d) (wk_cut [6, 5, 4, 1, 0] 1 rfl ⟨rfl, rfl, rfl⟩ rfl) ⟨rfl, hn, hd.2⟩ ?_
  rintro ⟨x, y⟩ ⟨hg, hx, hy⟩
  cases hb : decide ((y : Int) = 0) with
  | false =>
    have hy0 : ¬ (y : Int) = 0 := of_decide_eq_false hb
    simp -implicitDefEqProofs only [c29L0, hb, push_cast, Nat.reduceBEq, Nat.reduceLT, Nat.reduceLeDiff, Nat.reduceAdd, Nat.reduceSub, Nat.reduceMul, Nat.reduceEqDiff, reduceCtorEq, ↓reduceIte, Int.reduceEq, Int.reduceLT, Int.reduceLE, Int.reduceNe, Int.reduceAdd, Int.reduceSub, Int.reduceMul, Int.reduceToNat, Nat.reduceShiftRight, Nat.reduceAnd, Nat.reduceBNe]
    refine ⟨hy0, (y, x % y), ⟨?_, hy, ?_⟩, ?_, ?_⟩
    · rw [← hg]; show Nat.gcd y (x % y) = Nat.gcd x y
      rw [Nat.gcd_comm x y, Nat.gcd_rec y x, Nat.gcd_comm]
    · exact Nat.le_trans (Nat.mod_le _ _) hx
    · exact Nat.mod_lt _ (by omega)
    · rw [show (x : Int).tmod (y : Int) = ((x % y : Nat) : Int) by rw [Int.tmod_eq_emod_of_nonneg (by omega)]; rfl]
      exact wk_c rfl ⟨rfl, rfl, rfl⟩ rfl
  | true =>
    have : y = 0 := by have := of_decide_eq_true hb; omega
    subst this
    simp only [Nat.gcd_zero_right] at hg
    have hx0 : 0 < x := by rw [hg]; exact Nat.gcd_pos_of_pos_right _ (by omega)
    rw [← hg] at h1 h2
    have e1 : (n : Int).tdiv (x : Int) = ((n / x : Nat) : Int) := by rw [Int.tdiv_eq_ediv_of_nonneg (by omega)]; rfl
    have e2 : (d : Int).tdiv (x : Int) = ((d / x : Nat) : Int) := by rw [Int.tdiv_eq_ediv_of_nonneg (by omega)]; rfl
    have hq1 : n / x ≤ n := Nat.div_le_self _ _
    have hq2 : d / x ≤ d := Nat.div_le_self _ _
    rw [h1] at e1 hq1
    rw [h2] at e2 hq2
    simp -implicitDefEqProofs only [c29L0, e1, e2, push_cast, Nat.reduceBEq, Nat.reduceLT, Nat.reduceLeDiff, Nat.reduceAdd, Nat.reduceSub, Nat.reduceMul, Nat.reduceEqDiff, reduceCtorEq, ↓reduceIte, Int.reduceEq, Int.reduceLT, Int.reduceLE, Int.reduceNe, Int.reduceAdd, Int.reduceSub, Int.reduceMul, Int.reduceToNat, Nat.reduceShiftRight, Nat.reduceAnd, Nat.reduceBNe]
    refine ⟨⟨by omega, by simp only [inR]; omega⟩, ⟨by omega, by simp only [inR]; omega⟩, ?_⟩
    exact finC rfl rfl
theorem fcheck_pc (n d : Int) (hn : i63 n) (hd : i63 d) : PC Tryd.prog 49 [QA n d] (I (if okQ n d then 0 else 5)) := by
  have hs := size_pc n hn
  obtain ⟨m, hm⟩ : ∃ m, n.natAbs = m := ⟨_, rfl⟩
  have hok : okQ n d = ((1 ≤ d ∧ d ≤ 4611686018427387903) ∧ (m ≤ 4611686018427387903 ∧ Nat.gcd m d.toNat = 1)) := by unfold okQ; rw [hm]
  rw [hm] at hs
  simp only [i63] at hn hd
  by_cases h1 : d < 1
  · have e1 : decide (d < 1) = true := decide_eq_true h1
    rw [if_neg (by rw [hok]; omega)]
    refine pc_fn hmix h49 rfl ?_
    simp -implicitDefEqProofs only [c49, e1, push_cast, Nat.reduceBEq, Nat.reduceLT, Nat.reduceLeDiff, Nat.reduceAdd, Nat.reduceSub, Nat.reduceMul, Nat.reduceEqDiff, reduceCtorEq, ↓reduceIte, Int.reduceEq, Int.reduceLT, Int.reduceLE, Int.reduceNe, Int.reduceAdd, Int.reduceSub, Int.reduceMul, Int.reduceToNat, Nat.reduceShiftRight, Nat.reduceAnd, Nat.reduceBNe]
    exact finC rfl rfl
  have e1 : decide (d < 1) = false := decide_eq_false h1
  by_cases h2 : 4611686018427387903 < d
  · have e2 : decide (4611686018427387903 < d) = true := decide_eq_true h2
    rw [if_neg (by rw [hok]; omega)]
    refine pc_fn hmix h49 rfl ?_
    simp -implicitDefEqProofs only [c49, e1, e2, push_cast, Nat.reduceBEq, Nat.reduceLT, Nat.reduceLeDiff, Nat.reduceAdd, Nat.reduceSub, Nat.reduceMul, Nat.reduceEqDiff, reduceCtorEq, ↓reduceIte, Int.reduceEq, Int.reduceLT, Int.reduceLE, Int.reduceNe, Int.reduceAdd, Int.reduceSub, Int.reduceMul, Int.reduceToNat, Nat.reduceShiftRight, Nat.reduceAnd, Nat.reduceBNe]
    exact finC rfl rfl
  have e2 : decide (4611686018427387903 < d) = false := decide_eq_false h2
  by_cases h3 : (4611686018427387903 : Int) < (m : Int)
  · have e3 : decide ((4611686018427387903 : Int) < (m : Int)) = true := decide_eq_true h3
    rw [if_neg (by rw [hok]; omega)]
    refine pc_fn hmix h49 rfl ?_
    simp -implicitDefEqProofs only [c49, e1, e2, push_cast, Nat.reduceBEq, Nat.reduceLT, Nat.reduceLeDiff, Nat.reduceAdd, Nat.reduceSub, Nat.reduceMul, Nat.reduceEqDiff, reduceCtorEq, ↓reduceIte, Int.reduceEq, Int.reduceLT, Int.reduceLE, Int.reduceNe, Int.reduceAdd, Int.reduceSub, Int.reduceMul, Int.reduceToNat, Nat.reduceShiftRight, Nat.reduceAnd, Nat.reduceBNe]
    refine ppF hs ⟨rfl, trivial⟩ rfl rfl ?_
    simp -implicitDefEqProofs only [e3, push_cast, Nat.reduceBEq, Nat.reduceLT, Nat.reduceLeDiff, Nat.reduceAdd, Nat.reduceSub, Nat.reduceMul, Nat.reduceEqDiff, reduceCtorEq, ↓reduceIte, Int.reduceEq, Int.reduceLT, Int.reduceLE, Int.reduceNe, Int.reduceAdd, Int.reduceSub, Int.reduceMul, Int.reduceToNat, Nat.reduceShiftRight, Nat.reduceAnd, Nat.reduceBNe]
    exact finC rfl rfl
  have e3 : decide ((4611686018427387903 : Int) < (m : Int)) = false := decide_eq_false h3
  have hg := gcd_pc m d.toNat (by omega) (by omega)
  rw [Int.toNat_of_nonneg (by omega)] at hg
  have ed : d % 18446744073709551616 = d := by omega
  by_cases h4 : Nat.gcd m d.toNat = 1
  · have e4 : decide (((Nat.gcd m d.toNat : Nat) : Int) = 1) = true := decide_eq_true (by omega)
    rw [if_pos (by rw [hok]; omega)]
    refine pc_fn hmix h49 rfl ?_
    simp -implicitDefEqProofs only [c49, e1, e2, push_cast, Nat.reduceBEq, Nat.reduceLT, Nat.reduceLeDiff, Nat.reduceAdd, Nat.reduceSub, Nat.reduceMul, Nat.reduceEqDiff, reduceCtorEq, ↓reduceIte, Int.reduceEq, Int.reduceLT, Int.reduceLE, Int.reduceNe, Int.reduceAdd, Int.reduceSub, Int.reduceMul, Int.reduceToNat, Nat.reduceShiftRight, Nat.reduceAnd, Nat.reduceBNe]
    refine ppF hs ⟨rfl, trivial⟩ rfl rfl ?_
    simp -implicitDefEqProofs only [e3, push_cast, Nat.reduceBEq, Nat.reduceLT, Nat.reduceLeDiff, Nat.reduceAdd, Nat.reduceSub, Nat.reduceMul, Nat.reduceEqDiff, reduceCtorEq, ↓reduceIte, Int.reduceEq, Int.reduceLT, Int.reduceLE, Int.reduceNe, Int.reduceAdd, Int.reduceSub, Int.reduceMul, Int.reduceToNat, Nat.reduceShiftRight, Nat.reduceAnd, Nat.reduceBNe]
    refine ppF hs ⟨rfl, trivial⟩ rfl rfl ?_
    simp -implicitDefEqProofs only [ed, push_cast, Nat.reduceBEq, Nat.reduceLT, Nat.reduceLeDiff, Nat.reduceAdd, Nat.reduceSub, Nat.reduceMul, Nat.reduceEqDiff, reduceCtorEq, ↓reduceIte, Int.reduceEq, Int.reduceLT, Int.reduceLE, Int.reduceNe, Int.reduceAdd, Int.reduceSub, Int.reduceMul, Int.reduceToNat, Nat.reduceShiftRight, Nat.reduceAnd, Nat.reduceBNe]
    refine ppF hg ⟨rfl, rfl, trivial⟩ rfl rfl ?_
    simp -implicitDefEqProofs only [e4, push_cast, Nat.reduceBEq, Nat.reduceLT, Nat.reduceLeDiff, Nat.reduceAdd, Nat.reduceSub, Nat.reduceMul, Nat.reduceEqDiff, reduceCtorEq, ↓reduceIte, Int.reduceEq, Int.reduceLT, Int.reduceLE, Int.reduceNe, Int.reduceAdd, Int.reduceSub, Int.reduceMul, Int.reduceToNat, Nat.reduceShiftRight, Nat.reduceAnd, Nat.reduceBNe]
    exact finC rfl rfl
  · have e4 : decide (((Nat.gcd m d.toNat : Nat) : Int) = 1) = false := decide_eq_false (by omega)
    rw [if_neg (by rw [hok]; omega)]
    refine pc_fn hmix h49 rfl ?_
    simp -implicitDefEqProofs only [c49, e1, e2, push_cast, Nat.reduceBEq, Nat.reduceLT, Nat.reduceLeDiff, Nat.reduceAdd, Nat.reduceSub, Nat.reduceMul, Nat.reduceEqDiff, reduceCtorEq, ↓reduceIte, Int.reduceEq, Int.reduceLT, Int.reduceLE, Int.reduceNe, Int.reduceAdd, Int.reduceSub, Int.reduceMul, Int.reduceToNat, Nat.reduceShiftRight, Nat.reduceAnd, Nat.reduceBNe]
    refine ppF hs ⟨rfl, trivial⟩ rfl rfl ?_
    simp -implicitDefEqProofs only [e3, push_cast, Nat.reduceBEq, Nat.reduceLT, Nat.reduceLeDiff, Nat.reduceAdd, Nat.reduceSub, Nat.reduceMul, Nat.reduceEqDiff, reduceCtorEq, ↓reduceIte, Int.reduceEq, Int.reduceLT, Int.reduceLE, Int.reduceNe, Int.reduceAdd, Int.reduceSub, Int.reduceMul, Int.reduceToNat, Nat.reduceShiftRight, Nat.reduceAnd, Nat.reduceBNe]
    refine ppF hs ⟨rfl, trivial⟩ rfl rfl ?_
    simp -implicitDefEqProofs only [ed, push_cast, Nat.reduceBEq, Nat.reduceLT, Nat.reduceLeDiff, Nat.reduceAdd, Nat.reduceSub, Nat.reduceMul, Nat.reduceEqDiff, reduceCtorEq, ↓reduceIte, Int.reduceEq, Int.reduceLT, Int.reduceLE, Int.reduceNe, Int.reduceAdd, Int.reduceSub, Int.reduceMul, Int.reduceToNat, Nat.reduceShiftRight, Nat.reduceAnd, Nat.reduceBNe]
    refine ppF hg ⟨rfl, rfl, trivial⟩ rfl rfl ?_
    simp -implicitDefEqProofs only [e4, push_cast, Nat.reduceBEq, Nat.reduceLT, Nat.reduceLeDiff, Nat.reduceAdd, Nat.reduceSub, Nat.reduceMul, Nat.reduceEqDiff, reduceCtorEq, ↓reduceIte, Int.reduceEq, Int.reduceLT, Int.reduceLE, Int.reduceNe, Int.reduceAdd, Int.reduceSub, Int.reduceMul, Int.reduceToNat, Nat.reduceShiftRight, Nat.reduceAnd, Nat.reduceBNe]
    exact finC rfl rfl
def lev (n d : Int) : Int := if okQ n d then (if n < 0 ∨ d < n then 2 else 0) else 5
end Go.Proofs.YtligakiolapkkaaDoor

namespace Go.Proofs.YtligakiolapkkaaDoor
open Go GoV
set_option maxHeartbeats 8000000
set_option maxRecDepth 10000
set_option linter.unusedVariables false
set_option linter.unusedSimpArgs false
theorem mul64_pc (a b : Nat) (ha : a < 18446744073709551616) (hb : b < 18446744073709551616) : PC Tryd.prog 70 [U a, U b] (.tup [U (a * b / 18446744073709551616 : Nat), U (a * b % 18446744073709551616 : Nat)]) := by
  obtain ⟨hi, hhi⟩ : ∃ x, a * b / 18446744073709551616 = x := ⟨_, rfl⟩
  obtain ⟨lo, hlo⟩ : ∃ x, a * b % 18446744073709551616 = x := ⟨_, rfl⟩
  rw [hhi, hlo]
  have m1 : ∀ x : Nat, x &&& 4294967295 = x % 4294967296 := fun x => Nat.and_two_pow_sub_one_eq_mod x 32
  obtain ⟨x0, hx0⟩ : ∃ x, a % 4294967296 = x := ⟨_, rfl⟩
  obtain ⟨x1, hx1⟩ : ∃ x, a / 4294967296 = x := ⟨_, rfl⟩
  obtain ⟨y0, hy0⟩ : ∃ x, b % 4294967296 = x := ⟨_, rfl⟩
  obtain ⟨y1, hy1⟩ : ∃ x, b / 4294967296 = x := ⟨_, rfl⟩
  have bx0 : x0 < 4294967296 := by omega
  have bx1 : x1 < 4294967296 := by omega
  have by0 : y0 < 4294967296 := by omega
  have by1 : y1 < 4294967296 := by omega
  have ea : a = 4294967296 * x1 + x0 := by omega
  have eb : b = 4294967296 * y1 + y0 := by omega
  have ex1 : (a : Int) / 2 ^ 32 = (x1 : Int) := by rw [← hx1]; simp
  have ey1 : (b : Int) / 2 ^ 32 = (y1 : Int) := by rw [← hy1]; simp
  have ma : a &&& 4294967295 = x0 := (m1 a).trans hx0
  have mb : b &&& 4294967295 = y0 := (m1 b).trans hy0
  have e0 : (4294967295 : Int).toNat = 4294967295 := rfl
  have e32 : (32 : Int).toNat = 32 := rfl
  have hb0 : ∀ x y : Nat, x < 4294967296 → y < 4294967296 → x * y ≤ 18446744065119617025 := fun x y h1 h2 => Nat.mul_le_mul (Nat.le_of_lt_succ h1 : x ≤ 4294967295) (Nat.le_of_lt_succ h2 : y ≤ 4294967295)
  have h00 := hb0 x0 y0 bx0 by0
  have h01 := hb0 x0 y1 bx0 by1
  have h10 := hb0 x1 y0 bx1 by0
  have h11 := hb0 x1 y1 bx1 by1
  have hab : a * b = 4294967296 * (4294967296 * (x1 * y1)) + 4294967296 * (x0 * y1) + (4294967296 * (x1 * y0) + x0 * y0) := by
    rw [ea, eb, Nat.mul_add, Nat.add_mul, Nat.add_mul, Nat.mul_assoc 4294967296 x1 (4294967296 * y1), Nat.mul_left_comm x1 4294967296 y1, Nat.mul_left_comm x0 4294967296 y1, Nat.mul_assoc 4294967296 x1 y0]
  have c00 : (x0 : Int) * (y0 : Int) = ((x0 * y0 : Nat) : Int) := rfl
  have c01 : (x0 : Int) * (y1 : Int) = ((x0 * y1 : Nat) : Int) := rfl
  have c10 : (x1 : Int) * (y0 : Int) = ((x1 * y0 : Nat) : Int) := rfl
  have c11 : (x1 : Int) * (y1 : Int) = ((x1 * y1 : Nat) : Int) := rfl
  have cab : (a : Int) * (b : Int) = ((a * b : Nat) : Int) := rfl
  obtain ⟨p00, k00⟩ : ∃ p, x0 * y0 = p := ⟨_, rfl⟩
  obtain ⟨p01, k01⟩ : ∃ p, x0 * y1 = p := ⟨_, rfl⟩
  obtain ⟨p10, k10⟩ : ∃ p, x1 * y0 = p := ⟨_, rfl⟩
  obtain ⟨p11, k11⟩ : ∃ p, x1 * y1 = p := ⟨_, rfl⟩
  obtain ⟨ab, kab⟩ : ∃ p, a * b = p := ⟨_, rfl⟩
  rw [k00] at c00 h00 hab
  rw [k01] at c01 h01 hab
  rw [k10] at c10 h10 hab
  rw [k11] at c11 h11 hab
  rw [kab] at cab hab hhi hlo
  have p32 : ∀ z : Int, z / 2 ^ 32 = z / 4294967296 := fun z => rfl
  have f00 : (x0 : Int) * (y0 : Int) % 18446744073709551616 = p00 := by rw [c00]; omega
  have f01 : (x0 : Int) * (y1 : Int) % 18446744073709551616 = p01 := by rw [c01]; omega
  have f10 : (x1 : Int) * (y0 : Int) % 18446744073709551616 = p10 := by rw [c10]; omega
  have f11 : (x1 : Int) * (y1 : Int) % 18446744073709551616 = p11 := by rw [c11]; omega
  have fab : (a : Int) * (b : Int) % 18446744073709551616 = lo := by rw [cab]; omega
  obtain ⟨t, ht⟩ : ∃ t : Nat, (p10 : Int) + (p00 : Int) / 2 ^ 32 = t := ⟨p10 + p00 / 4294967296, by rw [p32]; omega⟩
  obtain ⟨w, hw⟩ : ∃ w : Nat, (((t &&& 4294967295 : Nat) : Int) + (p01 : Int)) = w ∧ w = t % 4294967296 + p01 := ⟨t % 4294967296 + p01, by rw [m1]; omega, rfl⟩
  have ht2 : (t : Int) = p10 + (p00 : Int) / 4294967296 := by rw [← p32, ht]
  have hz : (p11 : Int) + (t : Int) / 2 ^ 32 + (w : Int) / 2 ^ 32 = hi := by rw [p32, p32]; omega
  refine pc_fn hmix h70 rfl ?_
  simp -implicitDefEqProofs only [c70, e0, e32, ma, mb, ex1, ey1, f00, f01, f10, f11, fab, ht, hw.1, hz, push_cast, Nat.reduceBEq, Nat.reduceLT, Nat.reduceLeDiff, Nat.reduceAdd, Nat.reduceSub, Nat.reduceMul, Nat.reduceEqDiff, reduceCtorEq, ↓reduceIte, Int.reduceEq, Int.reduceLT, Int.reduceLE, Int.reduceNe, Int.reduceAdd, Int.reduceSub, Int.reduceMul, Int.reduceToNat, Nat.reduceShiftRight, Nat.reduceAnd, Nat.reduceBNe]
  refine ⟨⟨⟨by omega, by simp only [inR]; omega⟩, by simp only [inR]; omega⟩, by simp only [IntKind.bits]; omega, ⟨⟨by omega, by simp only [inR]; omega⟩, by simp only [inR]; omega⟩, by simp only [IntKind.bits]; omega, by simp only [IntKind.bits]; omega, by simp only [inR]; omega, ⟨⟨by omega, by simp only [inR]; omega⟩, by simp only [inR]; omega⟩, by simp only [IntKind.bits]; omega, by simp only [inR]; omega, ?_, by simp only [IntKind.bits]; omega, ?_, ?_⟩
  · rw [p32]; simp only [inR]; omega
  · simp only [inR]; omega
  · exact finC rfl rfl
end Go.Proofs.YtligakiolapkkaaDoor

namespace Go.Proofs.YtligakiolapkkaaDoor
open Go GoV
set_option maxHeartbeats 8000000
set_option maxRecDepth 10000
set_option linter.unusedVariables false
set_option linter.unusedSimpArgs false
theorem times_pc (a b : Nat) (ha : a < 18446744073709551616) (hb : b < 18446744073709551616) : PC Tryd.prog 65 [U a, U b] (W2 (a * b / 18446744073709551616 : Nat) (a * b % 18446744073709551616 : Nat)) := by
  have h := mul64_pc a b ha hb
  obtain ⟨hi, hhi⟩ : ∃ x, a * b / 18446744073709551616 = x := ⟨_, rfl⟩
  obtain ⟨lo, hlo⟩ : ∃ x, a * b % 18446744073709551616 = x := ⟨_, rfl⟩
  rw [hhi, hlo] at h ⊢
  refine pc_fn hmix h65 rfl ?_
  simp -implicitDefEqProofs only [c65, push_cast, Nat.reduceBEq, Nat.reduceLT, Nat.reduceLeDiff, Nat.reduceAdd, Nat.reduceSub, Nat.reduceMul, Nat.reduceEqDiff, reduceCtorEq, ↓reduceIte, Int.reduceEq, Int.reduceLT, Int.reduceLE, Int.reduceNe, Int.reduceAdd, Int.reduceSub, Int.reduceMul, Int.reduceToNat, Nat.reduceShiftRight, Nat.reduceAnd, Nat.reduceBNe]
  refine callF h ⟨rfl, rfl, trivial⟩ rfl rfl ?_
  simp -implicitDefEqProofs only [push_cast, Nat.reduceBEq, Nat.reduceLT, Nat.reduceLeDiff, Nat.reduceAdd, Nat.reduceSub, Nat.reduceMul, Nat.reduceEqDiff, reduceCtorEq, ↓reduceIte, Int.reduceEq, Int.reduceLT, Int.reduceLE, Int.reduceNe, Int.reduceAdd, Int.reduceSub, Int.reduceMul, Int.reduceToNat, Nat.reduceShiftRight, Nat.reduceAnd, Nat.reduceBNe]
  exact finC rfl rfl
def cmpQ (an ad bn bd : Nat) : Int := if an = bn ∧ ad = bd then 0 else if an * bd < bn * ad then -1 else 1
theorem cmp1_pc (an ad bn bd : Nat) (h1 : an < 9223372036854775808) (h2 : ad < 9223372036854775808) (h3 : bn < 9223372036854775808) (h4 : bd < 9223372036854775808) : PC Tryd.prog 64 [QA an ad, QA bn bd] (.tup [I (cmpQ an ad bn bd), I 0]) := by
  have s1 := size_pc an (by simp only [i63]; omega)
  have s2 := size_pc bn (by simp only [i63]; omega)
  rw [Int.natAbs_natCast] at s1 s2
  have t1 := times_pc an bd (by omega) (by omega)
  have t2 := times_pc bn ad (by omega) (by omega)
  have hc : cmpQ an ad bn bd = if an = bn ∧ ad = bd then 0 else if an * bd < bn * ad then -1 else 1 := rfl
  obtain ⟨p, hp⟩ : ∃ x, an * bd = x := ⟨_, rfl⟩
  obtain ⟨q, hq⟩ : ∃ x, bn * ad = x := ⟨_, rfl⟩
  rw [hp] at t1 hc
  rw [hq] at t2 hc
  have hl := less_pc (p / 18446744073709551616 : Nat) (p % 18446744073709551616 : Nat) (q / 18446744073709551616 : Nat) (q % 18446744073709551616 : Nat)
  rw [show decide (((p / 18446744073709551616 : Nat) : Int) < ((q / 18446744073709551616 : Nat) : Int) ∨ ((p / 18446744073709551616 : Nat) : Int) = ((q / 18446744073709551616 : Nat) : Int) ∧ ((p % 18446744073709551616 : Nat) : Int) < ((q % 18446744073709551616 : Nat) : Int)) = decide (p < q) by
    rw [decide_eq_decide]; omega] at hl
  obtain ⟨p1, e1⟩ : ∃ x, p / 18446744073709551616 = x := ⟨_, rfl⟩
  obtain ⟨p0, e2⟩ : ∃ x, p % 18446744073709551616 = x := ⟨_, rfl⟩
  obtain ⟨q1, e3⟩ : ∃ x, q / 18446744073709551616 = x := ⟨_, rfl⟩
  obtain ⟨q0, e4⟩ : ∃ x, q % 18446744073709551616 = x := ⟨_, rfl⟩
  rw [e1, e2] at t1 hl
  rw [e3, e4] at t2 hl
  have ead : (ad : Int) % 18446744073709551616 = ad := by omega
  have ebd : (bd : Int) % 18446744073709551616 = bd := by omega
  have g1 : decide ((an : Int) < 0) = false := decide_eq_false (by omega)
  have g2 : decide (0 ≤ (an : Int)) = true := decide_eq_true (by omega)
  have g3 : decide (0 ≤ (bn : Int)) = true := decide_eq_true (by omega)
  obtain ⟨r, hr⟩ : ∃ r, cmpQ an ad bn bd = r := ⟨_, rfl⟩
  rw [hr] at hc ⊢
  by_cases hE : an = bn ∧ ad = bd
  · rw [if_pos hE] at hc
    subst hc
    obtain ⟨rfl, rfl⟩ := hE
    refine pc_fn hmix h64 rfl ?_
    simp (config := {maxSteps := 400000}) -implicitDefEqProofs only [c64, g1, g2, push_cast, Nat.reduceBEq, Nat.reduceLT, Nat.reduceLeDiff, Nat.reduceAdd, Nat.reduceSub, Nat.reduceMul, Nat.reduceEqDiff, reduceCtorEq, ↓reduceIte, Int.reduceEq, Int.reduceLT, Int.reduceLE, Int.reduceNe, Int.reduceAdd, Int.reduceSub, Int.reduceMul, Int.reduceToNat, Nat.reduceShiftRight, Nat.reduceAnd, Nat.reduceBNe]
    refine qqF s1 ⟨rfl, trivial⟩ rfl rfl ?_
    simp (config := {maxSteps := 400000}) -implicitDefEqProofs only [ebd, g1, g2, beq_self_eq_true, push_cast, Nat.reduceBEq, Nat.reduceLT, Nat.reduceLeDiff, Nat.reduceAdd, Nat.reduceSub, Nat.reduceMul, Nat.reduceEqDiff, reduceCtorEq, ↓reduceIte, Int.reduceEq, Int.reduceLT, Int.reduceLE, Int.reduceNe, Int.reduceAdd, Int.reduceSub, Int.reduceMul, Int.reduceToNat, Nat.reduceShiftRight, Nat.reduceAnd, Nat.reduceBNe]
    refine qqF t1 ⟨rfl, rfl, trivial⟩ rfl rfl ?_
    simp (config := {maxSteps := 400000}) -implicitDefEqProofs only [g1, g2, beq_self_eq_true, push_cast, Nat.reduceBEq, Nat.reduceLT, Nat.reduceLeDiff, Nat.reduceAdd, Nat.reduceSub, Nat.reduceMul, Nat.reduceEqDiff, reduceCtorEq, ↓reduceIte, Int.reduceEq, Int.reduceLT, Int.reduceLE, Int.reduceNe, Int.reduceAdd, Int.reduceSub, Int.reduceMul, Int.reduceToNat, Nat.reduceShiftRight, Nat.reduceAnd, Nat.reduceBNe]
    refine qqF s2 ⟨rfl, trivial⟩ rfl rfl ?_
    simp (config := {maxSteps := 400000}) -implicitDefEqProofs only [ead, g1, g2, beq_self_eq_true, push_cast, Nat.reduceBEq, Nat.reduceLT, Nat.reduceLeDiff, Nat.reduceAdd, Nat.reduceSub, Nat.reduceMul, Nat.reduceEqDiff, reduceCtorEq, ↓reduceIte, Int.reduceEq, Int.reduceLT, Int.reduceLE, Int.reduceNe, Int.reduceAdd, Int.reduceSub, Int.reduceMul, Int.reduceToNat, Nat.reduceShiftRight, Nat.reduceAnd, Nat.reduceBNe]
    refine qqF t2 ⟨rfl, rfl, trivial⟩ rfl rfl ?_
    simp (config := {maxSteps := 400000}) -implicitDefEqProofs only [g1, g2, beq_self_eq_true, push_cast, Nat.reduceBEq, Nat.reduceLT, Nat.reduceLeDiff, Nat.reduceAdd, Nat.reduceSub, Nat.reduceMul, Nat.reduceEqDiff, reduceCtorEq, ↓reduceIte, Int.reduceEq, Int.reduceLT, Int.reduceLE, Int.reduceNe, Int.reduceAdd, Int.reduceSub, Int.reduceMul, Int.reduceToNat, Nat.reduceShiftRight, Nat.reduceAnd, Nat.reduceBNe]
    exact finC rfl rfl
  · rw [if_neg hE] at hc
    by_cases hpq : p < q
    · rw [if_pos hpq] at hc
      rw [decide_eq_true hpq] at hl
      subst hc
      by_cases hA : (an : Int) = (bn : Int)
      · have k1 : decide ((an : Int) = (bn : Int)) = true := decide_eq_true hA
        have k2 : decide ((ad : Int) = (bd : Int)) = false := decide_eq_false (by omega)
        refine pc_fn hmix h64 rfl ?_
        simp (config := {maxSteps := 400000}) -implicitDefEqProofs only [c64, g1, g2, g3, k1, k2, Bool.and_self, push_cast, Nat.reduceBEq, Nat.reduceLT, Nat.reduceLeDiff, Nat.reduceAdd, Nat.reduceSub, Nat.reduceMul, Nat.reduceEqDiff, reduceCtorEq, ↓reduceIte, Int.reduceEq, Int.reduceLT, Int.reduceLE, Int.reduceNe, Int.reduceAdd, Int.reduceSub, Int.reduceMul, Int.reduceToNat, Nat.reduceShiftRight, Nat.reduceAnd, Nat.reduceBNe]
        refine qqF s1 ⟨rfl, trivial⟩ rfl rfl ?_
        simp (config := {maxSteps := 400000}) -implicitDefEqProofs only [ebd, g1, g2, g3, k1, k2, Bool.and_self, push_cast, Nat.reduceBEq, Nat.reduceLT, Nat.reduceLeDiff, Nat.reduceAdd, Nat.reduceSub, Nat.reduceMul, Nat.reduceEqDiff, reduceCtorEq, ↓reduceIte, Int.reduceEq, Int.reduceLT, Int.reduceLE, Int.reduceNe, Int.reduceAdd, Int.reduceSub, Int.reduceMul, Int.reduceToNat, Nat.reduceShiftRight, Nat.reduceAnd, Nat.reduceBNe]
        refine qqF t1 ⟨rfl, rfl, trivial⟩ rfl rfl ?_
        simp (config := {maxSteps := 400000}) -implicitDefEqProofs only [g1, g2, g3, k1, k2, Bool.and_self, push_cast, Nat.reduceBEq, Nat.reduceLT, Nat.reduceLeDiff, Nat.reduceAdd, Nat.reduceSub, Nat.reduceMul, Nat.reduceEqDiff, reduceCtorEq, ↓reduceIte, Int.reduceEq, Int.reduceLT, Int.reduceLE, Int.reduceNe, Int.reduceAdd, Int.reduceSub, Int.reduceMul, Int.reduceToNat, Nat.reduceShiftRight, Nat.reduceAnd, Nat.reduceBNe]
        refine qqF s2 ⟨rfl, trivial⟩ rfl rfl ?_
        simp (config := {maxSteps := 400000}) -implicitDefEqProofs only [ead, g1, g2, g3, k1, k2, Bool.and_self, push_cast, Nat.reduceBEq, Nat.reduceLT, Nat.reduceLeDiff, Nat.reduceAdd, Nat.reduceSub, Nat.reduceMul, Nat.reduceEqDiff, reduceCtorEq, ↓reduceIte, Int.reduceEq, Int.reduceLT, Int.reduceLE, Int.reduceNe, Int.reduceAdd, Int.reduceSub, Int.reduceMul, Int.reduceToNat, Nat.reduceShiftRight, Nat.reduceAnd, Nat.reduceBNe]
        refine qqF t2 ⟨rfl, rfl, trivial⟩ rfl rfl ?_
        simp (config := {maxSteps := 400000}) -implicitDefEqProofs only [g1, g2, g3, k1, k2, Bool.and_self, push_cast, Nat.reduceBEq, Nat.reduceLT, Nat.reduceLeDiff, Nat.reduceAdd, Nat.reduceSub, Nat.reduceMul, Nat.reduceEqDiff, reduceCtorEq, ↓reduceIte, Int.reduceEq, Int.reduceLT, Int.reduceLE, Int.reduceNe, Int.reduceAdd, Int.reduceSub, Int.reduceMul, Int.reduceToNat, Nat.reduceShiftRight, Nat.reduceAnd, Nat.reduceBNe]
        refine callF hl ⟨⟨rfl, rfl⟩, ⟨rfl, rfl⟩, trivial⟩ rfl rfl ?_
        simp (config := {maxSteps := 400000}) -implicitDefEqProofs only [g1, g2, g3, k1, k2, Bool.and_self, push_cast, Nat.reduceBEq, Nat.reduceLT, Nat.reduceLeDiff, Nat.reduceAdd, Nat.reduceSub, Nat.reduceMul, Nat.reduceEqDiff, reduceCtorEq, ↓reduceIte, Int.reduceEq, Int.reduceLT, Int.reduceLE, Int.reduceNe, Int.reduceAdd, Int.reduceSub, Int.reduceMul, Int.reduceToNat, Nat.reduceShiftRight, Nat.reduceAnd, Nat.reduceBNe]
        exact finC rfl rfl
      · have k1 : decide ((an : Int) = (bn : Int)) = false := decide_eq_false hA
        by_cases hB : (ad : Int) = (bd : Int)
        · have k2 : decide ((ad : Int) = (bd : Int)) = true := decide_eq_true hB
          refine pc_fn hmix h64 rfl ?_
          simp (config := {maxSteps := 400000}) -implicitDefEqProofs only [c64, g1, g2, g3, k1, k2, Bool.and_self, push_cast, Nat.reduceBEq, Nat.reduceLT, Nat.reduceLeDiff, Nat.reduceAdd, Nat.reduceSub, Nat.reduceMul, Nat.reduceEqDiff, reduceCtorEq, ↓reduceIte, Int.reduceEq, Int.reduceLT, Int.reduceLE, Int.reduceNe, Int.reduceAdd, Int.reduceSub, Int.reduceMul, Int.reduceToNat, Nat.reduceShiftRight, Nat.reduceAnd, Nat.reduceBNe]
          refine qqF s1 ⟨rfl, trivial⟩ rfl rfl ?_
          simp (config := {maxSteps := 400000}) -implicitDefEqProofs only [ebd, g1, g2, g3, k1, k2, Bool.and_self, push_cast, Nat.reduceBEq, Nat.reduceLT, Nat.reduceLeDiff, Nat.reduceAdd, Nat.reduceSub, Nat.reduceMul, Nat.reduceEqDiff, reduceCtorEq, ↓reduceIte, Int.reduceEq, Int.reduceLT, Int.reduceLE, Int.reduceNe, Int.reduceAdd, Int.reduceSub, Int.reduceMul, Int.reduceToNat, Nat.reduceShiftRight, Nat.reduceAnd, Nat.reduceBNe]
          refine qqF t1 ⟨rfl, rfl, trivial⟩ rfl rfl ?_
          simp (config := {maxSteps := 400000}) -implicitDefEqProofs only [g1, g2, g3, k1, k2, Bool.and_self, push_cast, Nat.reduceBEq, Nat.reduceLT, Nat.reduceLeDiff, Nat.reduceAdd, Nat.reduceSub, Nat.reduceMul, Nat.reduceEqDiff, reduceCtorEq, ↓reduceIte, Int.reduceEq, Int.reduceLT, Int.reduceLE, Int.reduceNe, Int.reduceAdd, Int.reduceSub, Int.reduceMul, Int.reduceToNat, Nat.reduceShiftRight, Nat.reduceAnd, Nat.reduceBNe]
          refine qqF s2 ⟨rfl, trivial⟩ rfl rfl ?_
          simp (config := {maxSteps := 400000}) -implicitDefEqProofs only [ead, g1, g2, g3, k1, k2, Bool.and_self, push_cast, Nat.reduceBEq, Nat.reduceLT, Nat.reduceLeDiff, Nat.reduceAdd, Nat.reduceSub, Nat.reduceMul, Nat.reduceEqDiff, reduceCtorEq, ↓reduceIte, Int.reduceEq, Int.reduceLT, Int.reduceLE, Int.reduceNe, Int.reduceAdd, Int.reduceSub, Int.reduceMul, Int.reduceToNat, Nat.reduceShiftRight, Nat.reduceAnd, Nat.reduceBNe]
          refine qqF t2 ⟨rfl, rfl, trivial⟩ rfl rfl ?_
          simp (config := {maxSteps := 400000}) -implicitDefEqProofs only [g1, g2, g3, k1, k2, Bool.and_self, push_cast, Nat.reduceBEq, Nat.reduceLT, Nat.reduceLeDiff, Nat.reduceAdd, Nat.reduceSub, Nat.reduceMul, Nat.reduceEqDiff, reduceCtorEq, ↓reduceIte, Int.reduceEq, Int.reduceLT, Int.reduceLE, Int.reduceNe, Int.reduceAdd, Int.reduceSub, Int.reduceMul, Int.reduceToNat, Nat.reduceShiftRight, Nat.reduceAnd, Nat.reduceBNe]
          refine callF hl ⟨⟨rfl, rfl⟩, ⟨rfl, rfl⟩, trivial⟩ rfl rfl ?_
          simp (config := {maxSteps := 400000}) -implicitDefEqProofs only [g1, g2, g3, k1, k2, Bool.and_self, push_cast, Nat.reduceBEq, Nat.reduceLT, Nat.reduceLeDiff, Nat.reduceAdd, Nat.reduceSub, Nat.reduceMul, Nat.reduceEqDiff, reduceCtorEq, ↓reduceIte, Int.reduceEq, Int.reduceLT, Int.reduceLE, Int.reduceNe, Int.reduceAdd, Int.reduceSub, Int.reduceMul, Int.reduceToNat, Nat.reduceShiftRight, Nat.reduceAnd, Nat.reduceBNe]
          exact finC rfl rfl
        · have k2 : decide ((ad : Int) = (bd : Int)) = false := decide_eq_false hB
          refine pc_fn hmix h64 rfl ?_
          simp (config := {maxSteps := 400000}) -implicitDefEqProofs only [c64, g1, g2, g3, k1, k2, Bool.and_self, push_cast, Nat.reduceBEq, Nat.reduceLT, Nat.reduceLeDiff, Nat.reduceAdd, Nat.reduceSub, Nat.reduceMul, Nat.reduceEqDiff, reduceCtorEq, ↓reduceIte, Int.reduceEq, Int.reduceLT, Int.reduceLE, Int.reduceNe, Int.reduceAdd, Int.reduceSub, Int.reduceMul, Int.reduceToNat, Nat.reduceShiftRight, Nat.reduceAnd, Nat.reduceBNe]
          refine qqF s1 ⟨rfl, trivial⟩ rfl rfl ?_
          simp (config := {maxSteps := 400000}) -implicitDefEqProofs only [ebd, g1, g2, g3, k1, k2, Bool.and_self, push_cast, Nat.reduceBEq, Nat.reduceLT, Nat.reduceLeDiff, Nat.reduceAdd, Nat.reduceSub, Nat.reduceMul, Nat.reduceEqDiff, reduceCtorEq, ↓reduceIte, Int.reduceEq, Int.reduceLT, Int.reduceLE, Int.reduceNe, Int.reduceAdd, Int.reduceSub, Int.reduceMul, Int.reduceToNat, Nat.reduceShiftRight, Nat.reduceAnd, Nat.reduceBNe]
          refine qqF t1 ⟨rfl, rfl, trivial⟩ rfl rfl ?_
          simp (config := {maxSteps := 400000}) -implicitDefEqProofs only [g1, g2, g3, k1, k2, Bool.and_self, push_cast, Nat.reduceBEq, Nat.reduceLT, Nat.reduceLeDiff, Nat.reduceAdd, Nat.reduceSub, Nat.reduceMul, Nat.reduceEqDiff, reduceCtorEq, ↓reduceIte, Int.reduceEq, Int.reduceLT, Int.reduceLE, Int.reduceNe, Int.reduceAdd, Int.reduceSub, Int.reduceMul, Int.reduceToNat, Nat.reduceShiftRight, Nat.reduceAnd, Nat.reduceBNe]
          refine qqF s2 ⟨rfl, trivial⟩ rfl rfl ?_
          simp (config := {maxSteps := 400000}) -implicitDefEqProofs only [ead, g1, g2, g3, k1, k2, Bool.and_self, push_cast, Nat.reduceBEq, Nat.reduceLT, Nat.reduceLeDiff, Nat.reduceAdd, Nat.reduceSub, Nat.reduceMul, Nat.reduceEqDiff, reduceCtorEq, ↓reduceIte, Int.reduceEq, Int.reduceLT, Int.reduceLE, Int.reduceNe, Int.reduceAdd, Int.reduceSub, Int.reduceMul, Int.reduceToNat, Nat.reduceShiftRight, Nat.reduceAnd, Nat.reduceBNe]
          refine qqF t2 ⟨rfl, rfl, trivial⟩ rfl rfl ?_
          simp (config := {maxSteps := 400000}) -implicitDefEqProofs only [g1, g2, g3, k1, k2, Bool.and_self, push_cast, Nat.reduceBEq, Nat.reduceLT, Nat.reduceLeDiff, Nat.reduceAdd, Nat.reduceSub, Nat.reduceMul, Nat.reduceEqDiff, reduceCtorEq, ↓reduceIte, Int.reduceEq, Int.reduceLT, Int.reduceLE, Int.reduceNe, Int.reduceAdd, Int.reduceSub, Int.reduceMul, Int.reduceToNat, Nat.reduceShiftRight, Nat.reduceAnd, Nat.reduceBNe]
          refine callF hl ⟨⟨rfl, rfl⟩, ⟨rfl, rfl⟩, trivial⟩ rfl rfl ?_
          simp (config := {maxSteps := 400000}) -implicitDefEqProofs only [g1, g2, g3, k1, k2, Bool.and_self, push_cast, Nat.reduceBEq, Nat.reduceLT, Nat.reduceLeDiff, Nat.reduceAdd, Nat.reduceSub, Nat.reduceMul, Nat.reduceEqDiff, reduceCtorEq, ↓reduceIte, Int.reduceEq, Int.reduceLT, Int.reduceLE, Int.reduceNe, Int.reduceAdd, Int.reduceSub, Int.reduceMul, Int.reduceToNat, Nat.reduceShiftRight, Nat.reduceAnd, Nat.reduceBNe]
          exact finC rfl rfl
    · rw [if_neg hpq] at hc
      rw [decide_eq_false hpq] at hl
      subst hc
      by_cases hA : (an : Int) = (bn : Int)
      · have k1 : decide ((an : Int) = (bn : Int)) = true := decide_eq_true hA
        have k2 : decide ((ad : Int) = (bd : Int)) = false := decide_eq_false (by omega)
        refine pc_fn hmix h64 rfl ?_
        simp (config := {maxSteps := 400000}) -implicitDefEqProofs only [c64, g1, g2, g3, k1, k2, Bool.and_self, push_cast, Nat.reduceBEq, Nat.reduceLT, Nat.reduceLeDiff, Nat.reduceAdd, Nat.reduceSub, Nat.reduceMul, Nat.reduceEqDiff, reduceCtorEq, ↓reduceIte, Int.reduceEq, Int.reduceLT, Int.reduceLE, Int.reduceNe, Int.reduceAdd, Int.reduceSub, Int.reduceMul, Int.reduceToNat, Nat.reduceShiftRight, Nat.reduceAnd, Nat.reduceBNe]
        refine qqF s1 ⟨rfl, trivial⟩ rfl rfl ?_
        simp (config := {maxSteps := 400000}) -implicitDefEqProofs only [ebd, g1, g2, g3, k1, k2, Bool.and_self, push_cast, Nat.reduceBEq, Nat.reduceLT, Nat.reduceLeDiff, Nat.reduceAdd, Nat.reduceSub, Nat.reduceMul, Nat.reduceEqDiff, reduceCtorEq, ↓reduceIte, Int.reduceEq, Int.reduceLT, Int.reduceLE, Int.reduceNe, Int.reduceAdd, Int.reduceSub, Int.reduceMul, Int.reduceToNat, Nat.reduceShiftRight, Nat.reduceAnd, Nat.reduceBNe]
        refine qqF t1 ⟨rfl, rfl, trivial⟩ rfl rfl ?_
        simp (config := {maxSteps := 400000}) -implicitDefEqProofs only [g1, g2, g3, k1, k2, Bool.and_self, push_cast, Nat.reduceBEq, Nat.reduceLT, Nat.reduceLeDiff, Nat.reduceAdd, Nat.reduceSub, Nat.reduceMul, Nat.reduceEqDiff, reduceCtorEq, ↓reduceIte, Int.reduceEq, Int.reduceLT, Int.reduceLE, Int.reduceNe, Int.reduceAdd, Int.reduceSub, Int.reduceMul, Int.reduceToNat, Nat.reduceShiftRight, Nat.reduceAnd, Nat.reduceBNe]
        refine qqF s2 ⟨rfl, trivial⟩ rfl rfl ?_
        simp (config := {maxSteps := 400000}) -implicitDefEqProofs only [ead, g1, g2, g3, k1, k2, Bool.and_self, push_cast, Nat.reduceBEq, Nat.reduceLT, Nat.reduceLeDiff, Nat.reduceAdd, Nat.reduceSub, Nat.reduceMul, Nat.reduceEqDiff, reduceCtorEq, ↓reduceIte, Int.reduceEq, Int.reduceLT, Int.reduceLE, Int.reduceNe, Int.reduceAdd, Int.reduceSub, Int.reduceMul, Int.reduceToNat, Nat.reduceShiftRight, Nat.reduceAnd, Nat.reduceBNe]
        refine qqF t2 ⟨rfl, rfl, trivial⟩ rfl rfl ?_
        simp (config := {maxSteps := 400000}) -implicitDefEqProofs only [g1, g2, g3, k1, k2, Bool.and_self, push_cast, Nat.reduceBEq, Nat.reduceLT, Nat.reduceLeDiff, Nat.reduceAdd, Nat.reduceSub, Nat.reduceMul, Nat.reduceEqDiff, reduceCtorEq, ↓reduceIte, Int.reduceEq, Int.reduceLT, Int.reduceLE, Int.reduceNe, Int.reduceAdd, Int.reduceSub, Int.reduceMul, Int.reduceToNat, Nat.reduceShiftRight, Nat.reduceAnd, Nat.reduceBNe]
        refine callF hl ⟨⟨rfl, rfl⟩, ⟨rfl, rfl⟩, trivial⟩ rfl rfl ?_
        simp (config := {maxSteps := 400000}) -implicitDefEqProofs only [g1, g2, g3, k1, k2, Bool.and_self, push_cast, Nat.reduceBEq, Nat.reduceLT, Nat.reduceLeDiff, Nat.reduceAdd, Nat.reduceSub, Nat.reduceMul, Nat.reduceEqDiff, reduceCtorEq, ↓reduceIte, Int.reduceEq, Int.reduceLT, Int.reduceLE, Int.reduceNe, Int.reduceAdd, Int.reduceSub, Int.reduceMul, Int.reduceToNat, Nat.reduceShiftRight, Nat.reduceAnd, Nat.reduceBNe]
        exact finC rfl rfl
      · have k1 : decide ((an : Int) = (bn : Int)) = false := decide_eq_false hA
        by_cases hB : (ad : Int) = (bd : Int)
        · have k2 : decide ((ad : Int) = (bd : Int)) = true := decide_eq_true hB
          refine pc_fn hmix h64 rfl ?_
          simp (config := {maxSteps := 400000}) -implicitDefEqProofs only [c64, g1, g2, g3, k1, k2, Bool.and_self, push_cast, Nat.reduceBEq, Nat.reduceLT, Nat.reduceLeDiff, Nat.reduceAdd, Nat.reduceSub, Nat.reduceMul, Nat.reduceEqDiff, reduceCtorEq, ↓reduceIte, Int.reduceEq, Int.reduceLT, Int.reduceLE, Int.reduceNe, Int.reduceAdd, Int.reduceSub, Int.reduceMul, Int.reduceToNat, Nat.reduceShiftRight, Nat.reduceAnd, Nat.reduceBNe]
          refine qqF s1 ⟨rfl, trivial⟩ rfl rfl ?_
          simp (config := {maxSteps := 400000}) -implicitDefEqProofs only [ebd, g1, g2, g3, k1, k2, Bool.and_self, push_cast, Nat.reduceBEq, Nat.reduceLT, Nat.reduceLeDiff, Nat.reduceAdd, Nat.reduceSub, Nat.reduceMul, Nat.reduceEqDiff, reduceCtorEq, ↓reduceIte, Int.reduceEq, Int.reduceLT, Int.reduceLE, Int.reduceNe, Int.reduceAdd, Int.reduceSub, Int.reduceMul, Int.reduceToNat, Nat.reduceShiftRight, Nat.reduceAnd, Nat.reduceBNe]
          refine qqF t1 ⟨rfl, rfl, trivial⟩ rfl rfl ?_
          simp (config := {maxSteps := 400000}) -implicitDefEqProofs only [g1, g2, g3, k1, k2, Bool.and_self, push_cast, Nat.reduceBEq, Nat.reduceLT, Nat.reduceLeDiff, Nat.reduceAdd, Nat.reduceSub, Nat.reduceMul, Nat.reduceEqDiff, reduceCtorEq, ↓reduceIte, Int.reduceEq, Int.reduceLT, Int.reduceLE, Int.reduceNe, Int.reduceAdd, Int.reduceSub, Int.reduceMul, Int.reduceToNat, Nat.reduceShiftRight, Nat.reduceAnd, Nat.reduceBNe]
          refine qqF s2 ⟨rfl, trivial⟩ rfl rfl ?_
          simp (config := {maxSteps := 400000}) -implicitDefEqProofs only [ead, g1, g2, g3, k1, k2, Bool.and_self, push_cast, Nat.reduceBEq, Nat.reduceLT, Nat.reduceLeDiff, Nat.reduceAdd, Nat.reduceSub, Nat.reduceMul, Nat.reduceEqDiff, reduceCtorEq, ↓reduceIte, Int.reduceEq, Int.reduceLT, Int.reduceLE, Int.reduceNe, Int.reduceAdd, Int.reduceSub, Int.reduceMul, Int.reduceToNat, Nat.reduceShiftRight, Nat.reduceAnd, Nat.reduceBNe]
          refine qqF t2 ⟨rfl, rfl, trivial⟩ rfl rfl ?_
          simp (config := {maxSteps := 400000}) -implicitDefEqProofs only [g1, g2, g3, k1, k2, Bool.and_self, push_cast, Nat.reduceBEq, Nat.reduceLT, Nat.reduceLeDiff, Nat.reduceAdd, Nat.reduceSub, Nat.reduceMul, Nat.reduceEqDiff, reduceCtorEq, ↓reduceIte, Int.reduceEq, Int.reduceLT, Int.reduceLE, Int.reduceNe, Int.reduceAdd, Int.reduceSub, Int.reduceMul, Int.reduceToNat, Nat.reduceShiftRight, Nat.reduceAnd, Nat.reduceBNe]
          refine callF hl ⟨⟨rfl, rfl⟩, ⟨rfl, rfl⟩, trivial⟩ rfl rfl ?_
          simp (config := {maxSteps := 400000}) -implicitDefEqProofs only [g1, g2, g3, k1, k2, Bool.and_self, push_cast, Nat.reduceBEq, Nat.reduceLT, Nat.reduceLeDiff, Nat.reduceAdd, Nat.reduceSub, Nat.reduceMul, Nat.reduceEqDiff, reduceCtorEq, ↓reduceIte, Int.reduceEq, Int.reduceLT, Int.reduceLE, Int.reduceNe, Int.reduceAdd, Int.reduceSub, Int.reduceMul, Int.reduceToNat, Nat.reduceShiftRight, Nat.reduceAnd, Nat.reduceBNe]
          exact finC rfl rfl
        · have k2 : decide ((ad : Int) = (bd : Int)) = false := decide_eq_false hB
          refine pc_fn hmix h64 rfl ?_
          simp (config := {maxSteps := 400000}) -implicitDefEqProofs only [c64, g1, g2, g3, k1, k2, Bool.and_self, push_cast, Nat.reduceBEq, Nat.reduceLT, Nat.reduceLeDiff, Nat.reduceAdd, Nat.reduceSub, Nat.reduceMul, Nat.reduceEqDiff, reduceCtorEq, ↓reduceIte, Int.reduceEq, Int.reduceLT, Int.reduceLE, Int.reduceNe, Int.reduceAdd, Int.reduceSub, Int.reduceMul, Int.reduceToNat, Nat.reduceShiftRight, Nat.reduceAnd, Nat.reduceBNe]
          refine qqF s1 ⟨rfl, trivial⟩ rfl rfl ?_
          simp (config := {maxSteps := 400000}) -implicitDefEqProofs only [ebd, g1, g2, g3, k1, k2, Bool.and_self, push_cast, Nat.reduceBEq, Nat.reduceLT, Nat.reduceLeDiff, Nat.reduceAdd, Nat.reduceSub, Nat.reduceMul, Nat.reduceEqDiff, reduceCtorEq, ↓reduceIte, Int.reduceEq, Int.reduceLT, Int.reduceLE, Int.reduceNe, Int.reduceAdd, Int.reduceSub, Int.reduceMul, Int.reduceToNat, Nat.reduceShiftRight, Nat.reduceAnd, Nat.reduceBNe]
          refine qqF t1 ⟨rfl, rfl, trivial⟩ rfl rfl ?_
          simp (config := {maxSteps := 400000}) -implicitDefEqProofs only [g1, g2, g3, k1, k2, Bool.and_self, push_cast, Nat.reduceBEq, Nat.reduceLT, Nat.reduceLeDiff, Nat.reduceAdd, Nat.reduceSub, Nat.reduceMul, Nat.reduceEqDiff, reduceCtorEq, ↓reduceIte, Int.reduceEq, Int.reduceLT, Int.reduceLE, Int.reduceNe, Int.reduceAdd, Int.reduceSub, Int.reduceMul, Int.reduceToNat, Nat.reduceShiftRight, Nat.reduceAnd, Nat.reduceBNe]
          refine qqF s2 ⟨rfl, trivial⟩ rfl rfl ?_
          simp (config := {maxSteps := 400000}) -implicitDefEqProofs only [ead, g1, g2, g3, k1, k2, Bool.and_self, push_cast, Nat.reduceBEq, Nat.reduceLT, Nat.reduceLeDiff, Nat.reduceAdd, Nat.reduceSub, Nat.reduceMul, Nat.reduceEqDiff, reduceCtorEq, ↓reduceIte, Int.reduceEq, Int.reduceLT, Int.reduceLE, Int.reduceNe, Int.reduceAdd, Int.reduceSub, Int.reduceMul, Int.reduceToNat, Nat.reduceShiftRight, Nat.reduceAnd, Nat.reduceBNe]
          refine qqF t2 ⟨rfl, rfl, trivial⟩ rfl rfl ?_
          simp (config := {maxSteps := 400000}) -implicitDefEqProofs only [g1, g2, g3, k1, k2, Bool.and_self, push_cast, Nat.reduceBEq, Nat.reduceLT, Nat.reduceLeDiff, Nat.reduceAdd, Nat.reduceSub, Nat.reduceMul, Nat.reduceEqDiff, reduceCtorEq, ↓reduceIte, Int.reduceEq, Int.reduceLT, Int.reduceLE, Int.reduceNe, Int.reduceAdd, Int.reduceSub, Int.reduceMul, Int.reduceToNat, Nat.reduceShiftRight, Nat.reduceAnd, Nat.reduceBNe]
          refine callF hl ⟨⟨rfl, rfl⟩, ⟨rfl, rfl⟩, trivial⟩ rfl rfl ?_
          simp (config := {maxSteps := 400000}) -implicitDefEqProofs only [g1, g2, g3, k1, k2, Bool.and_self, push_cast, Nat.reduceBEq, Nat.reduceLT, Nat.reduceLeDiff, Nat.reduceAdd, Nat.reduceSub, Nat.reduceMul, Nat.reduceEqDiff, reduceCtorEq, ↓reduceIte, Int.reduceEq, Int.reduceLT, Int.reduceLE, Int.reduceNe, Int.reduceAdd, Int.reduceSub, Int.reduceMul, Int.reduceToNat, Nat.reduceShiftRight, Nat.reduceAnd, Nat.reduceBNe]
          exact finC rfl rfl
/-- the comparison, where both fractions are in form -/
theorem cmp_pc (an ad bn bd : Nat) (ha : okQ an ad) (hb : okQ bn bd) : PC Tryd.prog 50 [QA an ad, QA bn bd] (.tup [I (cmpQ an ad bn bd), I 0]) := by
  have ha' := ha
  have hb' := hb
  unfold okQ at ha' hb'
  have k1 := fcheck_pc an ad (by simp only [i63]; omega) (by simp only [i63]; omega)
  have k2 := fcheck_pc bn bd (by simp only [i63]; omega) (by simp only [i63]; omega)
  rw [if_pos ha] at k1
  rw [if_pos hb] at k2
  have hc := cmp1_pc an ad bn bd (by omega) (by omega) (by omega) (by omega)
  obtain ⟨r, hr⟩ : ∃ r, cmpQ an ad bn bd = r := ⟨_, rfl⟩
  rw [hr] at hc ⊢
  have hboth : PC Tryd.prog 63 [QA an ad, QA bn bd, .fn 64 [] []] (.tup [I r, I 0]) := by
    refine pc_fn hmix h63 rfl ?_
    simp -implicitDefEqProofs only [c63, push_cast, Nat.reduceBEq, Nat.reduceLT, Nat.reduceLeDiff, Nat.reduceAdd, Nat.reduceSub, Nat.reduceMul, Nat.reduceEqDiff, reduceCtorEq, ↓reduceIte, Int.reduceEq, Int.reduceLT, Int.reduceLE, Int.reduceNe, Int.reduceAdd, Int.reduceSub, Int.reduceMul, Int.reduceToNat, Nat.reduceShiftRight, Nat.reduceAnd, Nat.reduceBNe]
    refine callF k1 ⟨⟨rfl, rfl⟩, trivial⟩ rfl rfl ?_
    simp -implicitDefEqProofs only [push_cast, Nat.reduceBEq, Nat.reduceLT, Nat.reduceLeDiff, Nat.reduceAdd, Nat.reduceSub, Nat.reduceMul, Nat.reduceEqDiff, reduceCtorEq, ↓reduceIte, Int.reduceEq, Int.reduceLT, Int.reduceLE, Int.reduceNe, Int.reduceAdd, Int.reduceSub, Int.reduceMul, Int.reduceToNat, Nat.reduceShiftRight, Nat.reduceAnd, Nat.reduceBNe]
    refine callF k2 ⟨⟨rfl, rfl⟩, trivial⟩ rfl rfl ?_
    simp -implicitDefEqProofs only [push_cast, Nat.reduceBEq, Nat.reduceLT, Nat.reduceLeDiff, Nat.reduceAdd, Nat.reduceSub, Nat.reduceMul, Nat.reduceEqDiff, reduceCtorEq, ↓reduceIte, Int.reduceEq, Int.reduceLT, Int.reduceLE, Int.reduceNe, Int.reduceAdd, Int.reduceSub, Int.reduceMul, Int.reduceToNat, Nat.reduceShiftRight, Nat.reduceAnd, Nat.reduceBNe]
    refine callF hc ⟨⟨rfl, rfl⟩, ⟨rfl, rfl⟩, trivial⟩ rfl rfl ?_
    simp -implicitDefEqProofs only [push_cast, Nat.reduceBEq, Nat.reduceLT, Nat.reduceLeDiff, Nat.reduceAdd, Nat.reduceSub, Nat.reduceMul, Nat.reduceEqDiff, reduceCtorEq, ↓reduceIte, Int.reduceEq, Int.reduceLT, Int.reduceLE, Int.reduceNe, Int.reduceAdd, Int.reduceSub, Int.reduceMul, Int.reduceToNat, Nat.reduceShiftRight, Nat.reduceAnd, Nat.reduceBNe]
    exact finC rfl rfl
  refine pc_fn hmix h50 rfl ?_
  simp -implicitDefEqProofs only [c50, push_cast, Nat.reduceBEq, Nat.reduceLT, Nat.reduceLeDiff, Nat.reduceAdd, Nat.reduceSub, Nat.reduceMul, Nat.reduceEqDiff, reduceCtorEq, ↓reduceIte, Int.reduceEq, Int.reduceLT, Int.reduceLE, Int.reduceNe, Int.reduceAdd, Int.reduceSub, Int.reduceMul, Int.reduceToNat, Nat.reduceShiftRight, Nat.reduceAnd, Nat.reduceBNe]
  refine callF hboth ⟨⟨rfl, rfl⟩, ⟨rfl, rfl⟩, ⟨rfl, rfl⟩, trivial⟩ rfl rfl ?_
  simp -implicitDefEqProofs only [push_cast, Nat.reduceBEq, Nat.reduceLT, Nat.reduceLeDiff, Nat.reduceAdd, Nat.reduceSub, Nat.reduceMul, Nat.reduceEqDiff, reduceCtorEq, ↓reduceIte, Int.reduceEq, Int.reduceLT, Int.reduceLE, Int.reduceNe, Int.reduceAdd, Int.reduceSub, Int.reduceMul, Int.reduceToNat, Nat.reduceShiftRight, Nat.reduceAnd, Nat.reduceBNe]
  exact finC rfl rfl
/-- fractions in form that are equal are the same -/
theorem okQ_eq {an ad bn bd : Nat} (ha : okQ an ad) (hb : okQ bn bd) (h : an * bd = bn * ad) : an = bn ∧ ad = bd := by
  unfold okQ at ha hb
  simp only [Int.natAbs_natCast, Int.toNat_natCast] at ha hb
  have h1 : ad ∣ bd := by
    have : ad ∣ an * bd := by rw [h]; exact Nat.dvd_mul_left _ _
    exact (Nat.Coprime.dvd_of_dvd_mul_left (Nat.Coprime.symm ha.2.2) this)
  have h2 : bd ∣ ad := by
    have : bd ∣ bn * ad := by rw [← h]; exact Nat.dvd_mul_left _ _
    exact (Nat.Coprime.dvd_of_dvd_mul_left (Nat.Coprime.symm hb.2.2) this)
  have h3 : ad = bd := Nat.dvd_antisymm h1 h2
  subst h3
  exact ⟨Nat.eq_of_mul_eq_mul_right (by omega) h, rfl⟩
theorem cmpQ_le {an ad bn bd : Nat} (ha : okQ an ad) (hb : okQ bn bd) : cmpQ an ad bn bd ≤ 0 ↔ an * bd ≤ bn * ad := by
  unfold cmpQ
  by_cases h1 : an = bn ∧ ad = bd
  · rw [if_pos h1]; obtain ⟨rfl, rfl⟩ := h1; simp
  · rw [if_neg h1]
    by_cases h2 : an * bd < bn * ad
    · rw [if_pos h2]; exact ⟨fun _ => Nat.le_of_lt h2, fun _ => by omega⟩
    · rw [if_neg h2]
      refine ⟨fun h => by omega, fun h => ?_⟩
      exact absurd (okQ_eq ha hb (Nat.le_antisymm h (Nat.le_of_not_lt h2))) h1
end Go.Proofs.YtligakiolapkkaaDoor

namespace Go.Proofs.YtligakiolapkkaaDoor
open Go GoV
set_option maxHeartbeats 8000000
set_option maxRecDepth 10000
set_option linter.unusedVariables false
set_option linter.unusedSimpArgs false
theorem rowN_pt : ∀ (cs : List Nat) (a : Nat), ∀ r ∈ rowN a cs, ∀ j, r.getD j 0 + (subN cs r).getD j 0 = cs.getD j 0
  | [], _, r, h, _ => by simp [rowN] at h
  | [c], a, r, h, j => by
    unfold rowN at h
    split at h
    · simp at h; subst h
      cases j with
      | zero => simp [subN]; omega
      | succ j => simp [subN]
    · simp at h
  | c :: d :: cs, a, r, h, j => by
    unfold rowN at h
    simp only [List.mem_flatMap, List.mem_map] at h
    obtain ⟨x, hx, l, hl, rfl⟩ := h
    have hx := List.mem_range.1 hx
    cases j with
    | zero => simp only [subN, List.getD_cons_zero]; omega
    | succ j =>
      simp only [subN, List.getD_cons_succ]
      exact rowN_pt (d :: cs) _ l hl j
theorem all_zero {cs : List Nat} (h : cs.all (fun c => decide (c = 0)) = true) (j : Nat) : cs.getD j 0 = 0 := by
  rw [List.all_eq_true] at h
  by_cases hj : j < cs.length
  · simpa using h _ (getD_mem (d := 0) hj)
  · simp [List.getD, List.getElem?_eq_none (Nat.le_of_not_lt hj)]
theorem tabN_props : ∀ (l cs : List Nat), ∀ y ∈ tabN l cs, y.map sumN = l ∧ (∀ r ∈ y, r.length = cs.length) ∧ ∀ j, sumN (y.map fun r => r.getD j 0) = cs.getD j 0
  | [], cs, y, h => by
    unfold tabN at h
    split at h
    · rename_i hz
      simp at h; subst h
      exact ⟨rfl, by simp, fun j => (all_zero hz j).symm⟩
    · simp at h
  | a :: l, cs, y, h => by
    unfold tabN at h
    simp only [List.mem_flatMap, List.mem_map] at h
    obtain ⟨r, hr, t, ht, rfl⟩ := h
    obtain ⟨h1, h2, h3, h4, h5⟩ := rowN_props cs a r hr
    obtain ⟨k1, k2, k3⟩ := tabN_props l _ t ht
    refine ⟨by rw [List.map_cons, h1, k1], fun q hq => ?_, fun j => ?_⟩
    · rcases List.mem_cons.1 hq with rfl | hq
      · exact h4
      · rw [k2 q hq, h5]
    · show r.getD j 0 + sumN (t.map fun r => r.getD j 0) = _
      rw [k3 j, rowN_pt cs a r hr j]
theorem castL_get (r : List Nat) (j : Nat) : (castL r).getD j 0 = ((r.getD j 0 : Nat) : Int) := by
  simp only [castL, List.getD, List.getElem?_map]
  cases r[j]? <;> rfl
theorem castL_inj : ∀ {a b : List Nat}, castL a = castL b → a = b
  | [], [], _ => rfl
  | x :: a, [], h => by simp [castL] at h
  | [], x :: b, h => by simp [castL] at h
  | x :: a, y :: b, h => by
    rw [castL_cons, castL_cons, List.cons.injEq] at h
    rw [castL_inj h.2, show x = y by omega]
theorem le_sumN : ∀ {r : List Nat} {x : Nat}, x ∈ r → x ≤ sumN r
  | y :: r, x, h => by
    show x ≤ y + sumN r
    rcases List.mem_cons.1 h with rfl | h
    · omega
    · have := le_sumN h; omega
theorem map_sumL_cast (y : List (List Nat)) : (y.map castL).map sumL = castL (y.map sumN) := by
  rw [castL, List.map_map, List.map_map]
  refine List.map_congr_left (fun r _ => ?_)
  exact sumL_cast r
theorem allL_props {t x : List (List Int)} (h : Tab t) (hx : x ∈ allL t) : rowsL x = rowsL t ∧ colsL x = colsL t ∧ Tab x ∧ x.length = t.length ∧ wid x = wid t := by
  obtain ⟨h1, h2, h3, h4, h5, h6⟩ := tab_rows h
  obtain ⟨l, hl⟩ := castL_of (rowsL t) (fun x hx => (h1 x hx).1)
  obtain ⟨cs, hc⟩ := castL_of (colsL t) (fun x hx => (h2 x hx).1)
  rw [allL, hl, hc, tabE_cast] at hx
  obtain ⟨y, hy, rfl⟩ := List.mem_map.1 hx
  obtain ⟨k1, k2, k3⟩ := tabN_props l cs y hy
  have hlen : l.length = t.length := by rw [← h5, hl, castL, List.length_map]
  have hcl : cs.length = wid t := by rw [← h6, hc, castL, List.length_map]
  have hyl : y.length = t.length := by rw [← hlen, ← k1, List.length_map]
  have htl := h.len
  have htw := h.wid
  have ew : wid (y.map castL) = cs.length := by
    unfold wid
    have hm : y.getD 0 [] ∈ y := getD_mem (by omega)
    have : ((y.map castL).getD 0 []) = castL (y.getD 0 []) := by
      simp only [List.getD, List.getElem?_map]
      cases y[0]? <;> rfl
    rw [this, castL, List.length_map, k2 _ hm]
  have er : rowsL (y.map castL) = rowsL t := by
    rw [rowsL, map_sumL_cast, k1, hl]
  have ec : colsL (y.map castL) = colsL t := by
    rw [hc]
    show (trL (y.map castL)).map sumL = castL cs
    rw [trL, ew, List.map_map]
    have key : ∀ j, (sumL ∘ fun j => (y.map castL).map (·.getD j 0)) j = ((cs.getD j 0 : Nat) : Int) := by
      intro j
      show sumL ((y.map castL).map (·.getD j 0)) = _
      rw [← k3 j, ← sumL_cast, castL, List.map_map, List.map_map]
      congr 1
      refine List.map_congr_left (fun r _ => ?_)
      exact castL_get r j
    rw [List.map_congr_left (fun j _ => key j)]
    refine List.ext_getElem (by simp [castL]) (fun i hi1 hi2 => ?_)
    simp [castL]
    simp at hi1
    simp [hi1]
  refine ⟨er, ec, ⟨by rw [List.length_map]; omega, by rw [ew, hcl]; exact htw, ?_, ?_⟩, by rw [List.length_map]; exact hyl, by rw [ew, hcl]⟩
  · intro r hr
    obtain ⟨q, hq, rfl⟩ := List.mem_map.1 hr
    refine ⟨by rw [ew, castL, List.length_map]; exact k2 q hq, ?_⟩
    intro z hz
    obtain ⟨n, hn, rfl⟩ := List.mem_map.1 hz
    have h7 := le_sumN hn
    have h8 : ((sumN q : Nat) : Int) ∈ rowsL t := by
      rw [← er, rowsL, map_sumL_cast]
      exact List.mem_map_of_mem (List.mem_map_of_mem hq)
    have h9 := h1 _ h8
    omega
  · have : totL (y.map castL) = totL t := by
      show sumL (rowsL (y.map castL)) = sumL (rowsL t)
      rw [er]
    rw [this]; exact h.tot
theorem allL_same {t x : List (List Int)} (h : Tab t) (hx : x ∈ allL t) : allL x = allL t := by
  obtain ⟨h1, h2, _⟩ := allL_props h hx
  rw [allL, h1, h2]; rfl
theorem sumB_take_le {α : Type} {f : α → Nat} : ∀ (l : List α) (k : Nat), sumB f (l.take k) ≤ sumB f l
  | [], k => by simp [sumB]
  | x :: l, 0 => Nat.zero_le _
  | x :: l, k + 1 => by
    show f x + sumB f (l.take k) ≤ f x + sumB f l
    have := sumB_take_le (f := f) l k
    omega
end Go.Proofs.YtligakiolapkkaaDoor

namespace Go.Proofs.YtligakiolapkkaaDoor
open Go GoV
set_option maxHeartbeats 8000000
set_option maxRecDepth 10000
set_option linter.unusedVariables false
set_option linter.unusedSimpArgs false
def tN (t : List (List Int)) : Nat := tsum t / Nat.gcd (tsum t) (totalN t)
def tD (t : List (List Int)) : Nat := totalN t / Nat.gcd (tsum t) (totalN t)
theorem tail_ok {t : List (List Int)} (h : Tab t) : okQ (tN t) (tD t) ∧ 1 ≤ tD t ∧ tD t ≤ 2432902008176640000 ∧ tN t ≤ 2432902008176640000 := by
  have htot := total_pos h
  have hsum := tsum_le h
  have hg : 0 < Nat.gcd (tsum t) (totalN t) := Nat.gcd_pos_of_pos_right _ (by omega)
  have h1 : tD t ≤ totalN t := Nat.div_le_self _ _
  have h2 : tN t ≤ tsum t := Nat.div_le_self _ _
  have h3 : 1 ≤ tD t := Nat.div_pos (Nat.le_of_dvd (by omega) (Nat.gcd_dvd_right _ _)) hg
  have h4 : Nat.gcd (tN t) (tD t) = 1 := Nat.coprime_div_gcd_div_gcd hg
  refine ⟨?_, h3, by omega, by omega⟩
  unfold okQ
  rw [Int.natAbs_natCast, Int.toNat_natCast]
  exact ⟨⟨by omega, by omega⟩, by omega, h4⟩
def rej (t : List (List Int)) (n d : Int) : Bool := if lev n d = 0 then decide (tN t * d.toNat ≤ n.toNat * tD t) else false
theorem lev_zero {n d : Int} (h : lev n d = 0) : okQ n d ∧ 0 ≤ n ∧ n ≤ d := by
  unfold lev at h
  split at h
  · rename_i hk
    split at h
    · cases h
    · exact ⟨hk, by omega, by omega⟩
  · cases h
theorem reject_pc {t : List (List Int)} (h : Tab t) (n d : Int) (hn : i63 n) (hd : i63 d) : PC Tryd.prog 30 [TT t, QA n d] (.tup [B (rej t n d), I (lev n d)]) := by
  have ht : PC Tryd.prog 27 [TT t] (.tup [QA (tN t) (tD t), I 0]) := tail_pc h
  obtain ⟨hok, hd1, hd2, hd3⟩ := tail_ok h
  have hk := fcheck_pc n d hn hd
  obtain ⟨p, hp⟩ : ∃ p, tN t = p := ⟨_, rfl⟩
  obtain ⟨q, hq⟩ : ∃ p, tD t = p := ⟨_, rfl⟩
  rw [hp, hq] at ht hok
  unfold rej lev
  rw [hp, hq]
  by_cases hQ : okQ n d
  · rw [if_pos hQ] at hk ⊢
    have hQ' := hQ
    unfold okQ at hQ'
    by_cases h1 : n < 0
    · have e1 : decide (n < 0) = true := decide_eq_true h1
      rw [if_pos (Or.inl h1), if_neg (by decide)]
      refine pc_fn hmix h30 rfl ?_
      simp -implicitDefEqProofs only [c30, e1, push_cast, Nat.reduceBEq, Nat.reduceLT, Nat.reduceLeDiff, Nat.reduceAdd, Nat.reduceSub, Nat.reduceMul, Nat.reduceEqDiff, reduceCtorEq, ↓reduceIte, Int.reduceEq, Int.reduceLT, Int.reduceLE, Int.reduceNe, Int.reduceAdd, Int.reduceSub, Int.reduceMul, Int.reduceToNat, Nat.reduceShiftRight, Nat.reduceAnd, Nat.reduceBNe]
      refine callF ht ⟨rfl, trivial⟩ rfl rfl ?_
      simp -implicitDefEqProofs only [e1, push_cast, Nat.reduceBEq, Nat.reduceLT, Nat.reduceLeDiff, Nat.reduceAdd, Nat.reduceSub, Nat.reduceMul, Nat.reduceEqDiff, reduceCtorEq, ↓reduceIte, Int.reduceEq, Int.reduceLT, Int.reduceLE, Int.reduceNe, Int.reduceAdd, Int.reduceSub, Int.reduceMul, Int.reduceToNat, Nat.reduceShiftRight, Nat.reduceAnd, Nat.reduceBNe]
      refine callF hk ⟨⟨rfl, rfl⟩, trivial⟩ rfl rfl ?_
      simp -implicitDefEqProofs only [e1, push_cast, Nat.reduceBEq, Nat.reduceLT, Nat.reduceLeDiff, Nat.reduceAdd, Nat.reduceSub, Nat.reduceMul, Nat.reduceEqDiff, reduceCtorEq, ↓reduceIte, Int.reduceEq, Int.reduceLT, Int.reduceLE, Int.reduceNe, Int.reduceAdd, Int.reduceSub, Int.reduceMul, Int.reduceToNat, Nat.reduceShiftRight, Nat.reduceAnd, Nat.reduceBNe]
      exact finC rfl rfl
    · have e1 : decide (n < 0) = false := decide_eq_false h1
      by_cases h2 : d < n
      · have e2 : decide (d < n) = true := decide_eq_true h2
        rw [if_pos (Or.inr h2), if_neg (by decide)]
        refine pc_fn hmix h30 rfl ?_
        simp -implicitDefEqProofs only [c30, e1, e2, push_cast, Nat.reduceBEq, Nat.reduceLT, Nat.reduceLeDiff, Nat.reduceAdd, Nat.reduceSub, Nat.reduceMul, Nat.reduceEqDiff, reduceCtorEq, ↓reduceIte, Int.reduceEq, Int.reduceLT, Int.reduceLE, Int.reduceNe, Int.reduceAdd, Int.reduceSub, Int.reduceMul, Int.reduceToNat, Nat.reduceShiftRight, Nat.reduceAnd, Nat.reduceBNe]
        refine callF ht ⟨rfl, trivial⟩ rfl rfl ?_
        simp -implicitDefEqProofs only [e1, e2, push_cast, Nat.reduceBEq, Nat.reduceLT, Nat.reduceLeDiff, Nat.reduceAdd, Nat.reduceSub, Nat.reduceMul, Nat.reduceEqDiff, reduceCtorEq, ↓reduceIte, Int.reduceEq, Int.reduceLT, Int.reduceLE, Int.reduceNe, Int.reduceAdd, Int.reduceSub, Int.reduceMul, Int.reduceToNat, Nat.reduceShiftRight, Nat.reduceAnd, Nat.reduceBNe]
        refine callF hk ⟨⟨rfl, rfl⟩, trivial⟩ rfl rfl ?_
        simp -implicitDefEqProofs only [e1, e2, push_cast, Nat.reduceBEq, Nat.reduceLT, Nat.reduceLeDiff, Nat.reduceAdd, Nat.reduceSub, Nat.reduceMul, Nat.reduceEqDiff, reduceCtorEq, ↓reduceIte, Int.reduceEq, Int.reduceLT, Int.reduceLE, Int.reduceNe, Int.reduceAdd, Int.reduceSub, Int.reduceMul, Int.reduceToNat, Nat.reduceShiftRight, Nat.reduceAnd, Nat.reduceBNe]
        exact finC rfl rfl
      · have e2 : decide (d < n) = false := decide_eq_false h2
        rw [show (if n < 0 ∨ d < n then (2 : Int) else 0) = 0 from if_neg (by omega), if_pos rfl]
        obtain ⟨N, rfl⟩ : ∃ N : Nat, n = N := ⟨n.toNat, by omega⟩
        obtain ⟨D, rfl⟩ : ∃ N : Nat, d = N := ⟨d.toNat, by omega⟩
        rw [Int.toNat_natCast, Int.toNat_natCast]
        have hc := cmp_pc p q N D hok hQ
        have hle := cmpQ_le hok hQ
        obtain ⟨c, hcc⟩ : ∃ c, cmpQ p q N D = c := ⟨_, rfl⟩
        rw [hcc] at hc hle
        rw [show decide (p * D ≤ N * q) = decide (c ≤ 0) by rw [decide_eq_decide]; exact hle.symm]
        refine pc_fn hmix h30 rfl ?_
        simp -implicitDefEqProofs only [c30, e1, e2, push_cast, Nat.reduceBEq, Nat.reduceLT, Nat.reduceLeDiff, Nat.reduceAdd, Nat.reduceSub, Nat.reduceMul, Nat.reduceEqDiff, reduceCtorEq, ↓reduceIte, Int.reduceEq, Int.reduceLT, Int.reduceLE, Int.reduceNe, Int.reduceAdd, Int.reduceSub, Int.reduceMul, Int.reduceToNat, Nat.reduceShiftRight, Nat.reduceAnd, Nat.reduceBNe]
        refine callF ht ⟨rfl, trivial⟩ rfl rfl ?_
        simp -implicitDefEqProofs only [e1, e2, push_cast, Nat.reduceBEq, Nat.reduceLT, Nat.reduceLeDiff, Nat.reduceAdd, Nat.reduceSub, Nat.reduceMul, Nat.reduceEqDiff, reduceCtorEq, ↓reduceIte, Int.reduceEq, Int.reduceLT, Int.reduceLE, Int.reduceNe, Int.reduceAdd, Int.reduceSub, Int.reduceMul, Int.reduceToNat, Nat.reduceShiftRight, Nat.reduceAnd, Nat.reduceBNe]
        refine callF hk ⟨⟨rfl, rfl⟩, trivial⟩ rfl rfl ?_
        simp -implicitDefEqProofs only [e1, e2, push_cast, Nat.reduceBEq, Nat.reduceLT, Nat.reduceLeDiff, Nat.reduceAdd, Nat.reduceSub, Nat.reduceMul, Nat.reduceEqDiff, reduceCtorEq, ↓reduceIte, Int.reduceEq, Int.reduceLT, Int.reduceLE, Int.reduceNe, Int.reduceAdd, Int.reduceSub, Int.reduceMul, Int.reduceToNat, Nat.reduceShiftRight, Nat.reduceAnd, Nat.reduceBNe]
        refine callF hc ⟨⟨rfl, rfl⟩, ⟨rfl, rfl⟩, trivial⟩ rfl rfl ?_
        simp -implicitDefEqProofs only [push_cast, Nat.reduceBEq, Nat.reduceLT, Nat.reduceLeDiff, Nat.reduceAdd, Nat.reduceSub, Nat.reduceMul, Nat.reduceEqDiff, reduceCtorEq, ↓reduceIte, Int.reduceEq, Int.reduceLT, Int.reduceLE, Int.reduceNe, Int.reduceAdd, Int.reduceSub, Int.reduceMul, Int.reduceToNat, Nat.reduceShiftRight, Nat.reduceAnd, Nat.reduceBNe]
        refine ⟨fun h => ?_, fun h => ?_⟩
        · rw [decide_eq_true h]; exact finC rfl rfl
        · rw [decide_eq_false h]; exact finC rfl rfl
  · rw [if_neg hQ] at hk ⊢
    rw [if_neg (by decide)]
    refine pc_fn hmix h30 rfl ?_
    simp -implicitDefEqProofs only [c30, push_cast, Nat.reduceBEq, Nat.reduceLT, Nat.reduceLeDiff, Nat.reduceAdd, Nat.reduceSub, Nat.reduceMul, Nat.reduceEqDiff, reduceCtorEq, ↓reduceIte, Int.reduceEq, Int.reduceLT, Int.reduceLE, Int.reduceNe, Int.reduceAdd, Int.reduceSub, Int.reduceMul, Int.reduceToNat, Nat.reduceShiftRight, Nat.reduceAnd, Nat.reduceBNe]
    refine callF ht ⟨rfl, trivial⟩ rfl rfl ?_
    simp -implicitDefEqProofs only [push_cast, Nat.reduceBEq, Nat.reduceLT, Nat.reduceLeDiff, Nat.reduceAdd, Nat.reduceSub, Nat.reduceMul, Nat.reduceEqDiff, reduceCtorEq, ↓reduceIte, Int.reduceEq, Int.reduceLT, Int.reduceLE, Int.reduceNe, Int.reduceAdd, Int.reduceSub, Int.reduceMul, Int.reduceToNat, Nat.reduceShiftRight, Nat.reduceAnd, Nat.reduceBNe]
    refine callF hk ⟨⟨rfl, rfl⟩, trivial⟩ rfl rfl ?_
    simp -implicitDefEqProofs only [push_cast, Nat.reduceBEq, Nat.reduceLT, Nat.reduceLeDiff, Nat.reduceAdd, Nat.reduceSub, Nat.reduceMul, Nat.reduceEqDiff, reduceCtorEq, ↓reduceIte, Int.reduceEq, Int.reduceLT, Int.reduceLE, Int.reduceNe, Int.reduceAdd, Int.reduceSub, Int.reduceMul, Int.reduceToNat, Nat.reduceShiftRight, Nat.reduceAnd, Nat.reduceBNe]
    exact finC rfl rfl
theorem reject_bad (t : List (List Int)) (hl : t.length ≤ 1000) (hr : ∀ r ∈ t, r.length ≤ 1000) (hv : validB t = false) (n d : Int) : PC Tryd.prog 30 [TT t, QA n d] (.tup [B false, I 300]) := by
  have ht := tail_bad t hl hr hv
  refine pc_fn hmix h30 rfl ?_
  simp -implicitDefEqProofs only [c30, push_cast, Nat.reduceBEq, Nat.reduceLT, Nat.reduceLeDiff, Nat.reduceAdd, Nat.reduceSub, Nat.reduceMul, Nat.reduceEqDiff, reduceCtorEq, ↓reduceIte, Int.reduceEq, Int.reduceLT, Int.reduceLE, Int.reduceNe, Int.reduceAdd, Int.reduceSub, Int.reduceMul, Int.reduceToNat, Nat.reduceShiftRight, Nat.reduceAnd, Nat.reduceBNe]
  refine callF ht ⟨rfl, trivial⟩ rfl rfl ?_
  simp -implicitDefEqProofs only [push_cast, Nat.reduceBEq, Nat.reduceLT, Nat.reduceLeDiff, Nat.reduceAdd, Nat.reduceSub, Nat.reduceMul, Nat.reduceEqDiff, reduceCtorEq, ↓reduceIte, Int.reduceEq, Int.reduceLT, Int.reduceLE, Int.reduceNe, Int.reduceAdd, Int.reduceSub, Int.reduceMul, Int.reduceToNat, Nat.reduceShiftRight, Nat.reduceAnd, Nat.reduceBNe]
  exact finC rfl rfl
end Go.Proofs.YtligakiolapkkaaDoor

namespace Go.Proofs.YtligakiolapkkaaDoor
open Go GoV
set_option linter.unusedVariables false
set_option linter.unusedSimpArgs false
set_option maxRecDepth 10000
theorem mem_rowN : ∀ (cs r : List Nat), cs ≠ [] → r.length = cs.length → (∀ j, r.getD j 0 ≤ cs.getD j 0) → r ∈ rowN (sumN r) cs
  | [], _, h, _, _ => absurd rfl h
  | [c], [x], _, _, h => by
    have h0 : x ≤ c := h 0
    show [x] ∈ (if x + 0 ≤ c then [[x + 0]] else [])
    rw [if_pos (by omega)]; simp
  | [c], [], _, h, _ => by simp at h
  | [c], _ :: _ :: _, _, h, _ => by simp at h
  | c :: d :: cs, [], _, h, _ => by simp at h
  | c :: d :: cs, x :: r, _, hl, h => by
    have h0 : x ≤ c := h 0
    have ih := mem_rowN (d :: cs) r (by simp) (by simpa using hl) (fun j => by simpa using h (j + 1))
    unfold rowN
    rw [List.mem_flatMap]
    refine ⟨x, List.mem_range.2 (by show x < min (x + sumN r) c + 1; omega), ?_⟩
    rw [show sumN (x :: r) - x = sumN r by show x + sumN r - x = sumN r; omega]
    exact List.mem_map_of_mem ih
theorem subN_get : ∀ (cs r : List Nat) (j : Nat), r.length = cs.length → (subN cs r).getD j 0 = cs.getD j 0 - r.getD j 0
  | [], [], j, _ => by simp [subN]
  | [], _ :: _, _, h => by simp at h
  | _ :: _, [], _, h => by simp at h
  | c :: cs, x :: r, 0, _ => by simp [subN]
  | c :: cs, x :: r, j + 1, h => by
    simp only [subN, List.getD_cons_succ]
    exact subN_get cs r j (by simpa using h)
theorem subN_len : ∀ (cs r : List Nat), r.length = cs.length → (subN cs r).length = cs.length
  | [], [], _ => rfl
  | [], _ :: _, h => by simp at h
  | _ :: _, [], h => by simp at h
  | c :: cs, x :: r, h => by
    simp only [subN, List.length_cons] at h ⊢
    rw [subN_len cs r (by omega)]
theorem zero_all {cs : List Nat} (h : ∀ j, cs.getD j 0 = 0) : cs.all (fun c => decide (c = 0)) = true := by
  rw [List.all_eq_true]
  intro c hc
  obtain ⟨i, hi, rfl⟩ := List.getElem_of_mem hc
  have := h i
  simp [List.getD, hi] at this
  simpa using this
theorem mem_tabN : ∀ (y : List (List Nat)) (cs : List Nat), cs ≠ [] → (∀ r ∈ y, r.length = cs.length) → (∀ j, sumN (y.map fun r => r.getD j 0) = cs.getD j 0) → y ∈ tabN (y.map sumN) cs
  | [], cs, _, _, h => by
    show [] ∈ (if cs.all (fun c => decide (c = 0)) then [[]] else [])
    rw [if_pos (zero_all fun j => (h j).symm)]; simp
  | r :: t, cs, hne, hl, h => by
    have hr := hl r (by simp)
    have hj : ∀ j, r.getD j 0 + sumN (t.map fun r => r.getD j 0) = cs.getD j 0 := h
    show r :: t ∈ ((rowN (sumN r) cs).flatMap fun r => (tabN (t.map sumN) (subN cs r)).map fun t => r :: t)
    rw [List.mem_flatMap]
    refine ⟨r, mem_rowN cs r hne hr (fun j => by have := hj j; omega), ?_⟩
    have hsl := subN_len cs r hr
    refine List.mem_map_of_mem (mem_tabN t (subN cs r) ?_ (fun q hq => by rw [hsl]; exact hl q (by simp [hq])) (fun j => by rw [subN_get cs r j hr]; have := hj j; omega))
    intro e; rw [e] at hsl; simp at hsl; exact hne (List.eq_nil_of_length_eq_zero hsl.symm)
/-- a table in natural numbers -/
theorem tab_cast {t : List (List Int)} (h : Tab t) : ∃ y : List (List Nat), t = y.map castL ∧ ∀ r ∈ y, r.length = wid t := by
  have hrow := h.row
  have key : ∀ (u : List (List Int)), (∀ r ∈ u, r.length = wid t ∧ R20 r) → ∃ y : List (List Nat), u = y.map castL ∧ ∀ r ∈ y, r.length = wid t := by
    intro u
    induction u with
    | nil => intro _; exact ⟨[], rfl, by simp⟩
    | cons r u ih =>
      intro hu
      obtain ⟨y, e, hy⟩ := ih (fun q hq => hu q (by simp [hq]))
      obtain ⟨h1, h2⟩ := hu r (by simp)
      obtain ⟨m, hm⟩ := castL_of r (fun x hx => (h2 x hx).1)
      refine ⟨m :: y, by rw [List.map_cons, ← e, ← hm], fun q hq => ?_⟩
      rcases List.mem_cons.1 hq with rfl | hq
      · rw [← h1, hm, castL, List.length_map]
      · exact hy q hq
  exact key t hrow
theorem colsL_cast (y : List (List Nat)) : colsL (y.map castL) = castL ((List.range (wid (y.map castL))).map fun j => sumN (y.map fun r => r.getD j 0)) := by
  show (trL (y.map castL)).map sumL = _
  rw [trL, List.map_map, castL, List.map_map]
  refine List.map_congr_left (fun j _ => ?_)
  show sumL ((y.map castL).map (·.getD j 0)) = ((sumN (y.map fun r => r.getD j 0) : Nat) : Int)
  rw [← sumL_cast, castL, List.map_map, List.map_map]
  congr 1
  refine List.map_congr_left (fun r _ => ?_)
  exact castL_get r j
theorem allL_self {t : List (List Int)} (h : Tab t) : t ∈ allL t := by
  obtain ⟨y, e, hy⟩ := tab_cast h
  have hw := h.wid
  subst e
  have e1 : rowsL (y.map castL) = castL (y.map sumN) := map_sumL_cast y
  rw [allL, e1, colsL_cast, tabE_cast]
  obtain ⟨m, hm⟩ : ∃ m, wid (y.map castL) = m := ⟨_, rfl⟩
  rw [hm] at hy hw ⊢
  refine List.mem_map_of_mem (mem_tabN y _ ?_ (fun r hr => by rw [hy r hr]; simp) (fun j => ?_))
  · intro e; have := congrArg List.length e; simp at this; omega
  · by_cases hj : j < m
    · simp [List.getD, hj]
    · have hz : ∀ (u : List (List Nat)), (∀ r ∈ u, r.length = m) → sumN (u.map fun r => r.getD j 0) = 0 := by
        intro u
        induction u with
        | nil => intro _; rfl
        | cons r u ih =>
          intro hu
          show r.getD j 0 + sumN (u.map fun r => r.getD j 0) = 0
          rw [ih (fun q hq => hu q (by simp [hq])), show r.getD j 0 = 0 by
            have := hu r (by simp)
            simp [List.getD, List.getElem?_eq_none (by omega : r.length ≤ j)]]
      rw [hz y hy]
      simp [List.getD, hj]
def prodF : List Nat → Nat
  | [] => 1
  | x :: r => fct x * prodF r
theorem prodF_pos : ∀ r, 0 < prodF r
  | [] => Nat.one_pos
  | x :: r => Nat.mul_pos (fct_pos x) (prodF_pos r)
theorem MM_fct : ∀ r, MM r * prodF r = fct (sumN r)
  | [] => rfl
  | x :: r => by
    show ch (x + sumN r) x * MM r * (fct x * prodF r) = fct (x + sumN r)
    have h := ch_fct (x + sumN r) x (by omega)
    rw [Nat.add_sub_cancel_left] at h
    rw [← h, ← MM_fct r]
    simp only [Nat.mul_comm, Nat.mul_left_comm, Nat.mul_assoc]
def chk : Bool := (List.range 21).all fun a => (List.range 21).all fun b => (List.range 21).all fun c => Nat.ble 21 (a + b + c) || Nat.ble (fct (a + b + c)) (133024320 * (fct a * (fct b * (fct c * 1))))
theorem chk_ok : chk = true := by kernel_rfl
theorem fct3 {a b c : Nat} (h : a + b + c ≤ 20) : fct (a + b + c) ≤ 133024320 * (fct a * (fct b * (fct c * 1))) := by
  have h1 := chk_ok
  unfold chk at h1
  have h2 := List.all_eq_true.1 (List.all_eq_true.1 (List.all_eq_true.1 h1 a (List.mem_range.2 (by omega))) b (List.mem_range.2 (by omega))) c (List.mem_range.2 (by omega))
  rw [Bool.or_eq_true] at h2
  rcases h2 with h2 | h2
  · have := Nat.le_of_ble_eq_true h2; omega
  · exact Nat.le_of_ble_eq_true h2
theorem total_small {t : List (List Int)} (h : Tab t) : totalN t ≤ 133024320 := by
  obtain ⟨_, h2, _, h4, _, h6⟩ := tab_rows h
  obtain ⟨cs, hc⟩ := castL_of (colsL t) (fun x hx => (h2 x hx).1)
  have e : totalN t = MM cs := by rw [totalN, ← h4, hc, sumL_cast, Int.toNat_natCast, overN_MM]
  have hs : sumN cs ≤ 20 := by
    have h7 := h4
    rw [hc, sumL_cast] at h7
    have := h.tot
    omega
  have hl : cs.length = 2 ∨ cs.length = 3 := by
    have h8 := h6
    rw [hc, castL, List.length_map] at h8
    have := h.wid
    omega
  rw [e]
  have hm := MM_fct cs
  have hp := prodF_pos cs
  have key : fct (sumN cs) ≤ 133024320 * prodF cs := by
    rcases hl with hl | hl
    · obtain ⟨a, b, rfl⟩ := list2 hl
      have hs : a + (b + 0) ≤ 20 := hs
      have := fct3 (a := a) (b := b) (c := 0) (by omega)
      show fct (a + (b + 0)) ≤ 133024320 * (fct a * (fct b * 1))
      exact this
    · obtain ⟨a, b, c, rfl⟩ := list3 hl
      have hs : a + (b + (c + 0)) ≤ 20 := hs
      have := fct3 (a := a) (b := b) (c := c) (by omega)
      show fct (a + (b + (c + 0))) ≤ 133024320 * (fct a * (fct b * (fct c * 1)))
      rw [show a + (b + (c + 0)) = a + b + c by omega]
      exact this
  rw [← hm] at key
  exact Nat.le_of_mul_le_mul_right key hp
theorem ways_pos {t : List (List Int)} (h : Tab t) : 1 ≤ waysN t := by
  obtain ⟨y, e, hy⟩ := tab_cast h
  subst e
  rw [waysN_WW]
  clear h hy
  induction y with
  | nil => exact Nat.le_refl _
  | cons r y ih =>
    refine Nat.mul_pos ?_ ih
    have h1 := MM_fct r
    have h2 := fct_pos (sumN r)
    rcases Nat.eq_zero_or_pos (MM r) with h0 | h0
    · rw [h0, Nat.zero_mul] at h1; omega
    · exact h0
theorem sumB_mem {α : Type} {f : α → Nat} : ∀ {l : List α} {x : α}, x ∈ l → f x ≤ sumB f l
  | y :: l, x, h => by
    show f x ≤ f y + sumB f l
    rcases List.mem_cons.1 h with rfl | h
    · omega
    · have := sumB_mem (f := f) h; omega
end Go.Proofs.YtligakiolapkkaaDoor

namespace Go.Proofs.YtligakiolapkkaaDoor
open Go GoV
set_option linter.unusedVariables false
set_option linter.unusedSimpArgs false
set_option maxRecDepth 10000
theorem tsum_pos {t : List (List Int)} (h : Tab t) : 1 ≤ tsum t := by
  have h1 := sumB_mem (f := fun x => if waysN x ≤ waysN t then waysN x else 0) (allL_self h)
  simp only [Nat.le_refl, if_true] at h1
  have := ways_pos h
  unfold tsum
  omega
theorem tail_bounds {t : List (List Int)} (h : Tab t) : 1 ≤ tN t ∧ tN t ≤ tD t ∧ tD t ≤ 133024320 := by
  have h1 := tsum_pos h
  have h2 := tsum_le h
  have h3 := total_small h
  have hg : 0 < Nat.gcd (tsum t) (totalN t) := Nat.gcd_pos_of_pos_left _ (by omega)
  refine ⟨Nat.div_pos (Nat.le_of_dvd (by omega) (Nat.gcd_dvd_left _ _)) hg, Nat.div_le_div_right h2, Nat.le_trans (Nat.div_le_self _ _) h3⟩
theorem total_same {t x : List (List Int)} (h : Tab t) (hx : x ∈ allL t) : totalN x = totalN t := by
  obtain ⟨h1, h2, _⟩ := allL_props h hx
  have e : totL x = totL t := by
    show sumL (rowsL x) = sumL (rowsL t)
    rw [h1]
  rw [totalN, totalN, h2, e]
theorem argmax {α : Type} {f : α → Nat} {P : α → Bool} : ∀ (l : List α), (∃ x ∈ l, P x = true) → ∃ x ∈ l, P x = true ∧ ∀ y ∈ l, P y = true → f y ≤ f x
  | [], ⟨x, hx, _⟩ => by simp at hx
  | a :: l, ⟨x, hx, hp⟩ => by
    by_cases hl : ∃ x ∈ l, P x = true
    · obtain ⟨z, hz, hpz, hm⟩ := argmax l hl
      by_cases ha : P a = true ∧ f z ≤ f a
      · refine ⟨a, by simp, ha.1, fun y hy hpy => ?_⟩
        rcases List.mem_cons.1 hy with rfl | hy
        · exact Nat.le_refl _
        · exact Nat.le_trans (hm y hy hpy) ha.2
      · refine ⟨z, by simp [hz], hpz, fun y hy hpy => ?_⟩
        rcases List.mem_cons.1 hy with rfl | hy
        · have : ¬ f z ≤ f y := fun h => ha ⟨hpy, h⟩
          omega
        · exact hm y hy hpy
    · refine ⟨a, by simp, ?_, fun y hy hpy => ?_⟩
      · rcases List.mem_cons.1 hx with rfl | hx
        · exact hp
        · exact absurd ⟨x, hx, hp⟩ hl
      · rcases List.mem_cons.1 hy with rfl | hy
        · exact Nat.le_refl _
        · exact absurd ⟨y, hy, hpy⟩ hl
theorem sumB_le {α : Type} {f g : α → Nat} : ∀ (l : List α), (∀ x ∈ l, f x ≤ g x) → sumB f l ≤ sumB g l
  | [], _ => Nat.le_refl _
  | x :: l, h => Nat.add_le_add (h x (by simp)) (sumB_le l (fun y hy => h y (by simp [hy])))
/-- **the theorem of the stage** -/
theorem holds_thm {t : List (List Int)} (h : Tab t) (n d : Nat) (hz : lev n d = 0) (l : List (List (List Int))) (hl : sumB (fun x => if rej x n d then waysN x else 0) l ≤ sumB (fun x => if rej x n d then waysN x else 0) (allL t)) :
    sumB (fun x => if rej x n d then waysN x else 0) l * d ≤ n * totalN t := by
  refine Nat.le_trans (Nat.mul_le_mul_right d hl) ?_
  by_cases hex : ∃ x ∈ allL t, rej x n d = true
  · obtain ⟨z, hzm, hzr, hmax⟩ := argmax (f := waysN) (allL t) hex
    obtain ⟨_, _, hTz, _, _⟩ := allL_props h hzm
    have h1 : sumB (fun x => if rej x n d then waysN x else 0) (allL t) ≤ tsum z := by
      unfold tsum
      rw [allL_same h hzm]
      refine sumB_le _ (fun y hy => ?_)
      by_cases hr : rej y n d = true
      · simp only [hr, if_true]
        rw [if_pos (hmax y hy hr)]
        exact Nat.le_refl _
      · simp only [hr]
        exact Nat.zero_le _
    have h2 : tN z * d ≤ n * tD z := by
      have := hzr
      unfold rej at this
      rw [if_pos hz, Int.toNat_natCast, Int.toNat_natCast] at this
      exact of_decide_eq_true this
    have e1 : tN z * Nat.gcd (tsum z) (totalN z) = tsum z := Nat.div_mul_cancel (Nat.gcd_dvd_left _ _)
    have e2 : tD z * Nat.gcd (tsum z) (totalN z) = totalN z := Nat.div_mul_cancel (Nat.gcd_dvd_right _ _)
    obtain ⟨g, hg⟩ : ∃ g, Nat.gcd (tsum z) (totalN z) = g := ⟨_, rfl⟩
    rw [hg] at e1 e2
    refine Nat.le_trans (Nat.mul_le_mul_right d h1) ?_
    have h3 := Nat.mul_le_mul_right g h2
    rw [← total_same h hzm]
    calc tsum z * d = tN z * g * d := by rw [e1]
      _ = tN z * d * g := Nat.mul_right_comm _ _ _
      _ ≤ n * tD z * g := h3
      _ = n * (tD z * g) := Nat.mul_assoc _ _ _
      _ = n * totalN z := by rw [e2]
  · have h0 : sumB (fun x => if rej x n d then waysN x else 0) (allL t) = 0 := by
      have key : ∀ l : List (List (List Int)), (∀ x ∈ l, rej x n d ≠ true) → sumB (fun x => if rej x n d then waysN x else 0) l = 0 := by
        intro l
        induction l with
        | nil => intro _; rfl
        | cons x l ih =>
          intro hl
          show (if rej x n d then waysN x else 0) + _ = 0
          rw [if_neg (hl x (by simp)), ih (fun y hy => hl y (by simp [hy]))]
      exact key _ (fun x hx hr => hex ⟨x, hx, hr⟩)
    rw [h0, Nat.zero_mul]
    exact Nat.zero_le _
end Go.Proofs.YtligakiolapkkaaDoor
