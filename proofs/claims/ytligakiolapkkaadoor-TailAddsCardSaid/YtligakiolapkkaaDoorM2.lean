/- Texts of this claim, joined: an abstract machine over the model, proved sound; contracts of functions. -/
import Derived.Test.YtligakiolapkkaaDoorV34
import Derived.Test.YtligakiolapkkaaDoorM1
set_option linter.unusedSimpArgs false
set_option linter.unusedVariables false

namespace Go.Proofs.YtligakiolapkkaaDoor
open Go GoV
set_option maxHeartbeats 8000000
set_option maxRecDepth 10000
set_option linter.unusedVariables false
set_option linter.unusedSimpArgs false
def caps32 (K : Nat) : List AV := [.ptr (K + 5) 0, .ptr (K + 3) 0, .ptr (K + 1) 0, .ptr (K + 2) 0, .ptr (K + 9) 0]
def L32 (K k : Nat) (a0 a1 a2 c0 c1 x00 x01 x10 x11 x20 x21 : Int) : Heap := [.box [.yld k], .box [I a0, I a1, I a2], .box [I c0, I c1, I 0], .box [.slc (K + 6) 2 0 2, .slc (K + 7) 2 0 2, .slc (K + 8) 2 0 2], .box [.slc (K + 4) 0 0 3], .seq (.int .i64) [x00, x01] true, .seq (.int .i64) [x10, x11] true, .seq (.int .i64) [x20, x21] true, .box [.fn 56 [] [.ptr (K + 5) 0, .ptr (K + 3) 0, .ptr (K + 1) 0, .ptr (K + 2) 0, .ptr (K + 9) 0]]]
section
variable {σ : Type} {J : σ → Prop} {C : σ → Heap} {K k : Nat} {upd : σ → List (List Int) → σ} {r0 r1 r2 k0 k1 : Int}
def Yields32 (J : σ → Prop) (C : σ → Heap) (K k : Nat) (upd : σ → List (List Int) → σ) (r0 r1 r2 k0 k1 : Int) : Prop := ∀ (s : σ) (a0 a1 a2 c0 c1 x00 x01 x10 x11 x20 x21 : Int), J s → (0 ≤ x00 ∧ 0 ≤ x01 ∧ 0 ≤ x10 ∧ 0 ≤ x11 ∧ 0 ≤ x20 ∧ 0 ≤ x21) → (x00 + x01 = r0 ∧ x10 + x11 = r1 ∧ x20 + x21 = r2) → (x00 + x10 + x20 = k0 ∧ x01 + x11 + x21 = k1) →
    VYield Tryd.prog k [.slc (K + 4) 0 0 3] (C s ++ L32 K k a0 a1 a2 c0 c1 x00 x01 x10 x11 x20 x21) (fun v h' => v = B true ∧ h' = C (upd s [[x00, x01], [x10, x11], [x20, x21]]) ++ L32 K k a0 a1 a2 c0 c1 x00 x01 x10 x11 x20 x21)
theorem fill32_30 (hK : ∀ s, (C s).length = K + 1) (hR : ∀ s n, K + 1 ≤ n → rowsRefs n (C s) = true) (hk : k < K + 1) (hY : Yields32 J C K k upd r0 r1 r2 k0 k1) (s : σ) (a0 a1 a2 c0 c1 x00 x01 x10 x11 x20 x21 : Int) (hJ : Pre J upd s ((tabE [] [c0, c1]).map fun rest => [x00, x01] :: [x10, x11] :: [x20, x21] :: rest)) (hi : 0 ≤ x00 ∧ 0 ≤ x01 ∧ 0 ≤ x10 ∧ 0 ≤ x11 ∧ 0 ≤ x20 ∧ 0 ≤ x21 ∧ x00 + x01 = r0 ∧ x10 + x11 = r1 ∧ x20 + x21 = r2 ∧ x00 + x10 + x20 + c0 = k0 ∧ 0 ≤ c0 ∧ x01 + x11 + x21 + c1 = k1 ∧ 0 ≤ c1 ∧ r0 ≤ 20 ∧ r1 ≤ 20 ∧ r2 ≤ 20 ∧ k0 ≤ 20 ∧ k1 ≤ 20) :
    VCalls Tryd.prog 56 ([I 3, I 0] ++ caps32 K) (C s ++ L32 K k a0 a1 a2 c0 c1 x00 x01 x10 x11 x20 x21) (fun v h' => v = B true ∧ ∃ ys : List Int, h' = C (((tabE [] [c0, c1]).map fun rest => [x00, x01] :: [x10, x11] :: [x20, x21] :: rest).foldl upd s) ++ L32 K k a0 a1 a2 c0 c1 x00 x01 x10 x11 x20 x21) := by
  have kb := kbeq K
  by_cases hz : c0 = 0 ∧ c1 = 0
  · obtain ⟨rfl, rfl⟩ := hz
    refine vcalls_fn hmix h56 rfl ?_
    simp -implicitDefEqProofs only [c56, caps32, gK1 hK, gK2 hK, gK3 hK, gK4 hK, gK5 hK, gK6 hK, gK7 hK, gK8 hK, gK9 hK, sK1 hK, sK2 hK, sK3 hK, sK4 hK, sK5 hK, sK6 hK, sK7 hK, sK8 hK, sK9 hK, kb, List.length_append, beq_self_eq_true, L32, push_cast, Nat.reduceBEq, Nat.reduceLT, Nat.reduceLeDiff, Nat.reduceAdd, Nat.reduceSub, Nat.reduceMul, Nat.reduceEqDiff, reduceCtorEq, ↓reduceIte, Int.reduceEq, Int.reduceLT, Int.reduceLE, Int.reduceNe, Int.reduceAdd, Int.reduceSub, Int.reduceMul, Int.reduceToNat, Nat.reduceShiftRight, Nat.reduceAnd, Nat.reduceBNe]
    refine yld_rule (hY s a0 a1 a2 0 0 x00 x01 x10 x11 x20 x21 hJ.1 (by omega) (by omega) (by omega)) ?_
    rintro v h' ⟨rfl, rfl⟩
    simp -implicitDefEqProofs only [L32, push_cast, Nat.reduceBEq, Nat.reduceLT, Nat.reduceLeDiff, Nat.reduceAdd, Nat.reduceSub, Nat.reduceMul, Nat.reduceEqDiff, reduceCtorEq, ↓reduceIte, Int.reduceEq, Int.reduceLT, Int.reduceLE, Int.reduceNe, Int.reduceAdd, Int.reduceSub, Int.reduceMul, Int.reduceToNat, Nat.reduceShiftRight, Nat.reduceAnd, Nat.reduceBNe]
    refine fin_app (n := K + 10) (by simp [hK]) (by simp [hK] <;> omega) rfl (hR _ _ (by omega)) ?_ ⟨rfl, [], ?_⟩
    · simp [rowsRefs, rowRefs, refsLtL, refsLt, NatBlt]; omega
    · rfl
  · have hz2 : (decide (c0 = 0) && decide (c1 = 0)) = false := by simp only [Bool.and_eq_false_iff, decide_eq_false_iff_not]; omega
    refine vcalls_fn hmix h56 rfl ?_
    simp -implicitDefEqProofs only [c56, caps32, gK1 hK, gK2 hK, gK3 hK, gK4 hK, gK5 hK, gK6 hK, gK7 hK, gK8 hK, gK9 hK, sK1 hK, sK2 hK, sK3 hK, sK4 hK, sK5 hK, sK6 hK, sK7 hK, sK8 hK, sK9 hK, kb, List.length_append, beq_self_eq_true, L32, hz2, push_cast, Nat.reduceBEq, Nat.reduceLT, Nat.reduceLeDiff, Nat.reduceAdd, Nat.reduceSub, Nat.reduceMul, Nat.reduceEqDiff, reduceCtorEq, ↓reduceIte, Int.reduceEq, Int.reduceLT, Int.reduceLE, Int.reduceNe, Int.reduceAdd, Int.reduceSub, Int.reduceMul, Int.reduceToNat, Nat.reduceShiftRight, Nat.reduceAnd, Nat.reduceBNe]
    refine fin_app (n := K + 10) (by simp [hK]) (by simp [hK] <;> omega) rfl (hR _ _ (by omega)) ?_ ⟨rfl, [], ?_⟩
    · simp [rowsRefs, rowRefs, refsLtL, refsLt, NatBlt]; omega
    · rw [tabE_no (by simp; omega)]; rfl
theorem fill32_21 (hK : ∀ s, (C s).length = K + 1) (hR : ∀ s n, K + 1 ≤ n → rowsRefs n (C s) = true) (hk : k < K + 1) (hY : Yields32 J C K k upd r0 r1 r2 k0 k1) (s : σ) (a0 a1 a2 c0 c1 x00 x01 x10 x11 x20 x21 : Int) (hJ : Pre J upd s ((rowE (a2) [c1]).flatMap fun tl => (tabE [] (c0 :: subC [c1] tl)).map fun rest => [x00, x01] :: [x10, x11] :: (x20 :: tl) :: rest)) (hi : 0 ≤ x00 ∧ 0 ≤ x01 ∧ 0 ≤ x10 ∧ 0 ≤ x11 ∧ 0 ≤ x20 ∧ x00 + x01 = r0 ∧ x10 + x11 = r1 ∧ x20 + a2 = r2 ∧ 0 ≤ a2 ∧ x00 + x10 + x20 + c0 = k0 ∧ 0 ≤ c0 ∧ x01 + x11 + c1 = k1 ∧ 0 ≤ c1 ∧ r0 ≤ 20 ∧ r1 ≤ 20 ∧ r2 ≤ 20 ∧ k0 ≤ 20 ∧ k1 ≤ 20) :
    VCalls Tryd.prog 56 ([I 2, I 1] ++ caps32 K) (C s ++ L32 K k a0 a1 a2 c0 c1 x00 x01 x10 x11 x20 x21) (fun v h' => v = B true ∧ ∃ ys : List Int, h' = C (((rowE (a2) [c1]).flatMap fun tl => (tabE [] (c0 :: subC [c1] tl)).map fun rest => [x00, x01] :: [x10, x11] :: (x20 :: tl) :: rest).foldl upd s) ++ L32 K k a0 a1 a2 c0 c1 x00 x01 x10 x11 x20 (ys.getD 0 0)) := by
  have kb := kbeq K
  refine vcalls_fn hmix h56 rfl ?_
  simp -implicitDefEqProofs only [c56, caps32, gK1 hK, gK2 hK, gK3 hK, gK4 hK, gK5 hK, gK6 hK, gK7 hK, gK8 hK, gK9 hK, sK1 hK, sK2 hK, sK3 hK, sK4 hK, sK5 hK, sK6 hK, sK7 hK, sK8 hK, sK9 hK, kb, List.length_append, beq_self_eq_true, L32, push_cast, Nat.reduceBEq, Nat.reduceLT, Nat.reduceLeDiff, Nat.reduceAdd, Nat.reduceSub, Nat.reduceMul, Nat.reduceEqDiff, reduceCtorEq, ↓reduceIte, Int.reduceEq, Int.reduceLT, Int.reduceLE, Int.reduceNe, Int.reduceAdd, Int.reduceSub, Int.reduceMul, Int.reduceToNat, Nat.reduceShiftRight, Nat.reduceAnd, Nat.reduceBNe]
  refine ⟨by simp only [inR]; omega, fun hlt => ?_, fun hle => ?_⟩
  · skip
    refine fin_app (n := K + 10) (by simp [hK]) (by simp [hK] <;> omega) rfl (hR _ _ (by omega)) ?_ ⟨rfl, [x21], ?_⟩
    · simp [rowsRefs, rowRefs, refsLtL, refsLt, NatBlt]; omega
    · rw [show rowE a2 [c1] = [] from if_neg (by omega)]; rfl
  · refine ⟨by simp only [inR]; omega, by simp only [inR]; omega, ?_⟩
    have e : ((rowE (a2) [c1]).flatMap fun tl => (tabE [] (c0 :: subC [c1] tl)).map fun rest => [x00, x01] :: [x10, x11] :: (x20 :: tl) :: rest) = ((tabE [] [c0, (c1 - a2)]).map fun rest => [x00, x01] :: [x10, x11] :: [x20, a2] :: rest) := by
      rw [show rowE a2 [c1] = [[a2]] from if_pos (by omega)]
      simp only [tabE_cons, subC, List.map_flatMap, List.map_map, List.flatMap_cons, List.flatMap_nil, List.append_nil, Function.comp_def, List.nil_append, List.cons_append]
    rw [e] at hJ
    refine call_rule (fill32_30 hK hR hk hY s a0 a1 a2 c0 (c1 - a2) x00 x01 x10 x11 x20 a2 hJ (by omega)) ?_
    rintro v h' ⟨rfl, ys, rfl⟩
    simp -implicitDefEqProofs only [Int.sub_add_cancel, gK1 hK, gK2 hK, gK3 hK, gK4 hK, gK5 hK, gK6 hK, gK7 hK, gK8 hK, gK9 hK, sK1 hK, sK2 hK, sK3 hK, sK4 hK, sK5 hK, sK6 hK, sK7 hK, sK8 hK, sK9 hK, kb, List.length_append, beq_self_eq_true, L32, push_cast, Nat.reduceBEq, Nat.reduceLT, Nat.reduceLeDiff, Nat.reduceAdd, Nat.reduceSub, Nat.reduceMul, Nat.reduceEqDiff, reduceCtorEq, ↓reduceIte, Int.reduceEq, Int.reduceLT, Int.reduceLE, Int.reduceNe, Int.reduceAdd, Int.reduceSub, Int.reduceMul, Int.reduceToNat, Nat.reduceShiftRight, Nat.reduceAnd, Nat.reduceBNe]
    refine ⟨by simp only [inR]; omega, ?_⟩
    refine fin_app (n := K + 10) (by simp [hK]) (by simp [hK] <;> omega) rfl (hR _ _ (by omega)) ?_ ⟨rfl, a2 :: ys, ?_⟩
    · simp [rowsRefs, rowRefs, refsLtL, refsLt, NatBlt]; omega
    · rw [e]; rfl
theorem fill32_20 (hK : ∀ s, (C s).length = K + 1) (hR : ∀ s n, K + 1 ≤ n → rowsRefs n (C s) = true) (hk : k < K + 1) (hY : Yields32 J C K k upd r0 r1 r2 k0 k1) (s : σ) (a0 a1 a2 c0 c1 x00 x01 x10 x11 x20 x21 : Int) (hJ : Pre J upd s ((rowE (a2) [c0, c1]).flatMap fun tl => (tabE [] (subC [c0, c1] tl)).map fun rest => [x00, x01] :: [x10, x11] :: (tl) :: rest)) (hi : 0 ≤ x00 ∧ 0 ≤ x01 ∧ 0 ≤ x10 ∧ 0 ≤ x11 ∧ x00 + x01 = r0 ∧ x10 + x11 = r1 ∧ a2 = r2 ∧ 0 ≤ a2 ∧ x00 + x10 + c0 = k0 ∧ 0 ≤ c0 ∧ x01 + x11 + c1 = k1 ∧ 0 ≤ c1 ∧ r0 ≤ 20 ∧ r1 ≤ 20 ∧ r2 ≤ 20 ∧ k0 ≤ 20 ∧ k1 ≤ 20) :
    VCalls Tryd.prog 56 ([I 2, I 0] ++ caps32 K) (C s ++ L32 K k a0 a1 a2 c0 c1 x00 x01 x10 x11 x20 x21) (fun v h' => v = B true ∧ ∃ ys : List Int, h' = C (((rowE (a2) [c0, c1]).flatMap fun tl => (tabE [] (subC [c0, c1] tl)).map fun rest => [x00, x01] :: [x10, x11] :: (tl) :: rest).foldl upd s) ++ L32 K k a0 a1 a2 c0 c1 x00 x01 x10 x11 (ys.getD 0 0) (ys.getD 1 0)) := by
  have kb := kbeq K
  obtain ⟨Yp, hYp⟩ : ∃ Yp : Nat → List (List (List Int)), Yp = fun N => (List.range N).flatMap fun (q : Nat) => ((rowE ((a2 - ((q : Nat) : Int))) [c1]).flatMap fun tl => (tabE [] ((c0 - ((q : Nat) : Int)) :: subC [c1] tl)).map fun rest => [x00, x01] :: [x10, x11] :: (((q : Nat) : Int) :: tl) :: rest) := ⟨_, rfl⟩
  have hY0 : Yp 0 = [] := by rw [hYp]; rfl
  have hYs : ∀ q : Nat, Yp (q + 1) = Yp q ++ ((rowE ((a2 - ((q : Nat) : Int))) [c1]).flatMap fun tl => (tabE [] ((c0 - ((q : Nat) : Int)) :: subC [c1] tl)).map fun rest => [x00, x01] :: [x10, x11] :: (((q : Nat) : Int) :: tl) :: rest) := by
    intro q
    simp only [hYp, List.range_succ, List.flatMap_append, List.flatMap_cons, List.flatMap_nil, List.append_nil]
  have hYe : ((rowE (a2) [c0, c1]).flatMap fun tl => (tabE [] (subC [c0, c1] tl)).map fun rest => [x00, x01] :: [x10, x11] :: (tl) :: rest) = Yp (min a2 c0 + 1).toNat := by
    rw [hYp]
    simp only [rowE, subC, List.flatMap_assoc, List.flatMap_map]
  rw [hYe] at hJ ⊢
  have hpre := pre_steps hYs _ hJ
  clear hYe hYp
  refine vcalls_fn hmix h56 rfl ?_
  simp -implicitDefEqProofs only [c56, caps32, gK1 hK, gK2 hK, gK3 hK, gK4 hK, gK5 hK, gK6 hK, gK7 hK, gK8 hK, gK9 hK, sK1 hK, sK2 hK, sK3 hK, sK4 hK, sK5 hK, sK6 hK, sK7 hK, sK8 hK, sK9 hK, kb, List.length_append, beq_self_eq_true, L32, push_cast, Nat.reduceBEq, Nat.reduceLT, Nat.reduceLeDiff, Nat.reduceAdd, Nat.reduceSub, Nat.reduceMul, Nat.reduceEqDiff, reduceCtorEq, ↓reduceIte, Int.reduceEq, Int.reduceLT, Int.reduceLE, Int.reduceNe, Int.reduceAdd, Int.reduceSub, Int.reduceMul, Int.reduceToNat, Nat.reduceShiftRight, Nat.reduceAnd, Nat.reduceBNe]
  refine ⟨by simp only [inR]; omega, by simp only [inR]; omega, ?_⟩
  refine loop_w (α := Nat × List Int) (fun b => ⟨[(77, I b.1), (76, I (min a2 c0 + 1)), (6, .ptr (K + 9) 0), (5, .ptr (K + 2) 0), (3, .ptr (K + 3) 0), (2, .ptr (K + 5) 0), (1, I 0), (0, I 2)], C ((Yp b.1).foldl upd s) ++ L32 K k a0 a1 a2 c0 c1 x00 x01 x10 x11 (b.2.getD 0 0) (b.2.getD 1 0), []⟩)
    (fun b => b.1 ≤ (min a2 c0 + 1).toNat) (fun b => (min a2 c0 + 1).toNat - b.1) (0, [x20, x21]) (by rw [hY0]; exact wk_tk rfl) (by simp only; omega) ?_
  rintro ⟨q, ys⟩ hq
  simp only at hq
  simp -implicitDefEqProofs only [c56L0, gK1 hK, gK2 hK, gK3 hK, gK4 hK, gK5 hK, gK6 hK, gK7 hK, gK8 hK, gK9 hK, sK1 hK, sK2 hK, sK3 hK, sK4 hK, sK5 hK, sK6 hK, sK7 hK, sK8 hK, sK9 hK, kb, List.length_append, beq_self_eq_true, L32, push_cast, Nat.reduceBEq, Nat.reduceLT, Nat.reduceLeDiff, Nat.reduceAdd, Nat.reduceSub, Nat.reduceMul, Nat.reduceEqDiff, reduceCtorEq, ↓reduceIte, Int.reduceEq, Int.reduceLT, Int.reduceLE, Int.reduceNe, Int.reduceAdd, Int.reduceSub, Int.reduceMul, Int.reduceToNat, Nat.reduceShiftRight, Nat.reduceAnd, Nat.reduceBNe]
  refine ⟨fun hc => ?_, fun hc => ?_⟩
  · refine ⟨by simp only [inR]; omega, by simp only [inR]; omega, by simp only [inR]; omega, ?_⟩
    refine call_rule (fill32_21 hK hR hk hY _ a0 a1 (a2 - (q : Int)) (c0 - (q : Int)) c1 x00 x01 x10 x11 (q : Int) (ys.getD 1 0) (hpre q (by omega)) (by omega)) ?_
    rintro v h' ⟨rfl, ys2, rfl⟩
    simp -implicitDefEqProofs only [Int.sub_add_cancel, gK1 hK, gK2 hK, gK3 hK, gK4 hK, gK5 hK, gK6 hK, gK7 hK, gK8 hK, gK9 hK, sK1 hK, sK2 hK, sK3 hK, sK4 hK, sK5 hK, sK6 hK, sK7 hK, sK8 hK, sK9 hK, kb, List.length_append, beq_self_eq_true, L32, push_cast, Nat.reduceBEq, Nat.reduceLT, Nat.reduceLeDiff, Nat.reduceAdd, Nat.reduceSub, Nat.reduceMul, Nat.reduceEqDiff, reduceCtorEq, ↓reduceIte, Int.reduceEq, Int.reduceLT, Int.reduceLE, Int.reduceNe, Int.reduceAdd, Int.reduceSub, Int.reduceMul, Int.reduceToNat, Nat.reduceShiftRight, Nat.reduceAnd, Nat.reduceBNe]
    refine ⟨by simp only [inR]; omega, by simp only [inR]; omega, by simp only [inR]; omega, (q + 1, (q : Int) :: ys2), by simp only; omega, by simp only; omega, ?_⟩
    simp only [hYs, List.foldl_append]
    exact wk_tk rfl
  · have hqe : q = (min a2 c0 + 1).toNat := by omega
    subst hqe
    refine fin_app (n := K + 10) (by simp [hK]) (by simp [hK] <;> omega) rfl (hR _ _ (by omega)) ?_ ⟨rfl, ys, ?_⟩
    · simp [rowsRefs, rowRefs, refsLtL, refsLt, NatBlt]; omega
    · rfl
theorem fill32_11 (hK : ∀ s, (C s).length = K + 1) (hR : ∀ s n, K + 1 ≤ n → rowsRefs n (C s) = true) (hk : k < K + 1) (hY : Yields32 J C K k upd r0 r1 r2 k0 k1) (s : σ) (a0 a1 a2 c0 c1 x00 x01 x10 x11 x20 x21 : Int) (hJ : Pre J upd s ((rowE (a1) [c1]).flatMap fun tl => (tabE [a2] (c0 :: subC [c1] tl)).map fun rest => [x00, x01] :: (x10 :: tl) :: rest)) (hi : 0 ≤ x00 ∧ 0 ≤ x01 ∧ 0 ≤ x10 ∧ x00 + x01 = r0 ∧ x10 + a1 = r1 ∧ 0 ≤ a1 ∧ a2 = r2 ∧ 0 ≤ a2 ∧ x00 + x10 + c0 = k0 ∧ 0 ≤ c0 ∧ x01 + c1 = k1 ∧ 0 ≤ c1 ∧ r0 ≤ 20 ∧ r1 ≤ 20 ∧ r2 ≤ 20 ∧ k0 ≤ 20 ∧ k1 ≤ 20) :
    VCalls Tryd.prog 56 ([I 1, I 1] ++ caps32 K) (C s ++ L32 K k a0 a1 a2 c0 c1 x00 x01 x10 x11 x20 x21) (fun v h' => v = B true ∧ ∃ ys : List Int, h' = C (((rowE (a1) [c1]).flatMap fun tl => (tabE [a2] (c0 :: subC [c1] tl)).map fun rest => [x00, x01] :: (x10 :: tl) :: rest).foldl upd s) ++ L32 K k a0 a1 a2 c0 c1 x00 x01 x10 (ys.getD 0 0) (ys.getD 1 0) (ys.getD 2 0)) := by
  have kb := kbeq K
  refine vcalls_fn hmix h56 rfl ?_
  simp -implicitDefEqProofs only [c56, caps32, gK1 hK, gK2 hK, gK3 hK, gK4 hK, gK5 hK, gK6 hK, gK7 hK, gK8 hK, gK9 hK, sK1 hK, sK2 hK, sK3 hK, sK4 hK, sK5 hK, sK6 hK, sK7 hK, sK8 hK, sK9 hK, kb, List.length_append, beq_self_eq_true, L32, push_cast, Nat.reduceBEq, Nat.reduceLT, Nat.reduceLeDiff, Nat.reduceAdd, Nat.reduceSub, Nat.reduceMul, Nat.reduceEqDiff, reduceCtorEq, ↓reduceIte, Int.reduceEq, Int.reduceLT, Int.reduceLE, Int.reduceNe, Int.reduceAdd, Int.reduceSub, Int.reduceMul, Int.reduceToNat, Nat.reduceShiftRight, Nat.reduceAnd, Nat.reduceBNe]
  refine ⟨by simp only [inR]; omega, fun hlt => ?_, fun hle => ?_⟩
  · skip
    refine fin_app (n := K + 10) (by simp [hK]) (by simp [hK] <;> omega) rfl (hR _ _ (by omega)) ?_ ⟨rfl, [x11, x20, x21], ?_⟩
    · simp [rowsRefs, rowRefs, refsLtL, refsLt, NatBlt]; omega
    · rw [show rowE a1 [c1] = [] from if_neg (by omega)]; rfl
  · refine ⟨by simp only [inR]; omega, by simp only [inR]; omega, ?_⟩
    have e : ((rowE (a1) [c1]).flatMap fun tl => (tabE [a2] (c0 :: subC [c1] tl)).map fun rest => [x00, x01] :: (x10 :: tl) :: rest) = ((rowE (a2) [c0, (c1 - a1)]).flatMap fun tl => (tabE [] (subC [c0, (c1 - a1)] tl)).map fun rest => [x00, x01] :: [x10, a1] :: (tl) :: rest) := by
      rw [show rowE a1 [c1] = [[a1]] from if_pos (by omega)]
      simp only [tabE_cons, subC, List.map_flatMap, List.map_map, List.flatMap_cons, List.flatMap_nil, List.append_nil, Function.comp_def, List.nil_append, List.cons_append]
    rw [e] at hJ
    refine call_rule (fill32_20 hK hR hk hY s a0 a1 a2 c0 (c1 - a1) x00 x01 x10 a1 x20 x21 hJ (by omega)) ?_
    rintro v h' ⟨rfl, ys, rfl⟩
    simp -implicitDefEqProofs only [Int.sub_add_cancel, gK1 hK, gK2 hK, gK3 hK, gK4 hK, gK5 hK, gK6 hK, gK7 hK, gK8 hK, gK9 hK, sK1 hK, sK2 hK, sK3 hK, sK4 hK, sK5 hK, sK6 hK, sK7 hK, sK8 hK, sK9 hK, kb, List.length_append, beq_self_eq_true, L32, push_cast, Nat.reduceBEq, Nat.reduceLT, Nat.reduceLeDiff, Nat.reduceAdd, Nat.reduceSub, Nat.reduceMul, Nat.reduceEqDiff, reduceCtorEq, ↓reduceIte, Int.reduceEq, Int.reduceLT, Int.reduceLE, Int.reduceNe, Int.reduceAdd, Int.reduceSub, Int.reduceMul, Int.reduceToNat, Nat.reduceShiftRight, Nat.reduceAnd, Nat.reduceBNe]
    refine ⟨by simp only [inR]; omega, ?_⟩
    refine fin_app (n := K + 10) (by simp [hK]) (by simp [hK] <;> omega) rfl (hR _ _ (by omega)) ?_ ⟨rfl, a1 :: ys, ?_⟩
    · simp [rowsRefs, rowRefs, refsLtL, refsLt, NatBlt]; omega
    · rw [e]; rfl
theorem fill32_10 (hK : ∀ s, (C s).length = K + 1) (hR : ∀ s n, K + 1 ≤ n → rowsRefs n (C s) = true) (hk : k < K + 1) (hY : Yields32 J C K k upd r0 r1 r2 k0 k1) (s : σ) (a0 a1 a2 c0 c1 x00 x01 x10 x11 x20 x21 : Int) (hJ : Pre J upd s ((rowE (a1) [c0, c1]).flatMap fun tl => (tabE [a2] (subC [c0, c1] tl)).map fun rest => [x00, x01] :: (tl) :: rest)) (hi : 0 ≤ x00 ∧ 0 ≤ x01 ∧ x00 + x01 = r0 ∧ a1 = r1 ∧ 0 ≤ a1 ∧ a2 = r2 ∧ 0 ≤ a2 ∧ x00 + c0 = k0 ∧ 0 ≤ c0 ∧ x01 + c1 = k1 ∧ 0 ≤ c1 ∧ r0 ≤ 20 ∧ r1 ≤ 20 ∧ r2 ≤ 20 ∧ k0 ≤ 20 ∧ k1 ≤ 20) :
    VCalls Tryd.prog 56 ([I 1, I 0] ++ caps32 K) (C s ++ L32 K k a0 a1 a2 c0 c1 x00 x01 x10 x11 x20 x21) (fun v h' => v = B true ∧ ∃ ys : List Int, h' = C (((rowE (a1) [c0, c1]).flatMap fun tl => (tabE [a2] (subC [c0, c1] tl)).map fun rest => [x00, x01] :: (tl) :: rest).foldl upd s) ++ L32 K k a0 a1 a2 c0 c1 x00 x01 (ys.getD 0 0) (ys.getD 1 0) (ys.getD 2 0) (ys.getD 3 0)) := by
  have kb := kbeq K
  obtain ⟨Yp, hYp⟩ : ∃ Yp : Nat → List (List (List Int)), Yp = fun N => (List.range N).flatMap fun (q : Nat) => ((rowE ((a1 - ((q : Nat) : Int))) [c1]).flatMap fun tl => (tabE [a2] ((c0 - ((q : Nat) : Int)) :: subC [c1] tl)).map fun rest => [x00, x01] :: (((q : Nat) : Int) :: tl) :: rest) := ⟨_, rfl⟩
  have hY0 : Yp 0 = [] := by rw [hYp]; rfl
  have hYs : ∀ q : Nat, Yp (q + 1) = Yp q ++ ((rowE ((a1 - ((q : Nat) : Int))) [c1]).flatMap fun tl => (tabE [a2] ((c0 - ((q : Nat) : Int)) :: subC [c1] tl)).map fun rest => [x00, x01] :: (((q : Nat) : Int) :: tl) :: rest) := by
    intro q
    simp only [hYp, List.range_succ, List.flatMap_append, List.flatMap_cons, List.flatMap_nil, List.append_nil]
  have hYe : ((rowE (a1) [c0, c1]).flatMap fun tl => (tabE [a2] (subC [c0, c1] tl)).map fun rest => [x00, x01] :: (tl) :: rest) = Yp (min a1 c0 + 1).toNat := by
    rw [hYp]
    simp only [rowE, subC, List.flatMap_assoc, List.flatMap_map]
  rw [hYe] at hJ ⊢
  have hpre := pre_steps hYs _ hJ
  clear hYe hYp
  refine vcalls_fn hmix h56 rfl ?_
  simp -implicitDefEqProofs only [c56, caps32, gK1 hK, gK2 hK, gK3 hK, gK4 hK, gK5 hK, gK6 hK, gK7 hK, gK8 hK, gK9 hK, sK1 hK, sK2 hK, sK3 hK, sK4 hK, sK5 hK, sK6 hK, sK7 hK, sK8 hK, sK9 hK, kb, List.length_append, beq_self_eq_true, L32, push_cast, Nat.reduceBEq, Nat.reduceLT, Nat.reduceLeDiff, Nat.reduceAdd, Nat.reduceSub, Nat.reduceMul, Nat.reduceEqDiff, reduceCtorEq, ↓reduceIte, Int.reduceEq, Int.reduceLT, Int.reduceLE, Int.reduceNe, Int.reduceAdd, Int.reduceSub, Int.reduceMul, Int.reduceToNat, Nat.reduceShiftRight, Nat.reduceAnd, Nat.reduceBNe]
  refine ⟨by simp only [inR]; omega, by simp only [inR]; omega, ?_⟩
  refine loop_w (α := Nat × List Int) (fun b => ⟨[(77, I b.1), (76, I (min a1 c0 + 1)), (6, .ptr (K + 9) 0), (5, .ptr (K + 2) 0), (3, .ptr (K + 3) 0), (2, .ptr (K + 5) 0), (1, I 0), (0, I 1)], C ((Yp b.1).foldl upd s) ++ L32 K k a0 a1 a2 c0 c1 x00 x01 (b.2.getD 0 0) (b.2.getD 1 0) (b.2.getD 2 0) (b.2.getD 3 0), []⟩)
    (fun b => b.1 ≤ (min a1 c0 + 1).toNat) (fun b => (min a1 c0 + 1).toNat - b.1) (0, [x10, x11, x20, x21]) (by rw [hY0]; exact wk_tk rfl) (by simp only; omega) ?_
  rintro ⟨q, ys⟩ hq
  simp only at hq
  simp -implicitDefEqProofs only [c56L0, gK1 hK, gK2 hK, gK3 hK, gK4 hK, gK5 hK, gK6 hK, gK7 hK, gK8 hK, gK9 hK, sK1 hK, sK2 hK, sK3 hK, sK4 hK, sK5 hK, sK6 hK, sK7 hK, sK8 hK, sK9 hK, kb, List.length_append, beq_self_eq_true, L32, push_cast, Nat.reduceBEq, Nat.reduceLT, Nat.reduceLeDiff, Nat.reduceAdd, Nat.reduceSub, Nat.reduceMul, Nat.reduceEqDiff, reduceCtorEq, ↓reduceIte, Int.reduceEq, Int.reduceLT, Int.reduceLE, Int.reduceNe, Int.reduceAdd, Int.reduceSub, Int.reduceMul, Int.reduceToNat, Nat.reduceShiftRight, Nat.reduceAnd, Nat.reduceBNe]
  refine ⟨fun hc => ?_, fun hc => ?_⟩
  · refine ⟨by simp only [inR]; omega, by simp only [inR]; omega, by simp only [inR]; omega, ?_⟩
    refine call_rule (fill32_11 hK hR hk hY _ a0 (a1 - (q : Int)) a2 (c0 - (q : Int)) c1 x00 x01 (q : Int) (ys.getD 1 0) (ys.getD 2 0) (ys.getD 3 0) (hpre q (by omega)) (by omega)) ?_
    rintro v h' ⟨rfl, ys2, rfl⟩
    simp -implicitDefEqProofs only [Int.sub_add_cancel, gK1 hK, gK2 hK, gK3 hK, gK4 hK, gK5 hK, gK6 hK, gK7 hK, gK8 hK, gK9 hK, sK1 hK, sK2 hK, sK3 hK, sK4 hK, sK5 hK, sK6 hK, sK7 hK, sK8 hK, sK9 hK, kb, List.length_append, beq_self_eq_true, L32, push_cast, Nat.reduceBEq, Nat.reduceLT, Nat.reduceLeDiff, Nat.reduceAdd, Nat.reduceSub, Nat.reduceMul, Nat.reduceEqDiff, reduceCtorEq, ↓reduceIte, Int.reduceEq, Int.reduceLT, Int.reduceLE, Int.reduceNe, Int.reduceAdd, Int.reduceSub, Int.reduceMul, Int.reduceToNat, Nat.reduceShiftRight, Nat.reduceAnd, Nat.reduceBNe]
    refine ⟨by simp only [inR]; omega, by simp only [inR]; omega, by simp only [inR]; omega, (q + 1, (q : Int) :: ys2), by simp only; omega, by simp only; omega, ?_⟩
    simp only [hYs, List.foldl_append]
    exact wk_tk rfl
  · have hqe : q = (min a1 c0 + 1).toNat := by omega
    subst hqe
    refine fin_app (n := K + 10) (by simp [hK]) (by simp [hK] <;> omega) rfl (hR _ _ (by omega)) ?_ ⟨rfl, ys, ?_⟩
    · simp [rowsRefs, rowRefs, refsLtL, refsLt, NatBlt]; omega
    · rfl
theorem fill32_01 (hK : ∀ s, (C s).length = K + 1) (hR : ∀ s n, K + 1 ≤ n → rowsRefs n (C s) = true) (hk : k < K + 1) (hY : Yields32 J C K k upd r0 r1 r2 k0 k1) (s : σ) (a0 a1 a2 c0 c1 x00 x01 x10 x11 x20 x21 : Int) (hJ : Pre J upd s ((rowE (a0) [c1]).flatMap fun tl => (tabE [a1, a2] (c0 :: subC [c1] tl)).map fun rest => (x00 :: tl) :: rest)) (hi : 0 ≤ x00 ∧ x00 + a0 = r0 ∧ 0 ≤ a0 ∧ a1 = r1 ∧ 0 ≤ a1 ∧ a2 = r2 ∧ 0 ≤ a2 ∧ x00 + c0 = k0 ∧ 0 ≤ c0 ∧ c1 = k1 ∧ 0 ≤ c1 ∧ r0 ≤ 20 ∧ r1 ≤ 20 ∧ r2 ≤ 20 ∧ k0 ≤ 20 ∧ k1 ≤ 20) :
    VCalls Tryd.prog 56 ([I 0, I 1] ++ caps32 K) (C s ++ L32 K k a0 a1 a2 c0 c1 x00 x01 x10 x11 x20 x21) (fun v h' => v = B true ∧ ∃ ys : List Int, h' = C (((rowE (a0) [c1]).flatMap fun tl => (tabE [a1, a2] (c0 :: subC [c1] tl)).map fun rest => (x00 :: tl) :: rest).foldl upd s) ++ L32 K k a0 a1 a2 c0 c1 x00 (ys.getD 0 0) (ys.getD 1 0) (ys.getD 2 0) (ys.getD 3 0) (ys.getD 4 0)) := by
  have kb := kbeq K
  refine vcalls_fn hmix h56 rfl ?_
  simp -implicitDefEqProofs only [c56, caps32, gK1 hK, gK2 hK, gK3 hK, gK4 hK, gK5 hK, gK6 hK, gK7 hK, gK8 hK, gK9 hK, sK1 hK, sK2 hK, sK3 hK, sK4 hK, sK5 hK, sK6 hK, sK7 hK, sK8 hK, sK9 hK, kb, List.length_append, beq_self_eq_true, L32, push_cast, Nat.reduceBEq, Nat.reduceLT, Nat.reduceLeDiff, Nat.reduceAdd, Nat.reduceSub, Nat.reduceMul, Nat.reduceEqDiff, reduceCtorEq, ↓reduceIte, Int.reduceEq, Int.reduceLT, Int.reduceLE, Int.reduceNe, Int.reduceAdd, Int.reduceSub, Int.reduceMul, Int.reduceToNat, Nat.reduceShiftRight, Nat.reduceAnd, Nat.reduceBNe]
  refine ⟨by simp only [inR]; omega, fun hlt => ?_, fun hle => ?_⟩
  · skip
    refine fin_app (n := K + 10) (by simp [hK]) (by simp [hK] <;> omega) rfl (hR _ _ (by omega)) ?_ ⟨rfl, [x01, x10, x11, x20, x21], ?_⟩
    · simp [rowsRefs, rowRefs, refsLtL, refsLt, NatBlt]; omega
    · rw [show rowE a0 [c1] = [] from if_neg (by omega)]; rfl
  · refine ⟨by simp only [inR]; omega, by simp only [inR]; omega, ?_⟩
    have e : ((rowE (a0) [c1]).flatMap fun tl => (tabE [a1, a2] (c0 :: subC [c1] tl)).map fun rest => (x00 :: tl) :: rest) = ((rowE (a1) [c0, (c1 - a0)]).flatMap fun tl => (tabE [a2] (subC [c0, (c1 - a0)] tl)).map fun rest => [x00, a0] :: (tl) :: rest) := by
      rw [show rowE a0 [c1] = [[a0]] from if_pos (by omega)]
      simp only [tabE_cons, subC, List.map_flatMap, List.map_map, List.flatMap_cons, List.flatMap_nil, List.append_nil, Function.comp_def, List.nil_append, List.cons_append]
    rw [e] at hJ
    refine call_rule (fill32_10 hK hR hk hY s a0 a1 a2 c0 (c1 - a0) x00 a0 x10 x11 x20 x21 hJ (by omega)) ?_
    rintro v h' ⟨rfl, ys, rfl⟩
    simp -implicitDefEqProofs only [Int.sub_add_cancel, gK1 hK, gK2 hK, gK3 hK, gK4 hK, gK5 hK, gK6 hK, gK7 hK, gK8 hK, gK9 hK, sK1 hK, sK2 hK, sK3 hK, sK4 hK, sK5 hK, sK6 hK, sK7 hK, sK8 hK, sK9 hK, kb, List.length_append, beq_self_eq_true, L32, push_cast, Nat.reduceBEq, Nat.reduceLT, Nat.reduceLeDiff, Nat.reduceAdd, Nat.reduceSub, Nat.reduceMul, Nat.reduceEqDiff, reduceCtorEq, ↓reduceIte, Int.reduceEq, Int.reduceLT, Int.reduceLE, Int.reduceNe, Int.reduceAdd, Int.reduceSub, Int.reduceMul, Int.reduceToNat, Nat.reduceShiftRight, Nat.reduceAnd, Nat.reduceBNe]
    refine ⟨by simp only [inR]; omega, ?_⟩
    refine fin_app (n := K + 10) (by simp [hK]) (by simp [hK] <;> omega) rfl (hR _ _ (by omega)) ?_ ⟨rfl, a0 :: ys, ?_⟩
    · simp [rowsRefs, rowRefs, refsLtL, refsLt, NatBlt]; omega
    · rw [e]; rfl
theorem fill32_00 (hK : ∀ s, (C s).length = K + 1) (hR : ∀ s n, K + 1 ≤ n → rowsRefs n (C s) = true) (hk : k < K + 1) (hY : Yields32 J C K k upd r0 r1 r2 k0 k1) (s : σ) (a0 a1 a2 c0 c1 x00 x01 x10 x11 x20 x21 : Int) (hJ : Pre J upd s ((rowE (a0) [c0, c1]).flatMap fun tl => (tabE [a1, a2] (subC [c0, c1] tl)).map fun rest => (tl) :: rest)) (hi : a0 = r0 ∧ 0 ≤ a0 ∧ a1 = r1 ∧ 0 ≤ a1 ∧ a2 = r2 ∧ 0 ≤ a2 ∧ c0 = k0 ∧ 0 ≤ c0 ∧ c1 = k1 ∧ 0 ≤ c1 ∧ r0 ≤ 20 ∧ r1 ≤ 20 ∧ r2 ≤ 20 ∧ k0 ≤ 20 ∧ k1 ≤ 20) :
    VCalls Tryd.prog 56 ([I 0, I 0] ++ caps32 K) (C s ++ L32 K k a0 a1 a2 c0 c1 x00 x01 x10 x11 x20 x21) (fun v h' => v = B true ∧ ∃ ys : List Int, h' = C (((rowE (a0) [c0, c1]).flatMap fun tl => (tabE [a1, a2] (subC [c0, c1] tl)).map fun rest => (tl) :: rest).foldl upd s) ++ L32 K k a0 a1 a2 c0 c1 (ys.getD 0 0) (ys.getD 1 0) (ys.getD 2 0) (ys.getD 3 0) (ys.getD 4 0) (ys.getD 5 0)) := by
  have kb := kbeq K
  obtain ⟨Yp, hYp⟩ : ∃ Yp : Nat → List (List (List Int)), Yp = fun N => (List.range N).flatMap fun (q : Nat) => ((rowE ((a0 - ((q : Nat) : Int))) [c1]).flatMap fun tl => (tabE [a1, a2] ((c0 - ((q : Nat) : Int)) :: subC [c1] tl)).map fun rest => (((q : Nat) : Int) :: tl) :: rest) := ⟨_, rfl⟩
  have hY0 : Yp 0 = [] := by rw [hYp]; rfl
  have hYs : ∀ q : Nat, Yp (q + 1) = Yp q ++ ((rowE ((a0 - ((q : Nat) : Int))) [c1]).flatMap fun tl => (tabE [a1, a2] ((c0 - ((q : Nat) : Int)) :: subC [c1] tl)).map fun rest => (((q : Nat) : Int) :: tl) :: rest) := by
    intro q
    simp only [hYp, List.range_succ, List.flatMap_append, List.flatMap_cons, List.flatMap_nil, List.append_nil]
  have hYe : ((rowE (a0) [c0, c1]).flatMap fun tl => (tabE [a1, a2] (subC [c0, c1] tl)).map fun rest => (tl) :: rest) = Yp (min a0 c0 + 1).toNat := by
    rw [hYp]
    simp only [rowE, subC, List.flatMap_assoc, List.flatMap_map]
  rw [hYe] at hJ ⊢
  have hpre := pre_steps hYs _ hJ
  clear hYe hYp
  refine vcalls_fn hmix h56 rfl ?_
  simp -implicitDefEqProofs only [c56, caps32, gK1 hK, gK2 hK, gK3 hK, gK4 hK, gK5 hK, gK6 hK, gK7 hK, gK8 hK, gK9 hK, sK1 hK, sK2 hK, sK3 hK, sK4 hK, sK5 hK, sK6 hK, sK7 hK, sK8 hK, sK9 hK, kb, List.length_append, beq_self_eq_true, L32, push_cast, Nat.reduceBEq, Nat.reduceLT, Nat.reduceLeDiff, Nat.reduceAdd, Nat.reduceSub, Nat.reduceMul, Nat.reduceEqDiff, reduceCtorEq, ↓reduceIte, Int.reduceEq, Int.reduceLT, Int.reduceLE, Int.reduceNe, Int.reduceAdd, Int.reduceSub, Int.reduceMul, Int.reduceToNat, Nat.reduceShiftRight, Nat.reduceAnd, Nat.reduceBNe]
  refine ⟨by simp only [inR]; omega, by simp only [inR]; omega, ?_⟩
  refine loop_w (α := Nat × List Int) (fun b => ⟨[(77, I b.1), (76, I (min a0 c0 + 1)), (6, .ptr (K + 9) 0), (5, .ptr (K + 2) 0), (3, .ptr (K + 3) 0), (2, .ptr (K + 5) 0), (1, I 0), (0, I 0)], C ((Yp b.1).foldl upd s) ++ L32 K k a0 a1 a2 c0 c1 (b.2.getD 0 0) (b.2.getD 1 0) (b.2.getD 2 0) (b.2.getD 3 0) (b.2.getD 4 0) (b.2.getD 5 0), []⟩)
    (fun b => b.1 ≤ (min a0 c0 + 1).toNat) (fun b => (min a0 c0 + 1).toNat - b.1) (0, [x00, x01, x10, x11, x20, x21]) (by rw [hY0]; exact wk_tk rfl) (by simp only; omega) ?_
  rintro ⟨q, ys⟩ hq
  simp only at hq
  simp -implicitDefEqProofs only [c56L0, gK1 hK, gK2 hK, gK3 hK, gK4 hK, gK5 hK, gK6 hK, gK7 hK, gK8 hK, gK9 hK, sK1 hK, sK2 hK, sK3 hK, sK4 hK, sK5 hK, sK6 hK, sK7 hK, sK8 hK, sK9 hK, kb, List.length_append, beq_self_eq_true, L32, push_cast, Nat.reduceBEq, Nat.reduceLT, Nat.reduceLeDiff, Nat.reduceAdd, Nat.reduceSub, Nat.reduceMul, Nat.reduceEqDiff, reduceCtorEq, ↓reduceIte, Int.reduceEq, Int.reduceLT, Int.reduceLE, Int.reduceNe, Int.reduceAdd, Int.reduceSub, Int.reduceMul, Int.reduceToNat, Nat.reduceShiftRight, Nat.reduceAnd, Nat.reduceBNe]
  refine ⟨fun hc => ?_, fun hc => ?_⟩
  · refine ⟨by simp only [inR]; omega, by simp only [inR]; omega, by simp only [inR]; omega, ?_⟩
    refine call_rule (fill32_01 hK hR hk hY _ (a0 - (q : Int)) a1 a2 (c0 - (q : Int)) c1 (q : Int) (ys.getD 1 0) (ys.getD 2 0) (ys.getD 3 0) (ys.getD 4 0) (ys.getD 5 0) (hpre q (by omega)) (by omega)) ?_
    rintro v h' ⟨rfl, ys2, rfl⟩
    simp -implicitDefEqProofs only [Int.sub_add_cancel, gK1 hK, gK2 hK, gK3 hK, gK4 hK, gK5 hK, gK6 hK, gK7 hK, gK8 hK, gK9 hK, sK1 hK, sK2 hK, sK3 hK, sK4 hK, sK5 hK, sK6 hK, sK7 hK, sK8 hK, sK9 hK, kb, List.length_append, beq_self_eq_true, L32, push_cast, Nat.reduceBEq, Nat.reduceLT, Nat.reduceLeDiff, Nat.reduceAdd, Nat.reduceSub, Nat.reduceMul, Nat.reduceEqDiff, reduceCtorEq, ↓reduceIte, Int.reduceEq, Int.reduceLT, Int.reduceLE, Int.reduceNe, Int.reduceAdd, Int.reduceSub, Int.reduceMul, Int.reduceToNat, Nat.reduceShiftRight, Nat.reduceAnd, Nat.reduceBNe]
    refine ⟨by simp only [inR]; omega, by simp only [inR]; omega, by simp only [inR]; omega, (q + 1, (q : Int) :: ys2), by simp only; omega, by simp only; omega, ?_⟩
    simp only [hYs, List.foldl_append]
    exact wk_tk rfl
  · have hqe : q = (min a0 c0 + 1).toNat := by omega
    subst hqe
    refine fin_app (n := K + 10) (by simp [hK]) (by simp [hK] <;> omega) rfl (hR _ _ (by omega)) ?_ ⟨rfl, ys, ?_⟩
    · simp [rowsRefs, rowRefs, refsLtL, refsLt, NatBlt]; omega
    · rfl
end
end Go.Proofs.YtligakiolapkkaaDoor

namespace Go.Proofs.YtligakiolapkkaaDoor
open Go GoV
set_option maxHeartbeats 8000000
set_option maxRecDepth 10000
set_option linter.unusedVariables false
set_option linter.unusedSimpArgs false
def caps33 (K : Nat) : List AV := [.ptr (K + 5) 0, .ptr (K + 3) 0, .ptr (K + 1) 0, .ptr (K + 2) 0, .ptr (K + 9) 0]
def L33 (K k : Nat) (a0 a1 a2 c0 c1 c2 x00 x01 x02 x10 x11 x12 x20 x21 x22 : Int) : Heap := [.box [.yld k], .box [I a0, I a1, I a2], .box [I c0, I c1, I c2], .box [.slc (K + 6) 3 0 3, .slc (K + 7) 3 0 3, .slc (K + 8) 3 0 3], .box [.slc (K + 4) 0 0 3], .seq (.int .i64) [x00, x01, x02] true, .seq (.int .i64) [x10, x11, x12] true, .seq (.int .i64) [x20, x21, x22] true, .box [.fn 56 [] [.ptr (K + 5) 0, .ptr (K + 3) 0, .ptr (K + 1) 0, .ptr (K + 2) 0, .ptr (K + 9) 0]]]
section
variable {σ : Type} {J : σ → Prop} {C : σ → Heap} {K k : Nat} {upd : σ → List (List Int) → σ} {r0 r1 r2 k0 k1 k2 : Int}
def Yields33 (J : σ → Prop) (C : σ → Heap) (K k : Nat) (upd : σ → List (List Int) → σ) (r0 r1 r2 k0 k1 k2 : Int) : Prop := ∀ (s : σ) (a0 a1 a2 c0 c1 c2 x00 x01 x02 x10 x11 x12 x20 x21 x22 : Int), J s → (0 ≤ x00 ∧ 0 ≤ x01 ∧ 0 ≤ x02 ∧ 0 ≤ x10 ∧ 0 ≤ x11 ∧ 0 ≤ x12 ∧ 0 ≤ x20 ∧ 0 ≤ x21 ∧ 0 ≤ x22) → (x00 + x01 + x02 = r0 ∧ x10 + x11 + x12 = r1 ∧ x20 + x21 + x22 = r2) → (x00 + x10 + x20 = k0 ∧ x01 + x11 + x21 = k1 ∧ x02 + x12 + x22 = k2) →
    VYield Tryd.prog k [.slc (K + 4) 0 0 3] (C s ++ L33 K k a0 a1 a2 c0 c1 c2 x00 x01 x02 x10 x11 x12 x20 x21 x22) (fun v h' => v = B true ∧ h' = C (upd s [[x00, x01, x02], [x10, x11, x12], [x20, x21, x22]]) ++ L33 K k a0 a1 a2 c0 c1 c2 x00 x01 x02 x10 x11 x12 x20 x21 x22)
theorem fill33_30 (hK : ∀ s, (C s).length = K + 1) (hR : ∀ s n, K + 1 ≤ n → rowsRefs n (C s) = true) (hk : k < K + 1) (hY : Yields33 J C K k upd r0 r1 r2 k0 k1 k2) (s : σ) (a0 a1 a2 c0 c1 c2 x00 x01 x02 x10 x11 x12 x20 x21 x22 : Int) (hJ : Pre J upd s ((tabE [] [c0, c1, c2]).map fun rest => [x00, x01, x02] :: [x10, x11, x12] :: [x20, x21, x22] :: rest)) (hi : 0 ≤ x00 ∧ 0 ≤ x01 ∧ 0 ≤ x02 ∧ 0 ≤ x10 ∧ 0 ≤ x11 ∧ 0 ≤ x12 ∧ 0 ≤ x20 ∧ 0 ≤ x21 ∧ 0 ≤ x22 ∧ x00 + x01 + x02 = r0 ∧ x10 + x11 + x12 = r1 ∧ x20 + x21 + x22 = r2 ∧ x00 + x10 + x20 + c0 = k0 ∧ 0 ≤ c0 ∧ x01 + x11 + x21 + c1 = k1 ∧ 0 ≤ c1 ∧ x02 + x12 + x22 + c2 = k2 ∧ 0 ≤ c2 ∧ r0 ≤ 20 ∧ r1 ≤ 20 ∧ r2 ≤ 20 ∧ k0 ≤ 20 ∧ k1 ≤ 20 ∧ k2 ≤ 20) :
    VCalls Tryd.prog 56 ([I 3, I 0] ++ caps33 K) (C s ++ L33 K k a0 a1 a2 c0 c1 c2 x00 x01 x02 x10 x11 x12 x20 x21 x22) (fun v h' => v = B true ∧ ∃ ys : List Int, h' = C (((tabE [] [c0, c1, c2]).map fun rest => [x00, x01, x02] :: [x10, x11, x12] :: [x20, x21, x22] :: rest).foldl upd s) ++ L33 K k a0 a1 a2 c0 c1 c2 x00 x01 x02 x10 x11 x12 x20 x21 x22) := by
  have kb := kbeq K
  by_cases hz : c0 = 0 ∧ c1 = 0 ∧ c2 = 0
  · obtain ⟨rfl, rfl, rfl⟩ := hz
    refine vcalls_fn hmix h56 rfl ?_
    simp -implicitDefEqProofs only [c56, caps33, gK1 hK, gK2 hK, gK3 hK, gK4 hK, gK5 hK, gK6 hK, gK7 hK, gK8 hK, gK9 hK, sK1 hK, sK2 hK, sK3 hK, sK4 hK, sK5 hK, sK6 hK, sK7 hK, sK8 hK, sK9 hK, kb, List.length_append, beq_self_eq_true, L33, push_cast, Nat.reduceBEq, Nat.reduceLT, Nat.reduceLeDiff, Nat.reduceAdd, Nat.reduceSub, Nat.reduceMul, Nat.reduceEqDiff, reduceCtorEq, ↓reduceIte, Int.reduceEq, Int.reduceLT, Int.reduceLE, Int.reduceNe, Int.reduceAdd, Int.reduceSub, Int.reduceMul, Int.reduceToNat, Nat.reduceShiftRight, Nat.reduceAnd, Nat.reduceBNe]
    refine yld_rule (hY s a0 a1 a2 0 0 0 x00 x01 x02 x10 x11 x12 x20 x21 x22 hJ.1 (by omega) (by omega) (by omega)) ?_
    rintro v h' ⟨rfl, rfl⟩
    simp -implicitDefEqProofs only [L33, push_cast, Nat.reduceBEq, Nat.reduceLT, Nat.reduceLeDiff, Nat.reduceAdd, Nat.reduceSub, Nat.reduceMul, Nat.reduceEqDiff, reduceCtorEq, ↓reduceIte, Int.reduceEq, Int.reduceLT, Int.reduceLE, Int.reduceNe, Int.reduceAdd, Int.reduceSub, Int.reduceMul, Int.reduceToNat, Nat.reduceShiftRight, Nat.reduceAnd, Nat.reduceBNe]
    refine fin_app (n := K + 10) (by simp [hK]) (by simp [hK] <;> omega) rfl (hR _ _ (by omega)) ?_ ⟨rfl, [], ?_⟩
    · simp [rowsRefs, rowRefs, refsLtL, refsLt, NatBlt]; omega
    · rfl
  · have hz2 : (decide (c0 = 0) && (decide (c1 = 0) && decide (c2 = 0))) = false := by simp only [Bool.and_eq_false_iff, decide_eq_false_iff_not]; omega
    refine vcalls_fn hmix h56 rfl ?_
    simp -implicitDefEqProofs only [c56, caps33, gK1 hK, gK2 hK, gK3 hK, gK4 hK, gK5 hK, gK6 hK, gK7 hK, gK8 hK, gK9 hK, sK1 hK, sK2 hK, sK3 hK, sK4 hK, sK5 hK, sK6 hK, sK7 hK, sK8 hK, sK9 hK, kb, List.length_append, beq_self_eq_true, L33, hz2, push_cast, Nat.reduceBEq, Nat.reduceLT, Nat.reduceLeDiff, Nat.reduceAdd, Nat.reduceSub, Nat.reduceMul, Nat.reduceEqDiff, reduceCtorEq, ↓reduceIte, Int.reduceEq, Int.reduceLT, Int.reduceLE, Int.reduceNe, Int.reduceAdd, Int.reduceSub, Int.reduceMul, Int.reduceToNat, Nat.reduceShiftRight, Nat.reduceAnd, Nat.reduceBNe]
    refine fin_app (n := K + 10) (by simp [hK]) (by simp [hK] <;> omega) rfl (hR _ _ (by omega)) ?_ ⟨rfl, [], ?_⟩
    · simp [rowsRefs, rowRefs, refsLtL, refsLt, NatBlt]; omega
    · rw [tabE_no (by simp; omega)]; rfl
theorem fill33_22 (hK : ∀ s, (C s).length = K + 1) (hR : ∀ s n, K + 1 ≤ n → rowsRefs n (C s) = true) (hk : k < K + 1) (hY : Yields33 J C K k upd r0 r1 r2 k0 k1 k2) (s : σ) (a0 a1 a2 c0 c1 c2 x00 x01 x02 x10 x11 x12 x20 x21 x22 : Int) (hJ : Pre J upd s ((rowE (a2) [c2]).flatMap fun tl => (tabE [] (c0 :: c1 :: subC [c2] tl)).map fun rest => [x00, x01, x02] :: [x10, x11, x12] :: (x20 :: x21 :: tl) :: rest)) (hi : 0 ≤ x00 ∧ 0 ≤ x01 ∧ 0 ≤ x02 ∧ 0 ≤ x10 ∧ 0 ≤ x11 ∧ 0 ≤ x12 ∧ 0 ≤ x20 ∧ 0 ≤ x21 ∧ x00 + x01 + x02 = r0 ∧ x10 + x11 + x12 = r1 ∧ x20 + x21 + a2 = r2 ∧ 0 ≤ a2 ∧ x00 + x10 + x20 + c0 = k0 ∧ 0 ≤ c0 ∧ x01 + x11 + x21 + c1 = k1 ∧ 0 ≤ c1 ∧ x02 + x12 + c2 = k2 ∧ 0 ≤ c2 ∧ r0 ≤ 20 ∧ r1 ≤ 20 ∧ r2 ≤ 20 ∧ k0 ≤ 20 ∧ k1 ≤ 20 ∧ k2 ≤ 20) :
    VCalls Tryd.prog 56 ([I 2, I 2] ++ caps33 K) (C s ++ L33 K k a0 a1 a2 c0 c1 c2 x00 x01 x02 x10 x11 x12 x20 x21 x22) (fun v h' => v = B true ∧ ∃ ys : List Int, h' = C (((rowE (a2) [c2]).flatMap fun tl => (tabE [] (c0 :: c1 :: subC [c2] tl)).map fun rest => [x00, x01, x02] :: [x10, x11, x12] :: (x20 :: x21 :: tl) :: rest).foldl upd s) ++ L33 K k a0 a1 a2 c0 c1 c2 x00 x01 x02 x10 x11 x12 x20 x21 (ys.getD 0 0)) := by
  have kb := kbeq K
  refine vcalls_fn hmix h56 rfl ?_
  simp -implicitDefEqProofs only [c56, caps33, gK1 hK, gK2 hK, gK3 hK, gK4 hK, gK5 hK, gK6 hK, gK7 hK, gK8 hK, gK9 hK, sK1 hK, sK2 hK, sK3 hK, sK4 hK, sK5 hK, sK6 hK, sK7 hK, sK8 hK, sK9 hK, kb, List.length_append, beq_self_eq_true, L33, push_cast, Nat.reduceBEq, Nat.reduceLT, Nat.reduceLeDiff, Nat.reduceAdd, Nat.reduceSub, Nat.reduceMul, Nat.reduceEqDiff, reduceCtorEq, ↓reduceIte, Int.reduceEq, Int.reduceLT, Int.reduceLE, Int.reduceNe, Int.reduceAdd, Int.reduceSub, Int.reduceMul, Int.reduceToNat, Nat.reduceShiftRight, Nat.reduceAnd, Nat.reduceBNe]
  refine ⟨by simp only [inR]; omega, fun hlt => ?_, fun hle => ?_⟩
  · skip
    refine fin_app (n := K + 10) (by simp [hK]) (by simp [hK] <;> omega) rfl (hR _ _ (by omega)) ?_ ⟨rfl, [x22], ?_⟩
    · simp [rowsRefs, rowRefs, refsLtL, refsLt, NatBlt]; omega
    · rw [show rowE a2 [c2] = [] from if_neg (by omega)]; rfl
  · refine ⟨by simp only [inR]; omega, by simp only [inR]; omega, ?_⟩
    have e : ((rowE (a2) [c2]).flatMap fun tl => (tabE [] (c0 :: c1 :: subC [c2] tl)).map fun rest => [x00, x01, x02] :: [x10, x11, x12] :: (x20 :: x21 :: tl) :: rest) = ((tabE [] [c0, c1, (c2 - a2)]).map fun rest => [x00, x01, x02] :: [x10, x11, x12] :: [x20, x21, a2] :: rest) := by
      rw [show rowE a2 [c2] = [[a2]] from if_pos (by omega)]
      simp only [tabE_cons, subC, List.map_flatMap, List.map_map, List.flatMap_cons, List.flatMap_nil, List.append_nil, Function.comp_def, List.nil_append, List.cons_append]
    rw [e] at hJ
    refine call_rule (fill33_30 hK hR hk hY s a0 a1 a2 c0 c1 (c2 - a2) x00 x01 x02 x10 x11 x12 x20 x21 a2 hJ (by omega)) ?_
    rintro v h' ⟨rfl, ys, rfl⟩
    simp -implicitDefEqProofs only [Int.sub_add_cancel, gK1 hK, gK2 hK, gK3 hK, gK4 hK, gK5 hK, gK6 hK, gK7 hK, gK8 hK, gK9 hK, sK1 hK, sK2 hK, sK3 hK, sK4 hK, sK5 hK, sK6 hK, sK7 hK, sK8 hK, sK9 hK, kb, List.length_append, beq_self_eq_true, L33, push_cast, Nat.reduceBEq, Nat.reduceLT, Nat.reduceLeDiff, Nat.reduceAdd, Nat.reduceSub, Nat.reduceMul, Nat.reduceEqDiff, reduceCtorEq, ↓reduceIte, Int.reduceEq, Int.reduceLT, Int.reduceLE, Int.reduceNe, Int.reduceAdd, Int.reduceSub, Int.reduceMul, Int.reduceToNat, Nat.reduceShiftRight, Nat.reduceAnd, Nat.reduceBNe]
    refine ⟨by simp only [inR]; omega, ?_⟩
    refine fin_app (n := K + 10) (by simp [hK]) (by simp [hK] <;> omega) rfl (hR _ _ (by omega)) ?_ ⟨rfl, a2 :: ys, ?_⟩
    · simp [rowsRefs, rowRefs, refsLtL, refsLt, NatBlt]; omega
    · rw [e]; rfl
theorem fill33_21 (hK : ∀ s, (C s).length = K + 1) (hR : ∀ s n, K + 1 ≤ n → rowsRefs n (C s) = true) (hk : k < K + 1) (hY : Yields33 J C K k upd r0 r1 r2 k0 k1 k2) (s : σ) (a0 a1 a2 c0 c1 c2 x00 x01 x02 x10 x11 x12 x20 x21 x22 : Int) (hJ : Pre J upd s ((rowE (a2) [c1, c2]).flatMap fun tl => (tabE [] (c0 :: subC [c1, c2] tl)).map fun rest => [x00, x01, x02] :: [x10, x11, x12] :: (x20 :: tl) :: rest)) (hi : 0 ≤ x00 ∧ 0 ≤ x01 ∧ 0 ≤ x02 ∧ 0 ≤ x10 ∧ 0 ≤ x11 ∧ 0 ≤ x12 ∧ 0 ≤ x20 ∧ x00 + x01 + x02 = r0 ∧ x10 + x11 + x12 = r1 ∧ x20 + a2 = r2 ∧ 0 ≤ a2 ∧ x00 + x10 + x20 + c0 = k0 ∧ 0 ≤ c0 ∧ x01 + x11 + c1 = k1 ∧ 0 ≤ c1 ∧ x02 + x12 + c2 = k2 ∧ 0 ≤ c2 ∧ r0 ≤ 20 ∧ r1 ≤ 20 ∧ r2 ≤ 20 ∧ k0 ≤ 20 ∧ k1 ≤ 20 ∧ k2 ≤ 20) :
    VCalls Tryd.prog 56 ([I 2, I 1] ++ caps33 K) (C s ++ L33 K k a0 a1 a2 c0 c1 c2 x00 x01 x02 x10 x11 x12 x20 x21 x22) (fun v h' => v = B true ∧ ∃ ys : List Int, h' = C (((rowE (a2) [c1, c2]).flatMap fun tl => (tabE [] (c0 :: subC [c1, c2] tl)).map fun rest => [x00, x01, x02] :: [x10, x11, x12] :: (x20 :: tl) :: rest).foldl upd s) ++ L33 K k a0 a1 a2 c0 c1 c2 x00 x01 x02 x10 x11 x12 x20 (ys.getD 0 0) (ys.getD 1 0)) := by
  have kb := kbeq K
  obtain ⟨Yp, hYp⟩ : ∃ Yp : Nat → List (List (List Int)), Yp = fun N => (List.range N).flatMap fun (q : Nat) => ((rowE ((a2 - ((q : Nat) : Int))) [c2]).flatMap fun tl => (tabE [] (c0 :: (c1 - ((q : Nat) : Int)) :: subC [c2] tl)).map fun rest => [x00, x01, x02] :: [x10, x11, x12] :: (x20 :: ((q : Nat) : Int) :: tl) :: rest) := ⟨_, rfl⟩
  have hY0 : Yp 0 = [] := by rw [hYp]; rfl
  have hYs : ∀ q : Nat, Yp (q + 1) = Yp q ++ ((rowE ((a2 - ((q : Nat) : Int))) [c2]).flatMap fun tl => (tabE [] (c0 :: (c1 - ((q : Nat) : Int)) :: subC [c2] tl)).map fun rest => [x00, x01, x02] :: [x10, x11, x12] :: (x20 :: ((q : Nat) : Int) :: tl) :: rest) := by
    intro q
    simp only [hYp, List.range_succ, List.flatMap_append, List.flatMap_cons, List.flatMap_nil, List.append_nil]
  have hYe : ((rowE (a2) [c1, c2]).flatMap fun tl => (tabE [] (c0 :: subC [c1, c2] tl)).map fun rest => [x00, x01, x02] :: [x10, x11, x12] :: (x20 :: tl) :: rest) = Yp (min a2 c1 + 1).toNat := by
    rw [hYp]
    simp only [rowE, subC, List.flatMap_assoc, List.flatMap_map]
  rw [hYe] at hJ ⊢
  have hpre := pre_steps hYs _ hJ
  clear hYe hYp
  refine vcalls_fn hmix h56 rfl ?_
  simp -implicitDefEqProofs only [c56, caps33, gK1 hK, gK2 hK, gK3 hK, gK4 hK, gK5 hK, gK6 hK, gK7 hK, gK8 hK, gK9 hK, sK1 hK, sK2 hK, sK3 hK, sK4 hK, sK5 hK, sK6 hK, sK7 hK, sK8 hK, sK9 hK, kb, List.length_append, beq_self_eq_true, L33, push_cast, Nat.reduceBEq, Nat.reduceLT, Nat.reduceLeDiff, Nat.reduceAdd, Nat.reduceSub, Nat.reduceMul, Nat.reduceEqDiff, reduceCtorEq, ↓reduceIte, Int.reduceEq, Int.reduceLT, Int.reduceLE, Int.reduceNe, Int.reduceAdd, Int.reduceSub, Int.reduceMul, Int.reduceToNat, Nat.reduceShiftRight, Nat.reduceAnd, Nat.reduceBNe]
  refine ⟨by simp only [inR]; omega, by simp only [inR]; omega, ?_⟩
  refine loop_w (α := Nat × List Int) (fun b => ⟨[(77, I b.1), (76, I (min a2 c1 + 1)), (6, .ptr (K + 9) 0), (5, .ptr (K + 2) 0), (3, .ptr (K + 3) 0), (2, .ptr (K + 5) 0), (1, I 1), (0, I 2)], C ((Yp b.1).foldl upd s) ++ L33 K k a0 a1 a2 c0 c1 c2 x00 x01 x02 x10 x11 x12 x20 (b.2.getD 0 0) (b.2.getD 1 0), []⟩)
    (fun b => b.1 ≤ (min a2 c1 + 1).toNat) (fun b => (min a2 c1 + 1).toNat - b.1) (0, [x21, x22]) (by rw [hY0]; exact wk_tk rfl) (by simp only; omega) ?_
  rintro ⟨q, ys⟩ hq
  simp only at hq
  simp -implicitDefEqProofs only [c56L0, gK1 hK, gK2 hK, gK3 hK, gK4 hK, gK5 hK, gK6 hK, gK7 hK, gK8 hK, gK9 hK, sK1 hK, sK2 hK, sK3 hK, sK4 hK, sK5 hK, sK6 hK, sK7 hK, sK8 hK, sK9 hK, kb, List.length_append, beq_self_eq_true, L33, push_cast, Nat.reduceBEq, Nat.reduceLT, Nat.reduceLeDiff, Nat.reduceAdd, Nat.reduceSub, Nat.reduceMul, Nat.reduceEqDiff, reduceCtorEq, ↓reduceIte, Int.reduceEq, Int.reduceLT, Int.reduceLE, Int.reduceNe, Int.reduceAdd, Int.reduceSub, Int.reduceMul, Int.reduceToNat, Nat.reduceShiftRight, Nat.reduceAnd, Nat.reduceBNe]
  refine ⟨fun hc => ?_, fun hc => ?_⟩
  · refine ⟨by simp only [inR]; omega, by simp only [inR]; omega, by simp only [inR]; omega, ?_⟩
    refine call_rule (fill33_22 hK hR hk hY _ a0 a1 (a2 - (q : Int)) c0 (c1 - (q : Int)) c2 x00 x01 x02 x10 x11 x12 x20 (q : Int) (ys.getD 1 0) (hpre q (by omega)) (by omega)) ?_
    rintro v h' ⟨rfl, ys2, rfl⟩
    simp -implicitDefEqProofs only [Int.sub_add_cancel, gK1 hK, gK2 hK, gK3 hK, gK4 hK, gK5 hK, gK6 hK, gK7 hK, gK8 hK, gK9 hK, sK1 hK, sK2 hK, sK3 hK, sK4 hK, sK5 hK, sK6 hK, sK7 hK, sK8 hK, sK9 hK, kb, List.length_append, beq_self_eq_true, L33, push_cast, Nat.reduceBEq, Nat.reduceLT, Nat.reduceLeDiff, Nat.reduceAdd, Nat.reduceSub, Nat.reduceMul, Nat.reduceEqDiff, reduceCtorEq, ↓reduceIte, Int.reduceEq, Int.reduceLT, Int.reduceLE, Int.reduceNe, Int.reduceAdd, Int.reduceSub, Int.reduceMul, Int.reduceToNat, Nat.reduceShiftRight, Nat.reduceAnd, Nat.reduceBNe]
    refine ⟨by simp only [inR]; omega, by simp only [inR]; omega, by simp only [inR]; omega, (q + 1, (q : Int) :: ys2), by simp only; omega, by simp only; omega, ?_⟩
    simp only [hYs, List.foldl_append]
    exact wk_tk rfl
  · have hqe : q = (min a2 c1 + 1).toNat := by omega
    subst hqe
    refine fin_app (n := K + 10) (by simp [hK]) (by simp [hK] <;> omega) rfl (hR _ _ (by omega)) ?_ ⟨rfl, ys, ?_⟩
    · simp [rowsRefs, rowRefs, refsLtL, refsLt, NatBlt]; omega
    · rfl
theorem fill33_20 (hK : ∀ s, (C s).length = K + 1) (hR : ∀ s n, K + 1 ≤ n → rowsRefs n (C s) = true) (hk : k < K + 1) (hY : Yields33 J C K k upd r0 r1 r2 k0 k1 k2) (s : σ) (a0 a1 a2 c0 c1 c2 x00 x01 x02 x10 x11 x12 x20 x21 x22 : Int) (hJ : Pre J upd s ((rowE (a2) [c0, c1, c2]).flatMap fun tl => (tabE [] (subC [c0, c1, c2] tl)).map fun rest => [x00, x01, x02] :: [x10, x11, x12] :: (tl) :: rest)) (hi : 0 ≤ x00 ∧ 0 ≤ x01 ∧ 0 ≤ x02 ∧ 0 ≤ x10 ∧ 0 ≤ x11 ∧ 0 ≤ x12 ∧ x00 + x01 + x02 = r0 ∧ x10 + x11 + x12 = r1 ∧ a2 = r2 ∧ 0 ≤ a2 ∧ x00 + x10 + c0 = k0 ∧ 0 ≤ c0 ∧ x01 + x11 + c1 = k1 ∧ 0 ≤ c1 ∧ x02 + x12 + c2 = k2 ∧ 0 ≤ c2 ∧ r0 ≤ 20 ∧ r1 ≤ 20 ∧ r2 ≤ 20 ∧ k0 ≤ 20 ∧ k1 ≤ 20 ∧ k2 ≤ 20) :
    VCalls Tryd.prog 56 ([I 2, I 0] ++ caps33 K) (C s ++ L33 K k a0 a1 a2 c0 c1 c2 x00 x01 x02 x10 x11 x12 x20 x21 x22) (fun v h' => v = B true ∧ ∃ ys : List Int, h' = C (((rowE (a2) [c0, c1, c2]).flatMap fun tl => (tabE [] (subC [c0, c1, c2] tl)).map fun rest => [x00, x01, x02] :: [x10, x11, x12] :: (tl) :: rest).foldl upd s) ++ L33 K k a0 a1 a2 c0 c1 c2 x00 x01 x02 x10 x11 x12 (ys.getD 0 0) (ys.getD 1 0) (ys.getD 2 0)) := by
  have kb := kbeq K
  obtain ⟨Yp, hYp⟩ : ∃ Yp : Nat → List (List (List Int)), Yp = fun N => (List.range N).flatMap fun (q : Nat) => ((rowE ((a2 - ((q : Nat) : Int))) [c1, c2]).flatMap fun tl => (tabE [] ((c0 - ((q : Nat) : Int)) :: subC [c1, c2] tl)).map fun rest => [x00, x01, x02] :: [x10, x11, x12] :: (((q : Nat) : Int) :: tl) :: rest) := ⟨_, rfl⟩
  have hY0 : Yp 0 = [] := by rw [hYp]; rfl
  have hYs : ∀ q : Nat, Yp (q + 1) = Yp q ++ ((rowE ((a2 - ((q : Nat) : Int))) [c1, c2]).flatMap fun tl => (tabE [] ((c0 - ((q : Nat) : Int)) :: subC [c1, c2] tl)).map fun rest => [x00, x01, x02] :: [x10, x11, x12] :: (((q : Nat) : Int) :: tl) :: rest) := by
    intro q
    simp only [hYp, List.range_succ, List.flatMap_append, List.flatMap_cons, List.flatMap_nil, List.append_nil]
  have hYe : ((rowE (a2) [c0, c1, c2]).flatMap fun tl => (tabE [] (subC [c0, c1, c2] tl)).map fun rest => [x00, x01, x02] :: [x10, x11, x12] :: (tl) :: rest) = Yp (min a2 c0 + 1).toNat := by
    rw [hYp]
    simp only [rowE, subC, List.flatMap_assoc, List.flatMap_map]
  rw [hYe] at hJ ⊢
  have hpre := pre_steps hYs _ hJ
  clear hYe hYp
  refine vcalls_fn hmix h56 rfl ?_
  simp -implicitDefEqProofs only [c56, caps33, gK1 hK, gK2 hK, gK3 hK, gK4 hK, gK5 hK, gK6 hK, gK7 hK, gK8 hK, gK9 hK, sK1 hK, sK2 hK, sK3 hK, sK4 hK, sK5 hK, sK6 hK, sK7 hK, sK8 hK, sK9 hK, kb, List.length_append, beq_self_eq_true, L33, push_cast, Nat.reduceBEq, Nat.reduceLT, Nat.reduceLeDiff, Nat.reduceAdd, Nat.reduceSub, Nat.reduceMul, Nat.reduceEqDiff, reduceCtorEq, ↓reduceIte, Int.reduceEq, Int.reduceLT, Int.reduceLE, Int.reduceNe, Int.reduceAdd, Int.reduceSub, Int.reduceMul, Int.reduceToNat, Nat.reduceShiftRight, Nat.reduceAnd, Nat.reduceBNe]
  refine ⟨by simp only [inR]; omega, by simp only [inR]; omega, ?_⟩
  refine loop_w (α := Nat × List Int) (fun b => ⟨[(77, I b.1), (76, I (min a2 c0 + 1)), (6, .ptr (K + 9) 0), (5, .ptr (K + 2) 0), (3, .ptr (K + 3) 0), (2, .ptr (K + 5) 0), (1, I 0), (0, I 2)], C ((Yp b.1).foldl upd s) ++ L33 K k a0 a1 a2 c0 c1 c2 x00 x01 x02 x10 x11 x12 (b.2.getD 0 0) (b.2.getD 1 0) (b.2.getD 2 0), []⟩)
    (fun b => b.1 ≤ (min a2 c0 + 1).toNat) (fun b => (min a2 c0 + 1).toNat - b.1) (0, [x20, x21, x22]) (by rw [hY0]; exact wk_tk rfl) (by simp only; omega) ?_
  rintro ⟨q, ys⟩ hq
  simp only at hq
  simp -implicitDefEqProofs only [c56L0, gK1 hK, gK2 hK, gK3 hK, gK4 hK, gK5 hK, gK6 hK, gK7 hK, gK8 hK, gK9 hK, sK1 hK, sK2 hK, sK3 hK, sK4 hK, sK5 hK, sK6 hK, sK7 hK, sK8 hK, sK9 hK, kb, List.length_append, beq_self_eq_true, L33, push_cast, Nat.reduceBEq, Nat.reduceLT, Nat.reduceLeDiff, Nat.reduceAdd, Nat.reduceSub, Nat.reduceMul, Nat.reduceEqDiff, reduceCtorEq, ↓reduceIte, Int.reduceEq, Int.reduceLT, Int.reduceLE, Int.reduceNe, Int.reduceAdd, Int.reduceSub, Int.reduceMul, Int.reduceToNat, Nat.reduceShiftRight, Nat.reduceAnd, Nat.reduceBNe]
  refine ⟨fun hc => ?_, fun hc => ?_⟩
  · refine ⟨by simp only [inR]; omega, by simp only [inR]; omega, by simp only [inR]; omega, ?_⟩
    refine call_rule (fill33_21 hK hR hk hY _ a0 a1 (a2 - (q : Int)) (c0 - (q : Int)) c1 c2 x00 x01 x02 x10 x11 x12 (q : Int) (ys.getD 1 0) (ys.getD 2 0) (hpre q (by omega)) (by omega)) ?_
    rintro v h' ⟨rfl, ys2, rfl⟩
    simp -implicitDefEqProofs only [Int.sub_add_cancel, gK1 hK, gK2 hK, gK3 hK, gK4 hK, gK5 hK, gK6 hK, gK7 hK, gK8 hK, gK9 hK, sK1 hK, sK2 hK, sK3 hK, sK4 hK, sK5 hK, sK6 hK, sK7 hK, sK8 hK, sK9 hK, kb, List.length_append, beq_self_eq_true, L33, push_cast, Nat.reduceBEq, Nat.reduceLT, Nat.reduceLeDiff, Nat.reduceAdd, Nat.reduceSub, Nat.reduceMul, Nat.reduceEqDiff, reduceCtorEq, ↓reduceIte, Int.reduceEq, Int.reduceLT, Int.reduceLE, Int.reduceNe, Int.reduceAdd, Int.reduceSub, Int.reduceMul, Int.reduceToNat, Nat.reduceShiftRight, Nat.reduceAnd, Nat.reduceBNe]
    refine ⟨by simp only [inR]; omega, by simp only [inR]; omega, by simp only [inR]; omega, (q + 1, (q : Int) :: ys2), by simp only; omega, by simp only; omega, ?_⟩
    simp only [hYs, List.foldl_append]
    exact wk_tk rfl
  · have hqe : q = (min a2 c0 + 1).toNat := by omega
    subst hqe
    refine fin_app (n := K + 10) (by simp [hK]) (by simp [hK] <;> omega) rfl (hR _ _ (by omega)) ?_ ⟨rfl, ys, ?_⟩
    · simp [rowsRefs, rowRefs, refsLtL, refsLt, NatBlt]; omega
    · rfl
theorem fill33_12 (hK : ∀ s, (C s).length = K + 1) (hR : ∀ s n, K + 1 ≤ n → rowsRefs n (C s) = true) (hk : k < K + 1) (hY : Yields33 J C K k upd r0 r1 r2 k0 k1 k2) (s : σ) (a0 a1 a2 c0 c1 c2 x00 x01 x02 x10 x11 x12 x20 x21 x22 : Int) (hJ : Pre J upd s ((rowE (a1) [c2]).flatMap fun tl => (tabE [a2] (c0 :: c1 :: subC [c2] tl)).map fun rest => [x00, x01, x02] :: (x10 :: x11 :: tl) :: rest)) (hi : 0 ≤ x00 ∧ 0 ≤ x01 ∧ 0 ≤ x02 ∧ 0 ≤ x10 ∧ 0 ≤ x11 ∧ x00 + x01 + x02 = r0 ∧ x10 + x11 + a1 = r1 ∧ 0 ≤ a1 ∧ a2 = r2 ∧ 0 ≤ a2 ∧ x00 + x10 + c0 = k0 ∧ 0 ≤ c0 ∧ x01 + x11 + c1 = k1 ∧ 0 ≤ c1 ∧ x02 + c2 = k2 ∧ 0 ≤ c2 ∧ r0 ≤ 20 ∧ r1 ≤ 20 ∧ r2 ≤ 20 ∧ k0 ≤ 20 ∧ k1 ≤ 20 ∧ k2 ≤ 20) :
    VCalls Tryd.prog 56 ([I 1, I 2] ++ caps33 K) (C s ++ L33 K k a0 a1 a2 c0 c1 c2 x00 x01 x02 x10 x11 x12 x20 x21 x22) (fun v h' => v = B true ∧ ∃ ys : List Int, h' = C (((rowE (a1) [c2]).flatMap fun tl => (tabE [a2] (c0 :: c1 :: subC [c2] tl)).map fun rest => [x00, x01, x02] :: (x10 :: x11 :: tl) :: rest).foldl upd s) ++ L33 K k a0 a1 a2 c0 c1 c2 x00 x01 x02 x10 x11 (ys.getD 0 0) (ys.getD 1 0) (ys.getD 2 0) (ys.getD 3 0)) := by
  have kb := kbeq K
  refine vcalls_fn hmix h56 rfl ?_
  simp -implicitDefEqProofs only [c56, caps33, gK1 hK, gK2 hK, gK3 hK, gK4 hK, gK5 hK, gK6 hK, gK7 hK, gK8 hK, gK9 hK, sK1 hK, sK2 hK, sK3 hK, sK4 hK, sK5 hK, sK6 hK, sK7 hK, sK8 hK, sK9 hK, kb, List.length_append, beq_self_eq_true, L33, push_cast, Nat.reduceBEq, Nat.reduceLT, Nat.reduceLeDiff, Nat.reduceAdd, Nat.reduceSub, Nat.reduceMul, Nat.reduceEqDiff, reduceCtorEq, ↓reduceIte, Int.reduceEq, Int.reduceLT, Int.reduceLE, Int.reduceNe, Int.reduceAdd, Int.reduceSub, Int.reduceMul, Int.reduceToNat, Nat.reduceShiftRight, Nat.reduceAnd, Nat.reduceBNe]
  refine ⟨by simp only [inR]; omega, fun hlt => ?_, fun hle => ?_⟩
  · skip
    refine fin_app (n := K + 10) (by simp [hK]) (by simp [hK] <;> omega) rfl (hR _ _ (by omega)) ?_ ⟨rfl, [x12, x20, x21, x22], ?_⟩
    · simp [rowsRefs, rowRefs, refsLtL, refsLt, NatBlt]; omega
    · rw [show rowE a1 [c2] = [] from if_neg (by omega)]; rfl
  · refine ⟨by simp only [inR]; omega, by simp only [inR]; omega, ?_⟩
    have e : ((rowE (a1) [c2]).flatMap fun tl => (tabE [a2] (c0 :: c1 :: subC [c2] tl)).map fun rest => [x00, x01, x02] :: (x10 :: x11 :: tl) :: rest) = ((rowE (a2) [c0, c1, (c2 - a1)]).flatMap fun tl => (tabE [] (subC [c0, c1, (c2 - a1)] tl)).map fun rest => [x00, x01, x02] :: [x10, x11, a1] :: (tl) :: rest) := by
      rw [show rowE a1 [c2] = [[a1]] from if_pos (by omega)]
      simp only [tabE_cons, subC, List.map_flatMap, List.map_map, List.flatMap_cons, List.flatMap_nil, List.append_nil, Function.comp_def, List.nil_append, List.cons_append]
    rw [e] at hJ
    refine call_rule (fill33_20 hK hR hk hY s a0 a1 a2 c0 c1 (c2 - a1) x00 x01 x02 x10 x11 a1 x20 x21 x22 hJ (by omega)) ?_
    rintro v h' ⟨rfl, ys, rfl⟩
    simp -implicitDefEqProofs only [Int.sub_add_cancel, gK1 hK, gK2 hK, gK3 hK, gK4 hK, gK5 hK, gK6 hK, gK7 hK, gK8 hK, gK9 hK, sK1 hK, sK2 hK, sK3 hK, sK4 hK, sK5 hK, sK6 hK, sK7 hK, sK8 hK, sK9 hK, kb, List.length_append, beq_self_eq_true, L33, push_cast, Nat.reduceBEq, Nat.reduceLT, Nat.reduceLeDiff, Nat.reduceAdd, Nat.reduceSub, Nat.reduceMul, Nat.reduceEqDiff, reduceCtorEq, ↓reduceIte, Int.reduceEq, Int.reduceLT, Int.reduceLE, Int.reduceNe, Int.reduceAdd, Int.reduceSub, Int.reduceMul, Int.reduceToNat, Nat.reduceShiftRight, Nat.reduceAnd, Nat.reduceBNe]
    refine ⟨by simp only [inR]; omega, ?_⟩
    refine fin_app (n := K + 10) (by simp [hK]) (by simp [hK] <;> omega) rfl (hR _ _ (by omega)) ?_ ⟨rfl, a1 :: ys, ?_⟩
    · simp [rowsRefs, rowRefs, refsLtL, refsLt, NatBlt]; omega
    · rw [e]; rfl
theorem fill33_11 (hK : ∀ s, (C s).length = K + 1) (hR : ∀ s n, K + 1 ≤ n → rowsRefs n (C s) = true) (hk : k < K + 1) (hY : Yields33 J C K k upd r0 r1 r2 k0 k1 k2) (s : σ) (a0 a1 a2 c0 c1 c2 x00 x01 x02 x10 x11 x12 x20 x21 x22 : Int) (hJ : Pre J upd s ((rowE (a1) [c1, c2]).flatMap fun tl => (tabE [a2] (c0 :: subC [c1, c2] tl)).map fun rest => [x00, x01, x02] :: (x10 :: tl) :: rest)) (hi : 0 ≤ x00 ∧ 0 ≤ x01 ∧ 0 ≤ x02 ∧ 0 ≤ x10 ∧ x00 + x01 + x02 = r0 ∧ x10 + a1 = r1 ∧ 0 ≤ a1 ∧ a2 = r2 ∧ 0 ≤ a2 ∧ x00 + x10 + c0 = k0 ∧ 0 ≤ c0 ∧ x01 + c1 = k1 ∧ 0 ≤ c1 ∧ x02 + c2 = k2 ∧ 0 ≤ c2 ∧ r0 ≤ 20 ∧ r1 ≤ 20 ∧ r2 ≤ 20 ∧ k0 ≤ 20 ∧ k1 ≤ 20 ∧ k2 ≤ 20) :
    VCalls Tryd.prog 56 ([I 1, I 1] ++ caps33 K) (C s ++ L33 K k a0 a1 a2 c0 c1 c2 x00 x01 x02 x10 x11 x12 x20 x21 x22) (fun v h' => v = B true ∧ ∃ ys : List Int, h' = C (((rowE (a1) [c1, c2]).flatMap fun tl => (tabE [a2] (c0 :: subC [c1, c2] tl)).map fun rest => [x00, x01, x02] :: (x10 :: tl) :: rest).foldl upd s) ++ L33 K k a0 a1 a2 c0 c1 c2 x00 x01 x02 x10 (ys.getD 0 0) (ys.getD 1 0) (ys.getD 2 0) (ys.getD 3 0) (ys.getD 4 0)) := by
  have kb := kbeq K
  obtain ⟨Yp, hYp⟩ : ∃ Yp : Nat → List (List (List Int)), Yp = fun N => (List.range N).flatMap fun (q : Nat) => ((rowE ((a1 - ((q : Nat) : Int))) [c2]).flatMap fun tl => (tabE [a2] (c0 :: (c1 - ((q : Nat) : Int)) :: subC [c2] tl)).map fun rest => [x00, x01, x02] :: (x10 :: ((q : Nat) : Int) :: tl) :: rest) := ⟨_, rfl⟩
  have hY0 : Yp 0 = [] := by rw [hYp]; rfl
  have hYs : ∀ q : Nat, Yp (q + 1) = Yp q ++ ((rowE ((a1 - ((q : Nat) : Int))) [c2]).flatMap fun tl => (tabE [a2] (c0 :: (c1 - ((q : Nat) : Int)) :: subC [c2] tl)).map fun rest => [x00, x01, x02] :: (x10 :: ((q : Nat) : Int) :: tl) :: rest) := by
    intro q
    simp only [hYp, List.range_succ, List.flatMap_append, List.flatMap_cons, List.flatMap_nil, List.append_nil]
  have hYe : ((rowE (a1) [c1, c2]).flatMap fun tl => (tabE [a2] (c0 :: subC [c1, c2] tl)).map fun rest => [x00, x01, x02] :: (x10 :: tl) :: rest) = Yp (min a1 c1 + 1).toNat := by
    rw [hYp]
    simp only [rowE, subC, List.flatMap_assoc, List.flatMap_map]
  rw [hYe] at hJ ⊢
  have hpre := pre_steps hYs _ hJ
  clear hYe hYp
  refine vcalls_fn hmix h56 rfl ?_
  simp -implicitDefEqProofs only [c56, caps33, gK1 hK, gK2 hK, gK3 hK, gK4 hK, gK5 hK, gK6 hK, gK7 hK, gK8 hK, gK9 hK, sK1 hK, sK2 hK, sK3 hK, sK4 hK, sK5 hK, sK6 hK, sK7 hK, sK8 hK, sK9 hK, kb, List.length_append, beq_self_eq_true, L33, push_cast, Nat.reduceBEq, Nat.reduceLT, Nat.reduceLeDiff, Nat.reduceAdd, Nat.reduceSub, Nat.reduceMul, Nat.reduceEqDiff, reduceCtorEq, ↓reduceIte, Int.reduceEq, Int.reduceLT, Int.reduceLE, Int.reduceNe, Int.reduceAdd, Int.reduceSub, Int.reduceMul, Int.reduceToNat, Nat.reduceShiftRight, Nat.reduceAnd, Nat.reduceBNe]
  refine ⟨by simp only [inR]; omega, by simp only [inR]; omega, ?_⟩
  refine loop_w (α := Nat × List Int) (fun b => ⟨[(77, I b.1), (76, I (min a1 c1 + 1)), (6, .ptr (K + 9) 0), (5, .ptr (K + 2) 0), (3, .ptr (K + 3) 0), (2, .ptr (K + 5) 0), (1, I 1), (0, I 1)], C ((Yp b.1).foldl upd s) ++ L33 K k a0 a1 a2 c0 c1 c2 x00 x01 x02 x10 (b.2.getD 0 0) (b.2.getD 1 0) (b.2.getD 2 0) (b.2.getD 3 0) (b.2.getD 4 0), []⟩)
    (fun b => b.1 ≤ (min a1 c1 + 1).toNat) (fun b => (min a1 c1 + 1).toNat - b.1) (0, [x11, x12, x20, x21, x22]) (by rw [hY0]; exact wk_tk rfl) (by simp only; omega) ?_
  rintro ⟨q, ys⟩ hq
  simp only at hq
  simp -implicitDefEqProofs only [c56L0, gK1 hK, gK2 hK, gK3 hK, gK4 hK, gK5 hK, gK6 hK, gK7 hK, gK8 hK, gK9 hK, sK1 hK, sK2 hK, sK3 hK, sK4 hK, sK5 hK, sK6 hK, sK7 hK, sK8 hK, sK9 hK, kb, List.length_append, beq_self_eq_true, L33, push_cast, Nat.reduceBEq, Nat.reduceLT, Nat.reduceLeDiff, Nat.reduceAdd, Nat.reduceSub, Nat.reduceMul, Nat.reduceEqDiff, reduceCtorEq, ↓reduceIte, Int.reduceEq, Int.reduceLT, Int.reduceLE, Int.reduceNe, Int.reduceAdd, Int.reduceSub, Int.reduceMul, Int.reduceToNat, Nat.reduceShiftRight, Nat.reduceAnd, Nat.reduceBNe]
  refine ⟨fun hc => ?_, fun hc => ?_⟩
  · refine ⟨by simp only [inR]; omega, by simp only [inR]; omega, by simp only [inR]; omega, ?_⟩
    refine call_rule (fill33_12 hK hR hk hY _ a0 (a1 - (q : Int)) a2 c0 (c1 - (q : Int)) c2 x00 x01 x02 x10 (q : Int) (ys.getD 1 0) (ys.getD 2 0) (ys.getD 3 0) (ys.getD 4 0) (hpre q (by omega)) (by omega)) ?_
    rintro v h' ⟨rfl, ys2, rfl⟩
    simp -implicitDefEqProofs only [Int.sub_add_cancel, gK1 hK, gK2 hK, gK3 hK, gK4 hK, gK5 hK, gK6 hK, gK7 hK, gK8 hK, gK9 hK, sK1 hK, sK2 hK, sK3 hK, sK4 hK, sK5 hK, sK6 hK, sK7 hK, sK8 hK, sK9 hK, kb, List.length_append, beq_self_eq_true, L33, push_cast, Nat.reduceBEq, Nat.reduceLT, Nat.reduceLeDiff, Nat.reduceAdd, Nat.reduceSub, Nat.reduceMul, Nat.reduceEqDiff, reduceCtorEq, ↓reduceIte, Int.reduceEq, Int.reduceLT, Int.reduceLE, Int.reduceNe, Int.reduceAdd, Int.reduceSub, Int.reduceMul, Int.reduceToNat, Nat.reduceShiftRight, Nat.reduceAnd, Nat.reduceBNe]
    refine ⟨by simp only [inR]; omega, by simp only [inR]; omega, by simp only [inR]; omega, (q + 1, (q : Int) :: ys2), by simp only; omega, by simp only; omega, ?_⟩
    simp only [hYs, List.foldl_append]
    exact wk_tk rfl
  · have hqe : q = (min a1 c1 + 1).toNat := by omega
    subst hqe
    refine fin_app (n := K + 10) (by simp [hK]) (by simp [hK] <;> omega) rfl (hR _ _ (by omega)) ?_ ⟨rfl, ys, ?_⟩
    · simp [rowsRefs, rowRefs, refsLtL, refsLt, NatBlt]; omega
    · rfl
theorem fill33_10 (hK : ∀ s, (C s).length = K + 1) (hR : ∀ s n, K + 1 ≤ n → rowsRefs n (C s) = true) (hk : k < K + 1) (hY : Yields33 J C K k upd r0 r1 r2 k0 k1 k2) (s : σ) (a0 a1 a2 c0 c1 c2 x00 x01 x02 x10 x11 x12 x20 x21 x22 : Int) (hJ : Pre J upd s ((rowE (a1) [c0, c1, c2]).flatMap fun tl => (tabE [a2] (subC [c0, c1, c2] tl)).map fun rest => [x00, x01, x02] :: (tl) :: rest)) (hi : 0 ≤ x00 ∧ 0 ≤ x01 ∧ 0 ≤ x02 ∧ x00 + x01 + x02 = r0 ∧ a1 = r1 ∧ 0 ≤ a1 ∧ a2 = r2 ∧ 0 ≤ a2 ∧ x00 + c0 = k0 ∧ 0 ≤ c0 ∧ x01 + c1 = k1 ∧ 0 ≤ c1 ∧ x02 + c2 = k2 ∧ 0 ≤ c2 ∧ r0 ≤ 20 ∧ r1 ≤ 20 ∧ r2 ≤ 20 ∧ k0 ≤ 20 ∧ k1 ≤ 20 ∧ k2 ≤ 20) :
    VCalls Tryd.prog 56 ([I 1, I 0] ++ caps33 K) (C s ++ L33 K k a0 a1 a2 c0 c1 c2 x00 x01 x02 x10 x11 x12 x20 x21 x22) (fun v h' => v = B true ∧ ∃ ys : List Int, h' = C (((rowE (a1) [c0, c1, c2]).flatMap fun tl => (tabE [a2] (subC [c0, c1, c2] tl)).map fun rest => [x00, x01, x02] :: (tl) :: rest).foldl upd s) ++ L33 K k a0 a1 a2 c0 c1 c2 x00 x01 x02 (ys.getD 0 0) (ys.getD 1 0) (ys.getD 2 0) (ys.getD 3 0) (ys.getD 4 0) (ys.getD 5 0)) := by
  have kb := kbeq K
  obtain ⟨Yp, hYp⟩ : ∃ Yp : Nat → List (List (List Int)), Yp = fun N => (List.range N).flatMap fun (q : Nat) => ((rowE ((a1 - ((q : Nat) : Int))) [c1, c2]).flatMap fun tl => (tabE [a2] ((c0 - ((q : Nat) : Int)) :: subC [c1, c2] tl)).map fun rest => [x00, x01, x02] :: (((q : Nat) : Int) :: tl) :: rest) := ⟨_, rfl⟩
  have hY0 : Yp 0 = [] := by rw [hYp]; rfl
  have hYs : ∀ q : Nat, Yp (q + 1) = Yp q ++ ((rowE ((a1 - ((q : Nat) : Int))) [c1, c2]).flatMap fun tl => (tabE [a2] ((c0 - ((q : Nat) : Int)) :: subC [c1, c2] tl)).map fun rest => [x00, x01, x02] :: (((q : Nat) : Int) :: tl) :: rest) := by
    intro q
    simp only [hYp, List.range_succ, List.flatMap_append, List.flatMap_cons, List.flatMap_nil, List.append_nil]
  have hYe : ((rowE (a1) [c0, c1, c2]).flatMap fun tl => (tabE [a2] (subC [c0, c1, c2] tl)).map fun rest => [x00, x01, x02] :: (tl) :: rest) = Yp (min a1 c0 + 1).toNat := by
    rw [hYp]
    simp only [rowE, subC, List.flatMap_assoc, List.flatMap_map]
  rw [hYe] at hJ ⊢
  have hpre := pre_steps hYs _ hJ
  clear hYe hYp
  refine vcalls_fn hmix h56 rfl ?_
  simp -implicitDefEqProofs only [c56, caps33, gK1 hK, gK2 hK, gK3 hK, gK4 hK, gK5 hK, gK6 hK, gK7 hK, gK8 hK, gK9 hK, sK1 hK, sK2 hK, sK3 hK, sK4 hK, sK5 hK, sK6 hK, sK7 hK, sK8 hK, sK9 hK, kb, List.length_append, beq_self_eq_true, L33, push_cast, Nat.reduceBEq, Nat.reduceLT, Nat.reduceLeDiff, Nat.reduceAdd, Nat.reduceSub, Nat.reduceMul, Nat.reduceEqDiff, reduceCtorEq, ↓reduceIte, Int.reduceEq, Int.reduceLT, Int.reduceLE, Int.reduceNe, Int.reduceAdd, Int.reduceSub, Int.reduceMul, Int.reduceToNat, Nat.reduceShiftRight, Nat.reduceAnd, Nat.reduceBNe]
  refine ⟨by simp only [inR]; omega, by simp only [inR]; omega, ?_⟩
  refine loop_w (α := Nat × List Int) (fun b => ⟨[(77, I b.1), (76, I (min a1 c0 + 1)), (6, .ptr (K + 9) 0), (5, .ptr (K + 2) 0), (3, .ptr (K + 3) 0), (2, .ptr (K + 5) 0), (1, I 0), (0, I 1)], C ((Yp b.1).foldl upd s) ++ L33 K k a0 a1 a2 c0 c1 c2 x00 x01 x02 (b.2.getD 0 0) (b.2.getD 1 0) (b.2.getD 2 0) (b.2.getD 3 0) (b.2.getD 4 0) (b.2.getD 5 0), []⟩)
    (fun b => b.1 ≤ (min a1 c0 + 1).toNat) (fun b => (min a1 c0 + 1).toNat - b.1) (0, [x10, x11, x12, x20, x21, x22]) (by rw [hY0]; exact wk_tk rfl) (by simp only; omega) ?_
  rintro ⟨q, ys⟩ hq
  simp only at hq
  simp -implicitDefEqProofs only [c56L0, gK1 hK, gK2 hK, gK3 hK, gK4 hK, gK5 hK, gK6 hK, gK7 hK, gK8 hK, gK9 hK, sK1 hK, sK2 hK, sK3 hK, sK4 hK, sK5 hK, sK6 hK, sK7 hK, sK8 hK, sK9 hK, kb, List.length_append, beq_self_eq_true, L33, push_cast, Nat.reduceBEq, Nat.reduceLT, Nat.reduceLeDiff, Nat.reduceAdd, Nat.reduceSub, Nat.reduceMul, Nat.reduceEqDiff, reduceCtorEq, ↓reduceIte, Int.reduceEq, Int.reduceLT, Int.reduceLE, Int.reduceNe, Int.reduceAdd, Int.reduceSub, Int.reduceMul, Int.reduceToNat, Nat.reduceShiftRight, Nat.reduceAnd, Nat.reduceBNe]
  refine ⟨fun hc => ?_, fun hc => ?_⟩
  · refine ⟨by simp only [inR]; omega, by simp only [inR]; omega, by simp only [inR]; omega, ?_⟩
    refine call_rule (fill33_11 hK hR hk hY _ a0 (a1 - (q : Int)) a2 (c0 - (q : Int)) c1 c2 x00 x01 x02 (q : Int) (ys.getD 1 0) (ys.getD 2 0) (ys.getD 3 0) (ys.getD 4 0) (ys.getD 5 0) (hpre q (by omega)) (by omega)) ?_
    rintro v h' ⟨rfl, ys2, rfl⟩
    simp -implicitDefEqProofs only [Int.sub_add_cancel, gK1 hK, gK2 hK, gK3 hK, gK4 hK, gK5 hK, gK6 hK, gK7 hK, gK8 hK, gK9 hK, sK1 hK, sK2 hK, sK3 hK, sK4 hK, sK5 hK, sK6 hK, sK7 hK, sK8 hK, sK9 hK, kb, List.length_append, beq_self_eq_true, L33, push_cast, Nat.reduceBEq, Nat.reduceLT, Nat.reduceLeDiff, Nat.reduceAdd, Nat.reduceSub, Nat.reduceMul, Nat.reduceEqDiff, reduceCtorEq, ↓reduceIte, Int.reduceEq, Int.reduceLT, Int.reduceLE, Int.reduceNe, Int.reduceAdd, Int.reduceSub, Int.reduceMul, Int.reduceToNat, Nat.reduceShiftRight, Nat.reduceAnd, Nat.reduceBNe]
    refine ⟨by simp only [inR]; omega, by simp only [inR]; omega, by simp only [inR]; omega, (q + 1, (q : Int) :: ys2), by simp only; omega, by simp only; omega, ?_⟩
    simp only [hYs, List.foldl_append]
    exact wk_tk rfl
  · have hqe : q = (min a1 c0 + 1).toNat := by omega
    subst hqe
    refine fin_app (n := K + 10) (by simp [hK]) (by simp [hK] <;> omega) rfl (hR _ _ (by omega)) ?_ ⟨rfl, ys, ?_⟩
    · simp [rowsRefs, rowRefs, refsLtL, refsLt, NatBlt]; omega
    · rfl
theorem fill33_02 (hK : ∀ s, (C s).length = K + 1) (hR : ∀ s n, K + 1 ≤ n → rowsRefs n (C s) = true) (hk : k < K + 1) (hY : Yields33 J C K k upd r0 r1 r2 k0 k1 k2) (s : σ) (a0 a1 a2 c0 c1 c2 x00 x01 x02 x10 x11 x12 x20 x21 x22 : Int) (hJ : Pre J upd s ((rowE (a0) [c2]).flatMap fun tl => (tabE [a1, a2] (c0 :: c1 :: subC [c2] tl)).map fun rest => (x00 :: x01 :: tl) :: rest)) (hi : 0 ≤ x00 ∧ 0 ≤ x01 ∧ x00 + x01 + a0 = r0 ∧ 0 ≤ a0 ∧ a1 = r1 ∧ 0 ≤ a1 ∧ a2 = r2 ∧ 0 ≤ a2 ∧ x00 + c0 = k0 ∧ 0 ≤ c0 ∧ x01 + c1 = k1 ∧ 0 ≤ c1 ∧ c2 = k2 ∧ 0 ≤ c2 ∧ r0 ≤ 20 ∧ r1 ≤ 20 ∧ r2 ≤ 20 ∧ k0 ≤ 20 ∧ k1 ≤ 20 ∧ k2 ≤ 20) :
    VCalls Tryd.prog 56 ([I 0, I 2] ++ caps33 K) (C s ++ L33 K k a0 a1 a2 c0 c1 c2 x00 x01 x02 x10 x11 x12 x20 x21 x22) (fun v h' => v = B true ∧ ∃ ys : List Int, h' = C (((rowE (a0) [c2]).flatMap fun tl => (tabE [a1, a2] (c0 :: c1 :: subC [c2] tl)).map fun rest => (x00 :: x01 :: tl) :: rest).foldl upd s) ++ L33 K k a0 a1 a2 c0 c1 c2 x00 x01 (ys.getD 0 0) (ys.getD 1 0) (ys.getD 2 0) (ys.getD 3 0) (ys.getD 4 0) (ys.getD 5 0) (ys.getD 6 0)) := by
  have kb := kbeq K
  refine vcalls_fn hmix h56 rfl ?_
  simp -implicitDefEqProofs only [c56, caps33, gK1 hK, gK2 hK, gK3 hK, gK4 hK, gK5 hK, gK6 hK, gK7 hK, gK8 hK, gK9 hK, sK1 hK, sK2 hK, sK3 hK, sK4 hK, sK5 hK, sK6 hK, sK7 hK, sK8 hK, sK9 hK, kb, List.length_append, beq_self_eq_true, L33, push_cast, Nat.reduceBEq, Nat.reduceLT, Nat.reduceLeDiff, Nat.reduceAdd, Nat.reduceSub, Nat.reduceMul, Nat.reduceEqDiff, reduceCtorEq, ↓reduceIte, Int.reduceEq, Int.reduceLT, Int.reduceLE, Int.reduceNe, Int.reduceAdd, Int.reduceSub, Int.reduceMul, Int.reduceToNat, Nat.reduceShiftRight, Nat.reduceAnd, Nat.reduceBNe]
  refine ⟨by simp only [inR]; omega, fun hlt => ?_, fun hle => ?_⟩
  · skip
    refine fin_app (n := K + 10) (by simp [hK]) (by simp [hK] <;> omega) rfl (hR _ _ (by omega)) ?_ ⟨rfl, [x02, x10, x11, x12, x20, x21, x22], ?_⟩
    · simp [rowsRefs, rowRefs, refsLtL, refsLt, NatBlt]; omega
    · rw [show rowE a0 [c2] = [] from if_neg (by omega)]; rfl
  · refine ⟨by simp only [inR]; omega, by simp only [inR]; omega, ?_⟩
    have e : ((rowE (a0) [c2]).flatMap fun tl => (tabE [a1, a2] (c0 :: c1 :: subC [c2] tl)).map fun rest => (x00 :: x01 :: tl) :: rest) = ((rowE (a1) [c0, c1, (c2 - a0)]).flatMap fun tl => (tabE [a2] (subC [c0, c1, (c2 - a0)] tl)).map fun rest => [x00, x01, a0] :: (tl) :: rest) := by
      rw [show rowE a0 [c2] = [[a0]] from if_pos (by omega)]
      simp only [tabE_cons, subC, List.map_flatMap, List.map_map, List.flatMap_cons, List.flatMap_nil, List.append_nil, Function.comp_def, List.nil_append, List.cons_append]
    rw [e] at hJ
    refine call_rule (fill33_10 hK hR hk hY s a0 a1 a2 c0 c1 (c2 - a0) x00 x01 a0 x10 x11 x12 x20 x21 x22 hJ (by omega)) ?_
    rintro v h' ⟨rfl, ys, rfl⟩
    simp -implicitDefEqProofs only [Int.sub_add_cancel, gK1 hK, gK2 hK, gK3 hK, gK4 hK, gK5 hK, gK6 hK, gK7 hK, gK8 hK, gK9 hK, sK1 hK, sK2 hK, sK3 hK, sK4 hK, sK5 hK, sK6 hK, sK7 hK, sK8 hK, sK9 hK, kb, List.length_append, beq_self_eq_true, L33, push_cast, Nat.reduceBEq, Nat.reduceLT, Nat.reduceLeDiff, Nat.reduceAdd, Nat.reduceSub, Nat.reduceMul, Nat.reduceEqDiff, reduceCtorEq, ↓reduceIte, Int.reduceEq, Int.reduceLT, Int.reduceLE, Int.reduceNe, Int.reduceAdd, Int.reduceSub, Int.reduceMul, Int.reduceToNat, Nat.reduceShiftRight, Nat.reduceAnd, Nat.reduceBNe]
    refine ⟨by simp only [inR]; omega, ?_⟩
    refine fin_app (n := K + 10) (by simp [hK]) (by simp [hK] <;> omega) rfl (hR _ _ (by omega)) ?_ ⟨rfl, a0 :: ys, ?_⟩
    · simp [rowsRefs, rowRefs, refsLtL, refsLt, NatBlt]; omega
    · rw [e]; rfl
theorem fill33_01 (hK : ∀ s, (C s).length = K + 1) (hR : ∀ s n, K + 1 ≤ n → rowsRefs n (C s) = true) (hk : k < K + 1) (hY : Yields33 J C K k upd r0 r1 r2 k0 k1 k2) (s : σ) (a0 a1 a2 c0 c1 c2 x00 x01 x02 x10 x11 x12 x20 x21 x22 : Int) (hJ : Pre J upd s ((rowE (a0) [c1, c2]).flatMap fun tl => (tabE [a1, a2] (c0 :: subC [c1, c2] tl)).map fun rest => (x00 :: tl) :: rest)) (hi : 0 ≤ x00 ∧ x00 + a0 = r0 ∧ 0 ≤ a0 ∧ a1 = r1 ∧ 0 ≤ a1 ∧ a2 = r2 ∧ 0 ≤ a2 ∧ x00 + c0 = k0 ∧ 0 ≤ c0 ∧ c1 = k1 ∧ 0 ≤ c1 ∧ c2 = k2 ∧ 0 ≤ c2 ∧ r0 ≤ 20 ∧ r1 ≤ 20 ∧ r2 ≤ 20 ∧ k0 ≤ 20 ∧ k1 ≤ 20 ∧ k2 ≤ 20) :
    VCalls Tryd.prog 56 ([I 0, I 1] ++ caps33 K) (C s ++ L33 K k a0 a1 a2 c0 c1 c2 x00 x01 x02 x10 x11 x12 x20 x21 x22) (fun v h' => v = B true ∧ ∃ ys : List Int, h' = C (((rowE (a0) [c1, c2]).flatMap fun tl => (tabE [a1, a2] (c0 :: subC [c1, c2] tl)).map fun rest => (x00 :: tl) :: rest).foldl upd s) ++ L33 K k a0 a1 a2 c0 c1 c2 x00 (ys.getD 0 0) (ys.getD 1 0) (ys.getD 2 0) (ys.getD 3 0) (ys.getD 4 0) (ys.getD 5 0) (ys.getD 6 0) (ys.getD 7 0)) := by
  have kb := kbeq K
  obtain ⟨Yp, hYp⟩ : ∃ Yp : Nat → List (List (List Int)), Yp = fun N => (List.range N).flatMap fun (q : Nat) => ((rowE ((a0 - ((q : Nat) : Int))) [c2]).flatMap fun tl => (tabE [a1, a2] (c0 :: (c1 - ((q : Nat) : Int)) :: subC [c2] tl)).map fun rest => (x00 :: ((q : Nat) : Int) :: tl) :: rest) := ⟨_, rfl⟩
  have hY0 : Yp 0 = [] := by rw [hYp]; rfl
  have hYs : ∀ q : Nat, Yp (q + 1) = Yp q ++ ((rowE ((a0 - ((q : Nat) : Int))) [c2]).flatMap fun tl => (tabE [a1, a2] (c0 :: (c1 - ((q : Nat) : Int)) :: subC [c2] tl)).map fun rest => (x00 :: ((q : Nat) : Int) :: tl) :: rest) := by
    intro q
    simp only [hYp, List.range_succ, List.flatMap_append, List.flatMap_cons, List.flatMap_nil, List.append_nil]
  have hYe : ((rowE (a0) [c1, c2]).flatMap fun tl => (tabE [a1, a2] (c0 :: subC [c1, c2] tl)).map fun rest => (x00 :: tl) :: rest) = Yp (min a0 c1 + 1).toNat := by
    rw [hYp]
    simp only [rowE, subC, List.flatMap_assoc, List.flatMap_map]
  rw [hYe] at hJ ⊢
  have hpre := pre_steps hYs _ hJ
  clear hYe hYp
  refine vcalls_fn hmix h56 rfl ?_
  simp -implicitDefEqProofs only [c56, caps33, gK1 hK, gK2 hK, gK3 hK, gK4 hK, gK5 hK, gK6 hK, gK7 hK, gK8 hK, gK9 hK, sK1 hK, sK2 hK, sK3 hK, sK4 hK, sK5 hK, sK6 hK, sK7 hK, sK8 hK, sK9 hK, kb, List.length_append, beq_self_eq_true, L33, push_cast, Nat.reduceBEq, Nat.reduceLT, Nat.reduceLeDiff, Nat.reduceAdd, Nat.reduceSub, Nat.reduceMul, Nat.reduceEqDiff, reduceCtorEq, ↓reduceIte, Int.reduceEq, Int.reduceLT, Int.reduceLE, Int.reduceNe, Int.reduceAdd, Int.reduceSub, Int.reduceMul, Int.reduceToNat, Nat.reduceShiftRight, Nat.reduceAnd, Nat.reduceBNe]
  refine ⟨by simp only [inR]; omega, by simp only [inR]; omega, ?_⟩
  refine loop_w (α := Nat × List Int) (fun b => ⟨[(77, I b.1), (76, I (min a0 c1 + 1)), (6, .ptr (K + 9) 0), (5, .ptr (K + 2) 0), (3, .ptr (K + 3) 0), (2, .ptr (K + 5) 0), (1, I 1), (0, I 0)], C ((Yp b.1).foldl upd s) ++ L33 K k a0 a1 a2 c0 c1 c2 x00 (b.2.getD 0 0) (b.2.getD 1 0) (b.2.getD 2 0) (b.2.getD 3 0) (b.2.getD 4 0) (b.2.getD 5 0) (b.2.getD 6 0) (b.2.getD 7 0), []⟩)
    (fun b => b.1 ≤ (min a0 c1 + 1).toNat) (fun b => (min a0 c1 + 1).toNat - b.1) (0, [x01, x02, x10, x11, x12, x20, x21, x22]) (by rw [hY0]; exact wk_tk rfl) (by simp only; omega) ?_
  rintro ⟨q, ys⟩ hq
  simp only at hq
  simp -implicitDefEqProofs only [c56L0, gK1 hK, gK2 hK, gK3 hK, gK4 hK, gK5 hK, gK6 hK, gK7 hK, gK8 hK, gK9 hK, sK1 hK, sK2 hK, sK3 hK, sK4 hK, sK5 hK, sK6 hK, sK7 hK, sK8 hK, sK9 hK, kb, List.length_append, beq_self_eq_true, L33, push_cast, Nat.reduceBEq, Nat.reduceLT, Nat.reduceLeDiff, Nat.reduceAdd, Nat.reduceSub, Nat.reduceMul, Nat.reduceEqDiff, reduceCtorEq, ↓reduceIte, Int.reduceEq, Int.reduceLT, Int.reduceLE, Int.reduceNe, Int.reduceAdd, Int.reduceSub, Int.reduceMul, Int.reduceToNat, Nat.reduceShiftRight, Nat.reduceAnd, Nat.reduceBNe]
  refine ⟨fun hc => ?_, fun hc => ?_⟩
  · refine ⟨by simp only [inR]; omega, by simp only [inR]; omega, by simp only [inR]; omega, ?_⟩
    refine call_rule (fill33_02 hK hR hk hY _ (a0 - (q : Int)) a1 a2 c0 (c1 - (q : Int)) c2 x00 (q : Int) (ys.getD 1 0) (ys.getD 2 0) (ys.getD 3 0) (ys.getD 4 0) (ys.getD 5 0) (ys.getD 6 0) (ys.getD 7 0) (hpre q (by omega)) (by omega)) ?_
    rintro v h' ⟨rfl, ys2, rfl⟩
    simp -implicitDefEqProofs only [Int.sub_add_cancel, gK1 hK, gK2 hK, gK3 hK, gK4 hK, gK5 hK, gK6 hK, gK7 hK, gK8 hK, gK9 hK, sK1 hK, sK2 hK, sK3 hK, sK4 hK, sK5 hK, sK6 hK, sK7 hK, sK8 hK, sK9 hK, kb, List.length_append, beq_self_eq_true, L33, push_cast, Nat.reduceBEq, Nat.reduceLT, Nat.reduceLeDiff, Nat.reduceAdd, Nat.reduceSub, Nat.reduceMul, Nat.reduceEqDiff, reduceCtorEq, ↓reduceIte, Int.reduceEq, Int.reduceLT, Int.reduceLE, Int.reduceNe, Int.reduceAdd, Int.reduceSub, Int.reduceMul, Int.reduceToNat, Nat.reduceShiftRight, Nat.reduceAnd, Nat.reduceBNe]
    refine ⟨by simp only [inR]; omega, by simp only [inR]; omega, by simp only [inR]; omega, (q + 1, (q : Int) :: ys2), by simp only; omega, by simp only; omega, ?_⟩
    simp only [hYs, List.foldl_append]
    exact wk_tk rfl
  · have hqe : q = (min a0 c1 + 1).toNat := by omega
    subst hqe
    refine fin_app (n := K + 10) (by simp [hK]) (by simp [hK] <;> omega) rfl (hR _ _ (by omega)) ?_ ⟨rfl, ys, ?_⟩
    · simp [rowsRefs, rowRefs, refsLtL, refsLt, NatBlt]; omega
    · rfl
theorem fill33_00 (hK : ∀ s, (C s).length = K + 1) (hR : ∀ s n, K + 1 ≤ n → rowsRefs n (C s) = true) (hk : k < K + 1) (hY : Yields33 J C K k upd r0 r1 r2 k0 k1 k2) (s : σ) (a0 a1 a2 c0 c1 c2 x00 x01 x02 x10 x11 x12 x20 x21 x22 : Int) (hJ : Pre J upd s ((rowE (a0) [c0, c1, c2]).flatMap fun tl => (tabE [a1, a2] (subC [c0, c1, c2] tl)).map fun rest => (tl) :: rest)) (hi : a0 = r0 ∧ 0 ≤ a0 ∧ a1 = r1 ∧ 0 ≤ a1 ∧ a2 = r2 ∧ 0 ≤ a2 ∧ c0 = k0 ∧ 0 ≤ c0 ∧ c1 = k1 ∧ 0 ≤ c1 ∧ c2 = k2 ∧ 0 ≤ c2 ∧ r0 ≤ 20 ∧ r1 ≤ 20 ∧ r2 ≤ 20 ∧ k0 ≤ 20 ∧ k1 ≤ 20 ∧ k2 ≤ 20) :
    VCalls Tryd.prog 56 ([I 0, I 0] ++ caps33 K) (C s ++ L33 K k a0 a1 a2 c0 c1 c2 x00 x01 x02 x10 x11 x12 x20 x21 x22) (fun v h' => v = B true ∧ ∃ ys : List Int, h' = C (((rowE (a0) [c0, c1, c2]).flatMap fun tl => (tabE [a1, a2] (subC [c0, c1, c2] tl)).map fun rest => (tl) :: rest).foldl upd s) ++ L33 K k a0 a1 a2 c0 c1 c2 (ys.getD 0 0) (ys.getD 1 0) (ys.getD 2 0) (ys.getD 3 0) (ys.getD 4 0) (ys.getD 5 0) (ys.getD 6 0) (ys.getD 7 0) (ys.getD 8 0)) := by
  have kb := kbeq K
  obtain ⟨Yp, hYp⟩ : ∃ Yp : Nat → List (List (List Int)), Yp = fun N => (List.range N).flatMap fun (q : Nat) => ((rowE ((a0 - ((q : Nat) : Int))) [c1, c2]).flatMap fun tl => (tabE [a1, a2] ((c0 - ((q : Nat) : Int)) :: subC [c1, c2] tl)).map fun rest => (((q : Nat) : Int) :: tl) :: rest) := ⟨_, rfl⟩
  have hY0 : Yp 0 = [] := by rw [hYp]; rfl
  have hYs : ∀ q : Nat, Yp (q + 1) = Yp q ++ ((rowE ((a0 - ((q : Nat) : Int))) [c1, c2]).flatMap fun tl => (tabE [a1, a2] ((c0 - ((q : Nat) : Int)) :: subC [c1, c2] tl)).map fun rest => (((q : Nat) : Int) :: tl) :: rest) := by
    intro q
    simp only [hYp, List.range_succ, List.flatMap_append, List.flatMap_cons, List.flatMap_nil, List.append_nil]
  have hYe : ((rowE (a0) [c0, c1, c2]).flatMap fun tl => (tabE [a1, a2] (subC [c0, c1, c2] tl)).map fun rest => (tl) :: rest) = Yp (min a0 c0 + 1).toNat := by
    rw [hYp]
    simp only [rowE, subC, List.flatMap_assoc, List.flatMap_map]
  rw [hYe] at hJ ⊢
  have hpre := pre_steps hYs _ hJ
  clear hYe hYp
  refine vcalls_fn hmix h56 rfl ?_
  simp -implicitDefEqProofs only [c56, caps33, gK1 hK, gK2 hK, gK3 hK, gK4 hK, gK5 hK, gK6 hK, gK7 hK, gK8 hK, gK9 hK, sK1 hK, sK2 hK, sK3 hK, sK4 hK, sK5 hK, sK6 hK, sK7 hK, sK8 hK, sK9 hK, kb, List.length_append, beq_self_eq_true, L33, push_cast, Nat.reduceBEq, Nat.reduceLT, Nat.reduceLeDiff, Nat.reduceAdd, Nat.reduceSub, Nat.reduceMul, Nat.reduceEqDiff, reduceCtorEq, ↓reduceIte, Int.reduceEq, Int.reduceLT, Int.reduceLE, Int.reduceNe, Int.reduceAdd, Int.reduceSub, Int.reduceMul, Int.reduceToNat, Nat.reduceShiftRight, Nat.reduceAnd, Nat.reduceBNe]
  refine ⟨by simp only [inR]; omega, by simp only [inR]; omega, ?_⟩
  refine loop_w (α := Nat × List Int) (fun b => ⟨[(77, I b.1), (76, I (min a0 c0 + 1)), (6, .ptr (K + 9) 0), (5, .ptr (K + 2) 0), (3, .ptr (K + 3) 0), (2, .ptr (K + 5) 0), (1, I 0), (0, I 0)], C ((Yp b.1).foldl upd s) ++ L33 K k a0 a1 a2 c0 c1 c2 (b.2.getD 0 0) (b.2.getD 1 0) (b.2.getD 2 0) (b.2.getD 3 0) (b.2.getD 4 0) (b.2.getD 5 0) (b.2.getD 6 0) (b.2.getD 7 0) (b.2.getD 8 0), []⟩)
    (fun b => b.1 ≤ (min a0 c0 + 1).toNat) (fun b => (min a0 c0 + 1).toNat - b.1) (0, [x00, x01, x02, x10, x11, x12, x20, x21, x22]) (by rw [hY0]; exact wk_tk rfl) (by simp only; omega) ?_
  rintro ⟨q, ys⟩ hq
  simp only at hq
  simp -implicitDefEqProofs only [c56L0, gK1 hK, gK2 hK, gK3 hK, gK4 hK, gK5 hK, gK6 hK, gK7 hK, gK8 hK, gK9 hK, sK1 hK, sK2 hK, sK3 hK, sK4 hK, sK5 hK, sK6 hK, sK7 hK, sK8 hK, sK9 hK, kb, List.length_append, beq_self_eq_true, L33, push_cast, Nat.reduceBEq, Nat.reduceLT, Nat.reduceLeDiff, Nat.reduceAdd, Nat.reduceSub, Nat.reduceMul, Nat.reduceEqDiff, reduceCtorEq, ↓reduceIte, Int.reduceEq, Int.reduceLT, Int.reduceLE, Int.reduceNe, Int.reduceAdd, Int.reduceSub, Int.reduceMul, Int.reduceToNat, Nat.reduceShiftRight, Nat.reduceAnd, Nat.reduceBNe]
  refine ⟨fun hc => ?_, fun hc => ?_⟩
  · refine ⟨by simp only [inR]; omega, by simp only [inR]; omega, by simp only [inR]; omega, ?_⟩
    refine call_rule (fill33_01 hK hR hk hY _ (a0 - (q : Int)) a1 a2 (c0 - (q : Int)) c1 c2 (q : Int) (ys.getD 1 0) (ys.getD 2 0) (ys.getD 3 0) (ys.getD 4 0) (ys.getD 5 0) (ys.getD 6 0) (ys.getD 7 0) (ys.getD 8 0) (hpre q (by omega)) (by omega)) ?_
    rintro v h' ⟨rfl, ys2, rfl⟩
    simp -implicitDefEqProofs only [Int.sub_add_cancel, gK1 hK, gK2 hK, gK3 hK, gK4 hK, gK5 hK, gK6 hK, gK7 hK, gK8 hK, gK9 hK, sK1 hK, sK2 hK, sK3 hK, sK4 hK, sK5 hK, sK6 hK, sK7 hK, sK8 hK, sK9 hK, kb, List.length_append, beq_self_eq_true, L33, push_cast, Nat.reduceBEq, Nat.reduceLT, Nat.reduceLeDiff, Nat.reduceAdd, Nat.reduceSub, Nat.reduceMul, Nat.reduceEqDiff, reduceCtorEq, ↓reduceIte, Int.reduceEq, Int.reduceLT, Int.reduceLE, Int.reduceNe, Int.reduceAdd, Int.reduceSub, Int.reduceMul, Int.reduceToNat, Nat.reduceShiftRight, Nat.reduceAnd, Nat.reduceBNe]
    refine ⟨by simp only [inR]; omega, by simp only [inR]; omega, by simp only [inR]; omega, (q + 1, (q : Int) :: ys2), by simp only; omega, by simp only; omega, ?_⟩
    simp only [hYs, List.foldl_append]
    exact wk_tk rfl
  · have hqe : q = (min a0 c0 + 1).toNat := by omega
    subst hqe
    refine fin_app (n := K + 10) (by simp [hK]) (by simp [hK] <;> omega) rfl (hR _ _ (by omega)) ?_ ⟨rfl, ys, ?_⟩
    · simp [rowsRefs, rowRefs, refsLtL, refsLt, NatBlt]; omega
    · rfl
end
end Go.Proofs.YtligakiolapkkaaDoor

namespace Go.Proofs.YtligakiolapkkaaDoor
open Go GoV
set_option maxRecDepth 10000
theorem fin_pre {B n : Nat} {v : AV} {Q : AV → Heap → Prop} {C L : Heap} (hn : C.length = n) (hB : B ≤ n) (hv : refsLt n v = true) (hC : rowsRefs n C = true) (hq : Q v C) : finK1 B v Q (C ++ L) := by
  subst hn
  refine ⟨C.length, hB, hv, ?_, ?_⟩
  · rw [List.take_left]; exact hC
  · rw [List.take_left]; exact hq
theorem all_pc (t : List (List Int)) : PC Tryd.prog 46 [TT t] (.fn 55 [] [.imm (.list (.list (.int .i64))) t]) := by
  refine pc_fn hmix h46 rfl ?_
  simp -implicitDefEqProofs only [c46, push_cast, Nat.reduceBEq, Nat.reduceLT, Nat.reduceLeDiff, Nat.reduceAdd, Nat.reduceSub, Nat.reduceMul, Nat.reduceEqDiff, reduceCtorEq, ↓reduceIte, Int.reduceEq, Int.reduceLT, Int.reduceLE, Int.reduceNe, Int.reduceAdd, Int.reduceSub, Int.reduceMul, Int.reduceToNat, Nat.reduceShiftRight, Nat.reduceAnd, Nat.reduceBNe]
  exact finR 1 rfl ⟨rfl, trivial, ⟨⟨Nat.le_refl _, ⟨rfl, rfl⟩⟩, trivial⟩⟩
abbrev TTT (l : List (List (List Int))) : AV := .dat (.list (.list (.list (.int .i64)))) l
end Go.Proofs.YtligakiolapkkaaDoor

namespace Go.Proofs.YtligakiolapkkaaDoor
open Go GoV
set_option maxHeartbeats 8000000
set_option maxRecDepth 10000
set_option linter.unusedVariables false
set_option linter.unusedSimpArgs false
theorem tab_hyp22 {x00 x01 x10 x11 : Int} (h : Tab [[x00, x01], [x10, x11]]) : 0 ≤ x00 ∧ 0 ≤ x01 ∧ 0 ≤ x10 ∧ 0 ≤ x11 ∧ x00 + x01 + x10 + x11 ≤ 20 := by
  obtain ⟨_, _, h3, h4⟩ := h
  have := rng2 (h3 [x00, x01] (by simp)).2
  have := rng2 (h3 [x10, x11] (by simp)).2
  simp only [totL, sumL, List.map_cons, List.map_nil] at h4
  omega
section
variable {σ : Type} {J : σ → Prop} {C : σ → Heap} {K k : Nat} {upd : σ → List (List Int) → σ}
theorem all22 (hK : ∀ s, (C s).length = K + 1) (hR : ∀ s n, K + 1 ≤ n → rowsRefs n (C s) = true) (hk : k < K + 1) {x00 x01 x10 x11 : Int} (ht : Tab [[x00, x01], [x10, x11]])
    (hY : Yields22 J C K k upd (x00 + x01) (x10 + x11) (x00 + x10) (x01 + x11)) (s : σ) (hJ : Pre J upd s (tabE [(x00 + x01), (x10 + x11)] [(x00 + x10), (x01 + x11)])) :
    VCalls Tryd.prog 55 [.yld k, .imm (.list (.list (.int .i64))) [[x00, x01], [x10, x11]]] (C s) (fun v h' => h' = C ((tabE [(x00 + x01), (x10 + x11)] [(x00 + x10), (x01 + x11)]).foldl upd s)) := by
  have kb := kbeq K
  have m7 : K + 7 - 1 = K + 6 := rfl
  have m8 : K + 8 - 1 = K + 7 := rfl
  have m9 : K + 9 - 1 = K + 8 := rfl
  have hr := tab_hyp22 ht
  have hs := sums_22 x00 x01 x10 x11 (by omega)
  refine vcalls_fn hmix h55 rfl ?_
  simp -implicitDefEqProofs only [c55, hK, List.length_append, List.length_cons, List.length_nil, Nat.add_assoc, Nat.reduceAdd, kb, push_cast, Nat.reduceBEq, Nat.reduceLT, Nat.reduceLeDiff, Nat.reduceAdd, Nat.reduceSub, Nat.reduceMul, Nat.reduceEqDiff, reduceCtorEq, ↓reduceIte, Int.reduceEq, Int.reduceLT, Int.reduceLE, Int.reduceNe, Int.reduceAdd, Int.reduceSub, Int.reduceMul, Int.reduceToNat, Nat.reduceShiftRight, Nat.reduceAnd, Nat.reduceBNe]
  refine callF hs ⟨rfl, trivial⟩ rfl rfl ?_
  simp -implicitDefEqProofs only [hK, List.length_append, List.length_cons, List.length_nil, Nat.add_assoc, Nat.reduceAdd, kb, List.append_assoc, List.cons_append, List.nil_append, gK1 hK, gK2 hK, gK3 hK, gK4 hK, gK5 hK, gK6 hK, gK7 hK, gK8 hK, sK1 hK, sK2 hK, sK3 hK, sK4 hK, sK5 hK, sK6 hK, sK7 hK, sK8 hK, push_cast, Nat.reduceBEq, Nat.reduceLT, Nat.reduceLeDiff, Nat.reduceAdd, Nat.reduceSub, Nat.reduceMul, Nat.reduceEqDiff, reduceCtorEq, ↓reduceIte, Int.reduceEq, Int.reduceLT, Int.reduceLE, Int.reduceNe, Int.reduceAdd, Int.reduceSub, Int.reduceMul, Int.reduceToNat, Nat.reduceShiftRight, Nat.reduceAnd, Nat.reduceBNe]
  refine ⟨⟨by simp only [two47]; omega, by simp only [two47]; omega⟩, ?_⟩
  repeat first
    | (refine LoopW.wk (wk_t [18, 17, 5, 4, 3, 2, 1] rfl) (LoopW.unroll ?_); simp -implicitDefEqProofs only [c55L0, m7, m8, m9, hK, List.length_append, List.length_cons, List.length_nil, Nat.add_assoc, Nat.reduceAdd, kb, List.append_assoc, List.cons_append, List.nil_append, gK1 hK, gK2 hK, gK3 hK, gK4 hK, gK5 hK, gK6 hK, gK7 hK, gK8 hK, sK1 hK, sK2 hK, sK3 hK, sK4 hK, sK5 hK, sK6 hK, sK7 hK, sK8 hK, List.getD_cons_zero, List.getD_cons_succ, Int.zero_add, push_cast, Nat.reduceBEq, Nat.reduceLT, Nat.reduceLeDiff, Nat.reduceAdd, Nat.reduceSub, Nat.reduceMul, Nat.reduceEqDiff, reduceCtorEq, ↓reduceIte, Int.reduceEq, Int.reduceLT, Int.reduceLE, Int.reduceNe, Int.reduceAdd, Int.reduceSub, Int.reduceMul, Int.reduceToNat, Nat.reduceShiftRight, Nat.reduceAnd, Nat.reduceBNe])
    | (refine ⟨by first | (simp only [inR]; omega) | (simp only [two47]; omega) | omega, ?_⟩)
  refine call_rule (fill22_00 hK hR hk hY s (x00 + x01) (x10 + x11) (x00 + x10) (x01 + x11) 0 0 0 0 hJ (by omega)) ?_
  rintro v h' ⟨rfl, ys, rfl⟩
  simp -implicitDefEqProofs only [push_cast, Nat.reduceBEq, Nat.reduceLT, Nat.reduceLeDiff, Nat.reduceAdd, Nat.reduceSub, Nat.reduceMul, Nat.reduceEqDiff, reduceCtorEq, ↓reduceIte, Int.reduceEq, Int.reduceLT, Int.reduceLE, Int.reduceNe, Int.reduceAdd, Int.reduceSub, Int.reduceMul, Int.reduceToNat, Nat.reduceShiftRight, Nat.reduceAnd, Nat.reduceBNe]
  exact fin_pre (hK _) (Nat.le_refl _) rfl (hR _ _ (Nat.le_refl _)) rfl
end
end Go.Proofs.YtligakiolapkkaaDoor

namespace Go.Proofs.YtligakiolapkkaaDoor
open Go GoV
set_option maxHeartbeats 8000000
set_option maxRecDepth 10000
set_option linter.unusedVariables false
set_option linter.unusedSimpArgs false
theorem tab_hyp23 {x00 x01 x02 x10 x11 x12 : Int} (h : Tab [[x00, x01, x02], [x10, x11, x12]]) : 0 ≤ x00 ∧ 0 ≤ x01 ∧ 0 ≤ x02 ∧ 0 ≤ x10 ∧ 0 ≤ x11 ∧ 0 ≤ x12 ∧ x00 + x01 + x02 + x10 + x11 + x12 ≤ 20 := by
  obtain ⟨_, _, h3, h4⟩ := h
  have := rng3 (h3 [x00, x01, x02] (by simp)).2
  have := rng3 (h3 [x10, x11, x12] (by simp)).2
  simp only [totL, sumL, List.map_cons, List.map_nil] at h4
  omega
section
variable {σ : Type} {J : σ → Prop} {C : σ → Heap} {K k : Nat} {upd : σ → List (List Int) → σ}
theorem all23 (hK : ∀ s, (C s).length = K + 1) (hR : ∀ s n, K + 1 ≤ n → rowsRefs n (C s) = true) (hk : k < K + 1) {x00 x01 x02 x10 x11 x12 : Int} (ht : Tab [[x00, x01, x02], [x10, x11, x12]])
    (hY : Yields23 J C K k upd (x00 + x01 + x02) (x10 + x11 + x12) (x00 + x10) (x01 + x11) (x02 + x12)) (s : σ) (hJ : Pre J upd s (tabE [(x00 + x01 + x02), (x10 + x11 + x12)] [(x00 + x10), (x01 + x11), (x02 + x12)])) :
    VCalls Tryd.prog 55 [.yld k, .imm (.list (.list (.int .i64))) [[x00, x01, x02], [x10, x11, x12]]] (C s) (fun v h' => h' = C ((tabE [(x00 + x01 + x02), (x10 + x11 + x12)] [(x00 + x10), (x01 + x11), (x02 + x12)]).foldl upd s)) := by
  have kb := kbeq K
  have m7 : K + 7 - 1 = K + 6 := rfl
  have m8 : K + 8 - 1 = K + 7 := rfl
  have m9 : K + 9 - 1 = K + 8 := rfl
  have hr := tab_hyp23 ht
  have hs := sums_23 x00 x01 x02 x10 x11 x12 (by omega)
  refine vcalls_fn hmix h55 rfl ?_
  simp -implicitDefEqProofs only [c55, hK, List.length_append, List.length_cons, List.length_nil, Nat.add_assoc, Nat.reduceAdd, kb, push_cast, Nat.reduceBEq, Nat.reduceLT, Nat.reduceLeDiff, Nat.reduceAdd, Nat.reduceSub, Nat.reduceMul, Nat.reduceEqDiff, reduceCtorEq, ↓reduceIte, Int.reduceEq, Int.reduceLT, Int.reduceLE, Int.reduceNe, Int.reduceAdd, Int.reduceSub, Int.reduceMul, Int.reduceToNat, Nat.reduceShiftRight, Nat.reduceAnd, Nat.reduceBNe]
  refine callF hs ⟨rfl, trivial⟩ rfl rfl ?_
  simp -implicitDefEqProofs only [hK, List.length_append, List.length_cons, List.length_nil, Nat.add_assoc, Nat.reduceAdd, kb, List.append_assoc, List.cons_append, List.nil_append, gK1 hK, gK2 hK, gK3 hK, gK4 hK, gK5 hK, gK6 hK, gK7 hK, gK8 hK, sK1 hK, sK2 hK, sK3 hK, sK4 hK, sK5 hK, sK6 hK, sK7 hK, sK8 hK, push_cast, Nat.reduceBEq, Nat.reduceLT, Nat.reduceLeDiff, Nat.reduceAdd, Nat.reduceSub, Nat.reduceMul, Nat.reduceEqDiff, reduceCtorEq, ↓reduceIte, Int.reduceEq, Int.reduceLT, Int.reduceLE, Int.reduceNe, Int.reduceAdd, Int.reduceSub, Int.reduceMul, Int.reduceToNat, Nat.reduceShiftRight, Nat.reduceAnd, Nat.reduceBNe]
  refine ⟨⟨by simp only [two47]; omega, by simp only [two47]; omega⟩, ?_⟩
  repeat first
    | (refine LoopW.wk (wk_t [18, 17, 5, 4, 3, 2, 1] rfl) (LoopW.unroll ?_); simp -implicitDefEqProofs only [c55L0, m7, m8, m9, hK, List.length_append, List.length_cons, List.length_nil, Nat.add_assoc, Nat.reduceAdd, kb, List.append_assoc, List.cons_append, List.nil_append, gK1 hK, gK2 hK, gK3 hK, gK4 hK, gK5 hK, gK6 hK, gK7 hK, gK8 hK, sK1 hK, sK2 hK, sK3 hK, sK4 hK, sK5 hK, sK6 hK, sK7 hK, sK8 hK, List.getD_cons_zero, List.getD_cons_succ, Int.zero_add, push_cast, Nat.reduceBEq, Nat.reduceLT, Nat.reduceLeDiff, Nat.reduceAdd, Nat.reduceSub, Nat.reduceMul, Nat.reduceEqDiff, reduceCtorEq, ↓reduceIte, Int.reduceEq, Int.reduceLT, Int.reduceLE, Int.reduceNe, Int.reduceAdd, Int.reduceSub, Int.reduceMul, Int.reduceToNat, Nat.reduceShiftRight, Nat.reduceAnd, Nat.reduceBNe])
    | (refine ⟨by first | (simp only [inR]; omega) | (simp only [two47]; omega) | omega, ?_⟩)
  refine call_rule (fill23_00 hK hR hk hY s (x00 + x01 + x02) (x10 + x11 + x12) (x00 + x10) (x01 + x11) (x02 + x12) 0 0 0 0 0 0 hJ (by omega)) ?_
  rintro v h' ⟨rfl, ys, rfl⟩
  simp -implicitDefEqProofs only [push_cast, Nat.reduceBEq, Nat.reduceLT, Nat.reduceLeDiff, Nat.reduceAdd, Nat.reduceSub, Nat.reduceMul, Nat.reduceEqDiff, reduceCtorEq, ↓reduceIte, Int.reduceEq, Int.reduceLT, Int.reduceLE, Int.reduceNe, Int.reduceAdd, Int.reduceSub, Int.reduceMul, Int.reduceToNat, Nat.reduceShiftRight, Nat.reduceAnd, Nat.reduceBNe]
  exact fin_pre (hK _) (Nat.le_refl _) rfl (hR _ _ (Nat.le_refl _)) rfl
end
end Go.Proofs.YtligakiolapkkaaDoor

namespace Go.Proofs.YtligakiolapkkaaDoor
open Go GoV
set_option maxHeartbeats 8000000
set_option maxRecDepth 10000
set_option linter.unusedVariables false
set_option linter.unusedSimpArgs false
theorem tab_hyp32 {x00 x01 x10 x11 x20 x21 : Int} (h : Tab [[x00, x01], [x10, x11], [x20, x21]]) : 0 ≤ x00 ∧ 0 ≤ x01 ∧ 0 ≤ x10 ∧ 0 ≤ x11 ∧ 0 ≤ x20 ∧ 0 ≤ x21 ∧ x00 + x01 + x10 + x11 + x20 + x21 ≤ 20 := by
  obtain ⟨_, _, h3, h4⟩ := h
  have := rng2 (h3 [x00, x01] (by simp)).2
  have := rng2 (h3 [x10, x11] (by simp)).2
  have := rng2 (h3 [x20, x21] (by simp)).2
  simp only [totL, sumL, List.map_cons, List.map_nil] at h4
  omega
section
variable {σ : Type} {J : σ → Prop} {C : σ → Heap} {K k : Nat} {upd : σ → List (List Int) → σ}
theorem all32 (hK : ∀ s, (C s).length = K + 1) (hR : ∀ s n, K + 1 ≤ n → rowsRefs n (C s) = true) (hk : k < K + 1) {x00 x01 x10 x11 x20 x21 : Int} (ht : Tab [[x00, x01], [x10, x11], [x20, x21]])
    (hY : Yields32 J C K k upd (x00 + x01) (x10 + x11) (x20 + x21) (x00 + x10 + x20) (x01 + x11 + x21)) (s : σ) (hJ : Pre J upd s (tabE [(x00 + x01), (x10 + x11), (x20 + x21)] [(x00 + x10 + x20), (x01 + x11 + x21)])) :
    VCalls Tryd.prog 55 [.yld k, .imm (.list (.list (.int .i64))) [[x00, x01], [x10, x11], [x20, x21]]] (C s) (fun v h' => h' = C ((tabE [(x00 + x01), (x10 + x11), (x20 + x21)] [(x00 + x10 + x20), (x01 + x11 + x21)]).foldl upd s)) := by
  have kb := kbeq K
  have m7 : K + 7 - 1 = K + 6 := rfl
  have m8 : K + 8 - 1 = K + 7 := rfl
  have m9 : K + 9 - 1 = K + 8 := rfl
  have m10 : K + 10 - 1 = K + 9 := rfl
  have hr := tab_hyp32 ht
  have hs := sums_32 x00 x01 x10 x11 x20 x21 (by omega)
  refine vcalls_fn hmix h55 rfl ?_
  simp -implicitDefEqProofs only [c55, hK, List.length_append, List.length_cons, List.length_nil, Nat.add_assoc, Nat.reduceAdd, kb, push_cast, Nat.reduceBEq, Nat.reduceLT, Nat.reduceLeDiff, Nat.reduceAdd, Nat.reduceSub, Nat.reduceMul, Nat.reduceEqDiff, reduceCtorEq, ↓reduceIte, Int.reduceEq, Int.reduceLT, Int.reduceLE, Int.reduceNe, Int.reduceAdd, Int.reduceSub, Int.reduceMul, Int.reduceToNat, Nat.reduceShiftRight, Nat.reduceAnd, Nat.reduceBNe]
  refine callF hs ⟨rfl, trivial⟩ rfl rfl ?_
  simp -implicitDefEqProofs only [hK, List.length_append, List.length_cons, List.length_nil, Nat.add_assoc, Nat.reduceAdd, kb, List.append_assoc, List.cons_append, List.nil_append, gK1 hK, gK2 hK, gK3 hK, gK4 hK, gK5 hK, gK6 hK, gK7 hK, gK8 hK, gK9 hK, sK1 hK, sK2 hK, sK3 hK, sK4 hK, sK5 hK, sK6 hK, sK7 hK, sK8 hK, sK9 hK, push_cast, Nat.reduceBEq, Nat.reduceLT, Nat.reduceLeDiff, Nat.reduceAdd, Nat.reduceSub, Nat.reduceMul, Nat.reduceEqDiff, reduceCtorEq, ↓reduceIte, Int.reduceEq, Int.reduceLT, Int.reduceLE, Int.reduceNe, Int.reduceAdd, Int.reduceSub, Int.reduceMul, Int.reduceToNat, Nat.reduceShiftRight, Nat.reduceAnd, Nat.reduceBNe]
  refine ⟨⟨by simp only [two47]; omega, by simp only [two47]; omega⟩, ?_⟩
  repeat first
    | (refine LoopW.wk (wk_t [18, 17, 5, 4, 3, 2, 1] rfl) (LoopW.unroll ?_); simp -implicitDefEqProofs only [c55L0, m7, m8, m9, m10, hK, List.length_append, List.length_cons, List.length_nil, Nat.add_assoc, Nat.reduceAdd, kb, List.append_assoc, List.cons_append, List.nil_append, gK1 hK, gK2 hK, gK3 hK, gK4 hK, gK5 hK, gK6 hK, gK7 hK, gK8 hK, gK9 hK, sK1 hK, sK2 hK, sK3 hK, sK4 hK, sK5 hK, sK6 hK, sK7 hK, sK8 hK, sK9 hK, List.getD_cons_zero, List.getD_cons_succ, Int.zero_add, push_cast, Nat.reduceBEq, Nat.reduceLT, Nat.reduceLeDiff, Nat.reduceAdd, Nat.reduceSub, Nat.reduceMul, Nat.reduceEqDiff, reduceCtorEq, ↓reduceIte, Int.reduceEq, Int.reduceLT, Int.reduceLE, Int.reduceNe, Int.reduceAdd, Int.reduceSub, Int.reduceMul, Int.reduceToNat, Nat.reduceShiftRight, Nat.reduceAnd, Nat.reduceBNe])
    | (refine ⟨by first | (simp only [inR]; omega) | (simp only [two47]; omega) | omega, ?_⟩)
  refine call_rule (fill32_00 hK hR hk hY s (x00 + x01) (x10 + x11) (x20 + x21) (x00 + x10 + x20) (x01 + x11 + x21) 0 0 0 0 0 0 hJ (by omega)) ?_
  rintro v h' ⟨rfl, ys, rfl⟩
  simp -implicitDefEqProofs only [push_cast, Nat.reduceBEq, Nat.reduceLT, Nat.reduceLeDiff, Nat.reduceAdd, Nat.reduceSub, Nat.reduceMul, Nat.reduceEqDiff, reduceCtorEq, ↓reduceIte, Int.reduceEq, Int.reduceLT, Int.reduceLE, Int.reduceNe, Int.reduceAdd, Int.reduceSub, Int.reduceMul, Int.reduceToNat, Nat.reduceShiftRight, Nat.reduceAnd, Nat.reduceBNe]
  exact fin_pre (hK _) (Nat.le_refl _) rfl (hR _ _ (Nat.le_refl _)) rfl
end
end Go.Proofs.YtligakiolapkkaaDoor

namespace Go.Proofs.YtligakiolapkkaaDoor
open Go GoV
set_option maxHeartbeats 8000000
set_option maxRecDepth 10000
set_option linter.unusedVariables false
set_option linter.unusedSimpArgs false
theorem tab_hyp33 {x00 x01 x02 x10 x11 x12 x20 x21 x22 : Int} (h : Tab [[x00, x01, x02], [x10, x11, x12], [x20, x21, x22]]) : 0 ≤ x00 ∧ 0 ≤ x01 ∧ 0 ≤ x02 ∧ 0 ≤ x10 ∧ 0 ≤ x11 ∧ 0 ≤ x12 ∧ 0 ≤ x20 ∧ 0 ≤ x21 ∧ 0 ≤ x22 ∧ x00 + x01 + x02 + x10 + x11 + x12 + x20 + x21 + x22 ≤ 20 := by
  obtain ⟨_, _, h3, h4⟩ := h
  have := rng3 (h3 [x00, x01, x02] (by simp)).2
  have := rng3 (h3 [x10, x11, x12] (by simp)).2
  have := rng3 (h3 [x20, x21, x22] (by simp)).2
  simp only [totL, sumL, List.map_cons, List.map_nil] at h4
  omega
section
variable {σ : Type} {J : σ → Prop} {C : σ → Heap} {K k : Nat} {upd : σ → List (List Int) → σ}
theorem all33 (hK : ∀ s, (C s).length = K + 1) (hR : ∀ s n, K + 1 ≤ n → rowsRefs n (C s) = true) (hk : k < K + 1) {x00 x01 x02 x10 x11 x12 x20 x21 x22 : Int} (ht : Tab [[x00, x01, x02], [x10, x11, x12], [x20, x21, x22]])
    (hY : Yields33 J C K k upd (x00 + x01 + x02) (x10 + x11 + x12) (x20 + x21 + x22) (x00 + x10 + x20) (x01 + x11 + x21) (x02 + x12 + x22)) (s : σ) (hJ : Pre J upd s (tabE [(x00 + x01 + x02), (x10 + x11 + x12), (x20 + x21 + x22)] [(x00 + x10 + x20), (x01 + x11 + x21), (x02 + x12 + x22)])) :
    VCalls Tryd.prog 55 [.yld k, .imm (.list (.list (.int .i64))) [[x00, x01, x02], [x10, x11, x12], [x20, x21, x22]]] (C s) (fun v h' => h' = C ((tabE [(x00 + x01 + x02), (x10 + x11 + x12), (x20 + x21 + x22)] [(x00 + x10 + x20), (x01 + x11 + x21), (x02 + x12 + x22)]).foldl upd s)) := by
  have kb := kbeq K
  have m7 : K + 7 - 1 = K + 6 := rfl
  have m8 : K + 8 - 1 = K + 7 := rfl
  have m9 : K + 9 - 1 = K + 8 := rfl
  have m10 : K + 10 - 1 = K + 9 := rfl
  have hr := tab_hyp33 ht
  have hs := sums_33 x00 x01 x02 x10 x11 x12 x20 x21 x22 (by omega)
  refine vcalls_fn hmix h55 rfl ?_
  simp -implicitDefEqProofs only [c55, hK, List.length_append, List.length_cons, List.length_nil, Nat.add_assoc, Nat.reduceAdd, kb, push_cast, Nat.reduceBEq, Nat.reduceLT, Nat.reduceLeDiff, Nat.reduceAdd, Nat.reduceSub, Nat.reduceMul, Nat.reduceEqDiff, reduceCtorEq, ↓reduceIte, Int.reduceEq, Int.reduceLT, Int.reduceLE, Int.reduceNe, Int.reduceAdd, Int.reduceSub, Int.reduceMul, Int.reduceToNat, Nat.reduceShiftRight, Nat.reduceAnd, Nat.reduceBNe]
  refine callF hs ⟨rfl, trivial⟩ rfl rfl ?_
  simp -implicitDefEqProofs only [hK, List.length_append, List.length_cons, List.length_nil, Nat.add_assoc, Nat.reduceAdd, kb, List.append_assoc, List.cons_append, List.nil_append, gK1 hK, gK2 hK, gK3 hK, gK4 hK, gK5 hK, gK6 hK, gK7 hK, gK8 hK, gK9 hK, sK1 hK, sK2 hK, sK3 hK, sK4 hK, sK5 hK, sK6 hK, sK7 hK, sK8 hK, sK9 hK, push_cast, Nat.reduceBEq, Nat.reduceLT, Nat.reduceLeDiff, Nat.reduceAdd, Nat.reduceSub, Nat.reduceMul, Nat.reduceEqDiff, reduceCtorEq, ↓reduceIte, Int.reduceEq, Int.reduceLT, Int.reduceLE, Int.reduceNe, Int.reduceAdd, Int.reduceSub, Int.reduceMul, Int.reduceToNat, Nat.reduceShiftRight, Nat.reduceAnd, Nat.reduceBNe]
  refine ⟨⟨by simp only [two47]; omega, by simp only [two47]; omega⟩, ?_⟩
  repeat first
    | (refine LoopW.wk (wk_t [18, 17, 5, 4, 3, 2, 1] rfl) (LoopW.unroll ?_); simp -implicitDefEqProofs only [c55L0, m7, m8, m9, m10, hK, List.length_append, List.length_cons, List.length_nil, Nat.add_assoc, Nat.reduceAdd, kb, List.append_assoc, List.cons_append, List.nil_append, gK1 hK, gK2 hK, gK3 hK, gK4 hK, gK5 hK, gK6 hK, gK7 hK, gK8 hK, gK9 hK, sK1 hK, sK2 hK, sK3 hK, sK4 hK, sK5 hK, sK6 hK, sK7 hK, sK8 hK, sK9 hK, List.getD_cons_zero, List.getD_cons_succ, Int.zero_add, push_cast, Nat.reduceBEq, Nat.reduceLT, Nat.reduceLeDiff, Nat.reduceAdd, Nat.reduceSub, Nat.reduceMul, Nat.reduceEqDiff, reduceCtorEq, ↓reduceIte, Int.reduceEq, Int.reduceLT, Int.reduceLE, Int.reduceNe, Int.reduceAdd, Int.reduceSub, Int.reduceMul, Int.reduceToNat, Nat.reduceShiftRight, Nat.reduceAnd, Nat.reduceBNe])
    | (refine ⟨by first | (simp only [inR]; omega) | (simp only [two47]; omega) | omega, ?_⟩)
  refine call_rule (fill33_00 hK hR hk hY s (x00 + x01 + x02) (x10 + x11 + x12) (x20 + x21 + x22) (x00 + x10 + x20) (x01 + x11 + x21) (x02 + x12 + x22) 0 0 0 0 0 0 0 0 0 hJ (by omega)) ?_
  rintro v h' ⟨rfl, ys, rfl⟩
  simp -implicitDefEqProofs only [push_cast, Nat.reduceBEq, Nat.reduceLT, Nat.reduceLeDiff, Nat.reduceAdd, Nat.reduceSub, Nat.reduceMul, Nat.reduceEqDiff, reduceCtorEq, ↓reduceIte, Int.reduceEq, Int.reduceLT, Int.reduceLE, Int.reduceNe, Int.reduceAdd, Int.reduceSub, Int.reduceMul, Int.reduceToNat, Nat.reduceShiftRight, Nat.reduceAnd, Nat.reduceBNe]
  exact fin_pre (hK _) (Nat.le_refl _) rfl (hR _ _ (Nat.le_refl _)) rfl
end
end Go.Proofs.YtligakiolapkkaaDoor

namespace Go.Proofs.YtligakiolapkkaaDoor
open Go GoV
set_option maxHeartbeats 4000000
set_option maxRecDepth 10000

theorem margins_bad (t : List (List Int)) (hl : t.length ≤ 1000) (hr : ∀ r ∈ t, r.length ≤ 1000) (hv : validB t = false) : PC Tryd.prog 13 [TT t] (.tup [IL [], IL [], I 300]) := by
  have hc := check_pc t hl hr
  rw [hv] at hc
  refine pc_fn hmix h13 rfl ?_
  simp -implicitDefEqProofs only [c13, push_cast, Nat.reduceBEq, Nat.reduceLT, Nat.reduceLeDiff, Nat.reduceAdd, Nat.reduceSub, Nat.reduceMul, Nat.reduceEqDiff, reduceCtorEq, ↓reduceIte, Int.reduceEq, Int.reduceLT, Int.reduceLE, Int.reduceNe, Int.reduceAdd, Int.reduceSub, Int.reduceMul, Int.reduceToNat, Nat.reduceShiftRight, Nat.reduceAnd, Nat.reduceBNe]
  refine callF hc ⟨rfl, trivial⟩ rfl rfl ?_
  simp -implicitDefEqProofs only [push_cast, Nat.reduceBEq, Nat.reduceLT, Nat.reduceLeDiff, Nat.reduceAdd, Nat.reduceSub, Nat.reduceMul, Nat.reduceEqDiff, reduceCtorEq, ↓reduceIte, Int.reduceEq, Int.reduceLT, Int.reduceLE, Int.reduceNe, Int.reduceAdd, Int.reduceSub, Int.reduceMul, Int.reduceToNat, Nat.reduceShiftRight, Nat.reduceAnd, Nat.reduceBNe]
  exact finR 0 rfl ⟨trivial, trivial, rfl, trivial⟩

theorem margins22 (a b c d : Int) (h : Tab [[a, b], [c, d]]) : PC Tryd.prog 13 [TT [[a, b], [c, d]]] (.tup [IL (rowsL [[a, b], [c, d]]), IL (colsL [[a, b], [c, d]]), I 0]) := by
  have hc := check_pc [[a, b], [c, d]] (by simp) (by simp)
  rw [tab_valid h] at hc
  have hs : PC Tryd.prog 42 [TT [[a, b], [c, d]]] (.tup [.agg [I (sumL [a, b]), I (sumL [c, d]), I 0], .agg [I (sumL [a, c]), I (sumL [b, d]), I 0]]) := sums_pc h
  refine pc_fn hmix h13 rfl ?_
  simp -implicitDefEqProofs only [c13, push_cast, Nat.reduceBEq, Nat.reduceLT, Nat.reduceLeDiff, Nat.reduceAdd, Nat.reduceSub, Nat.reduceMul, Nat.reduceEqDiff, reduceCtorEq, ↓reduceIte, Int.reduceEq, Int.reduceLT, Int.reduceLE, Int.reduceNe, Int.reduceAdd, Int.reduceSub, Int.reduceMul, Int.reduceToNat, Nat.reduceShiftRight, Nat.reduceAnd, Nat.reduceBNe]
  refine callF hc ⟨rfl, trivial⟩ rfl rfl ?_
  simp -implicitDefEqProofs only [push_cast, Nat.reduceBEq, Nat.reduceLT, Nat.reduceLeDiff, Nat.reduceAdd, Nat.reduceSub, Nat.reduceMul, Nat.reduceEqDiff, reduceCtorEq, ↓reduceIte, Int.reduceEq, Int.reduceLT, Int.reduceLE, Int.reduceNe, Int.reduceAdd, Int.reduceSub, Int.reduceMul, Int.reduceToNat, Nat.reduceShiftRight, Nat.reduceAnd, Nat.reduceBNe]
  refine callF hs ⟨rfl, trivial⟩ rfl rfl ?_
  simp -implicitDefEqProofs only [push_cast, Nat.reduceBEq, Nat.reduceLT, Nat.reduceLeDiff, Nat.reduceAdd, Nat.reduceSub, Nat.reduceMul, Nat.reduceEqDiff, reduceCtorEq, ↓reduceIte, Int.reduceEq, Int.reduceLT, Int.reduceLE, Int.reduceNe, Int.reduceAdd, Int.reduceSub, Int.reduceMul, Int.reduceToNat, Nat.reduceShiftRight, Nat.reduceAnd, Nat.reduceBNe]
  refine ppN (clone_new [sumL [a, b], sumL [c, d]] (by simp) (by simp)) ⟨⟨rfl, ⟨rfl, rfl⟩, ⟨rfl, rfl⟩, trivial⟩, trivial⟩ rfl rfl (fz_seq rfl rfl) rfl ?_
  simp -implicitDefEqProofs only [List.getD_cons_zero, push_cast, Nat.reduceBEq, Nat.reduceLT, Nat.reduceLeDiff, Nat.reduceAdd, Nat.reduceSub, Nat.reduceMul, Nat.reduceEqDiff, reduceCtorEq, ↓reduceIte, Int.reduceEq, Int.reduceLT, Int.reduceLE, Int.reduceNe, Int.reduceAdd, Int.reduceSub, Int.reduceMul, Int.reduceToNat, Nat.reduceShiftRight, Nat.reduceAnd, Nat.reduceBNe]
  refine ppN (clone_new [sumL [a, c], sumL [b, d]] (by simp) (by simp)) ⟨⟨rfl, ⟨rfl, rfl⟩, ⟨rfl, rfl⟩, trivial⟩, trivial⟩ rfl rfl (fz_seq rfl rfl) rfl ?_
  simp -implicitDefEqProofs only [push_cast, Nat.reduceBEq, Nat.reduceLT, Nat.reduceLeDiff, Nat.reduceAdd, Nat.reduceSub, Nat.reduceMul, Nat.reduceEqDiff, reduceCtorEq, ↓reduceIte, Int.reduceEq, Int.reduceLT, Int.reduceLE, Int.reduceNe, Int.reduceAdd, Int.reduceSub, Int.reduceMul, Int.reduceToNat, Nat.reduceShiftRight, Nat.reduceAnd, Nat.reduceBNe]
  exact finR 0 rfl ⟨rfl, rfl, rfl, trivial⟩
theorem margins23 (a b c d e f : Int) (h : Tab [[a, b, c], [d, e, f]]) : PC Tryd.prog 13 [TT [[a, b, c], [d, e, f]]] (.tup [IL (rowsL [[a, b, c], [d, e, f]]), IL (colsL [[a, b, c], [d, e, f]]), I 0]) := by
  have hc := check_pc [[a, b, c], [d, e, f]] (by simp) (by simp)
  rw [tab_valid h] at hc
  have hs : PC Tryd.prog 42 [TT [[a, b, c], [d, e, f]]] (.tup [.agg [I (sumL [a, b, c]), I (sumL [d, e, f]), I 0], .agg [I (sumL [a, d]), I (sumL [b, e]), I (sumL [c, f])]]) := sums_pc h
  refine pc_fn hmix h13 rfl ?_
  simp -implicitDefEqProofs only [c13, push_cast, Nat.reduceBEq, Nat.reduceLT, Nat.reduceLeDiff, Nat.reduceAdd, Nat.reduceSub, Nat.reduceMul, Nat.reduceEqDiff, reduceCtorEq, ↓reduceIte, Int.reduceEq, Int.reduceLT, Int.reduceLE, Int.reduceNe, Int.reduceAdd, Int.reduceSub, Int.reduceMul, Int.reduceToNat, Nat.reduceShiftRight, Nat.reduceAnd, Nat.reduceBNe]
  refine callF hc ⟨rfl, trivial⟩ rfl rfl ?_
  simp -implicitDefEqProofs only [push_cast, Nat.reduceBEq, Nat.reduceLT, Nat.reduceLeDiff, Nat.reduceAdd, Nat.reduceSub, Nat.reduceMul, Nat.reduceEqDiff, reduceCtorEq, ↓reduceIte, Int.reduceEq, Int.reduceLT, Int.reduceLE, Int.reduceNe, Int.reduceAdd, Int.reduceSub, Int.reduceMul, Int.reduceToNat, Nat.reduceShiftRight, Nat.reduceAnd, Nat.reduceBNe]
  refine callF hs ⟨rfl, trivial⟩ rfl rfl ?_
  simp -implicitDefEqProofs only [push_cast, Nat.reduceBEq, Nat.reduceLT, Nat.reduceLeDiff, Nat.reduceAdd, Nat.reduceSub, Nat.reduceMul, Nat.reduceEqDiff, reduceCtorEq, ↓reduceIte, Int.reduceEq, Int.reduceLT, Int.reduceLE, Int.reduceNe, Int.reduceAdd, Int.reduceSub, Int.reduceMul, Int.reduceToNat, Nat.reduceShiftRight, Nat.reduceAnd, Nat.reduceBNe]
  refine ppN (clone_new [sumL [a, b, c], sumL [d, e, f]] (by simp) (by simp)) ⟨⟨rfl, ⟨rfl, rfl⟩, ⟨rfl, rfl⟩, trivial⟩, trivial⟩ rfl rfl (fz_seq rfl rfl) rfl ?_
  simp -implicitDefEqProofs only [List.getD_cons_zero, push_cast, Nat.reduceBEq, Nat.reduceLT, Nat.reduceLeDiff, Nat.reduceAdd, Nat.reduceSub, Nat.reduceMul, Nat.reduceEqDiff, reduceCtorEq, ↓reduceIte, Int.reduceEq, Int.reduceLT, Int.reduceLE, Int.reduceNe, Int.reduceAdd, Int.reduceSub, Int.reduceMul, Int.reduceToNat, Nat.reduceShiftRight, Nat.reduceAnd, Nat.reduceBNe]
  refine ppN (clone_new [sumL [a, d], sumL [b, e], sumL [c, f]] (by simp) (by simp)) ⟨⟨rfl, ⟨rfl, rfl⟩, ⟨rfl, rfl⟩, ⟨rfl, rfl⟩, trivial⟩, trivial⟩ rfl rfl (fz_seq rfl rfl) rfl ?_
  simp -implicitDefEqProofs only [push_cast, Nat.reduceBEq, Nat.reduceLT, Nat.reduceLeDiff, Nat.reduceAdd, Nat.reduceSub, Nat.reduceMul, Nat.reduceEqDiff, reduceCtorEq, ↓reduceIte, Int.reduceEq, Int.reduceLT, Int.reduceLE, Int.reduceNe, Int.reduceAdd, Int.reduceSub, Int.reduceMul, Int.reduceToNat, Nat.reduceShiftRight, Nat.reduceAnd, Nat.reduceBNe]
  exact finR 0 rfl ⟨rfl, rfl, rfl, trivial⟩
theorem margins32 (a b c d e f : Int) (h : Tab [[a, b], [c, d], [e, f]]) : PC Tryd.prog 13 [TT [[a, b], [c, d], [e, f]]] (.tup [IL (rowsL [[a, b], [c, d], [e, f]]), IL (colsL [[a, b], [c, d], [e, f]]), I 0]) := by
  have hc := check_pc [[a, b], [c, d], [e, f]] (by simp) (by simp)
  rw [tab_valid h] at hc
  have hs : PC Tryd.prog 42 [TT [[a, b], [c, d], [e, f]]] (.tup [.agg [I (sumL [a, b]), I (sumL [c, d]), I (sumL [e, f])], .agg [I (sumL [a, c, e]), I (sumL [b, d, f]), I 0]]) := sums_pc h
  refine pc_fn hmix h13 rfl ?_
  simp -implicitDefEqProofs only [c13, push_cast, Nat.reduceBEq, Nat.reduceLT, Nat.reduceLeDiff, Nat.reduceAdd, Nat.reduceSub, Nat.reduceMul, Nat.reduceEqDiff, reduceCtorEq, ↓reduceIte, Int.reduceEq, Int.reduceLT, Int.reduceLE, Int.reduceNe, Int.reduceAdd, Int.reduceSub, Int.reduceMul, Int.reduceToNat, Nat.reduceShiftRight, Nat.reduceAnd, Nat.reduceBNe]
  refine callF hc ⟨rfl, trivial⟩ rfl rfl ?_
  simp -implicitDefEqProofs only [push_cast, Nat.reduceBEq, Nat.reduceLT, Nat.reduceLeDiff, Nat.reduceAdd, Nat.reduceSub, Nat.reduceMul, Nat.reduceEqDiff, reduceCtorEq, ↓reduceIte, Int.reduceEq, Int.reduceLT, Int.reduceLE, Int.reduceNe, Int.reduceAdd, Int.reduceSub, Int.reduceMul, Int.reduceToNat, Nat.reduceShiftRight, Nat.reduceAnd, Nat.reduceBNe]
  refine callF hs ⟨rfl, trivial⟩ rfl rfl ?_
  simp -implicitDefEqProofs only [push_cast, Nat.reduceBEq, Nat.reduceLT, Nat.reduceLeDiff, Nat.reduceAdd, Nat.reduceSub, Nat.reduceMul, Nat.reduceEqDiff, reduceCtorEq, ↓reduceIte, Int.reduceEq, Int.reduceLT, Int.reduceLE, Int.reduceNe, Int.reduceAdd, Int.reduceSub, Int.reduceMul, Int.reduceToNat, Nat.reduceShiftRight, Nat.reduceAnd, Nat.reduceBNe]
  refine ppN (clone_new [sumL [a, b], sumL [c, d], sumL [e, f]] (by simp) (by simp)) ⟨⟨rfl, ⟨rfl, rfl⟩, ⟨rfl, rfl⟩, ⟨rfl, rfl⟩, trivial⟩, trivial⟩ rfl rfl (fz_seq rfl rfl) rfl ?_
  simp -implicitDefEqProofs only [List.getD_cons_zero, push_cast, Nat.reduceBEq, Nat.reduceLT, Nat.reduceLeDiff, Nat.reduceAdd, Nat.reduceSub, Nat.reduceMul, Nat.reduceEqDiff, reduceCtorEq, ↓reduceIte, Int.reduceEq, Int.reduceLT, Int.reduceLE, Int.reduceNe, Int.reduceAdd, Int.reduceSub, Int.reduceMul, Int.reduceToNat, Nat.reduceShiftRight, Nat.reduceAnd, Nat.reduceBNe]
  refine ppN (clone_new [sumL [a, c, e], sumL [b, d, f]] (by simp) (by simp)) ⟨⟨rfl, ⟨rfl, rfl⟩, ⟨rfl, rfl⟩, trivial⟩, trivial⟩ rfl rfl (fz_seq rfl rfl) rfl ?_
  simp -implicitDefEqProofs only [push_cast, Nat.reduceBEq, Nat.reduceLT, Nat.reduceLeDiff, Nat.reduceAdd, Nat.reduceSub, Nat.reduceMul, Nat.reduceEqDiff, reduceCtorEq, ↓reduceIte, Int.reduceEq, Int.reduceLT, Int.reduceLE, Int.reduceNe, Int.reduceAdd, Int.reduceSub, Int.reduceMul, Int.reduceToNat, Nat.reduceShiftRight, Nat.reduceAnd, Nat.reduceBNe]
  exact finR 0 rfl ⟨rfl, rfl, rfl, trivial⟩
theorem margins33 (a b c d e f g i j : Int) (h : Tab [[a, b, c], [d, e, f], [g, i, j]]) : PC Tryd.prog 13 [TT [[a, b, c], [d, e, f], [g, i, j]]] (.tup [IL (rowsL [[a, b, c], [d, e, f], [g, i, j]]), IL (colsL [[a, b, c], [d, e, f], [g, i, j]]), I 0]) := by
  have hc := check_pc [[a, b, c], [d, e, f], [g, i, j]] (by simp) (by simp)
  rw [tab_valid h] at hc
  have hs : PC Tryd.prog 42 [TT [[a, b, c], [d, e, f], [g, i, j]]] (.tup [.agg [I (sumL [a, b, c]), I (sumL [d, e, f]), I (sumL [g, i, j])], .agg [I (sumL [a, d, g]), I (sumL [b, e, i]), I (sumL [c, f, j])]]) := sums_pc h
  refine pc_fn hmix h13 rfl ?_
  simp -implicitDefEqProofs only [c13, push_cast, Nat.reduceBEq, Nat.reduceLT, Nat.reduceLeDiff, Nat.reduceAdd, Nat.reduceSub, Nat.reduceMul, Nat.reduceEqDiff, reduceCtorEq, ↓reduceIte, Int.reduceEq, Int.reduceLT, Int.reduceLE, Int.reduceNe, Int.reduceAdd, Int.reduceSub, Int.reduceMul, Int.reduceToNat, Nat.reduceShiftRight, Nat.reduceAnd, Nat.reduceBNe]
  refine callF hc ⟨rfl, trivial⟩ rfl rfl ?_
  simp -implicitDefEqProofs only [push_cast, Nat.reduceBEq, Nat.reduceLT, Nat.reduceLeDiff, Nat.reduceAdd, Nat.reduceSub, Nat.reduceMul, Nat.reduceEqDiff, reduceCtorEq, ↓reduceIte, Int.reduceEq, Int.reduceLT, Int.reduceLE, Int.reduceNe, Int.reduceAdd, Int.reduceSub, Int.reduceMul, Int.reduceToNat, Nat.reduceShiftRight, Nat.reduceAnd, Nat.reduceBNe]
  refine callF hs ⟨rfl, trivial⟩ rfl rfl ?_
  simp -implicitDefEqProofs only [push_cast, Nat.reduceBEq, Nat.reduceLT, Nat.reduceLeDiff, Nat.reduceAdd, Nat.reduceSub, Nat.reduceMul, Nat.reduceEqDiff, reduceCtorEq, ↓reduceIte, Int.reduceEq, Int.reduceLT, Int.reduceLE, Int.reduceNe, Int.reduceAdd, Int.reduceSub, Int.reduceMul, Int.reduceToNat, Nat.reduceShiftRight, Nat.reduceAnd, Nat.reduceBNe]
  refine ppN (clone_new [sumL [a, b, c], sumL [d, e, f], sumL [g, i, j]] (by simp) (by simp)) ⟨⟨rfl, ⟨rfl, rfl⟩, ⟨rfl, rfl⟩, ⟨rfl, rfl⟩, trivial⟩, trivial⟩ rfl rfl (fz_seq rfl rfl) rfl ?_
  simp -implicitDefEqProofs only [List.getD_cons_zero, push_cast, Nat.reduceBEq, Nat.reduceLT, Nat.reduceLeDiff, Nat.reduceAdd, Nat.reduceSub, Nat.reduceMul, Nat.reduceEqDiff, reduceCtorEq, ↓reduceIte, Int.reduceEq, Int.reduceLT, Int.reduceLE, Int.reduceNe, Int.reduceAdd, Int.reduceSub, Int.reduceMul, Int.reduceToNat, Nat.reduceShiftRight, Nat.reduceAnd, Nat.reduceBNe]
  refine ppN (clone_new [sumL [a, d, g], sumL [b, e, i], sumL [c, f, j]] (by simp) (by simp)) ⟨⟨rfl, ⟨rfl, rfl⟩, ⟨rfl, rfl⟩, ⟨rfl, rfl⟩, trivial⟩, trivial⟩ rfl rfl (fz_seq rfl rfl) rfl ?_
  simp -implicitDefEqProofs only [push_cast, Nat.reduceBEq, Nat.reduceLT, Nat.reduceLeDiff, Nat.reduceAdd, Nat.reduceSub, Nat.reduceMul, Nat.reduceEqDiff, reduceCtorEq, ↓reduceIte, Int.reduceEq, Int.reduceLT, Int.reduceLE, Int.reduceNe, Int.reduceAdd, Int.reduceSub, Int.reduceMul, Int.reduceToNat, Nat.reduceShiftRight, Nat.reduceAnd, Nat.reduceBNe]
  exact finR 0 rfl ⟨rfl, rfl, rfl, trivial⟩

theorem margins_pc (t : List (List Int)) (hl : t.length ≤ 1000) (hr : ∀ r ∈ t, r.length ≤ 1000) : PC Tryd.prog 13 [TT t] (if validB t then .tup [IL (rowsL t), IL (colsL t), I 0] else .tup [IL [], IL [], I 300]) := by
  cases hv : validB t with
  | false => exact margins_bad t hl hr hv
  | true =>
    show PC Tryd.prog 13 [TT t] (.tup [IL (rowsL t), IL (colsL t), I 0])
    exact shapes (P := fun t => PC Tryd.prog 13 [TT t] (.tup [IL (rowsL t), IL (colsL t), I 0])) (tab_of hv) (fun a b c d h _ => margins22 a b c d h) (fun a b c d e f h _ => margins23 a b c d e f h) (fun a b c d e f h _ => margins32 a b c d e f h) (fun a b c d e f g i j h _ => margins33 a b c d e f g i j h)
end Go.Proofs.YtligakiolapkkaaDoor

namespace Go.Proofs.YtligakiolapkkaaDoor
open Go GoV
set_option maxRecDepth 10000
def allT (t : List (List Int)) : List (Nat × AV) := [(16, .fn 55 [] [.imm (.list (.list (.int .i64))) t]), (15, TT t), (13, .dat .bool false), (12, I 0), (11, I 0), (10, TT t), (5, .ptr 0 0), (4, I 0), (3, I 0), (2, .nils), (0, TT t)]
def allC (t : List (List Int)) (s : List (List (List Int))) : Heap := [.box [.slc 3 s.length 0 s.length], .dfr, .loop .ready none 39 (allT t) [17] k23a0 k23b0 1, .lst (.list (.list (.int .i64))) s]
theorem foldl_snoc {α : Type} : ∀ (l s : List α), l.foldl (fun s t => s ++ [t]) s = s ++ l
  | [], s => by simp
  | a :: l, s => by simp [foldl_snoc l]
theorem all_bad (t : List (List Int)) (hl : t.length ≤ 1000) (hr : ∀ r ∈ t, r.length ≤ 1000) (hv : validB t = false) : PC Tryd.prog 23 [TT t] (.tup [TTT [], I 300]) := by
  have hc := check_pc t hl hr
  rw [hv] at hc
  refine pc_fn hmix h23 rfl ?_
  simp -implicitDefEqProofs only [c23, push_cast, Nat.reduceBEq, Nat.reduceLT, Nat.reduceLeDiff, Nat.reduceAdd, Nat.reduceSub, Nat.reduceMul, Nat.reduceEqDiff, reduceCtorEq, ↓reduceIte, Int.reduceEq, Int.reduceLT, Int.reduceLE, Int.reduceNe, Int.reduceAdd, Int.reduceSub, Int.reduceMul, Int.reduceToNat, Nat.reduceShiftRight, Nat.reduceAnd, Nat.reduceBNe]
  refine callF hc ⟨rfl, trivial⟩ rfl rfl ?_
  simp -implicitDefEqProofs only [push_cast, Nat.reduceBEq, Nat.reduceLT, Nat.reduceLeDiff, Nat.reduceAdd, Nat.reduceSub, Nat.reduceMul, Nat.reduceEqDiff, reduceCtorEq, ↓reduceIte, Int.reduceEq, Int.reduceLT, Int.reduceLE, Int.reduceNe, Int.reduceAdd, Int.reduceSub, Int.reduceMul, Int.reduceToNat, Nat.reduceShiftRight, Nat.reduceAnd, Nat.reduceBNe]
  exact finR 0 rfl ⟨trivial, rfl, trivial⟩
end Go.Proofs.YtligakiolapkkaaDoor

namespace Go.Proofs.YtligakiolapkkaaDoor
open Go GoV
set_option maxHeartbeats 8000000
set_option maxRecDepth 10000
set_option linter.unusedVariables false
set_option linter.unusedSimpArgs false
theorem All22 (x00 x01 x10 x11 : Int) (ht : Tab [[x00, x01], [x10, x11]]) : PC Tryd.prog 23 [TT [[x00, x01], [x10, x11]]] (.tup [TTT (tabE [(x00 + x01), (x10 + x11)] [(x00 + x10), (x01 + x11)]), I 0]) := by
  have hc := check_pc [[x00, x01], [x10, x11]] (by simp) (by simp)
  rw [tab_valid ht] at hc
  have hq := tab_hyp22 ht
  refine pc_fn hmix h23 rfl ?_
  simp -implicitDefEqProofs only [c23, push_cast, Nat.reduceBEq, Nat.reduceLT, Nat.reduceLeDiff, Nat.reduceAdd, Nat.reduceSub, Nat.reduceMul, Nat.reduceEqDiff, reduceCtorEq, ↓reduceIte, Int.reduceEq, Int.reduceLT, Int.reduceLE, Int.reduceNe, Int.reduceAdd, Int.reduceSub, Int.reduceMul, Int.reduceToNat, Nat.reduceShiftRight, Nat.reduceAnd, Nat.reduceBNe]
  refine callF hc ⟨rfl, trivial⟩ rfl rfl ?_
  simp -implicitDefEqProofs only [push_cast, Nat.reduceBEq, Nat.reduceLT, Nat.reduceLeDiff, Nat.reduceAdd, Nat.reduceSub, Nat.reduceMul, Nat.reduceEqDiff, reduceCtorEq, ↓reduceIte, Int.reduceEq, Int.reduceLT, Int.reduceLE, Int.reduceNe, Int.reduceAdd, Int.reduceSub, Int.reduceMul, Int.reduceToNat, Nat.reduceShiftRight, Nat.reduceAnd, Nat.reduceBNe]
  refine callF (all_pc _) ⟨rfl, trivial⟩ rfl rfl ?_
  simp -implicitDefEqProofs only [push_cast, Nat.reduceBEq, Nat.reduceLT, Nat.reduceLeDiff, Nat.reduceAdd, Nat.reduceSub, Nat.reduceMul, Nat.reduceEqDiff, reduceCtorEq, ↓reduceIte, Int.reduceEq, Int.reduceLT, Int.reduceLE, Int.reduceNe, Int.reduceAdd, Int.reduceSub, Int.reduceMul, Int.reduceToNat, Nat.reduceShiftRight, Nat.reduceAnd, Nat.reduceBNe]
  refine rangeF_n rfl (fun _ h2 => h2 = allC [[x00, x01], [x10, x11]] (tabE [(x00 + x01), (x10 + x11)] [(x00 + x10), (x01 + x11)])) ?_ ?_
  · refine vcalls_own (r := 0) (i := 0) (t := .list (.list (.int .i64))) rfl rfl ?_
    refine VC.mono (.fn 55) _ _ _ _ ?_ (all22 (K := 3) (k := 2) (C := allC [[x00, x01], [x10, x11]]) (upd := fun s t => s ++ [t]) (J := fun s => s.length ≤ 1000000000000) (fun _ => rfl) ?_ (by omega) ht ?_ [] ?_)
    · intro v h' e
      rw [e, foldl_snoc]; rfl
    · intro s n hn
      simp [allC, allT, rowsRefs, rowRefs, refsLtL, refsLt, refsT, NatBlt]; omega
    · intro s a0 a1 c0 c1 y00 y01 y10 y11 hJ hp hr hc
      have hJ : s.length ≤ 1000000000000 := hJ
      refine vyield_trim (vyield_of_awp hmix rfl h23A0 h23B0 rfl rfl ?_)
      simp -implicitDefEqProofs only [c23A0, c23B0, allC, allT, L22, List.cons_append, List.nil_append, push_cast, Nat.reduceBEq, Nat.reduceLT, Nat.reduceLeDiff, Nat.reduceAdd, Nat.reduceSub, Nat.reduceMul, Nat.reduceEqDiff, reduceCtorEq, ↓reduceIte, Int.reduceEq, Int.reduceLT, Int.reduceLE, Int.reduceNe, Int.reduceAdd, Int.reduceSub, Int.reduceMul, Int.reduceToNat, Nat.reduceShiftRight, Nat.reduceAnd, Nat.reduceBNe]
      refine ⟨⟨by simp only [two47]; omega, by simp only [two47]; omega⟩, ?_⟩
      refine LoopW.wk (wk_t [23, 22, 21, 7, 5] rfl) (LoopW.unroll ?_)
      simp -implicitDefEqProofs only [c23B0L0, List.getD_cons_zero, List.getD_cons_succ, Int.zero_add, push_cast, Nat.reduceBEq, Nat.reduceLT, Nat.reduceLeDiff, Nat.reduceAdd, Nat.reduceSub, Nat.reduceMul, Nat.reduceEqDiff, reduceCtorEq, ↓reduceIte, Int.reduceEq, Int.reduceLT, Int.reduceLE, Int.reduceNe, Int.reduceAdd, Int.reduceSub, Int.reduceMul, Int.reduceToNat, Nat.reduceShiftRight, Nat.reduceAnd, Nat.reduceBNe]
      refine callN (clone_new [y00, y01] (by simp) (by simp)) ⟨rd_seq rfl rfl, trivial⟩ rfl rfl (fz_seq rfl rfl) rfl ?_
      simp -implicitDefEqProofs only [push_cast, Nat.reduceBEq, Nat.reduceLT, Nat.reduceLeDiff, Nat.reduceAdd, Nat.reduceSub, Nat.reduceMul, Nat.reduceEqDiff, reduceCtorEq, ↓reduceIte, Int.reduceEq, Int.reduceLT, Int.reduceLE, Int.reduceNe, Int.reduceAdd, Int.reduceSub, Int.reduceMul, Int.reduceToNat, Nat.reduceShiftRight, Nat.reduceAnd, Nat.reduceBNe]
      repeat (refine ⟨by first | (simp only [inR]; omega) | omega, ?_⟩)
      refine LoopW.wk (wk_t [23, 22, 21, 7, 5] rfl) (LoopW.unroll ?_)
      simp -implicitDefEqProofs only [c23B0L0, List.getD_cons_zero, List.getD_cons_succ, Int.zero_add, push_cast, Nat.reduceBEq, Nat.reduceLT, Nat.reduceLeDiff, Nat.reduceAdd, Nat.reduceSub, Nat.reduceMul, Nat.reduceEqDiff, reduceCtorEq, ↓reduceIte, Int.reduceEq, Int.reduceLT, Int.reduceLE, Int.reduceNe, Int.reduceAdd, Int.reduceSub, Int.reduceMul, Int.reduceToNat, Nat.reduceShiftRight, Nat.reduceAnd, Nat.reduceBNe]
      refine callN (clone_new [y10, y11] (by simp) (by simp)) ⟨rd_seq rfl rfl, trivial⟩ rfl rfl (fz_seq rfl rfl) rfl ?_
      simp -implicitDefEqProofs only [push_cast, Nat.reduceBEq, Nat.reduceLT, Nat.reduceLeDiff, Nat.reduceAdd, Nat.reduceSub, Nat.reduceMul, Nat.reduceEqDiff, reduceCtorEq, ↓reduceIte, Int.reduceEq, Int.reduceLT, Int.reduceLE, Int.reduceNe, Int.reduceAdd, Int.reduceSub, Int.reduceMul, Int.reduceToNat, Nat.reduceShiftRight, Nat.reduceAnd, Nat.reduceBNe]
      repeat (refine ⟨by first | (simp only [inR]; omega) | omega, ?_⟩)
      refine LoopW.wk ((wk_t [23, 22, 21, 7, 5] rfl).trans (wk_give [12] 7 (TT [[y00, y01], [y10, y11]]) rfl ⟨rfl, ⟨rfl, rfl⟩, ⟨rfl, rfl⟩, trivial⟩ rfl rfl)) (LoopW.unroll ?_)
      simp -implicitDefEqProofs only [c23B0L0, setT, killR, push_cast, Nat.reduceBEq, Nat.reduceLT, Nat.reduceLeDiff, Nat.reduceAdd, Nat.reduceSub, Nat.reduceMul, Nat.reduceEqDiff, reduceCtorEq, ↓reduceIte, Int.reduceEq, Int.reduceLT, Int.reduceLE, Int.reduceNe, Int.reduceAdd, Int.reduceSub, Int.reduceMul, Int.reduceToNat, Nat.reduceShiftRight, Nat.reduceAnd, Nat.reduceBNe]
      refine ⟨⟨by simp only [two47]; omega, by simp only [two47]; omega⟩, 12, Nat.le_refl _, rfl, ?_, rfl⟩
      simp only [List.take, rowsRefs, rowRefs, refsLtL, refsLt, refsT, NatBlt]
      rfl
    · refine pre_len _ _ _ ?_
      have h1 := tabE_len [(x00 + x01), (x10 + x11)] [(x00 + x10), (x01 + x11)] 2 (Nat.le_refl _) (by intro a ha; simp only [List.mem_cons, List.not_mem_nil, or_false] at ha; omega)
      refine Nat.le_trans (Nat.add_le_add_left h1 _) ?_
      simp
  · rintro v h2 rfl
    simp -implicitDefEqProofs only [allC, push_cast, Nat.reduceBEq, Nat.reduceLT, Nat.reduceLeDiff, Nat.reduceAdd, Nat.reduceSub, Nat.reduceMul, Nat.reduceEqDiff, reduceCtorEq, ↓reduceIte, Int.reduceEq, Int.reduceLT, Int.reduceLE, Int.reduceNe, Int.reduceAdd, Int.reduceSub, Int.reduceMul, Int.reduceToNat, Nat.reduceShiftRight, Nat.reduceAnd, Nat.reduceBNe]
    exact finR 4 rfl ⟨rd_lst rfl rfl, rfl, trivial⟩
end Go.Proofs.YtligakiolapkkaaDoor

namespace Go.Proofs.YtligakiolapkkaaDoor
open Go GoV
set_option maxHeartbeats 8000000
set_option maxRecDepth 10000
set_option linter.unusedVariables false
set_option linter.unusedSimpArgs false
theorem All23 (x00 x01 x02 x10 x11 x12 : Int) (ht : Tab [[x00, x01, x02], [x10, x11, x12]]) : PC Tryd.prog 23 [TT [[x00, x01, x02], [x10, x11, x12]]] (.tup [TTT (tabE [(x00 + x01 + x02), (x10 + x11 + x12)] [(x00 + x10), (x01 + x11), (x02 + x12)]), I 0]) := by
  have hc := check_pc [[x00, x01, x02], [x10, x11, x12]] (by simp) (by simp)
  rw [tab_valid ht] at hc
  have hq := tab_hyp23 ht
  refine pc_fn hmix h23 rfl ?_
  simp -implicitDefEqProofs only [c23, push_cast, Nat.reduceBEq, Nat.reduceLT, Nat.reduceLeDiff, Nat.reduceAdd, Nat.reduceSub, Nat.reduceMul, Nat.reduceEqDiff, reduceCtorEq, ↓reduceIte, Int.reduceEq, Int.reduceLT, Int.reduceLE, Int.reduceNe, Int.reduceAdd, Int.reduceSub, Int.reduceMul, Int.reduceToNat, Nat.reduceShiftRight, Nat.reduceAnd, Nat.reduceBNe]
  refine callF hc ⟨rfl, trivial⟩ rfl rfl ?_
  simp -implicitDefEqProofs only [push_cast, Nat.reduceBEq, Nat.reduceLT, Nat.reduceLeDiff, Nat.reduceAdd, Nat.reduceSub, Nat.reduceMul, Nat.reduceEqDiff, reduceCtorEq, ↓reduceIte, Int.reduceEq, Int.reduceLT, Int.reduceLE, Int.reduceNe, Int.reduceAdd, Int.reduceSub, Int.reduceMul, Int.reduceToNat, Nat.reduceShiftRight, Nat.reduceAnd, Nat.reduceBNe]
  refine callF (all_pc _) ⟨rfl, trivial⟩ rfl rfl ?_
  simp -implicitDefEqProofs only [push_cast, Nat.reduceBEq, Nat.reduceLT, Nat.reduceLeDiff, Nat.reduceAdd, Nat.reduceSub, Nat.reduceMul, Nat.reduceEqDiff, reduceCtorEq, ↓reduceIte, Int.reduceEq, Int.reduceLT, Int.reduceLE, Int.reduceNe, Int.reduceAdd, Int.reduceSub, Int.reduceMul, Int.reduceToNat, Nat.reduceShiftRight, Nat.reduceAnd, Nat.reduceBNe]
  refine rangeF_n rfl (fun _ h2 => h2 = allC [[x00, x01, x02], [x10, x11, x12]] (tabE [(x00 + x01 + x02), (x10 + x11 + x12)] [(x00 + x10), (x01 + x11), (x02 + x12)])) ?_ ?_
  · refine vcalls_own (r := 0) (i := 0) (t := .list (.list (.int .i64))) rfl rfl ?_
    refine VC.mono (.fn 55) _ _ _ _ ?_ (all23 (K := 3) (k := 2) (C := allC [[x00, x01, x02], [x10, x11, x12]]) (upd := fun s t => s ++ [t]) (J := fun s => s.length ≤ 1000000000000) (fun _ => rfl) ?_ (by omega) ht ?_ [] ?_)
    · intro v h' e
      rw [e, foldl_snoc]; rfl
    · intro s n hn
      simp [allC, allT, rowsRefs, rowRefs, refsLtL, refsLt, refsT, NatBlt]; omega
    · intro s a0 a1 c0 c1 c2 y00 y01 y02 y10 y11 y12 hJ hp hr hc
      have hJ : s.length ≤ 1000000000000 := hJ
      refine vyield_trim (vyield_of_awp hmix rfl h23A0 h23B0 rfl rfl ?_)
      simp -implicitDefEqProofs only [c23A0, c23B0, allC, allT, L23, List.cons_append, List.nil_append, push_cast, Nat.reduceBEq, Nat.reduceLT, Nat.reduceLeDiff, Nat.reduceAdd, Nat.reduceSub, Nat.reduceMul, Nat.reduceEqDiff, reduceCtorEq, ↓reduceIte, Int.reduceEq, Int.reduceLT, Int.reduceLE, Int.reduceNe, Int.reduceAdd, Int.reduceSub, Int.reduceMul, Int.reduceToNat, Nat.reduceShiftRight, Nat.reduceAnd, Nat.reduceBNe]
      refine ⟨⟨by simp only [two47]; omega, by simp only [two47]; omega⟩, ?_⟩
      refine LoopW.wk (wk_t [23, 22, 21, 7, 5] rfl) (LoopW.unroll ?_)
      simp -implicitDefEqProofs only [c23B0L0, List.getD_cons_zero, List.getD_cons_succ, Int.zero_add, push_cast, Nat.reduceBEq, Nat.reduceLT, Nat.reduceLeDiff, Nat.reduceAdd, Nat.reduceSub, Nat.reduceMul, Nat.reduceEqDiff, reduceCtorEq, ↓reduceIte, Int.reduceEq, Int.reduceLT, Int.reduceLE, Int.reduceNe, Int.reduceAdd, Int.reduceSub, Int.reduceMul, Int.reduceToNat, Nat.reduceShiftRight, Nat.reduceAnd, Nat.reduceBNe]
      refine callN (clone_new [y00, y01, y02] (by simp) (by simp)) ⟨rd_seq rfl rfl, trivial⟩ rfl rfl (fz_seq rfl rfl) rfl ?_
      simp -implicitDefEqProofs only [push_cast, Nat.reduceBEq, Nat.reduceLT, Nat.reduceLeDiff, Nat.reduceAdd, Nat.reduceSub, Nat.reduceMul, Nat.reduceEqDiff, reduceCtorEq, ↓reduceIte, Int.reduceEq, Int.reduceLT, Int.reduceLE, Int.reduceNe, Int.reduceAdd, Int.reduceSub, Int.reduceMul, Int.reduceToNat, Nat.reduceShiftRight, Nat.reduceAnd, Nat.reduceBNe]
      repeat (refine ⟨by first | (simp only [inR]; omega) | omega, ?_⟩)
      refine LoopW.wk (wk_t [23, 22, 21, 7, 5] rfl) (LoopW.unroll ?_)
      simp -implicitDefEqProofs only [c23B0L0, List.getD_cons_zero, List.getD_cons_succ, Int.zero_add, push_cast, Nat.reduceBEq, Nat.reduceLT, Nat.reduceLeDiff, Nat.reduceAdd, Nat.reduceSub, Nat.reduceMul, Nat.reduceEqDiff, reduceCtorEq, ↓reduceIte, Int.reduceEq, Int.reduceLT, Int.reduceLE, Int.reduceNe, Int.reduceAdd, Int.reduceSub, Int.reduceMul, Int.reduceToNat, Nat.reduceShiftRight, Nat.reduceAnd, Nat.reduceBNe]
      refine callN (clone_new [y10, y11, y12] (by simp) (by simp)) ⟨rd_seq rfl rfl, trivial⟩ rfl rfl (fz_seq rfl rfl) rfl ?_
      simp -implicitDefEqProofs only [push_cast, Nat.reduceBEq, Nat.reduceLT, Nat.reduceLeDiff, Nat.reduceAdd, Nat.reduceSub, Nat.reduceMul, Nat.reduceEqDiff, reduceCtorEq, ↓reduceIte, Int.reduceEq, Int.reduceLT, Int.reduceLE, Int.reduceNe, Int.reduceAdd, Int.reduceSub, Int.reduceMul, Int.reduceToNat, Nat.reduceShiftRight, Nat.reduceAnd, Nat.reduceBNe]
      repeat (refine ⟨by first | (simp only [inR]; omega) | omega, ?_⟩)
      refine LoopW.wk ((wk_t [23, 22, 21, 7, 5] rfl).trans (wk_give [12] 7 (TT [[y00, y01, y02], [y10, y11, y12]]) rfl ⟨rfl, ⟨rfl, rfl⟩, ⟨rfl, rfl⟩, trivial⟩ rfl rfl)) (LoopW.unroll ?_)
      simp -implicitDefEqProofs only [c23B0L0, setT, killR, push_cast, Nat.reduceBEq, Nat.reduceLT, Nat.reduceLeDiff, Nat.reduceAdd, Nat.reduceSub, Nat.reduceMul, Nat.reduceEqDiff, reduceCtorEq, ↓reduceIte, Int.reduceEq, Int.reduceLT, Int.reduceLE, Int.reduceNe, Int.reduceAdd, Int.reduceSub, Int.reduceMul, Int.reduceToNat, Nat.reduceShiftRight, Nat.reduceAnd, Nat.reduceBNe]
      refine ⟨⟨by simp only [two47]; omega, by simp only [two47]; omega⟩, 12, Nat.le_refl _, rfl, ?_, rfl⟩
      simp only [List.take, rowsRefs, rowRefs, refsLtL, refsLt, refsT, NatBlt]
      rfl
    · refine pre_len _ _ _ ?_
      have h1 := tabE_len [(x00 + x01 + x02), (x10 + x11 + x12)] [(x00 + x10), (x01 + x11), (x02 + x12)] 3 (Nat.le_refl _) (by intro a ha; simp only [List.mem_cons, List.not_mem_nil, or_false] at ha; omega)
      refine Nat.le_trans (Nat.add_le_add_left h1 _) ?_
      simp
  · rintro v h2 rfl
    simp -implicitDefEqProofs only [allC, push_cast, Nat.reduceBEq, Nat.reduceLT, Nat.reduceLeDiff, Nat.reduceAdd, Nat.reduceSub, Nat.reduceMul, Nat.reduceEqDiff, reduceCtorEq, ↓reduceIte, Int.reduceEq, Int.reduceLT, Int.reduceLE, Int.reduceNe, Int.reduceAdd, Int.reduceSub, Int.reduceMul, Int.reduceToNat, Nat.reduceShiftRight, Nat.reduceAnd, Nat.reduceBNe]
    exact finR 4 rfl ⟨rd_lst rfl rfl, rfl, trivial⟩
end Go.Proofs.YtligakiolapkkaaDoor

namespace Go.Proofs.YtligakiolapkkaaDoor
open Go GoV
set_option maxHeartbeats 8000000
set_option maxRecDepth 10000
set_option linter.unusedVariables false
set_option linter.unusedSimpArgs false
theorem All32 (x00 x01 x10 x11 x20 x21 : Int) (ht : Tab [[x00, x01], [x10, x11], [x20, x21]]) : PC Tryd.prog 23 [TT [[x00, x01], [x10, x11], [x20, x21]]] (.tup [TTT (tabE [(x00 + x01), (x10 + x11), (x20 + x21)] [(x00 + x10 + x20), (x01 + x11 + x21)]), I 0]) := by
  have hc := check_pc [[x00, x01], [x10, x11], [x20, x21]] (by simp) (by simp)
  rw [tab_valid ht] at hc
  have hq := tab_hyp32 ht
  refine pc_fn hmix h23 rfl ?_
  simp -implicitDefEqProofs only [c23, push_cast, Nat.reduceBEq, Nat.reduceLT, Nat.reduceLeDiff, Nat.reduceAdd, Nat.reduceSub, Nat.reduceMul, Nat.reduceEqDiff, reduceCtorEq, ↓reduceIte, Int.reduceEq, Int.reduceLT, Int.reduceLE, Int.reduceNe, Int.reduceAdd, Int.reduceSub, Int.reduceMul, Int.reduceToNat, Nat.reduceShiftRight, Nat.reduceAnd, Nat.reduceBNe]
  refine callF hc ⟨rfl, trivial⟩ rfl rfl ?_
  simp -implicitDefEqProofs only [push_cast, Nat.reduceBEq, Nat.reduceLT, Nat.reduceLeDiff, Nat.reduceAdd, Nat.reduceSub, Nat.reduceMul, Nat.reduceEqDiff, reduceCtorEq, ↓reduceIte, Int.reduceEq, Int.reduceLT, Int.reduceLE, Int.reduceNe, Int.reduceAdd, Int.reduceSub, Int.reduceMul, Int.reduceToNat, Nat.reduceShiftRight, Nat.reduceAnd, Nat.reduceBNe]
  refine callF (all_pc _) ⟨rfl, trivial⟩ rfl rfl ?_
  simp -implicitDefEqProofs only [push_cast, Nat.reduceBEq, Nat.reduceLT, Nat.reduceLeDiff, Nat.reduceAdd, Nat.reduceSub, Nat.reduceMul, Nat.reduceEqDiff, reduceCtorEq, ↓reduceIte, Int.reduceEq, Int.reduceLT, Int.reduceLE, Int.reduceNe, Int.reduceAdd, Int.reduceSub, Int.reduceMul, Int.reduceToNat, Nat.reduceShiftRight, Nat.reduceAnd, Nat.reduceBNe]
  refine rangeF_n rfl (fun _ h2 => h2 = allC [[x00, x01], [x10, x11], [x20, x21]] (tabE [(x00 + x01), (x10 + x11), (x20 + x21)] [(x00 + x10 + x20), (x01 + x11 + x21)])) ?_ ?_
  · refine vcalls_own (r := 0) (i := 0) (t := .list (.list (.int .i64))) rfl rfl ?_
    refine VC.mono (.fn 55) _ _ _ _ ?_ (all32 (K := 3) (k := 2) (C := allC [[x00, x01], [x10, x11], [x20, x21]]) (upd := fun s t => s ++ [t]) (J := fun s => s.length ≤ 1000000000000) (fun _ => rfl) ?_ (by omega) ht ?_ [] ?_)
    · intro v h' e
      rw [e, foldl_snoc]; rfl
    · intro s n hn
      simp [allC, allT, rowsRefs, rowRefs, refsLtL, refsLt, refsT, NatBlt]; omega
    · intro s a0 a1 a2 c0 c1 y00 y01 y10 y11 y20 y21 hJ hp hr hc
      have hJ : s.length ≤ 1000000000000 := hJ
      refine vyield_trim (vyield_of_awp hmix rfl h23A0 h23B0 rfl rfl ?_)
      simp -implicitDefEqProofs only [c23A0, c23B0, allC, allT, L32, List.cons_append, List.nil_append, push_cast, Nat.reduceBEq, Nat.reduceLT, Nat.reduceLeDiff, Nat.reduceAdd, Nat.reduceSub, Nat.reduceMul, Nat.reduceEqDiff, reduceCtorEq, ↓reduceIte, Int.reduceEq, Int.reduceLT, Int.reduceLE, Int.reduceNe, Int.reduceAdd, Int.reduceSub, Int.reduceMul, Int.reduceToNat, Nat.reduceShiftRight, Nat.reduceAnd, Nat.reduceBNe]
      refine ⟨⟨by simp only [two47]; omega, by simp only [two47]; omega⟩, ?_⟩
      refine LoopW.wk (wk_t [23, 22, 21, 7, 5] rfl) (LoopW.unroll ?_)
      simp -implicitDefEqProofs only [c23B0L0, List.getD_cons_zero, List.getD_cons_succ, Int.zero_add, push_cast, Nat.reduceBEq, Nat.reduceLT, Nat.reduceLeDiff, Nat.reduceAdd, Nat.reduceSub, Nat.reduceMul, Nat.reduceEqDiff, reduceCtorEq, ↓reduceIte, Int.reduceEq, Int.reduceLT, Int.reduceLE, Int.reduceNe, Int.reduceAdd, Int.reduceSub, Int.reduceMul, Int.reduceToNat, Nat.reduceShiftRight, Nat.reduceAnd, Nat.reduceBNe]
      refine callN (clone_new [y00, y01] (by simp) (by simp)) ⟨rd_seq rfl rfl, trivial⟩ rfl rfl (fz_seq rfl rfl) rfl ?_
      simp -implicitDefEqProofs only [push_cast, Nat.reduceBEq, Nat.reduceLT, Nat.reduceLeDiff, Nat.reduceAdd, Nat.reduceSub, Nat.reduceMul, Nat.reduceEqDiff, reduceCtorEq, ↓reduceIte, Int.reduceEq, Int.reduceLT, Int.reduceLE, Int.reduceNe, Int.reduceAdd, Int.reduceSub, Int.reduceMul, Int.reduceToNat, Nat.reduceShiftRight, Nat.reduceAnd, Nat.reduceBNe]
      repeat (refine ⟨by first | (simp only [inR]; omega) | omega, ?_⟩)
      refine LoopW.wk (wk_t [23, 22, 21, 7, 5] rfl) (LoopW.unroll ?_)
      simp -implicitDefEqProofs only [c23B0L0, List.getD_cons_zero, List.getD_cons_succ, Int.zero_add, push_cast, Nat.reduceBEq, Nat.reduceLT, Nat.reduceLeDiff, Nat.reduceAdd, Nat.reduceSub, Nat.reduceMul, Nat.reduceEqDiff, reduceCtorEq, ↓reduceIte, Int.reduceEq, Int.reduceLT, Int.reduceLE, Int.reduceNe, Int.reduceAdd, Int.reduceSub, Int.reduceMul, Int.reduceToNat, Nat.reduceShiftRight, Nat.reduceAnd, Nat.reduceBNe]
      refine callN (clone_new [y10, y11] (by simp) (by simp)) ⟨rd_seq rfl rfl, trivial⟩ rfl rfl (fz_seq rfl rfl) rfl ?_
      simp -implicitDefEqProofs only [push_cast, Nat.reduceBEq, Nat.reduceLT, Nat.reduceLeDiff, Nat.reduceAdd, Nat.reduceSub, Nat.reduceMul, Nat.reduceEqDiff, reduceCtorEq, ↓reduceIte, Int.reduceEq, Int.reduceLT, Int.reduceLE, Int.reduceNe, Int.reduceAdd, Int.reduceSub, Int.reduceMul, Int.reduceToNat, Nat.reduceShiftRight, Nat.reduceAnd, Nat.reduceBNe]
      repeat (refine ⟨by first | (simp only [inR]; omega) | omega, ?_⟩)
      refine LoopW.wk (wk_t [23, 22, 21, 7, 5] rfl) (LoopW.unroll ?_)
      simp -implicitDefEqProofs only [c23B0L0, List.getD_cons_zero, List.getD_cons_succ, Int.zero_add, push_cast, Nat.reduceBEq, Nat.reduceLT, Nat.reduceLeDiff, Nat.reduceAdd, Nat.reduceSub, Nat.reduceMul, Nat.reduceEqDiff, reduceCtorEq, ↓reduceIte, Int.reduceEq, Int.reduceLT, Int.reduceLE, Int.reduceNe, Int.reduceAdd, Int.reduceSub, Int.reduceMul, Int.reduceToNat, Nat.reduceShiftRight, Nat.reduceAnd, Nat.reduceBNe]
      refine callN (clone_new [y20, y21] (by simp) (by simp)) ⟨rd_seq rfl rfl, trivial⟩ rfl rfl (fz_seq rfl rfl) rfl ?_
      simp -implicitDefEqProofs only [push_cast, Nat.reduceBEq, Nat.reduceLT, Nat.reduceLeDiff, Nat.reduceAdd, Nat.reduceSub, Nat.reduceMul, Nat.reduceEqDiff, reduceCtorEq, ↓reduceIte, Int.reduceEq, Int.reduceLT, Int.reduceLE, Int.reduceNe, Int.reduceAdd, Int.reduceSub, Int.reduceMul, Int.reduceToNat, Nat.reduceShiftRight, Nat.reduceAnd, Nat.reduceBNe]
      repeat (refine ⟨by first | (simp only [inR]; omega) | omega, ?_⟩)
      refine LoopW.wk ((wk_t [23, 22, 21, 7, 5] rfl).trans (wk_give [13] 7 (TT [[y00, y01], [y10, y11], [y20, y21]]) rfl ⟨rfl, ⟨rfl, rfl⟩, ⟨rfl, rfl⟩, ⟨rfl, rfl⟩, trivial⟩ rfl rfl)) (LoopW.unroll ?_)
      simp -implicitDefEqProofs only [c23B0L0, setT, killR, push_cast, Nat.reduceBEq, Nat.reduceLT, Nat.reduceLeDiff, Nat.reduceAdd, Nat.reduceSub, Nat.reduceMul, Nat.reduceEqDiff, reduceCtorEq, ↓reduceIte, Int.reduceEq, Int.reduceLT, Int.reduceLE, Int.reduceNe, Int.reduceAdd, Int.reduceSub, Int.reduceMul, Int.reduceToNat, Nat.reduceShiftRight, Nat.reduceAnd, Nat.reduceBNe]
      refine ⟨⟨by simp only [two47]; omega, by simp only [two47]; omega⟩, 13, Nat.le_refl _, rfl, ?_, rfl⟩
      simp only [List.take, rowsRefs, rowRefs, refsLtL, refsLt, refsT, NatBlt]
      rfl
    · refine pre_len _ _ _ ?_
      have h1 := tabE_len [(x00 + x01), (x10 + x11), (x20 + x21)] [(x00 + x10 + x20), (x01 + x11 + x21)] 2 (Nat.le_refl _) (by intro a ha; simp only [List.mem_cons, List.not_mem_nil, or_false] at ha; omega)
      refine Nat.le_trans (Nat.add_le_add_left h1 _) ?_
      simp
  · rintro v h2 rfl
    simp -implicitDefEqProofs only [allC, push_cast, Nat.reduceBEq, Nat.reduceLT, Nat.reduceLeDiff, Nat.reduceAdd, Nat.reduceSub, Nat.reduceMul, Nat.reduceEqDiff, reduceCtorEq, ↓reduceIte, Int.reduceEq, Int.reduceLT, Int.reduceLE, Int.reduceNe, Int.reduceAdd, Int.reduceSub, Int.reduceMul, Int.reduceToNat, Nat.reduceShiftRight, Nat.reduceAnd, Nat.reduceBNe]
    exact finR 4 rfl ⟨rd_lst rfl rfl, rfl, trivial⟩
end Go.Proofs.YtligakiolapkkaaDoor

namespace Go.Proofs.YtligakiolapkkaaDoor
open Go GoV
set_option maxHeartbeats 8000000
set_option maxRecDepth 10000
set_option linter.unusedVariables false
set_option linter.unusedSimpArgs false
theorem All33 (x00 x01 x02 x10 x11 x12 x20 x21 x22 : Int) (ht : Tab [[x00, x01, x02], [x10, x11, x12], [x20, x21, x22]]) : PC Tryd.prog 23 [TT [[x00, x01, x02], [x10, x11, x12], [x20, x21, x22]]] (.tup [TTT (tabE [(x00 + x01 + x02), (x10 + x11 + x12), (x20 + x21 + x22)] [(x00 + x10 + x20), (x01 + x11 + x21), (x02 + x12 + x22)]), I 0]) := by
  have hc := check_pc [[x00, x01, x02], [x10, x11, x12], [x20, x21, x22]] (by simp) (by simp)
  rw [tab_valid ht] at hc
  have hq := tab_hyp33 ht
  refine pc_fn hmix h23 rfl ?_
  simp -implicitDefEqProofs only [c23, push_cast, Nat.reduceBEq, Nat.reduceLT, Nat.reduceLeDiff, Nat.reduceAdd, Nat.reduceSub, Nat.reduceMul, Nat.reduceEqDiff, reduceCtorEq, ↓reduceIte, Int.reduceEq, Int.reduceLT, Int.reduceLE, Int.reduceNe, Int.reduceAdd, Int.reduceSub, Int.reduceMul, Int.reduceToNat, Nat.reduceShiftRight, Nat.reduceAnd, Nat.reduceBNe]
  refine callF hc ⟨rfl, trivial⟩ rfl rfl ?_
  simp -implicitDefEqProofs only [push_cast, Nat.reduceBEq, Nat.reduceLT, Nat.reduceLeDiff, Nat.reduceAdd, Nat.reduceSub, Nat.reduceMul, Nat.reduceEqDiff, reduceCtorEq, ↓reduceIte, Int.reduceEq, Int.reduceLT, Int.reduceLE, Int.reduceNe, Int.reduceAdd, Int.reduceSub, Int.reduceMul, Int.reduceToNat, Nat.reduceShiftRight, Nat.reduceAnd, Nat.reduceBNe]
  refine callF (all_pc _) ⟨rfl, trivial⟩ rfl rfl ?_
  simp -implicitDefEqProofs only [push_cast, Nat.reduceBEq, Nat.reduceLT, Nat.reduceLeDiff, Nat.reduceAdd, Nat.reduceSub, Nat.reduceMul, Nat.reduceEqDiff, reduceCtorEq, ↓reduceIte, Int.reduceEq, Int.reduceLT, Int.reduceLE, Int.reduceNe, Int.reduceAdd, Int.reduceSub, Int.reduceMul, Int.reduceToNat, Nat.reduceShiftRight, Nat.reduceAnd, Nat.reduceBNe]
  refine rangeF_n rfl (fun _ h2 => h2 = allC [[x00, x01, x02], [x10, x11, x12], [x20, x21, x22]] (tabE [(x00 + x01 + x02), (x10 + x11 + x12), (x20 + x21 + x22)] [(x00 + x10 + x20), (x01 + x11 + x21), (x02 + x12 + x22)])) ?_ ?_
  · refine vcalls_own (r := 0) (i := 0) (t := .list (.list (.int .i64))) rfl rfl ?_
    refine VC.mono (.fn 55) _ _ _ _ ?_ (all33 (K := 3) (k := 2) (C := allC [[x00, x01, x02], [x10, x11, x12], [x20, x21, x22]]) (upd := fun s t => s ++ [t]) (J := fun s => s.length ≤ 1000000000000) (fun _ => rfl) ?_ (by omega) ht ?_ [] ?_)
    · intro v h' e
      rw [e, foldl_snoc]; rfl
    · intro s n hn
      simp [allC, allT, rowsRefs, rowRefs, refsLtL, refsLt, refsT, NatBlt]; omega
    · intro s a0 a1 a2 c0 c1 c2 y00 y01 y02 y10 y11 y12 y20 y21 y22 hJ hp hr hc
      have hJ : s.length ≤ 1000000000000 := hJ
      refine vyield_trim (vyield_of_awp hmix rfl h23A0 h23B0 rfl rfl ?_)
      simp -implicitDefEqProofs only [c23A0, c23B0, allC, allT, L33, List.cons_append, List.nil_append, push_cast, Nat.reduceBEq, Nat.reduceLT, Nat.reduceLeDiff, Nat.reduceAdd, Nat.reduceSub, Nat.reduceMul, Nat.reduceEqDiff, reduceCtorEq, ↓reduceIte, Int.reduceEq, Int.reduceLT, Int.reduceLE, Int.reduceNe, Int.reduceAdd, Int.reduceSub, Int.reduceMul, Int.reduceToNat, Nat.reduceShiftRight, Nat.reduceAnd, Nat.reduceBNe]
      refine ⟨⟨by simp only [two47]; omega, by simp only [two47]; omega⟩, ?_⟩
      refine LoopW.wk (wk_t [23, 22, 21, 7, 5] rfl) (LoopW.unroll ?_)
      simp -implicitDefEqProofs only [c23B0L0, List.getD_cons_zero, List.getD_cons_succ, Int.zero_add, push_cast, Nat.reduceBEq, Nat.reduceLT, Nat.reduceLeDiff, Nat.reduceAdd, Nat.reduceSub, Nat.reduceMul, Nat.reduceEqDiff, reduceCtorEq, ↓reduceIte, Int.reduceEq, Int.reduceLT, Int.reduceLE, Int.reduceNe, Int.reduceAdd, Int.reduceSub, Int.reduceMul, Int.reduceToNat, Nat.reduceShiftRight, Nat.reduceAnd, Nat.reduceBNe]
      refine callN (clone_new [y00, y01, y02] (by simp) (by simp)) ⟨rd_seq rfl rfl, trivial⟩ rfl rfl (fz_seq rfl rfl) rfl ?_
      simp -implicitDefEqProofs only [push_cast, Nat.reduceBEq, Nat.reduceLT, Nat.reduceLeDiff, Nat.reduceAdd, Nat.reduceSub, Nat.reduceMul, Nat.reduceEqDiff, reduceCtorEq, ↓reduceIte, Int.reduceEq, Int.reduceLT, Int.reduceLE, Int.reduceNe, Int.reduceAdd, Int.reduceSub, Int.reduceMul, Int.reduceToNat, Nat.reduceShiftRight, Nat.reduceAnd, Nat.reduceBNe]
      repeat (refine ⟨by first | (simp only [inR]; omega) | omega, ?_⟩)
      refine LoopW.wk (wk_t [23, 22, 21, 7, 5] rfl) (LoopW.unroll ?_)
      simp -implicitDefEqProofs only [c23B0L0, List.getD_cons_zero, List.getD_cons_succ, Int.zero_add, push_cast, Nat.reduceBEq, Nat.reduceLT, Nat.reduceLeDiff, Nat.reduceAdd, Nat.reduceSub, Nat.reduceMul, Nat.reduceEqDiff, reduceCtorEq, ↓reduceIte, Int.reduceEq, Int.reduceLT, Int.reduceLE, Int.reduceNe, Int.reduceAdd, Int.reduceSub, Int.reduceMul, Int.reduceToNat, Nat.reduceShiftRight, Nat.reduceAnd, Nat.reduceBNe]
      refine callN (clone_new [y10, y11, y12] (by simp) (by simp)) ⟨rd_seq rfl rfl, trivial⟩ rfl rfl (fz_seq rfl rfl) rfl ?_
      simp -implicitDefEqProofs only [push_cast, Nat.reduceBEq, Nat.reduceLT, Nat.reduceLeDiff, Nat.reduceAdd, Nat.reduceSub, Nat.reduceMul, Nat.reduceEqDiff, reduceCtorEq, ↓reduceIte, Int.reduceEq, Int.reduceLT, Int.reduceLE, Int.reduceNe, Int.reduceAdd, Int.reduceSub, Int.reduceMul, Int.reduceToNat, Nat.reduceShiftRight, Nat.reduceAnd, Nat.reduceBNe]
      repeat (refine ⟨by first | (simp only [inR]; omega) | omega, ?_⟩)
      refine LoopW.wk (wk_t [23, 22, 21, 7, 5] rfl) (LoopW.unroll ?_)
      simp -implicitDefEqProofs only [c23B0L0, List.getD_cons_zero, List.getD_cons_succ, Int.zero_add, push_cast, Nat.reduceBEq, Nat.reduceLT, Nat.reduceLeDiff, Nat.reduceAdd, Nat.reduceSub, Nat.reduceMul, Nat.reduceEqDiff, reduceCtorEq, ↓reduceIte, Int.reduceEq, Int.reduceLT, Int.reduceLE, Int.reduceNe, Int.reduceAdd, Int.reduceSub, Int.reduceMul, Int.reduceToNat, Nat.reduceShiftRight, Nat.reduceAnd, Nat.reduceBNe]
      refine callN (clone_new [y20, y21, y22] (by simp) (by simp)) ⟨rd_seq rfl rfl, trivial⟩ rfl rfl (fz_seq rfl rfl) rfl ?_
      simp -implicitDefEqProofs only [push_cast, Nat.reduceBEq, Nat.reduceLT, Nat.reduceLeDiff, Nat.reduceAdd, Nat.reduceSub, Nat.reduceMul, Nat.reduceEqDiff, reduceCtorEq, ↓reduceIte, Int.reduceEq, Int.reduceLT, Int.reduceLE, Int.reduceNe, Int.reduceAdd, Int.reduceSub, Int.reduceMul, Int.reduceToNat, Nat.reduceShiftRight, Nat.reduceAnd, Nat.reduceBNe]
      repeat (refine ⟨by first | (simp only [inR]; omega) | omega, ?_⟩)
      refine LoopW.wk ((wk_t [23, 22, 21, 7, 5] rfl).trans (wk_give [13] 7 (TT [[y00, y01, y02], [y10, y11, y12], [y20, y21, y22]]) rfl ⟨rfl, ⟨rfl, rfl⟩, ⟨rfl, rfl⟩, ⟨rfl, rfl⟩, trivial⟩ rfl rfl)) (LoopW.unroll ?_)
      simp -implicitDefEqProofs only [c23B0L0, setT, killR, push_cast, Nat.reduceBEq, Nat.reduceLT, Nat.reduceLeDiff, Nat.reduceAdd, Nat.reduceSub, Nat.reduceMul, Nat.reduceEqDiff, reduceCtorEq, ↓reduceIte, Int.reduceEq, Int.reduceLT, Int.reduceLE, Int.reduceNe, Int.reduceAdd, Int.reduceSub, Int.reduceMul, Int.reduceToNat, Nat.reduceShiftRight, Nat.reduceAnd, Nat.reduceBNe]
      refine ⟨⟨by simp only [two47]; omega, by simp only [two47]; omega⟩, 13, Nat.le_refl _, rfl, ?_, rfl⟩
      simp only [List.take, rowsRefs, rowRefs, refsLtL, refsLt, refsT, NatBlt]
      rfl
    · refine pre_len _ _ _ ?_
      have h1 := tabE_len [(x00 + x01 + x02), (x10 + x11 + x12), (x20 + x21 + x22)] [(x00 + x10 + x20), (x01 + x11 + x21), (x02 + x12 + x22)] 3 (Nat.le_refl _) (by intro a ha; simp only [List.mem_cons, List.not_mem_nil, or_false] at ha; omega)
      refine Nat.le_trans (Nat.add_le_add_left h1 _) ?_
      simp
  · rintro v h2 rfl
    simp -implicitDefEqProofs only [allC, push_cast, Nat.reduceBEq, Nat.reduceLT, Nat.reduceLeDiff, Nat.reduceAdd, Nat.reduceSub, Nat.reduceMul, Nat.reduceEqDiff, reduceCtorEq, ↓reduceIte, Int.reduceEq, Int.reduceLT, Int.reduceLE, Int.reduceNe, Int.reduceAdd, Int.reduceSub, Int.reduceMul, Int.reduceToNat, Nat.reduceShiftRight, Nat.reduceAnd, Nat.reduceBNe]
    exact finR 4 rfl ⟨rd_lst rfl rfl, rfl, trivial⟩
end Go.Proofs.YtligakiolapkkaaDoor

namespace Go.Proofs.YtligakiolapkkaaDoor
open Go GoV
set_option maxHeartbeats 8000000
set_option maxRecDepth 10000
set_option linter.unusedVariables false
set_option linter.unusedSimpArgs false
/-- all tables with the margins of a table -/
def allL (t : List (List Int)) : List (List (List Int)) := tabE (rowsL t) (colsL t)
theorem rowsL_22 (a b c d : Int) : rowsL [[a, b], [c, d]] = [a + b, c + d] := by
  simp only [rowsL, List.map_cons, List.map_nil, sumL, Int.add_zero, Int.add_assoc]
theorem colsL_22 (a b c d : Int) : colsL [[a, b], [c, d]] = [a + c, b + d] := by
  show rowsL [[a, c], [b, d]] = _
  simp only [rowsL, List.map_cons, List.map_nil, sumL, Int.add_zero, Int.add_assoc]
theorem allL_22 (a b c d : Int) : allL [[a, b], [c, d]] = tabE [a + b, c + d] [a + c, b + d] := by rw [allL, rowsL_22, colsL_22]
theorem rowsL_23 (a b c d e f : Int) : rowsL [[a, b, c], [d, e, f]] = [a + b + c, d + e + f] := by
  simp only [rowsL, List.map_cons, List.map_nil, sumL, Int.add_zero, Int.add_assoc]
theorem colsL_23 (a b c d e f : Int) : colsL [[a, b, c], [d, e, f]] = [a + d, b + e, c + f] := by
  show rowsL [[a, d], [b, e], [c, f]] = _
  simp only [rowsL, List.map_cons, List.map_nil, sumL, Int.add_zero, Int.add_assoc]
theorem allL_23 (a b c d e f : Int) : allL [[a, b, c], [d, e, f]] = tabE [a + b + c, d + e + f] [a + d, b + e, c + f] := by rw [allL, rowsL_23, colsL_23]
theorem rowsL_32 (a b c d e f : Int) : rowsL [[a, b], [c, d], [e, f]] = [a + b, c + d, e + f] := by
  simp only [rowsL, List.map_cons, List.map_nil, sumL, Int.add_zero, Int.add_assoc]
theorem colsL_32 (a b c d e f : Int) : colsL [[a, b], [c, d], [e, f]] = [a + c + e, b + d + f] := by
  show rowsL [[a, c, e], [b, d, f]] = _
  simp only [rowsL, List.map_cons, List.map_nil, sumL, Int.add_zero, Int.add_assoc]
theorem allL_32 (a b c d e f : Int) : allL [[a, b], [c, d], [e, f]] = tabE [a + b, c + d, e + f] [a + c + e, b + d + f] := by rw [allL, rowsL_32, colsL_32]
theorem rowsL_33 (a b c d e f g i j : Int) : rowsL [[a, b, c], [d, e, f], [g, i, j]] = [a + b + c, d + e + f, g + i + j] := by
  simp only [rowsL, List.map_cons, List.map_nil, sumL, Int.add_zero, Int.add_assoc]
theorem colsL_33 (a b c d e f g i j : Int) : colsL [[a, b, c], [d, e, f], [g, i, j]] = [a + d + g, b + e + i, c + f + j] := by
  show rowsL [[a, d, g], [b, e, i], [c, f, j]] = _
  simp only [rowsL, List.map_cons, List.map_nil, sumL, Int.add_zero, Int.add_assoc]
theorem allL_33 (a b c d e f g i j : Int) : allL [[a, b, c], [d, e, f], [g, i, j]] = tabE [a + b + c, d + e + f, g + i + j] [a + d + g, b + e + i, c + f + j] := by rw [allL, rowsL_33, colsL_33]

theorem rowE_mem : ∀ (cs : List Int) (a : Int), ∀ r ∈ rowE a cs, r.length = cs.length
  | [], _, r, h => by simp [rowE] at h
  | [c], a, r, h => by
    unfold rowE at h
    split at h
    · simp at h; subst h; rfl
    · simp at h
  | c :: d :: cs, a, r, h => by
    unfold rowE at h
    simp only [List.mem_flatMap, List.mem_map] at h
    obtain ⟨x, _, l, hl, rfl⟩ := h
    have := rowE_mem (d :: cs) _ l hl
    simp only [List.length_cons] at this ⊢
    omega
theorem tabE_mem : ∀ (l cs : List Int) (m : Nat), cs.length ≤ m → ∀ t ∈ tabE l cs, t.length = l.length ∧ ∀ r ∈ t, r.length ≤ m
  | [], cs, m, _, t, h => by
    unfold tabE at h
    split at h
    · simp at h; subst h; exact ⟨rfl, by simp⟩
    · simp at h
  | a :: l, cs, m, hm, t, h => by
    rw [tabE_cons] at h
    simp only [List.mem_flatMap, List.mem_map] at h
    obtain ⟨r, hr, u, hu, rfl⟩ := h
    obtain ⟨h1, h2⟩ := tabE_mem l _ m (Nat.le_trans (subC_len _ _) hm) u hu
    refine ⟨by simp [h1], fun q hq => ?_⟩
    rcases List.mem_cons.1 hq with rfl | hq
    · rw [rowE_mem cs a _ hr]; exact hm
    · exact h2 q hq
theorem allL_small {t : List (List Int)} (h : Tab t) : (allL t).length ≤ 1000000000000 ∧ ∀ x ∈ allL t, x.length ≤ 1000 ∧ ∀ r ∈ x, r.length ≤ 1000 := by
  obtain ⟨h1, h2, _, h4, h5⟩ := tab_rows h
  have hw := h.wid
  have hl := h.len
  refine ⟨?_, fun x hx => ?_⟩
  · have h6 := tabE_len (rowsL t) (colsL t) 3 (by omega) (fun a ha => (h1 a ha).2)
    have h7 : (21 ^ 3) ^ (rowsL t).length ≤ (21 ^ 3) ^ 3 := Nat.pow_le_pow_right (by omega) (by omega)
    have h8 : (21 ^ 3) ^ 3 ≤ 1000000000000 := by decide
    exact Nat.le_trans h6 (Nat.le_trans h7 h8)
  · obtain ⟨h6, h7⟩ := tabE_mem (rowsL t) (colsL t) 3 (by omega) x hx
    exact ⟨by omega, fun r hr => by have := h7 r hr; omega⟩

end Go.Proofs.YtligakiolapkkaaDoor

namespace Go.Proofs.YtligakiolapkkaaDoor
open Go GoV
set_option maxHeartbeats 8000000
set_option maxRecDepth 10000
theorem All_pc (t : List (List Int)) (hl : t.length ≤ 1000) (hr : ∀ r ∈ t, r.length ≤ 1000) : PC Tryd.prog 23 [TT t] (if validB t then .tup [TTT (allL t), I 0] else .tup [TTT [], I 300]) := by
  cases hv : validB t with
  | false => exact all_bad t hl hr hv
  | true =>
    show PC Tryd.prog 23 [TT t] (.tup [TTT (allL t), I 0])
    exact shapes (P := fun t => PC Tryd.prog 23 [TT t] (.tup [TTT (allL t), I 0])) (tab_of hv) (fun a b c d h _ => by rw [allL_22]; exact All22 a b c d h) (fun a b c d e f h _ => by rw [allL_23]; exact All23 a b c d e f h) (fun a b c d e f h _ => by rw [allL_32]; exact All32 a b c d e f h) (fun a b c d e f g i j h _ => by rw [allL_33]; exact All33 a b c d e f g i j h)
end Go.Proofs.YtligakiolapkkaaDoor

namespace Go.Proofs.YtligakiolapkkaaDoor
open Go GoV
set_option linter.unusedVariables false
set_option linter.unusedSimpArgs false
def ch : Nat → Nat → Nat
  | _, 0 => 1
  | 0, _ + 1 => 0
  | n + 1, k + 1 => ch n k + ch n (k + 1)
theorem ch_n0 (n : Nat) : ch n 0 = 1 := by cases n <;> rfl
theorem ch_gt : ∀ n k, n < k → ch n k = 0
  | _, 0, h => by omega
  | 0, _ + 1, _ => rfl
  | n + 1, k + 1, h => by
    show ch n k + ch n (k + 1) = 0
    rw [ch_gt n k (by omega), ch_gt n (k + 1) (by omega)]
theorem ch_fct : ∀ n k, k ≤ n → ch n k * (fct k * fct (n - k)) = fct n
  | n, 0, _ => by rw [ch_n0]; show 1 * (1 * fct n) = fct n; omega
  | 0, k + 1, h => by omega
  | n + 1, k + 1, h => by
    show (ch n k + ch n (k + 1)) * (fct (k + 1) * fct (n + 1 - (k + 1))) = fct (n + 1)
    have h1 := ch_fct n k (by omega)
    rw [Nat.add_sub_add_right, Nat.add_mul]
    have e1 : ch n k * (fct (k + 1) * fct (n - k)) = fct n * (k + 1) := by
      rw [fct_succ k, ← h1]
      simp only [Nat.mul_comm, Nat.mul_left_comm, Nat.mul_assoc]
    by_cases e : k = n
    · subst e
      rw [ch_gt k (k + 1) (by omega), Nat.zero_mul, e1, fct_succ]
      rw [Nat.mul_comm]; rfl
    · have h2 := ch_fct n (k + 1) (by omega)
      have e2 : ch n (k + 1) * (fct (k + 1) * fct (n - k)) = fct n * (n - k) := by
        rw [show n - k = (n - (k + 1)) + 1 by omega, fct_succ (n - (k + 1)), ← h2]
        simp only [Nat.mul_comm, Nat.mul_left_comm, Nat.mul_assoc]
      rw [e1, e2, ← Nat.mul_add, fct_succ, Nat.mul_comm]
      congr 1
      omega
def sumR : Nat → (Nat → Nat) → Nat
  | 0, _ => 0
  | n + 1, f => sumR n f + f n
theorem sumR_congr {f g : Nat → Nat} : ∀ n, (∀ x, x < n → f x = g x) → sumR n f = sumR n g
  | 0, _ => rfl
  | n + 1, h => by
    show sumR n f + f n = sumR n g + g n
    rw [sumR_congr n (fun x hx => h x (by omega)), h n (by omega)]
theorem sumR_zero {f : Nat → Nat} : ∀ n, (∀ x, x < n → f x = 0) → sumR n f = 0
  | 0, _ => rfl
  | n + 1, h => by
    show sumR n f + f n = 0
    rw [sumR_zero n (fun x hx => h x (by omega)), h n (by omega)]
theorem sumR_first {f : Nat → Nat} : ∀ n, sumR (n + 1) f = f 0 + sumR n (fun x => f (x + 1))
  | 0 => by show 0 + f 0 = f 0 + 0; omega
  | n + 1 => by
    show sumR (n + 1) f + f (n + 1) = f 0 + (sumR n (fun x => f (x + 1)) + f (n + 1))
    rw [sumR_first n]; omega
theorem sumR_add {f g : Nat → Nat} : ∀ n, sumR n (fun x => f x + g x) = sumR n f + sumR n g
  | 0 => rfl
  | n + 1 => by
    show sumR n (fun x => f x + g x) + (f n + g n) = (sumR n f + f n) + (sumR n g + g n)
    rw [sumR_add n]; omega
theorem sumR_mul {f : Nat → Nat} (k : Nat) : ∀ n, sumR n (fun x => f x * k) = sumR n f * k
  | 0 => by show 0 = 0 * k; omega
  | n + 1 => by
    show sumR n (fun x => f x * k) + f n * k = (sumR n f + f n) * k
    rw [sumR_mul k n, Nat.add_mul]
theorem sumR_more {f : Nat → Nat} (n : Nat) : ∀ m, (∀ x, n ≤ x → f x = 0) → sumR (n + m) f = sumR n f
  | 0, _ => rfl
  | m + 1, h => by
    show sumR (n + m) f + f (n + m) = _
    rw [sumR_more n m h, h _ (by omega)]; rfl
theorem vand : ∀ c m a, sumR (a + 1) (fun x => ch c x * ch m (a - x)) = ch (c + m) a
  | 0, m, a => by
    rw [sumR_first, sumR_zero a (fun x _ => by show ch 0 (x + 1) * _ = 0; rw [show ch 0 (x + 1) = 0 from rfl, Nat.zero_mul])]
    show ch 0 0 * ch m (a - 0) + 0 = ch (0 + m) a
    rw [show ch 0 0 = 1 from rfl, Nat.one_mul, Nat.sub_zero, Nat.zero_add, Nat.add_zero]
  | c + 1, m, 0 => by
    show 0 + ch (c + 1) 0 * ch m 0 = ch (c + 1 + m) 0
    rw [ch_n0, ch_n0, ch_n0]
  | c + 1, m, a + 1 => by
    have h1 := vand c m a
    have h2 := vand c m (a + 1)
    rw [sumR_first] at h2 ⊢
    have e : sumR (a + 1) (fun x => ch (c + 1) (x + 1) * ch m (a + 1 - (x + 1))) = sumR (a + 1) (fun x => ch c x * ch m (a - x)) + sumR (a + 1) (fun x => ch c (x + 1) * ch m (a + 1 - (x + 1))) := by
      rw [← sumR_add]
      refine sumR_congr _ (fun x _ => ?_)
      rw [Nat.add_sub_add_right, ← Nat.add_mul]; rfl
    rw [e, h1, show c + 1 + m = (c + m) + 1 by omega]
    show ch (c + 1) 0 * _ + _ = ch (c + m) a + ch (c + m) (a + 1)
    rw [← h2, ch_n0, ch_n0]
    omega
def sumN : List Nat → Nat
  | [] => 0
  | x :: r => x + sumN r
def MM : List Nat → Nat
  | [] => 1
  | x :: r => ch (x + sumN r) x * MM r
def rowN : Nat → List Nat → List (List Nat)
  | _, [] => []
  | a, [c] => if a ≤ c then [[a]] else []
  | a, c :: d :: cs => (List.range (min a c + 1)).flatMap fun x => (rowN (a - x) (d :: cs)).map fun l => x :: l
def subN : List Nat → List Nat → List Nat
  | c :: cs, x :: xs => (c - x) :: subN cs xs
  | _, _ => []
def sumB {α : Type} (f : α → Nat) : List α → Nat
  | [] => 0
  | x :: r => f x + sumB f r
theorem sumB_app {α : Type} {f : α → Nat} : ∀ (a b : List α), sumB f (a ++ b) = sumB f a + sumB f b
  | [], b => by simp [sumB]
  | x :: a, b => by
    show f x + sumB f (a ++ b) = (f x + sumB f a) + sumB f b
    rw [sumB_app a b]; omega
theorem sumB_map {α β : Type} {f : β → Nat} {g : α → β} : ∀ (a : List α), sumB f (a.map g) = sumB (fun x => f (g x)) a
  | [] => rfl
  | x :: a => by
    show f (g x) + sumB f (a.map g) = f (g x) + sumB (fun x => f (g x)) a
    rw [sumB_map a]
theorem sumB_flat {α β : Type} {f : β → Nat} {g : α → List β} : ∀ (a : List α), sumB f (a.flatMap g) = sumB (fun x => sumB f (g x)) a
  | [] => rfl
  | x :: a => by
    rw [List.flatMap_cons, sumB_app, sumB_flat a]; rfl
theorem sumB_congr {α : Type} {f g : α → Nat} : ∀ (a : List α), (∀ x ∈ a, f x = g x) → sumB f a = sumB g a
  | [], _ => rfl
  | x :: a, h => by
    show f x + sumB f a = g x + sumB g a
    rw [h x (by simp), sumB_congr a (fun y hy => h y (by simp [hy]))]
theorem sumB_mul {α : Type} {f : α → Nat} (k : Nat) : ∀ (a : List α), sumB (fun x => k * f x) a = k * sumB f a
  | [] => by simp [sumB]
  | x :: a => by
    show k * f x + sumB (fun x => k * f x) a = k * (f x + sumB f a)
    rw [sumB_mul k a, Nat.mul_add]
theorem sumB_range {f : Nat → Nat} : ∀ n, sumB f (List.range n) = sumR n f
  | 0 => rfl
  | n + 1 => by
    rw [List.range_succ, sumB_app, sumB_range n]
    show sumR n f + (f n + 0) = sumR n f + f n
    rfl
theorem rowN_props : ∀ (cs : List Nat) (a : Nat), ∀ r ∈ rowN a cs, sumN r = a ∧ a ≤ sumN cs ∧ sumN (subN cs r) = sumN cs - a ∧ r.length = cs.length ∧ (subN cs r).length = cs.length
  | [], _, r, h => by simp [rowN] at h
  | [c], a, r, h => by
    unfold rowN at h
    split at h
    · simp at h; subst h; simp [sumN, subN]; assumption
    · simp at h
  | c :: d :: cs, a, r, h => by
    unfold rowN at h
    simp only [List.mem_flatMap, List.mem_map] at h
    obtain ⟨x, hx, l, hl, rfl⟩ := h
    have hx := List.mem_range.1 hx
    obtain ⟨h1, h2, h3, h4, h5⟩ := rowN_props (d :: cs) (a - x) l hl
    refine ⟨?_, ?_, ?_, by simp only [List.length_cons] at h4 ⊢; omega, by simp only [subN, List.length_cons] at h5 ⊢; omega⟩
    · show x + sumN l = a; omega
    · show a ≤ c + sumN (d :: cs); omega
    · show c - x + sumN (subN (d :: cs) l) = c + sumN (d :: cs) - a; omega
theorem vrow : ∀ (cs : List Nat) (a : Nat), cs ≠ [] → a ≤ sumN cs → sumB (fun r => MM r * MM (subN cs r)) (rowN a cs) = MM cs
  | [], _, h, _ => absurd rfl h
  | [c], a, _, h => by
    have h : a ≤ c + 0 := h
    unfold rowN
    rw [if_pos (by omega)]
    have hcc : ∀ n, ch n n = 1 := by
      intro n
      induction n with
      | zero => rfl
      | succ n ih => show ch n n + ch n (n + 1) = 1; rw [ih, ch_gt n (n + 1) (by omega)]
    show (ch (a + 0) a * 1) * (ch (c - a + 0) (c - a) * 1) + 0 = ch (c + 0) c * 1
    simp only [Nat.add_zero, hcc]
  | c :: d :: cs, a, _, h => by
    have h : a ≤ c + sumN (d :: cs) := h
    have ih := vrow (d :: cs)
    unfold rowN
    obtain ⟨cs', hcs⟩ : ∃ cs', d :: cs = cs' := ⟨_, rfl⟩
    have hne : cs' ≠ [] := by rw [← hcs]; simp
    rw [hcs] at ih h ⊢
    rw [sumB_flat, sumB_range]
    have key : ∀ x, x < min a c + 1 → sumB (fun r => MM r * MM (subN (c :: cs') r)) ((rowN (a - x) cs').map fun l => x :: l) = (ch a x * ch (c + sumN cs' - a) (c - x)) * MM cs' := by
      intro x hx
      rw [sumB_map]
      have e : sumB (fun l => MM (x :: l) * MM (subN (c :: cs') (x :: l))) (rowN (a - x) cs') = sumB (fun l => (ch a x * ch (c - x + (sumN cs' - (a - x))) (c - x)) * (MM l * MM (subN cs' l))) (rowN (a - x) cs') := by
        refine sumB_congr _ (fun l hl => ?_)
        obtain ⟨h1, h2, h3, _, _⟩ := rowN_props cs' (a - x) l hl
        show (ch (x + sumN l) x * MM l) * (ch (c - x + sumN (subN cs' l)) (c - x) * MM (subN cs' l)) = _
        rw [h1, h3, show x + (a - x) = a by omega]
        simp only [Nat.mul_comm, Nat.mul_left_comm, Nat.mul_assoc]
      rw [e, sumB_mul]
      by_cases hle : a - x ≤ sumN cs'
      · rw [ih _ hne hle, show c - x + (sumN cs' - (a - x)) = c + sumN cs' - a by omega]
      · have hem : rowN (a - x) cs' = [] := by
          cases hr : rowN (a - x) cs' with
          | nil => rfl
          | cons r rs => exact absurd (rowN_props cs' (a - x) r (by rw [hr]; simp)).2.1 hle
        rw [hem, ch_gt (c + sumN cs' - a) (c - x) (by omega)]
        simp [sumB]
    rw [sumR_congr _ key, sumR_mul]
    show _ = ch (c + sumN cs') c * MM cs'
    congr 1
    have hv := vand a (c + sumN cs' - a) c
    rw [show a + (c + sumN cs' - a) = c + sumN cs' by omega] at hv
    rw [← hv]
    by_cases hac : a ≤ c
    · have := sumR_more (f := fun x => ch a x * ch (c + sumN cs' - a) (c - x)) (a + 1) (c - a) (fun x hx => by show ch a x * _ = 0; rw [ch_gt a x (by omega), Nat.zero_mul])
      rw [show a + 1 + (c - a) = c + 1 by omega] at this
      rw [Nat.min_eq_left hac, this]
    · rw [Nat.min_eq_right (by omega)]
def tabN : List Nat → List Nat → List (List (List Nat))
  | [], cs => if cs.all (fun c => decide (c = 0)) then [[]] else []
  | a :: l, cs => (rowN a cs).flatMap fun r => (tabN l (subN cs r)).map fun t => r :: t
def WW : List (List Nat) → Nat
  | [] => 1
  | r :: t => MM r * WW t
theorem MM_zero : ∀ (cs : List Nat), sumN cs = 0 → MM cs = 1 ∧ cs.all (fun c => decide (c = 0)) = true
  | [], _ => ⟨rfl, rfl⟩
  | c :: cs, h => by
    have h : c + sumN cs = 0 := h
    obtain ⟨h1, h2⟩ := MM_zero cs (by omega)
    have hc : c = 0 := by omega
    subst hc
    refine ⟨?_, by simp [h2]⟩
    show ch (0 + sumN cs) 0 * MM cs = 1
    rw [ch_n0, h1]
theorem vtab : ∀ (l cs : List Nat), cs ≠ [] → sumN l = sumN cs → sumB WW (tabN l cs) = MM cs
  | [], cs, _, h => by
    obtain ⟨h1, h2⟩ := MM_zero cs h.symm
    unfold tabN
    rw [h2, h1]; rfl
  | a :: l, cs, hne, h => by
    have h : a + sumN l = sumN cs := h
    unfold tabN
    rw [sumB_flat, ← vrow cs a hne (by omega)]
    refine sumB_congr _ (fun r hr => ?_)
    obtain ⟨h1, h2, h3, h4, h5⟩ := rowN_props cs a r hr
    rw [sumB_map]
    show sumB (fun t => MM r * WW t) (tabN l (subN cs r)) = _
    rw [sumB_mul, vtab l (subN cs r) (by intro e; rw [e] at h5; simp at h5; exact hne (List.eq_nil_of_length_eq_zero h5.symm)) (by omega)]
/-! to the integers -/
def castL (l : List Nat) : List Int := l.map fun (n : Nat) => (n : Int)
theorem castL_cons (x : Nat) (l : List Nat) : castL (x :: l) = (x : Int) :: castL l := rfl
theorem sumL_cast : ∀ l : List Nat, sumL (castL l) = (sumN l : Nat)
  | [] => rfl
  | x :: l => by
    show (x : Int) + sumL (castL l) = ((x + sumN l : Nat) : Int)
    rw [sumL_cast l]; omega
theorem castL_of : ∀ (l : List Int), (∀ x ∈ l, 0 ≤ x) → ∃ m, l = castL m
  | [], _ => ⟨[], rfl⟩
  | x :: l, h => by
    obtain ⟨m, e⟩ := castL_of l (fun y hy => h y (by simp [hy]))
    refine ⟨x.toNat :: m, ?_⟩
    rw [castL_cons, ← e, Int.toNat_of_nonneg (h x (by simp))]
theorem flatMap_congr' {α β : Type} {f g : α → List β} : ∀ (l : List α), (∀ x ∈ l, f x = g x) → l.flatMap f = l.flatMap g
  | [], _ => rfl
  | a :: l, h => by
    rw [List.flatMap_cons, List.flatMap_cons, h a (by simp), flatMap_congr' l (fun x hx => h x (by simp [hx]))]
theorem rowE_cast : ∀ (cs : List Nat) (a : Nat), rowE (a : Int) (castL cs) = (rowN a cs).map castL
  | [], _ => rfl
  | [c], a => by
    show (if (a : Int) ≤ (c : Int) then [[(a : Int)]] else []) = (if a ≤ c then [[a]] else []).map castL
    by_cases h : a ≤ c
    · rw [if_pos h, if_pos (by omega)]; rfl
    · rw [if_neg h, if_neg (by omega)]; rfl
  | c :: d :: cs, a => by
    have ih := rowE_cast (d :: cs)
    show ((List.range (min (a : Int) (c : Int) + 1).toNat).flatMap fun (x : Nat) => (rowE ((a : Int) - (x : Int)) (castL (d :: cs))).map fun l => (x : Int) :: l) = ((List.range (min a c + 1)).flatMap fun x => (rowN (a - x) (d :: cs)).map fun l => x :: l).map castL
    rw [show (min (a : Int) (c : Int) + 1).toNat = min a c + 1 by omega, List.map_flatMap]
    refine flatMap_congr' _ (fun x hx => ?_)
    have hx := List.mem_range.1 hx
    rw [show (a : Int) - (x : Int) = ((a - x : Nat) : Int) by omega, ih, List.map_map, List.map_map]
    rfl
theorem rowN_le : ∀ (cs : List Nat) (a : Nat), ∀ r ∈ rowN a cs, subC (castL cs) (castL r) = castL (subN cs r)
  | [], _, r, h => by simp [rowN] at h
  | [c], a, r, h => by
    unfold rowN at h
    split at h
    · rename_i hle
      simp at h; subst h
      show [(c : Int) - (a : Int)] = [((c - a : Nat) : Int)]
      congr 1; omega
    · simp at h
  | c :: d :: cs, a, r, h => by
    unfold rowN at h
    simp only [List.mem_flatMap, List.mem_map] at h
    obtain ⟨x, hx, l, hl, rfl⟩ := h
    have hx := List.mem_range.1 hx
    show ((c : Int) - (x : Int)) :: subC (castL (d :: cs)) (castL l) = ((c - x : Nat) : Int) :: castL (subN (d :: cs) l)
    rw [rowN_le (d :: cs) _ l hl]
    congr 1; omega
theorem tabE_cast : ∀ (l cs : List Nat), tabE (castL l) (castL cs) = (tabN l cs).map (List.map castL)
  | [], cs => by
    show (if (castL cs).all (fun c => decide (c = 0)) then [[]] else []) = (if cs.all (fun c => decide (c = 0)) then [[]] else []).map (List.map castL)
    have e : (castL cs).all (fun c => decide (c = 0)) = cs.all (fun c => decide (c = 0)) := by
      rw [castL, List.all_map]
      congr 1
      funext x
      simp
    rw [e]
    split <;> rfl
  | a :: l, cs => by
    show (tabE ((a : Int) :: castL l) (castL cs)) = ((rowN a cs).flatMap fun r => (tabN l (subN cs r)).map fun t => r :: t).map (List.map castL)
    rw [tabE_cons, rowE_cast, List.map_flatMap, List.flatMap_map]
    refine flatMap_congr' _ (fun r hr => ?_)
    rw [rowN_le cs a r hr, tabE_cast l, List.map_map, List.map_map]
    rfl
theorem fold_div : ∀ (r : List Nat) (K : Nat), (castL r).foldl (fun o x => o / fct x.toNat) (K * fct (sumN r)) = K * MM r
  | [], K => by
    show K * fct 0 = K * 1
    rfl
  | x :: r, K => by
    show (castL r).foldl (fun o x => o / fct x.toNat) (K * fct (x + sumN r) / fct ((x : Int)).toNat) = K * (ch (x + sumN r) x * MM r)
    have h := ch_fct (x + sumN r) x (by omega)
    rw [Nat.add_sub_cancel_left] at h
    have e : K * fct (x + sumN r) / fct ((x : Int)).toNat = (K * ch (x + sumN r) x) * fct (sumN r) := by
      rw [Int.toNat_natCast, ← h, show K * (ch (x + sumN r) x * (fct x * fct (sumN r))) = ((K * ch (x + sumN r) x) * fct (sumN r)) * fct x by simp only [Nat.mul_comm, Nat.mul_left_comm, Nat.mul_assoc], Nat.mul_div_cancel _ (fct_pos x)]
    rw [e, fold_div r, Nat.mul_assoc]
theorem overN_MM (r : List Nat) : overN (sumN r) (castL r) = MM r := by
  have h := fold_div r 1
  rw [Nat.one_mul, Nat.one_mul] at h
  exact h
theorem waysN_WW : ∀ (t : List (List Nat)), waysN (t.map castL) = WW t
  | [] => rfl
  | r :: t => by
    show overN (sumL (castL r)).toNat (castL r) * waysN (t.map castL) = MM r * WW t
    rw [waysN_WW t, sumL_cast, Int.toNat_natCast, overN_MM]
/-- **the ways of all tables with the margins add up to the total** -/
theorem ways_total {t : List (List Int)} (h : Tab t) : sumB waysN (allL t) = totalN t := by
  obtain ⟨h1, h2, h3, h4, h5, h6⟩ := tab_rows h
  obtain ⟨l, hl⟩ := castL_of (rowsL t) (fun x hx => (h1 x hx).1)
  obtain ⟨cs, hc⟩ := castL_of (colsL t) (fun x hx => (h2 x hx).1)
  have hw := h.wid
  have e1 : sumN l = sumN cs := by
    have e2 := h3
    have e3 := h4
    rw [hl, sumL_cast] at e2
    rw [hc, sumL_cast] at e3
    omega
  have hne : cs ≠ [] := by
    intro e; rw [e] at hc; rw [hc] at h6; simp [castL] at h6; omega
  rw [allL, hl, hc, tabE_cast, sumB_map, totalN, ← h4, hc, sumL_cast, Int.toNat_natCast, overN_MM, ← vtab l cs hne e1]
  exact sumB_congr _ (fun x _ => waysN_WW x)
theorem ways_le_total {t : List (List Int)} (h : Tab t) : sumB waysN (allL t) ≤ 2432902008176640000 := by
  rw [ways_total h]
  obtain ⟨h1, h2, h3, h4, h5, h6⟩ := tab_rows h
  have ht := h.tot
  refine Nat.le_trans (overN_le _ _) (fct_le20 ?_)
  omega
end Go.Proofs.YtligakiolapkkaaDoor

namespace Go.Proofs.YtligakiolapkkaaDoor
open Go GoV
set_option maxHeartbeats 8000000
set_option maxRecDepth 10000
set_option linter.unusedVariables false
set_option linter.unusedSimpArgs false
theorem rowN_pt : ∀ (cs : List Nat) (a : Nat), ∀ r ∈ rowN a cs, ∀ j, r.getD j 0 + (subN cs r).getD j 0 = cs.getD j 0
  | [], _, r, h, _ => by simp [rowN] at h
  | [c], a, r, h, j => by
    unfold rowN at h
    split at h
    · simp at h; subst h
      cases j with
      | zero => simp [subN]; omega
      | succ j => simp [subN]
    · simp at h
  | c :: d :: cs, a, r, h, j => by
    unfold rowN at h
    simp only [List.mem_flatMap, List.mem_map] at h
    obtain ⟨x, hx, l, hl, rfl⟩ := h
    have hx := List.mem_range.1 hx
    cases j with
    | zero => simp only [subN, List.getD_cons_zero]; omega
    | succ j =>
      simp only [subN, List.getD_cons_succ]
      exact rowN_pt (d :: cs) _ l hl j
theorem all_zero {cs : List Nat} (h : cs.all (fun c => decide (c = 0)) = true) (j : Nat) : cs.getD j 0 = 0 := by
  rw [List.all_eq_true] at h
  by_cases hj : j < cs.length
  · simpa using h _ (getD_mem (d := 0) hj)
  · simp [List.getD, List.getElem?_eq_none (Nat.le_of_not_lt hj)]
theorem tabN_props : ∀ (l cs : List Nat), ∀ y ∈ tabN l cs, y.map sumN = l ∧ (∀ r ∈ y, r.length = cs.length) ∧ ∀ j, sumN (y.map fun r => r.getD j 0) = cs.getD j 0
  | [], cs, y, h => by
    unfold tabN at h
    split at h
    · rename_i hz
      simp at h; subst h
      exact ⟨rfl, by simp, fun j => (all_zero hz j).symm⟩
    · simp at h
  | a :: l, cs, y, h => by
    unfold tabN at h
    simp only [List.mem_flatMap, List.mem_map] at h
    obtain ⟨r, hr, t, ht, rfl⟩ := h
    obtain ⟨h1, h2, h3, h4, h5⟩ := rowN_props cs a r hr
    obtain ⟨k1, k2, k3⟩ := tabN_props l _ t ht
    refine ⟨by rw [List.map_cons, h1, k1], fun q hq => ?_, fun j => ?_⟩
    · rcases List.mem_cons.1 hq with rfl | hq
      · exact h4
      · rw [k2 q hq, h5]
    · show r.getD j 0 + sumN (t.map fun r => r.getD j 0) = _
      rw [k3 j, rowN_pt cs a r hr j]
theorem castL_get (r : List Nat) (j : Nat) : (castL r).getD j 0 = ((r.getD j 0 : Nat) : Int) := by
  simp only [castL, List.getD, List.getElem?_map]
  cases r[j]? <;> rfl
theorem castL_inj : ∀ {a b : List Nat}, castL a = castL b → a = b
  | [], [], _ => rfl
  | x :: a, [], h => by simp [castL] at h
  | [], x :: b, h => by simp [castL] at h
  | x :: a, y :: b, h => by
    rw [castL_cons, castL_cons, List.cons.injEq] at h
    rw [castL_inj h.2, show x = y by omega]
theorem le_sumN : ∀ {r : List Nat} {x : Nat}, x ∈ r → x ≤ sumN r
  | y :: r, x, h => by
    show x ≤ y + sumN r
    rcases List.mem_cons.1 h with rfl | h
    · omega
    · have := le_sumN h; omega
theorem map_sumL_cast (y : List (List Nat)) : (y.map castL).map sumL = castL (y.map sumN) := by
  rw [castL, List.map_map, List.map_map]
  refine List.map_congr_left (fun r _ => ?_)
  exact sumL_cast r
theorem allL_props {t x : List (List Int)} (h : Tab t) (hx : x ∈ allL t) : rowsL x = rowsL t ∧ colsL x = colsL t ∧ Tab x ∧ x.length = t.length ∧ wid x = wid t := by
  obtain ⟨h1, h2, h3, h4, h5, h6⟩ := tab_rows h
  obtain ⟨l, hl⟩ := castL_of (rowsL t) (fun x hx => (h1 x hx).1)
  obtain ⟨cs, hc⟩ := castL_of (colsL t) (fun x hx => (h2 x hx).1)
  rw [allL, hl, hc, tabE_cast] at hx
  obtain ⟨y, hy, rfl⟩ := List.mem_map.1 hx
  obtain ⟨k1, k2, k3⟩ := tabN_props l cs y hy
  have hlen : l.length = t.length := by rw [← h5, hl, castL, List.length_map]
  have hcl : cs.length = wid t := by rw [← h6, hc, castL, List.length_map]
  have hyl : y.length = t.length := by rw [← hlen, ← k1, List.length_map]
  have htl := h.len
  have htw := h.wid
  have ew : wid (y.map castL) = cs.length := by
    unfold wid
    have hm : y.getD 0 [] ∈ y := getD_mem (by omega)
    have : ((y.map castL).getD 0 []) = castL (y.getD 0 []) := by
      simp only [List.getD, List.getElem?_map]
      cases y[0]? <;> rfl
    rw [this, castL, List.length_map, k2 _ hm]
  have er : rowsL (y.map castL) = rowsL t := by
    rw [rowsL, map_sumL_cast, k1, hl]
  have ec : colsL (y.map castL) = colsL t := by
    rw [hc]
    show (trL (y.map castL)).map sumL = castL cs
    rw [trL, ew, List.map_map]
    have key : ∀ j, (sumL ∘ fun j => (y.map castL).map (·.getD j 0)) j = ((cs.getD j 0 : Nat) : Int) := by
      intro j
      show sumL ((y.map castL).map (·.getD j 0)) = _
      rw [← k3 j, ← sumL_cast, castL, List.map_map, List.map_map]
      congr 1
      refine List.map_congr_left (fun r _ => ?_)
      exact castL_get r j
    rw [List.map_congr_left (fun j _ => key j)]
    refine List.ext_getElem (by simp [castL]) (fun i hi1 hi2 => ?_)
    simp [castL]
    simp at hi1
    simp [hi1]
  refine ⟨er, ec, ⟨by rw [List.length_map]; omega, by rw [ew, hcl]; exact htw, ?_, ?_⟩, by rw [List.length_map]; exact hyl, by rw [ew, hcl]⟩
  · intro r hr
    obtain ⟨q, hq, rfl⟩ := List.mem_map.1 hr
    refine ⟨by rw [ew, castL, List.length_map]; exact k2 q hq, ?_⟩
    intro z hz
    obtain ⟨n, hn, rfl⟩ := List.mem_map.1 hz
    have h7 := le_sumN hn
    have h8 : ((sumN q : Nat) : Int) ∈ rowsL t := by
      rw [← er, rowsL, map_sumL_cast]
      exact List.mem_map_of_mem (List.mem_map_of_mem hq)
    have h9 := h1 _ h8
    omega
  · have : totL (y.map castL) = totL t := by
      show sumL (rowsL (y.map castL)) = sumL (rowsL t)
      rw [er]
    rw [this]; exact h.tot
theorem allL_same {t x : List (List Int)} (h : Tab t) (hx : x ∈ allL t) : allL x = allL t := by
  obtain ⟨h1, h2, _⟩ := allL_props h hx
  rw [allL, h1, h2]; rfl
theorem sumB_take_le {α : Type} {f : α → Nat} : ∀ (l : List α) (k : Nat), sumB f (l.take k) ≤ sumB f l
  | [], k => by simp [sumB]
  | x :: l, 0 => Nat.zero_le _
  | x :: l, k + 1 => by
    show f x + sumB f (l.take k) ≤ f x + sumB f l
    have := sumB_take_le (f := f) l k
    omega
end Go.Proofs.YtligakiolapkkaaDoor

namespace Go.Proofs.YtligakiolapkkaaDoor
open Go GoV
set_option linter.unusedVariables false
set_option linter.unusedSimpArgs false
set_option maxRecDepth 10000
theorem mem_rowN : ∀ (cs r : List Nat), cs ≠ [] → r.length = cs.length → (∀ j, r.getD j 0 ≤ cs.getD j 0) → r ∈ rowN (sumN r) cs
  | [], _, h, _, _ => absurd rfl h
  | [c], [x], _, _, h => by
    have h0 : x ≤ c := h 0
    show [x] ∈ (if x + 0 ≤ c then [[x + 0]] else [])
    rw [if_pos (by omega)]; simp
  | [c], [], _, h, _ => by simp at h
  | [c], _ :: _ :: _, _, h, _ => by simp at h
  | c :: d :: cs, [], _, h, _ => by simp at h
  | c :: d :: cs, x :: r, _, hl, h => by
    have h0 : x ≤ c := h 0
    have ih := mem_rowN (d :: cs) r (by simp) (by simpa using hl) (fun j => by simpa using h (j + 1))
    unfold rowN
    rw [List.mem_flatMap]
    refine ⟨x, List.mem_range.2 (by show x < min (x + sumN r) c + 1; omega), ?_⟩
    rw [show sumN (x :: r) - x = sumN r by show x + sumN r - x = sumN r; omega]
    exact List.mem_map_of_mem ih
theorem subN_get : ∀ (cs r : List Nat) (j : Nat), r.length = cs.length → (subN cs r).getD j 0 = cs.getD j 0 - r.getD j 0
  | [], [], j, _ => by simp [subN]
  | [], _ :: _, _, h => by simp at h
  | _ :: _, [], _, h => by simp at h
  | c :: cs, x :: r, 0, _ => by simp [subN]
  | c :: cs, x :: r, j + 1, h => by
    simp only [subN, List.getD_cons_succ]
    exact subN_get cs r j (by simpa using h)
theorem subN_len : ∀ (cs r : List Nat), r.length = cs.length → (subN cs r).length = cs.length
  | [], [], _ => rfl
  | [], _ :: _, h => by simp at h
  | _ :: _, [], h => by simp at h
  | c :: cs, x :: r, h => by
    simp only [subN, List.length_cons] at h ⊢
    rw [subN_len cs r (by omega)]
theorem zero_all {cs : List Nat} (h : ∀ j, cs.getD j 0 = 0) : cs.all (fun c => decide (c = 0)) = true := by
  rw [List.all_eq_true]
  intro c hc
  obtain ⟨i, hi, rfl⟩ := List.getElem_of_mem hc
  have := h i
  simp [List.getD, hi] at this
  simpa using this
theorem mem_tabN : ∀ (y : List (List Nat)) (cs : List Nat), cs ≠ [] → (∀ r ∈ y, r.length = cs.length) → (∀ j, sumN (y.map fun r => r.getD j 0) = cs.getD j 0) → y ∈ tabN (y.map sumN) cs
  | [], cs, _, _, h => by
    show [] ∈ (if cs.all (fun c => decide (c = 0)) then [[]] else [])
    rw [if_pos (zero_all fun j => (h j).symm)]; simp
  | r :: t, cs, hne, hl, h => by
    have hr := hl r (by simp)
    have hj : ∀ j, r.getD j 0 + sumN (t.map fun r => r.getD j 0) = cs.getD j 0 := h
    show r :: t ∈ ((rowN (sumN r) cs).flatMap fun r => (tabN (t.map sumN) (subN cs r)).map fun t => r :: t)
    rw [List.mem_flatMap]
    refine ⟨r, mem_rowN cs r hne hr (fun j => by have := hj j; omega), ?_⟩
    have hsl := subN_len cs r hr
    refine List.mem_map_of_mem (mem_tabN t (subN cs r) ?_ (fun q hq => by rw [hsl]; exact hl q (by simp [hq])) (fun j => by rw [subN_get cs r j hr]; have := hj j; omega))
    intro e; rw [e] at hsl; simp at hsl; exact hne (List.eq_nil_of_length_eq_zero hsl.symm)
/-- a table in natural numbers -/
theorem tab_cast {t : List (List Int)} (h : Tab t) : ∃ y : List (List Nat), t = y.map castL ∧ ∀ r ∈ y, r.length = wid t := by
  have hrow := h.row
  have key : ∀ (u : List (List Int)), (∀ r ∈ u, r.length = wid t ∧ R20 r) → ∃ y : List (List Nat), u = y.map castL ∧ ∀ r ∈ y, r.length = wid t := by
    intro u
    induction u with
    | nil => intro _; exact ⟨[], rfl, by simp⟩
    | cons r u ih =>
      intro hu
      obtain ⟨y, e, hy⟩ := ih (fun q hq => hu q (by simp [hq]))
      obtain ⟨h1, h2⟩ := hu r (by simp)
      obtain ⟨m, hm⟩ := castL_of r (fun x hx => (h2 x hx).1)
      refine ⟨m :: y, by rw [List.map_cons, ← e, ← hm], fun q hq => ?_⟩
      rcases List.mem_cons.1 hq with rfl | hq
      · rw [← h1, hm, castL, List.length_map]
      · exact hy q hq
  exact key t hrow
theorem colsL_cast (y : List (List Nat)) : colsL (y.map castL) = castL ((List.range (wid (y.map castL))).map fun j => sumN (y.map fun r => r.getD j 0)) := by
  show (trL (y.map castL)).map sumL = _
  rw [trL, List.map_map, castL, List.map_map]
  refine List.map_congr_left (fun j _ => ?_)
  show sumL ((y.map castL).map (·.getD j 0)) = ((sumN (y.map fun r => r.getD j 0) : Nat) : Int)
  rw [← sumL_cast, castL, List.map_map, List.map_map]
  congr 1
  refine List.map_congr_left (fun r _ => ?_)
  exact castL_get r j
theorem allL_self {t : List (List Int)} (h : Tab t) : t ∈ allL t := by
  obtain ⟨y, e, hy⟩ := tab_cast h
  have hw := h.wid
  subst e
  have e1 : rowsL (y.map castL) = castL (y.map sumN) := map_sumL_cast y
  rw [allL, e1, colsL_cast, tabE_cast]
  obtain ⟨m, hm⟩ : ∃ m, wid (y.map castL) = m := ⟨_, rfl⟩
  rw [hm] at hy hw ⊢
  refine List.mem_map_of_mem (mem_tabN y _ ?_ (fun r hr => by rw [hy r hr]; simp) (fun j => ?_))
  · intro e; have := congrArg List.length e; simp at this; omega
  · by_cases hj : j < m
    · simp [List.getD, hj]
    · have hz : ∀ (u : List (List Nat)), (∀ r ∈ u, r.length = m) → sumN (u.map fun r => r.getD j 0) = 0 := by
        intro u
        induction u with
        | nil => intro _; rfl
        | cons r u ih =>
          intro hu
          show r.getD j 0 + sumN (u.map fun r => r.getD j 0) = 0
          rw [ih (fun q hq => hu q (by simp [hq])), show r.getD j 0 = 0 by
            have := hu r (by simp)
            simp [List.getD, List.getElem?_eq_none (by omega : r.length ≤ j)]]
      rw [hz y hy]
      simp [List.getD, hj]
def prodF : List Nat → Nat
  | [] => 1
  | x :: r => fct x * prodF r
theorem prodF_pos : ∀ r, 0 < prodF r
  | [] => Nat.one_pos
  | x :: r => Nat.mul_pos (fct_pos x) (prodF_pos r)
theorem MM_fct : ∀ r, MM r * prodF r = fct (sumN r)
  | [] => rfl
  | x :: r => by
    show ch (x + sumN r) x * MM r * (fct x * prodF r) = fct (x + sumN r)
    have h := ch_fct (x + sumN r) x (by omega)
    rw [Nat.add_sub_cancel_left] at h
    rw [← h, ← MM_fct r]
    simp only [Nat.mul_comm, Nat.mul_left_comm, Nat.mul_assoc]
def chk : Bool := (List.range 21).all fun a => (List.range 21).all fun b => (List.range 21).all fun c => Nat.ble 21 (a + b + c) || Nat.ble (fct (a + b + c)) (133024320 * (fct a * (fct b * (fct c * 1))))
theorem chk_ok : chk = true := by kernel_rfl
theorem fct3 {a b c : Nat} (h : a + b + c ≤ 20) : fct (a + b + c) ≤ 133024320 * (fct a * (fct b * (fct c * 1))) := by
  have h1 := chk_ok
  unfold chk at h1
  have h2 := List.all_eq_true.1 (List.all_eq_true.1 (List.all_eq_true.1 h1 a (List.mem_range.2 (by omega))) b (List.mem_range.2 (by omega))) c (List.mem_range.2 (by omega))
  rw [Bool.or_eq_true] at h2
  rcases h2 with h2 | h2
  · have := Nat.le_of_ble_eq_true h2; omega
  · exact Nat.le_of_ble_eq_true h2
theorem total_small {t : List (List Int)} (h : Tab t) : totalN t ≤ 133024320 := by
  obtain ⟨_, h2, _, h4, _, h6⟩ := tab_rows h
  obtain ⟨cs, hc⟩ := castL_of (colsL t) (fun x hx => (h2 x hx).1)
  have e : totalN t = MM cs := by rw [totalN, ← h4, hc, sumL_cast, Int.toNat_natCast, overN_MM]
  have hs : sumN cs ≤ 20 := by
    have h7 := h4
    rw [hc, sumL_cast] at h7
    have := h.tot
    omega
  have hl : cs.length = 2 ∨ cs.length = 3 := by
    have h8 := h6
    rw [hc, castL, List.length_map] at h8
    have := h.wid
    omega
  rw [e]
  have hm := MM_fct cs
  have hp := prodF_pos cs
  have key : fct (sumN cs) ≤ 133024320 * prodF cs := by
    rcases hl with hl | hl
    · obtain ⟨a, b, rfl⟩ := list2 hl
      have hs : a + (b + 0) ≤ 20 := hs
      have := fct3 (a := a) (b := b) (c := 0) (by omega)
      show fct (a + (b + 0)) ≤ 133024320 * (fct a * (fct b * 1))
      exact this
    · obtain ⟨a, b, c, rfl⟩ := list3 hl
      have hs : a + (b + (c + 0)) ≤ 20 := hs
      have := fct3 (a := a) (b := b) (c := c) (by omega)
      show fct (a + (b + (c + 0))) ≤ 133024320 * (fct a * (fct b * (fct c * 1)))
      rw [show a + (b + (c + 0)) = a + b + c by omega]
      exact this
  rw [← hm] at key
  exact Nat.le_of_mul_le_mul_right key hp
theorem ways_pos {t : List (List Int)} (h : Tab t) : 1 ≤ waysN t := by
  obtain ⟨y, e, hy⟩ := tab_cast h
  subst e
  rw [waysN_WW]
  clear h hy
  induction y with
  | nil => exact Nat.le_refl _
  | cons r y ih =>
    refine Nat.mul_pos ?_ ih
    have h1 := MM_fct r
    have h2 := fct_pos (sumN r)
    rcases Nat.eq_zero_or_pos (MM r) with h0 | h0
    · rw [h0, Nat.zero_mul] at h1; omega
    · exact h0
theorem sumB_mem {α : Type} {f : α → Nat} : ∀ {l : List α} {x : α}, x ∈ l → f x ≤ sumB f l
  | y :: l, x, h => by
    show f x ≤ f y + sumB f l
    rcases List.mem_cons.1 h with rfl | h
    · omega
    · have := sumB_mem (f := f) h; omega
end Go.Proofs.YtligakiolapkkaaDoor

namespace Go.Proofs.YtligakiolapkkaaDoor
open Go GoV
set_option linter.unusedVariables false
set_option linter.unusedSimpArgs false
def lexN : List Nat → List Nat → Prop
  | x :: a, y :: b => x < y ∨ (x = y ∧ lexN a b)
  | _, _ => False
theorem lexN_app : ∀ (a b c d : List Nat), a.length = b.length → lexN a b → lexN (a ++ c) (b ++ d)
  | [], [], _, _, _, h => h.elim
  | [], _ :: _, _, _, hl, _ => by simp at hl
  | _ :: _, [], _, _, hl, _ => by simp at hl
  | x :: a, y :: b, c, d, hl, h => by
    rcases h with h | ⟨h1, h2⟩
    · exact .inl h
    · exact .inr ⟨h1, lexN_app a b c d (by simpa using hl) h2⟩
theorem lexN_pre : ∀ (a c d : List Nat), lexN c d → lexN (a ++ c) (a ++ d)
  | [], _, _, h => h
  | x :: a, c, d, h => .inr ⟨rfl, lexN_pre a c d h⟩
theorem pw_flat {α β : Type} {R : β → β → Prop} {S : α → α → Prop} {g : α → List β} : ∀ l : List α, l.Pairwise S → (∀ a ∈ l, (g a).Pairwise R) → (∀ a ∈ l, ∀ b ∈ l, S a b → ∀ x ∈ g a, ∀ y ∈ g b, R x y) → (l.flatMap g).Pairwise R
  | [], _, _, _ => by simp
  | a :: l, hl, h1, h2 => by
    rw [List.pairwise_cons] at hl
    rw [List.flatMap_cons, List.pairwise_append]
    refine ⟨h1 a (by simp), pw_flat l hl.2 (fun b hb => h1 b (by simp [hb])) (fun b hb c hc => h2 b (by simp [hb]) c (by simp [hc])), fun x hx y hy => ?_⟩
    obtain ⟨b, hb, hyb⟩ := List.mem_flatMap.1 hy
    exact h2 a (by simp) b (by simp [hb]) (hl.1 b hb) x hx y hyb
theorem range_lt (n : Nat) : (List.range n).Pairwise (· < ·) := List.pairwise_lt_range
theorem pw_map {α β : Type} {R : β → β → Prop} {S : α → α → Prop} {f : α → β} {l : List α} (h : l.Pairwise S) (hf : ∀ a b, S a b → R (f a) (f b)) : (l.map f).Pairwise R := by
  rw [List.pairwise_map]
  exact h.imp (fun {a b} hab => hf a b hab)
theorem rowN_lex : ∀ (cs : List Nat) (a : Nat), (rowN a cs).Pairwise lexN
  | [], _ => by simp [rowN]
  | [c], a => by unfold rowN; split <;> simp
  | c :: d :: cs, a => by
    unfold rowN
    refine pw_flat (S := (· < ·)) _ (range_lt _) (fun x _ => pw_map (rowN_lex (d :: cs) _) (fun p q h => .inr ⟨rfl, h⟩)) ?_
    intro x _ y _ hxy p hp q hq
    obtain ⟨u, _, rfl⟩ := List.mem_map.1 hp
    obtain ⟨v, _, rfl⟩ := List.mem_map.1 hq
    exact .inl hxy
theorem tabN_lex : ∀ (l cs : List Nat), (tabN l cs).Pairwise (fun x y => lexN x.flatten y.flatten)
  | [], cs => by unfold tabN; split <;> simp
  | a :: l, cs => by
    unfold tabN
    refine pw_flat (S := lexN) _ (rowN_lex cs a) (fun r _ => pw_map (tabN_lex l _) (fun p q h => by rw [List.flatten_cons, List.flatten_cons]; exact lexN_pre r _ _ h)) ?_
    intro r hr s hs hrs p hp q hq
    obtain ⟨u, _, rfl⟩ := List.mem_map.1 hp
    obtain ⟨v, _, rfl⟩ := List.mem_map.1 hq
    rw [List.flatten_cons, List.flatten_cons]
    exact lexN_app _ _ _ _ (by rw [(rowN_props cs a r hr).2.2.2.1, (rowN_props cs a s hs).2.2.2.1]) hrs
def lexI : List Int → List Int → Prop
  | x :: a, y :: b => x < y ∨ (x = y ∧ lexI a b)
  | _, _ => False
theorem lexI_cast : ∀ (a b : List Nat), lexN a b → lexI (castL a) (castL b)
  | [], [], h => h.elim
  | [], _ :: _, h => h.elim
  | _ :: _, [], h => h.elim
  | x :: a, y :: b, h => by
    rcases h with h | ⟨h1, h2⟩
    · exact .inl (by show (x : Int) < (y : Int); omega)
    · exact .inr ⟨by show (x : Int) = (y : Int); omega, lexI_cast a b h2⟩
theorem flatten_cast (y : List (List Nat)) : (y.map castL).flatten = castL y.flatten := by
  simp only [castL, List.map_flatten]
  congr 1
theorem allL_lex {t : List (List Int)} (h : Tab t) : (allL t).Pairwise (fun x y => lexI x.flatten y.flatten) := by
  obtain ⟨h1, h2, _⟩ := tab_rows h
  obtain ⟨l, hl⟩ := castL_of (rowsL t) (fun x hx => (h1 x hx).1)
  obtain ⟨cs, hc⟩ := castL_of (colsL t) (fun x hx => (h2 x hx).1)
  rw [allL, hl, hc, tabE_cast]
  exact pw_map (tabN_lex l cs) (fun p q hpq => by rw [flatten_cast, flatten_cast]; exact lexI_cast _ _ hpq)
end Go.Proofs.YtligakiolapkkaaDoor

namespace Go.Proofs.YtligakiolapkkaaDoor
open Go GoV
set_option maxHeartbeats 8000000
set_option maxRecDepth 10000
set_option linter.unusedVariables false
set_option linter.unusedSimpArgs false
theorem nan_pc (x : Int) : PC Tryd.prog 68 [I x] (B false) := by
  refine pc_fn hmix h68 rfl ?_
  simp -implicitDefEqProofs only [c68, push_cast, Nat.reduceBEq, Nat.reduceLT, Nat.reduceLeDiff, Nat.reduceAdd, Nat.reduceSub, Nat.reduceMul, Nat.reduceEqDiff, reduceCtorEq, ↓reduceIte, Int.reduceEq, Int.reduceLT, Int.reduceLE, Int.reduceNe, Int.reduceAdd, Int.reduceSub, Int.reduceMul, Int.reduceToNat, Nat.reduceShiftRight, Nat.reduceAnd, Nat.reduceBNe]
  exact finC rfl rfl
theorem cmpi_pc (x y : Int) : PC Tryd.prog 52 [I x, I y] (I (if x < y then -1 else if y < x then 1 else 0)) := by
  refine pc_fn hmix h52 rfl ?_
  by_cases h1 : x < y
  · have e1 : decide (x < y) = true := decide_eq_true h1
    rw [if_pos h1]
    simp -implicitDefEqProofs only [c52, push_cast, Nat.reduceBEq, Nat.reduceLT, Nat.reduceLeDiff, Nat.reduceAdd, Nat.reduceSub, Nat.reduceMul, Nat.reduceEqDiff, reduceCtorEq, ↓reduceIte, Int.reduceEq, Int.reduceLT, Int.reduceLE, Int.reduceNe, Int.reduceAdd, Int.reduceSub, Int.reduceMul, Int.reduceToNat, Nat.reduceShiftRight, Nat.reduceAnd, Nat.reduceBNe]
    refine callF (nan_pc x) ⟨rfl, trivial⟩ rfl rfl ?_
    simp -implicitDefEqProofs only [push_cast, Nat.reduceBEq, Nat.reduceLT, Nat.reduceLeDiff, Nat.reduceAdd, Nat.reduceSub, Nat.reduceMul, Nat.reduceEqDiff, reduceCtorEq, ↓reduceIte, Int.reduceEq, Int.reduceLT, Int.reduceLE, Int.reduceNe, Int.reduceAdd, Int.reduceSub, Int.reduceMul, Int.reduceToNat, Nat.reduceShiftRight, Nat.reduceAnd, Nat.reduceBNe]
    refine callF (nan_pc y) ⟨rfl, trivial⟩ rfl rfl ?_
    simp -implicitDefEqProofs only [e1, push_cast, Nat.reduceBEq, Nat.reduceLT, Nat.reduceLeDiff, Nat.reduceAdd, Nat.reduceSub, Nat.reduceMul, Nat.reduceEqDiff, reduceCtorEq, ↓reduceIte, Int.reduceEq, Int.reduceLT, Int.reduceLE, Int.reduceNe, Int.reduceAdd, Int.reduceSub, Int.reduceMul, Int.reduceToNat, Nat.reduceShiftRight, Nat.reduceAnd, Nat.reduceBNe]
    exact finC rfl rfl
  · have e1 : decide (x < y) = false := decide_eq_false h1
    rw [if_neg h1]
    by_cases h2 : y < x
    · have e2 : decide (y < x) = true := decide_eq_true h2
      rw [if_pos h2]
      simp -implicitDefEqProofs only [c52, push_cast, Nat.reduceBEq, Nat.reduceLT, Nat.reduceLeDiff, Nat.reduceAdd, Nat.reduceSub, Nat.reduceMul, Nat.reduceEqDiff, reduceCtorEq, ↓reduceIte, Int.reduceEq, Int.reduceLT, Int.reduceLE, Int.reduceNe, Int.reduceAdd, Int.reduceSub, Int.reduceMul, Int.reduceToNat, Nat.reduceShiftRight, Nat.reduceAnd, Nat.reduceBNe]
      refine callF (nan_pc x) ⟨rfl, trivial⟩ rfl rfl ?_
      simp -implicitDefEqProofs only [push_cast, Nat.reduceBEq, Nat.reduceLT, Nat.reduceLeDiff, Nat.reduceAdd, Nat.reduceSub, Nat.reduceMul, Nat.reduceEqDiff, reduceCtorEq, ↓reduceIte, Int.reduceEq, Int.reduceLT, Int.reduceLE, Int.reduceNe, Int.reduceAdd, Int.reduceSub, Int.reduceMul, Int.reduceToNat, Nat.reduceShiftRight, Nat.reduceAnd, Nat.reduceBNe]
      refine callF (nan_pc y) ⟨rfl, trivial⟩ rfl rfl ?_
      simp -implicitDefEqProofs only [e1, e2, push_cast, Nat.reduceBEq, Nat.reduceLT, Nat.reduceLeDiff, Nat.reduceAdd, Nat.reduceSub, Nat.reduceMul, Nat.reduceEqDiff, reduceCtorEq, ↓reduceIte, Int.reduceEq, Int.reduceLT, Int.reduceLE, Int.reduceNe, Int.reduceAdd, Int.reduceSub, Int.reduceMul, Int.reduceToNat, Nat.reduceShiftRight, Nat.reduceAnd, Nat.reduceBNe]
      exact finC rfl rfl
    · have e2 : decide (y < x) = false := decide_eq_false h2
      rw [if_neg h2]
      simp -implicitDefEqProofs only [c52, push_cast, Nat.reduceBEq, Nat.reduceLT, Nat.reduceLeDiff, Nat.reduceAdd, Nat.reduceSub, Nat.reduceMul, Nat.reduceEqDiff, reduceCtorEq, ↓reduceIte, Int.reduceEq, Int.reduceLT, Int.reduceLE, Int.reduceNe, Int.reduceAdd, Int.reduceSub, Int.reduceMul, Int.reduceToNat, Nat.reduceShiftRight, Nat.reduceAnd, Nat.reduceBNe]
      refine callF (nan_pc x) ⟨rfl, trivial⟩ rfl rfl ?_
      simp -implicitDefEqProofs only [push_cast, Nat.reduceBEq, Nat.reduceLT, Nat.reduceLeDiff, Nat.reduceAdd, Nat.reduceSub, Nat.reduceMul, Nat.reduceEqDiff, reduceCtorEq, ↓reduceIte, Int.reduceEq, Int.reduceLT, Int.reduceLE, Int.reduceNe, Int.reduceAdd, Int.reduceSub, Int.reduceMul, Int.reduceToNat, Nat.reduceShiftRight, Nat.reduceAnd, Nat.reduceBNe]
      refine callF (nan_pc y) ⟨rfl, trivial⟩ rfl rfl ?_
      simp -implicitDefEqProofs only [e1, e2, push_cast, Nat.reduceBEq, Nat.reduceLT, Nat.reduceLeDiff, Nat.reduceAdd, Nat.reduceSub, Nat.reduceMul, Nat.reduceEqDiff, reduceCtorEq, ↓reduceIte, Int.reduceEq, Int.reduceLT, Int.reduceLE, Int.reduceNe, Int.reduceAdd, Int.reduceSub, Int.reduceMul, Int.reduceToNat, Nat.reduceShiftRight, Nat.reduceAnd, Nat.reduceBNe]
      exact finC rfl rfl
theorem drop_cons {α : Type} {l : List α} {k : Nat} {x : α} {r : List α} (d : α) (h : l.drop k = x :: r) : k < l.length ∧ l.getD k d = x ∧ l.drop (k + 1) = r := by
  have hl : k < l.length := by
    rcases Nat.lt_or_ge k l.length with h1 | h1
    · exact h1
    · rw [List.drop_of_length_le h1] at h; cases h
  refine ⟨hl, ?_, ?_⟩
  · rw [List.drop_eq_getElem_cons hl] at h
    simp only [List.cons.injEq] at h
    simp [List.getD, hl, h.1]
  · rw [List.drop_eq_getElem_cons hl] at h
    simp only [List.cons.injEq] at h
    exact h.2
theorem less_lists (a b : List Int) (hl : a.length ≤ 100000) (h : lexI a b) : PC Tryd.prog 37 [IL a, IL b] (I (-1)) := by
  refine pc_fn hmix h37 rfl ?_
  simp -implicitDefEqProofs only [c37, push_cast, Nat.reduceBEq, Nat.reduceLT, Nat.reduceLeDiff, Nat.reduceAdd, Nat.reduceSub, Nat.reduceMul, Nat.reduceEqDiff, reduceCtorEq, ↓reduceIte, Int.reduceEq, Int.reduceLT, Int.reduceLE, Int.reduceNe, Int.reduceAdd, Int.reduceSub, Int.reduceMul, Int.reduceToNat, Nat.reduceShiftRight, Nat.reduceAnd, Nat.reduceBNe]
  refine loop_w (α := Nat) (fun k => ⟨[(11, I k), (10, I a.length), (9, IL a), (1, IL b), (0, IL a)], [], []⟩) (fun k => lexI (a.drop k) (b.drop k)) (fun k => a.length - k) 0 (wk_cut [11, 10, 9, 1, 0] 0 rfl ⟨rfl, rfl, rfl⟩ rfl) h ?_
  intro k hk
  cases ha : a.drop k with
  | nil => rw [ha] at hk; cases hb : b.drop k <;> rw [hb] at hk <;> exact hk.elim
  | cons x r =>
    cases hb : b.drop k with
    | nil => rw [ha, hb] at hk; exact hk.elim
    | cons y s =>
      rw [ha, hb] at hk
      obtain ⟨a1, a2, a3⟩ := drop_cons 0 ha
      obtain ⟨b1, b2, b3⟩ := drop_cons 0 hb
      have c1 : decide ((k : Int) < (a.length : Int)) = true := decide_eq_true (by omega)
      have c2 : decide ((b.length : Int) ≤ (k : Int)) = false := decide_eq_false (by omega)
      have hc := cmpi_pc x y
      rcases hk with hk | ⟨rfl, hk⟩
      · rw [if_pos hk] at hc
        simp -implicitDefEqProofs only [c37L0, c1, c2, a2, b2, push_cast, Nat.reduceBEq, Nat.reduceLT, Nat.reduceLeDiff, Nat.reduceAdd, Nat.reduceSub, Nat.reduceMul, Nat.reduceEqDiff, reduceCtorEq, ↓reduceIte, Int.reduceEq, Int.reduceLT, Int.reduceLE, Int.reduceNe, Int.reduceAdd, Int.reduceSub, Int.reduceMul, Int.reduceToNat, Nat.reduceShiftRight, Nat.reduceAnd, Nat.reduceBNe]
        refine ⟨⟨by omega, by omega⟩, ⟨by omega, by omega⟩, ?_⟩
        refine callF hc ⟨rfl, rfl, trivial⟩ rfl rfl ?_
        simp -implicitDefEqProofs only [push_cast, Nat.reduceBEq, Nat.reduceLT, Nat.reduceLeDiff, Nat.reduceAdd, Nat.reduceSub, Nat.reduceMul, Nat.reduceEqDiff, reduceCtorEq, ↓reduceIte, Int.reduceEq, Int.reduceLT, Int.reduceLE, Int.reduceNe, Int.reduceAdd, Int.reduceSub, Int.reduceMul, Int.reduceToNat, Nat.reduceShiftRight, Nat.reduceAnd, Nat.reduceBNe]
        exact finC rfl rfl
      · rw [if_neg (Int.lt_irrefl x), if_neg (Int.lt_irrefl x)] at hc
        simp -implicitDefEqProofs only [c37L0, c1, c2, a2, b2, push_cast, Nat.reduceBEq, Nat.reduceLT, Nat.reduceLeDiff, Nat.reduceAdd, Nat.reduceSub, Nat.reduceMul, Nat.reduceEqDiff, reduceCtorEq, ↓reduceIte, Int.reduceEq, Int.reduceLT, Int.reduceLE, Int.reduceNe, Int.reduceAdd, Int.reduceSub, Int.reduceMul, Int.reduceToNat, Nat.reduceShiftRight, Nat.reduceAnd, Nat.reduceBNe]
        refine ⟨⟨by omega, by omega⟩, ⟨by omega, by omega⟩, ?_⟩
        refine callF hc ⟨rfl, rfl, trivial⟩ rfl rfl ?_
        simp -implicitDefEqProofs only [push_cast, Nat.reduceBEq, Nat.reduceLT, Nat.reduceLeDiff, Nat.reduceAdd, Nat.reduceSub, Nat.reduceMul, Nat.reduceEqDiff, reduceCtorEq, ↓reduceIte, Int.reduceEq, Int.reduceLT, Int.reduceLE, Int.reduceNe, Int.reduceAdd, Int.reduceSub, Int.reduceMul, Int.reduceToNat, Nat.reduceShiftRight, Nat.reduceAnd, Nat.reduceBNe]
        refine ⟨by simp only [inR]; omega, k + 1, by rw [a3, b3]; exact hk, by omega, wk_c rfl ⟨rfl, rfl, rfl⟩ rfl⟩
end Go.Proofs.YtligakiolapkkaaDoor

namespace Go.Proofs.YtligakiolapkkaaDoor
open Go GoV
set_option maxHeartbeats 8000000
set_option maxRecDepth 10000
set_option linter.unusedVariables false
set_option linter.unusedSimpArgs false
theorem grow_vc (n : Nat) (h : 1 ≤ n ∧ n ≤ 1000) : VCalls Tryd.prog 53 [.nils, I n] [] (fun v fr => v = .slc 0 n 0 0 ∧ fr = [.seq (.int .i64) (List.replicate n 0) false]) := by
  have c1 : decide ((n : Int) < 0) = false := decide_eq_false (by omega)
  have c2 : decide ((0 : Int) < (n : Int)) = true := decide_eq_true (by omega)
  refine vcalls_fn hmix h53 rfl ?_
  simp -implicitDefEqProofs only [c53, c1, c2, appZI, Int.sub_zero, Int.sub_self, List.length_replicate, push_cast, Nat.reduceBEq, Nat.reduceLT, Nat.reduceLeDiff, Nat.reduceAdd, Nat.reduceSub, Nat.reduceMul, Nat.reduceEqDiff, reduceCtorEq, ↓reduceIte, Int.reduceEq, Int.reduceLT, Int.reduceLE, Int.reduceNe, Int.reduceAdd, Int.reduceSub, Int.reduceMul, Int.reduceToNat, Nat.reduceShiftRight, Nat.reduceAnd, Nat.reduceBNe]
  refine ⟨by simp only [inR]; omega, by simp only [inR]; omega, ⟨by omega, by simp only [two47]; omega, by simp only [two47]; omega⟩, by omega, ?_⟩
  exact fin1 1 rfl ⟨rfl, rfl⟩
theorem concat_22 (a b c d : Int) : PC Tryd.prog 38 [TT [[a, b], [c, d]]] (IL [a, b, c, d]) := by
  refine pc_fn hmix h38 rfl ?_
  simp -implicitDefEqProofs only [c38, push_cast, Nat.reduceBEq, Nat.reduceLT, Nat.reduceLeDiff, Nat.reduceAdd, Nat.reduceSub, Nat.reduceMul, Nat.reduceEqDiff, reduceCtorEq, ↓reduceIte, Int.reduceEq, Int.reduceLT, Int.reduceLE, Int.reduceNe, Int.reduceAdd, Int.reduceSub, Int.reduceMul, Int.reduceToNat, Nat.reduceShiftRight, Nat.reduceAnd, Nat.reduceBNe]
  repeat first
    | (refine LoopW.wk (wk_t [11, 10, 9, 3, 0] rfl) (LoopW.unroll ?_); simp -implicitDefEqProofs only [c38L0, List.getD_cons_zero, List.getD_cons_succ, Int.zero_add, push_cast, Nat.reduceBEq, Nat.reduceLT, Nat.reduceLeDiff, Nat.reduceAdd, Nat.reduceSub, Nat.reduceMul, Nat.reduceEqDiff, reduceCtorEq, ↓reduceIte, Int.reduceEq, Int.reduceLT, Int.reduceLE, Int.reduceNe, Int.reduceAdd, Int.reduceSub, Int.reduceMul, Int.reduceToNat, Nat.reduceShiftRight, Nat.reduceAnd, Nat.reduceBNe])
    | (refine ⟨by first | (simp only [inR]; omega) | (simp only [two47]; omega) | omega, ?_⟩)
  refine callA (grow_vc 4 (by omega)) ⟨⟨rfl, rfl⟩, rfl, trivial⟩ rfl ?_
  simp -implicitDefEqProofs only [shA, shAs, shB, shRowB, List.map_cons, List.map_nil, push_cast, Nat.reduceBEq, Nat.reduceLT, Nat.reduceLeDiff, Nat.reduceAdd, Nat.reduceSub, Nat.reduceMul, Nat.reduceEqDiff, reduceCtorEq, ↓reduceIte, Int.reduceEq, Int.reduceLT, Int.reduceLE, Int.reduceNe, Int.reduceAdd, Int.reduceSub, Int.reduceMul, Int.reduceToNat, Nat.reduceShiftRight, Nat.reduceAnd, Nat.reduceBNe]
  repeat first
    | (refine LoopW.wk (wk_t [27, 26, 25, 6] rfl) (LoopW.unroll ?_); simp -implicitDefEqProofs only [c38L1, List.getD_cons_zero, List.getD_cons_succ, Int.zero_add, push_cast, Nat.reduceBEq, Nat.reduceLT, Nat.reduceLeDiff, Nat.reduceAdd, Nat.reduceSub, Nat.reduceMul, Nat.reduceEqDiff, reduceCtorEq, ↓reduceIte, Int.reduceEq, Int.reduceLT, Int.reduceLE, Int.reduceNe, Int.reduceAdd, Int.reduceSub, Int.reduceMul, Int.reduceToNat, Nat.reduceShiftRight, Nat.reduceAnd, Nat.reduceBNe])
    | (refine ⟨by first | (simp only [inR]; omega) | (simp only [two47]; omega) | omega, ?_⟩)
  exact finR 1 rfl (fz_seq rfl rfl)
theorem concat_23 (a b c d e f : Int) : PC Tryd.prog 38 [TT [[a, b, c], [d, e, f]]] (IL [a, b, c, d, e, f]) := by
  refine pc_fn hmix h38 rfl ?_
  simp -implicitDefEqProofs only [c38, push_cast, Nat.reduceBEq, Nat.reduceLT, Nat.reduceLeDiff, Nat.reduceAdd, Nat.reduceSub, Nat.reduceMul, Nat.reduceEqDiff, reduceCtorEq, ↓reduceIte, Int.reduceEq, Int.reduceLT, Int.reduceLE, Int.reduceNe, Int.reduceAdd, Int.reduceSub, Int.reduceMul, Int.reduceToNat, Nat.reduceShiftRight, Nat.reduceAnd, Nat.reduceBNe]
  repeat first
    | (refine LoopW.wk (wk_t [11, 10, 9, 3, 0] rfl) (LoopW.unroll ?_); simp -implicitDefEqProofs only [c38L0, List.getD_cons_zero, List.getD_cons_succ, Int.zero_add, push_cast, Nat.reduceBEq, Nat.reduceLT, Nat.reduceLeDiff, Nat.reduceAdd, Nat.reduceSub, Nat.reduceMul, Nat.reduceEqDiff, reduceCtorEq, ↓reduceIte, Int.reduceEq, Int.reduceLT, Int.reduceLE, Int.reduceNe, Int.reduceAdd, Int.reduceSub, Int.reduceMul, Int.reduceToNat, Nat.reduceShiftRight, Nat.reduceAnd, Nat.reduceBNe])
    | (refine ⟨by first | (simp only [inR]; omega) | (simp only [two47]; omega) | omega, ?_⟩)
  refine callA (grow_vc 6 (by omega)) ⟨⟨rfl, rfl⟩, rfl, trivial⟩ rfl ?_
  simp -implicitDefEqProofs only [shA, shAs, shB, shRowB, List.map_cons, List.map_nil, push_cast, Nat.reduceBEq, Nat.reduceLT, Nat.reduceLeDiff, Nat.reduceAdd, Nat.reduceSub, Nat.reduceMul, Nat.reduceEqDiff, reduceCtorEq, ↓reduceIte, Int.reduceEq, Int.reduceLT, Int.reduceLE, Int.reduceNe, Int.reduceAdd, Int.reduceSub, Int.reduceMul, Int.reduceToNat, Nat.reduceShiftRight, Nat.reduceAnd, Nat.reduceBNe]
  repeat first
    | (refine LoopW.wk (wk_t [27, 26, 25, 6] rfl) (LoopW.unroll ?_); simp -implicitDefEqProofs only [c38L1, List.getD_cons_zero, List.getD_cons_succ, Int.zero_add, push_cast, Nat.reduceBEq, Nat.reduceLT, Nat.reduceLeDiff, Nat.reduceAdd, Nat.reduceSub, Nat.reduceMul, Nat.reduceEqDiff, reduceCtorEq, ↓reduceIte, Int.reduceEq, Int.reduceLT, Int.reduceLE, Int.reduceNe, Int.reduceAdd, Int.reduceSub, Int.reduceMul, Int.reduceToNat, Nat.reduceShiftRight, Nat.reduceAnd, Nat.reduceBNe])
    | (refine ⟨by first | (simp only [inR]; omega) | (simp only [two47]; omega) | omega, ?_⟩)
  exact finR 1 rfl (fz_seq rfl rfl)
theorem concat_32 (a b c d e f : Int) : PC Tryd.prog 38 [TT [[a, b], [c, d], [e, f]]] (IL [a, b, c, d, e, f]) := by
  refine pc_fn hmix h38 rfl ?_
  simp -implicitDefEqProofs only [c38, push_cast, Nat.reduceBEq, Nat.reduceLT, Nat.reduceLeDiff, Nat.reduceAdd, Nat.reduceSub, Nat.reduceMul, Nat.reduceEqDiff, reduceCtorEq, ↓reduceIte, Int.reduceEq, Int.reduceLT, Int.reduceLE, Int.reduceNe, Int.reduceAdd, Int.reduceSub, Int.reduceMul, Int.reduceToNat, Nat.reduceShiftRight, Nat.reduceAnd, Nat.reduceBNe]
  repeat first
    | (refine LoopW.wk (wk_t [11, 10, 9, 3, 0] rfl) (LoopW.unroll ?_); simp -implicitDefEqProofs only [c38L0, List.getD_cons_zero, List.getD_cons_succ, Int.zero_add, push_cast, Nat.reduceBEq, Nat.reduceLT, Nat.reduceLeDiff, Nat.reduceAdd, Nat.reduceSub, Nat.reduceMul, Nat.reduceEqDiff, reduceCtorEq, ↓reduceIte, Int.reduceEq, Int.reduceLT, Int.reduceLE, Int.reduceNe, Int.reduceAdd, Int.reduceSub, Int.reduceMul, Int.reduceToNat, Nat.reduceShiftRight, Nat.reduceAnd, Nat.reduceBNe])
    | (refine ⟨by first | (simp only [inR]; omega) | (simp only [two47]; omega) | omega, ?_⟩)
  refine callA (grow_vc 6 (by omega)) ⟨⟨rfl, rfl⟩, rfl, trivial⟩ rfl ?_
  simp -implicitDefEqProofs only [shA, shAs, shB, shRowB, List.map_cons, List.map_nil, push_cast, Nat.reduceBEq, Nat.reduceLT, Nat.reduceLeDiff, Nat.reduceAdd, Nat.reduceSub, Nat.reduceMul, Nat.reduceEqDiff, reduceCtorEq, ↓reduceIte, Int.reduceEq, Int.reduceLT, Int.reduceLE, Int.reduceNe, Int.reduceAdd, Int.reduceSub, Int.reduceMul, Int.reduceToNat, Nat.reduceShiftRight, Nat.reduceAnd, Nat.reduceBNe]
  repeat first
    | (refine LoopW.wk (wk_t [27, 26, 25, 6] rfl) (LoopW.unroll ?_); simp -implicitDefEqProofs only [c38L1, List.getD_cons_zero, List.getD_cons_succ, Int.zero_add, push_cast, Nat.reduceBEq, Nat.reduceLT, Nat.reduceLeDiff, Nat.reduceAdd, Nat.reduceSub, Nat.reduceMul, Nat.reduceEqDiff, reduceCtorEq, ↓reduceIte, Int.reduceEq, Int.reduceLT, Int.reduceLE, Int.reduceNe, Int.reduceAdd, Int.reduceSub, Int.reduceMul, Int.reduceToNat, Nat.reduceShiftRight, Nat.reduceAnd, Nat.reduceBNe])
    | (refine ⟨by first | (simp only [inR]; omega) | (simp only [two47]; omega) | omega, ?_⟩)
  exact finR 1 rfl (fz_seq rfl rfl)
theorem concat_33 (a b c d e f g i j : Int) : PC Tryd.prog 38 [TT [[a, b, c], [d, e, f], [g, i, j]]] (IL [a, b, c, d, e, f, g, i, j]) := by
  refine pc_fn hmix h38 rfl ?_
  simp -implicitDefEqProofs only [c38, push_cast, Nat.reduceBEq, Nat.reduceLT, Nat.reduceLeDiff, Nat.reduceAdd, Nat.reduceSub, Nat.reduceMul, Nat.reduceEqDiff, reduceCtorEq, ↓reduceIte, Int.reduceEq, Int.reduceLT, Int.reduceLE, Int.reduceNe, Int.reduceAdd, Int.reduceSub, Int.reduceMul, Int.reduceToNat, Nat.reduceShiftRight, Nat.reduceAnd, Nat.reduceBNe]
  repeat first
    | (refine LoopW.wk (wk_t [11, 10, 9, 3, 0] rfl) (LoopW.unroll ?_); simp -implicitDefEqProofs only [c38L0, List.getD_cons_zero, List.getD_cons_succ, Int.zero_add, push_cast, Nat.reduceBEq, Nat.reduceLT, Nat.reduceLeDiff, Nat.reduceAdd, Nat.reduceSub, Nat.reduceMul, Nat.reduceEqDiff, reduceCtorEq, ↓reduceIte, Int.reduceEq, Int.reduceLT, Int.reduceLE, Int.reduceNe, Int.reduceAdd, Int.reduceSub, Int.reduceMul, Int.reduceToNat, Nat.reduceShiftRight, Nat.reduceAnd, Nat.reduceBNe])
    | (refine ⟨by first | (simp only [inR]; omega) | (simp only [two47]; omega) | omega, ?_⟩)
  refine callA (grow_vc 9 (by omega)) ⟨⟨rfl, rfl⟩, rfl, trivial⟩ rfl ?_
  simp -implicitDefEqProofs only [shA, shAs, shB, shRowB, List.map_cons, List.map_nil, push_cast, Nat.reduceBEq, Nat.reduceLT, Nat.reduceLeDiff, Nat.reduceAdd, Nat.reduceSub, Nat.reduceMul, Nat.reduceEqDiff, reduceCtorEq, ↓reduceIte, Int.reduceEq, Int.reduceLT, Int.reduceLE, Int.reduceNe, Int.reduceAdd, Int.reduceSub, Int.reduceMul, Int.reduceToNat, Nat.reduceShiftRight, Nat.reduceAnd, Nat.reduceBNe]
  repeat first
    | (refine LoopW.wk (wk_t [27, 26, 25, 6] rfl) (LoopW.unroll ?_); simp -implicitDefEqProofs only [c38L1, List.getD_cons_zero, List.getD_cons_succ, Int.zero_add, push_cast, Nat.reduceBEq, Nat.reduceLT, Nat.reduceLeDiff, Nat.reduceAdd, Nat.reduceSub, Nat.reduceMul, Nat.reduceEqDiff, reduceCtorEq, ↓reduceIte, Int.reduceEq, Int.reduceLT, Int.reduceLE, Int.reduceNe, Int.reduceAdd, Int.reduceSub, Int.reduceMul, Int.reduceToNat, Nat.reduceShiftRight, Nat.reduceAnd, Nat.reduceBNe])
    | (refine ⟨by first | (simp only [inR]; omega) | (simp only [two47]; omega) | omega, ?_⟩)
  exact finR 1 rfl (fz_seq rfl rfl)
theorem concat_pc {t : List (List Int)} (h : Tab t) : PC Tryd.prog 38 [TT t] (IL t.flatten) :=
  shapes (P := fun t => PC Tryd.prog 38 [TT t] (IL t.flatten)) h (fun a b c d _ _ => concat_22 a b c d) (fun a b c d e f _ _ => concat_23 a b c d e f) (fun a b c d e f _ _ => concat_32 a b c d e f) (fun a b c d e f g i j _ _ => concat_33 a b c d e f g i j)
theorem take_ne {α : Type} {a b : List α} {k : Nat} (d : α) (h1 : k < a.length) (h2 : k < b.length) (h : a.getD k d ≠ b.getD k d) : a ≠ b := by
  intro e; subst e; exact h rfl
theorem same2_pc (x t : List (List Int)) (n m : Nat) (hx : x.length = n) (ht : t.length = n) (hn : n ≤ 1000) (hm : m ≤ 1000) (hxr : ∀ r ∈ x, r.length = m) (htr : ∀ r ∈ t, r.length = m) : PC Tryd.prog 26 [TT x, TT t] (B (decide (x = t))) := by
  obtain ⟨b, hb⟩ : ∃ b, decide (x = t) = b := ⟨_, rfl⟩
  rw [hb]
  have hl : decide ((x.length : Int) = (t.length : Int)) = true := decide_eq_true (by omega)
  have hfalse : x ≠ t → b = false := fun h => by rw [← hb]; exact decide_eq_false h
  refine pc_fn hmix h26 rfl ?_
  simp -implicitDefEqProofs only [c26, hl, push_cast, Nat.reduceBEq, Nat.reduceLT, Nat.reduceLeDiff, Nat.reduceAdd, Nat.reduceSub, Nat.reduceMul, Nat.reduceEqDiff, reduceCtorEq, ↓reduceIte, Int.reduceEq, Int.reduceLT, Int.reduceLE, Int.reduceNe, Int.reduceAdd, Int.reduceSub, Int.reduceMul, Int.reduceToNat, Nat.reduceShiftRight, Nat.reduceAnd, Nat.reduceBNe]
  refine loop_w (α := Nat) (fun k => ⟨[(5, I k), (1, TT t), (0, TT x)], [], []⟩) (fun k => k ≤ n ∧ x.take k = t.take k) (fun k => n - k) 0 (wk_cut [5, 1, 0] 0 rfl ⟨rfl, rfl, rfl⟩ rfl) ⟨by omega, rfl⟩ ?_
  rintro k ⟨hk, hpre⟩
  by_cases hkn : k < n
  · have c1 : decide ((k : Int) < (x.length : Int)) = true := decide_eq_true (by omega)
    have r1 := hxr _ (getD_mem (k := k) (d := []) (by omega : k < x.length))
    have r2 := htr _ (getD_mem (k := k) (d := []) (by omega : k < t.length))
    obtain ⟨r, hr⟩ : ∃ r, x.getD k [] = r := ⟨_, rfl⟩
    obtain ⟨s, hs⟩ : ∃ r, t.getD k [] = r := ⟨_, rfl⟩
    rw [hr] at r1
    rw [hs] at r2
    have c2 : decide ((r.length : Int) = (s.length : Int)) = true := decide_eq_true (by omega)
    simp -implicitDefEqProofs only [c26L1, c1, hr, hs, c2, push_cast, Nat.reduceBEq, Nat.reduceLT, Nat.reduceLeDiff, Nat.reduceAdd, Nat.reduceSub, Nat.reduceMul, Nat.reduceEqDiff, reduceCtorEq, ↓reduceIte, Int.reduceEq, Int.reduceLT, Int.reduceLE, Int.reduceNe, Int.reduceAdd, Int.reduceSub, Int.reduceMul, Int.reduceToNat, Nat.reduceShiftRight, Nat.reduceAnd, Nat.reduceBNe]
    refine ⟨⟨by omega, by omega⟩, ⟨by omega, by omega⟩, ?_⟩
    refine loop_w (α := Nat) (fun j => ⟨[(6, I j), (5, I k), (1, TT t), (0, TT x)], [], []⟩) (fun j => j ≤ m ∧ r.take j = s.take j) (fun j => m - j) 0 (wk_cut [6, 5, 1, 0] 0 rfl ⟨rfl, rfl, rfl⟩ rfl) ⟨by omega, rfl⟩ ?_
    rintro j ⟨hj, hpr⟩
    by_cases hjm : j < m
    · have c3 : decide ((j : Int) < (r.length : Int)) = true := decide_eq_true (by omega)
      by_cases he : r.getD j 0 = s.getD j 0
      · have c4 : decide (r.getD j 0 = s.getD j 0) = true := decide_eq_true he
        simp -implicitDefEqProofs only [c26L0, hr, hs, c3, c4, push_cast, Nat.reduceBEq, Nat.reduceLT, Nat.reduceLeDiff, Nat.reduceAdd, Nat.reduceSub, Nat.reduceMul, Nat.reduceEqDiff, reduceCtorEq, ↓reduceIte, Int.reduceEq, Int.reduceLT, Int.reduceLE, Int.reduceNe, Int.reduceAdd, Int.reduceSub, Int.reduceMul, Int.reduceToNat, Nat.reduceShiftRight, Nat.reduceAnd, Nat.reduceBNe]
        refine ⟨⟨by omega, by omega⟩, ⟨by omega, by omega⟩, ⟨by omega, by omega⟩, ⟨by omega, by omega⟩, ⟨by omega, by omega⟩, by simp only [inR]; omega, j + 1, ⟨by omega, ?_⟩, by omega, wk_c rfl ⟨rfl, rfl, rfl⟩ rfl⟩
        rw [take_at 0 (by omega : j < r.length), take_at 0 (by omega : j < s.length), hpr, he]
      · have c4 : decide (r.getD j 0 = s.getD j 0) = false := decide_eq_false he
        have hbf := hfalse (fun e => by subst e; exact he (by rw [← hr, ← hs]))
        subst hbf
        simp -implicitDefEqProofs only [c26L0, hr, hs, c3, c4, push_cast, Nat.reduceBEq, Nat.reduceLT, Nat.reduceLeDiff, Nat.reduceAdd, Nat.reduceSub, Nat.reduceMul, Nat.reduceEqDiff, reduceCtorEq, ↓reduceIte, Int.reduceEq, Int.reduceLT, Int.reduceLE, Int.reduceNe, Int.reduceAdd, Int.reduceSub, Int.reduceMul, Int.reduceToNat, Nat.reduceShiftRight, Nat.reduceAnd, Nat.reduceBNe]
        exact ⟨⟨by omega, by omega⟩, ⟨by omega, by omega⟩, ⟨by omega, by omega⟩, ⟨by omega, by omega⟩, ⟨by omega, by omega⟩, finC rfl rfl⟩
    · have c3 : decide ((j : Int) < (r.length : Int)) = false := decide_eq_false (by omega)
      simp -implicitDefEqProofs only [c26L0, hr, hs, c3, push_cast, Nat.reduceBEq, Nat.reduceLT, Nat.reduceLeDiff, Nat.reduceAdd, Nat.reduceSub, Nat.reduceMul, Nat.reduceEqDiff, reduceCtorEq, ↓reduceIte, Int.reduceEq, Int.reduceLT, Int.reduceLE, Int.reduceNe, Int.reduceAdd, Int.reduceSub, Int.reduceMul, Int.reduceToNat, Nat.reduceShiftRight, Nat.reduceAnd, Nat.reduceBNe]
      refine ⟨⟨by omega, by omega⟩, by simp only [inR]; omega, k + 1, ⟨by omega, ?_⟩, by omega, wk_c rfl ⟨rfl, rfl, rfl⟩ rfl⟩
      have hrs : r = s := by
        rw [List.take_of_length_le (by omega), List.take_of_length_le (by omega)] at hpr
        exact hpr
      rw [take_at [] (by omega : k < x.length), take_at [] (by omega : k < t.length), hpre, hr, hs, hrs]
  · have c1 : decide ((k : Int) < (x.length : Int)) = false := decide_eq_false (by omega)
    have : k = n := by omega
    subst this
    have hxt : x = t := by
      rw [List.take_of_length_le (by omega), List.take_of_length_le (by omega)] at hpre
      exact hpre
    have hbt : b = true := by rw [← hb]; exact decide_eq_true hxt
    subst hbt
    simp -implicitDefEqProofs only [c26L1, c1, push_cast, Nat.reduceBEq, Nat.reduceLT, Nat.reduceLeDiff, Nat.reduceAdd, Nat.reduceSub, Nat.reduceMul, Nat.reduceEqDiff, reduceCtorEq, ↓reduceIte, Int.reduceEq, Int.reduceLT, Int.reduceLE, Int.reduceNe, Int.reduceAdd, Int.reduceSub, Int.reduceMul, Int.reduceToNat, Nat.reduceShiftRight, Nat.reduceAnd, Nat.reduceBNe]
    exact finC rfl rfl
end Go.Proofs.YtligakiolapkkaaDoor

namespace Go.Proofs.YtligakiolapkkaaDoor
open Go GoV
set_option maxHeartbeats 8000000
set_option maxRecDepth 10000
set_option linter.unusedVariables false
set_option linter.unusedSimpArgs false
theorem pw_at {α : Type} {R : α → α → Prop} : ∀ {l : List α} (d : α) {i j : Nat}, l.Pairwise R → i < j → j < l.length → R (l.getD i d) (l.getD j d)
  | [], _, _, _, _, _, h => by simp at h
  | a :: l, d, 0, j + 1, hp, _, hj => by
    rw [List.pairwise_cons] at hp
    exact hp.1 _ (getD_mem (by simpa using hj))
  | a :: l, d, i + 1, j + 1, hp, hij, hj => by
    rw [List.pairwise_cons] at hp
    exact pw_at (l := l) (i := i) (j := j) d hp.2 (by omega) (by simpa using hj)
  | a :: l, d, i, 0, _, h, _ => by omega
theorem law9_pc {a b m n0 n1 n2 n3 n4 n5 n6 n7 n8 : Int} (hr : r8 a ∧ r8 b ∧ r8 m ∧ r8 n0 ∧ r8 n1 ∧ r8 n2 ∧ r8 n3 ∧ r8 n4 ∧ r8 n5 ∧ r8 n6 ∧ r8 n7 ∧ r8 n8) :
    PC Tryd.prog 9 [DD a b [n0, n1, n2, n3, n4, n5, n6, n7, n8] m] (B true) := by
  obtain ⟨t, h, hd⟩ := draft_pc hr
  have hto : t.length ≤ 1000 ∧ ∀ r ∈ t, r.length ≤ 1000 := ⟨by have := h.len; omega, fun r hr => by have := (h.row r hr).1; have := h.wid; omega⟩
  have kmar := margins_pc t hto.1 hto.2
  have kall := All_pc t hto.1 hto.2
  have ktot := total_pc t hto.1 hto.2
  rw [tab_valid h] at kmar kall ktot
  have hpw := allL_lex h
  have hself := allL_self h
  have hsum := ways_total h
  have hbig := ways_le_total h
  obtain ⟨hsm, _⟩ := allL_small h
  have hprops := fun x (hx : x ∈ allL t) => allL_props h hx
  obtain ⟨l, hl⟩ : ∃ l, allL t = l := ⟨_, rfl⟩
  obtain ⟨tot, htt⟩ : ∃ n, totalN t = n := ⟨_, rfl⟩
  obtain ⟨rs, hrs⟩ : ∃ n, rowsL t = n := ⟨_, rfl⟩
  obtain ⟨cs, hcs⟩ : ∃ n, colsL t = n := ⟨_, rfl⟩
  have hrl : rs.length ≤ 1000 := by rw [← hrs, rowsL, List.length_map]; exact hto.1
  have hcl : cs.length ≤ 1000 := by have h1 := (tab_rows h).2.2.2.2.2; have h2 := h.wid; rw [hcs] at h1; omega
  rw [hl] at hpw hself hsum hbig hsm hprops kall
  rw [htt] at ktot hsum
  rw [hrs, hcs] at kmar hprops
  obtain ⟨n, hn⟩ : ∃ n, t.length = n := ⟨_, rfl⟩
  obtain ⟨w, hw⟩ : ∃ n, wid t = n := ⟨_, rfl⟩
  have hfin : (l.any fun y => decide (y = t)) = true := List.any_eq_true.2 ⟨t, hself, by simp⟩
  refine pc_fn hmix h9 rfl ?_
  simp -implicitDefEqProofs only [c9, mapN, List.headD_cons, List.tail_cons, push_cast, Nat.reduceBEq, Nat.reduceLT, Nat.reduceLeDiff, Nat.reduceAdd, Nat.reduceSub, Nat.reduceMul, Nat.reduceEqDiff, reduceCtorEq, ↓reduceIte, Int.reduceEq, Int.reduceLT, Int.reduceLE, Int.reduceNe, Int.reduceAdd, Int.reduceSub, Int.reduceMul, Int.reduceToNat, Nat.reduceShiftRight, Nat.reduceAnd, Nat.reduceBNe]
  refine callF works_pc trivial rfl rfl ?_
  simp -implicitDefEqProofs only [push_cast, Nat.reduceBEq, Nat.reduceLT, Nat.reduceLeDiff, Nat.reduceAdd, Nat.reduceSub, Nat.reduceMul, Nat.reduceEqDiff, reduceCtorEq, ↓reduceIte, Int.reduceEq, Int.reduceLT, Int.reduceLE, Int.reduceNe, Int.reduceAdd, Int.reduceSub, Int.reduceMul, Int.reduceToNat, Nat.reduceShiftRight, Nat.reduceAnd, Nat.reduceBNe]
  refine callF hd ⟨⟨rfl, ⟨rfl, rfl⟩, ⟨rfl, rfl⟩, ⟨⟨rfl, rfl⟩, ⟨rfl, rfl⟩, ⟨rfl, rfl⟩, ⟨rfl, rfl⟩, ⟨rfl, rfl⟩, ⟨rfl, rfl⟩, ⟨rfl, rfl⟩, ⟨rfl, rfl⟩, ⟨rfl, rfl⟩, ⟨rfl, rfl⟩, trivial⟩, ⟨rfl, rfl⟩, rfl⟩, trivial⟩ rfl rfl ?_
  simp -implicitDefEqProofs only [push_cast, Nat.reduceBEq, Nat.reduceLT, Nat.reduceLeDiff, Nat.reduceAdd, Nat.reduceSub, Nat.reduceMul, Nat.reduceEqDiff, reduceCtorEq, ↓reduceIte, Int.reduceEq, Int.reduceLT, Int.reduceLE, Int.reduceNe, Int.reduceAdd, Int.reduceSub, Int.reduceMul, Int.reduceToNat, Nat.reduceShiftRight, Nat.reduceAnd, Nat.reduceBNe]
  refine callF kmar ⟨rfl, trivial⟩ rfl rfl ?_
  simp -implicitDefEqProofs only [push_cast, Nat.reduceBEq, Nat.reduceLT, Nat.reduceLeDiff, Nat.reduceAdd, Nat.reduceSub, Nat.reduceMul, Nat.reduceEqDiff, reduceCtorEq, ↓reduceIte, Int.reduceEq, Int.reduceLT, Int.reduceLE, Int.reduceNe, Int.reduceAdd, Int.reduceSub, Int.reduceMul, Int.reduceToNat, Nat.reduceShiftRight, Nat.reduceAnd, Nat.reduceBNe]
  refine callF kall ⟨rfl, trivial⟩ rfl rfl ?_
  simp -implicitDefEqProofs only [push_cast, Nat.reduceBEq, Nat.reduceLT, Nat.reduceLeDiff, Nat.reduceAdd, Nat.reduceSub, Nat.reduceMul, Nat.reduceEqDiff, reduceCtorEq, ↓reduceIte, Int.reduceEq, Int.reduceLT, Int.reduceLE, Int.reduceNe, Int.reduceAdd, Int.reduceSub, Int.reduceMul, Int.reduceToNat, Nat.reduceShiftRight, Nat.reduceAnd, Nat.reduceBNe]
  refine callF ktot ⟨rfl, trivial⟩ rfl rfl ?_
  simp -implicitDefEqProofs only [push_cast, Nat.reduceBEq, Nat.reduceLT, Nat.reduceLeDiff, Nat.reduceAdd, Nat.reduceSub, Nat.reduceMul, Nat.reduceEqDiff, reduceCtorEq, ↓reduceIte, Int.reduceEq, Int.reduceLT, Int.reduceLE, Int.reduceNe, Int.reduceAdd, Int.reduceSub, Int.reduceMul, Int.reduceToNat, Nat.reduceShiftRight, Nat.reduceAnd, Nat.reduceBNe]
  refine loop_w (α := Nat) (fun k => ⟨[(52, I k), (51, I l.length), (50, TTT l), (12, B ((l.take k).any fun y => decide (y = t))), (11, I (sumB waysN (l.take k) : Nat)), (9, I tot), (7, TTT l), (5, IL cs), (4, IL rs), (3, TT t)], [], []⟩) (fun k => k ≤ l.length) (fun k => l.length - k) 0 (wk_c rfl ⟨rfl, rfl, rfl⟩ rfl) (by omega) ?_
  intro k hk
  by_cases hkl : k < l.length
  · have c1 : decide ((k : Int) < (l.length : Int)) = true := decide_eq_true (by omega)
    obtain ⟨x, hx⟩ : ∃ x, l.getD k [] = x := ⟨_, rfl⟩
    have hxm : x ∈ l := by rw [← hx]; exact getD_mem hkl
    obtain ⟨p1, p2, p3, p4, p5⟩ := hprops x hxm
    have hxo : x.length ≤ 1000 ∧ ∀ r ∈ x, r.length ≤ 1000 := ⟨by have := p3.len; omega, fun r hr => by have := (p3.row r hr).1; have := p3.wid; omega⟩
    have xm := margins_pc x hxo.1 hxo.2
    have xw := ways_pc x hxo.1 hxo.2
    rw [tab_valid p3, p1, p2] at xm
    rw [tab_valid p3] at xw
    have hwp := ways_pos p3
    have hws := ways_small p3
    have hsame := same2_pc x t n w (by omega) hn (by have := h.len; omega) (by have := h.wid; omega) (fun r hr => by rw [(p3.row r hr).1]; omega) (fun r hr => by rw [(h.row r hr).1]; omega)
    have hstep : sumB waysN (l.take (k + 1)) = sumB waysN (l.take k) + waysN x := by
      rw [take_at [] hkl, sumB_app, hx]
      show _ + (waysN x + 0) = _
      rfl
    have hb2 := sumB_take_le (f := waysN) l (k + 1)
    have hany : ((l.take (k + 1)).any fun y => decide (y = t)) = (((l.take k).any fun y => decide (y = t)) || decide (x = t)) := by
      rw [take_at [] hkl, List.any_append, hx]
      simp
    obtain ⟨wv, hwe⟩ : ∃ wv, waysN x = wv := ⟨_, rfl⟩
    rw [hwe] at xw hwp hws hstep
    obtain ⟨s, hs⟩ : ∃ s, sumB waysN (l.take k) = s := ⟨_, rfl⟩
    rw [hs] at hstep ⊢
    have c2 : decide ((wv : Int) < 1) = false := decide_eq_false (by omega)
    obtain ⟨fb, hfb⟩ : ∃ fb, ((l.take k).any fun y => decide (y = t)) = fb := ⟨_, rfl⟩
    rw [hfb] at hany ⊢
    obtain ⟨eb, heb⟩ : ∃ eb, decide (x = t) = eb := ⟨_, rfl⟩
    rw [heb] at hany hsame
    have hseq1 := eqself_pc rs hrl
    have hseq2 := eqself_pc cs hcl
    have hs2 := sumB_take_le (f := waysN) l k
    rw [hs] at hs2
    by_cases hk0 : 0 < k
    · have c3 : decide ((0 : Int) < (k : Int)) = true := decide_eq_true (by omega)
      obtain ⟨y, hy⟩ : ∃ y, l.getD ((k : Int) - 1).toNat [] = y := ⟨_, rfl⟩
      have hyk : l.getD (k - 1) [] = y := by rw [← hy]; congr 1; omega
      have hym : y ∈ l := by rw [← hyk]; exact getD_mem (by omega)
      have hlt := pw_at (i := k - 1) (j := k) [] hpw (by omega) hkl
      rw [hyk, hx] at hlt
      have ky := concat_pc (hprops y hym).2.2.1
      have kx := concat_pc p3
      have hyl : y.flatten.length ≤ 100000 := by
        have hT := (hprops y hym).2.2.1
        have h1 := hT.len
        have key : ∀ u : List (List Int), (∀ r ∈ u, r.length ≤ 3) → u.flatten.length ≤ 3 * u.length := by
          intro u
          induction u with
          | nil => intro _; simp
          | cons r u ih =>
            intro hu
            rw [List.flatten_cons, List.length_append, List.length_cons]
            have := hu r (by simp)
            have := ih (fun q hq => hu q (by simp [hq]))
            omega
        have h2 := key y (fun r hr => by have := (hT.row r hr).1; have := hT.wid; omega)
        omega
      have kc := less_lists _ _ hyl hlt
      cases fb with
      | true =>
        simp -implicitDefEqProofs only [c9L0, c1, hx, c3, hy, push_cast, Nat.reduceBEq, Nat.reduceLT, Nat.reduceLeDiff, Nat.reduceAdd, Nat.reduceSub, Nat.reduceMul, Nat.reduceEqDiff, reduceCtorEq, ↓reduceIte, Int.reduceEq, Int.reduceLT, Int.reduceLE, Int.reduceNe, Int.reduceAdd, Int.reduceSub, Int.reduceMul, Int.reduceToNat, Nat.reduceShiftRight, Nat.reduceAnd, Nat.reduceBNe]
        refine ⟨⟨by omega, by omega⟩, ?_⟩
        refine callF xm ⟨rfl, trivial⟩ rfl rfl ?_
        simp -implicitDefEqProofs only [push_cast, Nat.reduceBEq, Nat.reduceLT, Nat.reduceLeDiff, Nat.reduceAdd, Nat.reduceSub, Nat.reduceMul, Nat.reduceEqDiff, reduceCtorEq, ↓reduceIte, Int.reduceEq, Int.reduceLT, Int.reduceLE, Int.reduceNe, Int.reduceAdd, Int.reduceSub, Int.reduceMul, Int.reduceToNat, Nat.reduceShiftRight, Nat.reduceAnd, Nat.reduceBNe]
        refine callF xw ⟨rfl, trivial⟩ rfl rfl ?_
        simp -implicitDefEqProofs only [c2, push_cast, Nat.reduceBEq, Nat.reduceLT, Nat.reduceLeDiff, Nat.reduceAdd, Nat.reduceSub, Nat.reduceMul, Nat.reduceEqDiff, reduceCtorEq, ↓reduceIte, Int.reduceEq, Int.reduceLT, Int.reduceLE, Int.reduceNe, Int.reduceAdd, Int.reduceSub, Int.reduceMul, Int.reduceToNat, Nat.reduceShiftRight, Nat.reduceAnd, Nat.reduceBNe]
        refine callF hseq1 ⟨rfl, rfl, trivial⟩ rfl rfl ?_
        simp -implicitDefEqProofs only [push_cast, Nat.reduceBEq, Nat.reduceLT, Nat.reduceLeDiff, Nat.reduceAdd, Nat.reduceSub, Nat.reduceMul, Nat.reduceEqDiff, reduceCtorEq, ↓reduceIte, Int.reduceEq, Int.reduceLT, Int.reduceLE, Int.reduceNe, Int.reduceAdd, Int.reduceSub, Int.reduceMul, Int.reduceToNat, Nat.reduceShiftRight, Nat.reduceAnd, Nat.reduceBNe]
        refine callF hseq2 ⟨rfl, rfl, trivial⟩ rfl rfl ?_
        simp -implicitDefEqProofs only [c3, hy, push_cast, Nat.reduceBEq, Nat.reduceLT, Nat.reduceLeDiff, Nat.reduceAdd, Nat.reduceSub, Nat.reduceMul, Nat.reduceEqDiff, reduceCtorEq, ↓reduceIte, Int.reduceEq, Int.reduceLT, Int.reduceLE, Int.reduceNe, Int.reduceAdd, Int.reduceSub, Int.reduceMul, Int.reduceToNat, Nat.reduceShiftRight, Nat.reduceAnd, Nat.reduceBNe]
        refine ⟨by simp only [inR]; omega, ⟨by omega, by omega⟩, ?_⟩
        refine callF ky ⟨rfl, trivial⟩ rfl rfl ?_
        simp -implicitDefEqProofs only [push_cast, Nat.reduceBEq, Nat.reduceLT, Nat.reduceLeDiff, Nat.reduceAdd, Nat.reduceSub, Nat.reduceMul, Nat.reduceEqDiff, reduceCtorEq, ↓reduceIte, Int.reduceEq, Int.reduceLT, Int.reduceLE, Int.reduceNe, Int.reduceAdd, Int.reduceSub, Int.reduceMul, Int.reduceToNat, Nat.reduceShiftRight, Nat.reduceAnd, Nat.reduceBNe]
        refine callF kx ⟨rfl, trivial⟩ rfl rfl ?_
        simp -implicitDefEqProofs only [push_cast, Nat.reduceBEq, Nat.reduceLT, Nat.reduceLeDiff, Nat.reduceAdd, Nat.reduceSub, Nat.reduceMul, Nat.reduceEqDiff, reduceCtorEq, ↓reduceIte, Int.reduceEq, Int.reduceLT, Int.reduceLE, Int.reduceNe, Int.reduceAdd, Int.reduceSub, Int.reduceMul, Int.reduceToNat, Nat.reduceShiftRight, Nat.reduceAnd, Nat.reduceBNe]
        refine callF kc ⟨rfl, rfl, trivial⟩ rfl rfl ?_
        simp -implicitDefEqProofs only [push_cast, Nat.reduceBEq, Nat.reduceLT, Nat.reduceLeDiff, Nat.reduceAdd, Nat.reduceSub, Nat.reduceMul, Nat.reduceEqDiff, reduceCtorEq, ↓reduceIte, Int.reduceEq, Int.reduceLT, Int.reduceLE, Int.reduceNe, Int.reduceAdd, Int.reduceSub, Int.reduceMul, Int.reduceToNat, Nat.reduceShiftRight, Nat.reduceAnd, Nat.reduceBNe]
        refine ⟨by simp only [inR]; omega, by simp only [inR]; omega, k + 1, by omega, by omega, ?_⟩
        rw [hany, hstep]
        exact wk_c rfl ⟨rfl, rfl, rfl⟩ rfl
      | false =>
        simp -implicitDefEqProofs only [c9L0, c1, hx, c3, hy, push_cast, Nat.reduceBEq, Nat.reduceLT, Nat.reduceLeDiff, Nat.reduceAdd, Nat.reduceSub, Nat.reduceMul, Nat.reduceEqDiff, reduceCtorEq, ↓reduceIte, Int.reduceEq, Int.reduceLT, Int.reduceLE, Int.reduceNe, Int.reduceAdd, Int.reduceSub, Int.reduceMul, Int.reduceToNat, Nat.reduceShiftRight, Nat.reduceAnd, Nat.reduceBNe]
        refine ⟨⟨by omega, by omega⟩, ?_⟩
        refine callF xm ⟨rfl, trivial⟩ rfl rfl ?_
        simp -implicitDefEqProofs only [push_cast, Nat.reduceBEq, Nat.reduceLT, Nat.reduceLeDiff, Nat.reduceAdd, Nat.reduceSub, Nat.reduceMul, Nat.reduceEqDiff, reduceCtorEq, ↓reduceIte, Int.reduceEq, Int.reduceLT, Int.reduceLE, Int.reduceNe, Int.reduceAdd, Int.reduceSub, Int.reduceMul, Int.reduceToNat, Nat.reduceShiftRight, Nat.reduceAnd, Nat.reduceBNe]
        refine callF xw ⟨rfl, trivial⟩ rfl rfl ?_
        simp -implicitDefEqProofs only [c2, push_cast, Nat.reduceBEq, Nat.reduceLT, Nat.reduceLeDiff, Nat.reduceAdd, Nat.reduceSub, Nat.reduceMul, Nat.reduceEqDiff, reduceCtorEq, ↓reduceIte, Int.reduceEq, Int.reduceLT, Int.reduceLE, Int.reduceNe, Int.reduceAdd, Int.reduceSub, Int.reduceMul, Int.reduceToNat, Nat.reduceShiftRight, Nat.reduceAnd, Nat.reduceBNe]
        refine callF hseq1 ⟨rfl, rfl, trivial⟩ rfl rfl ?_
        simp -implicitDefEqProofs only [push_cast, Nat.reduceBEq, Nat.reduceLT, Nat.reduceLeDiff, Nat.reduceAdd, Nat.reduceSub, Nat.reduceMul, Nat.reduceEqDiff, reduceCtorEq, ↓reduceIte, Int.reduceEq, Int.reduceLT, Int.reduceLE, Int.reduceNe, Int.reduceAdd, Int.reduceSub, Int.reduceMul, Int.reduceToNat, Nat.reduceShiftRight, Nat.reduceAnd, Nat.reduceBNe]
        refine callF hseq2 ⟨rfl, rfl, trivial⟩ rfl rfl ?_
        simp -implicitDefEqProofs only [c3, hy, push_cast, Nat.reduceBEq, Nat.reduceLT, Nat.reduceLeDiff, Nat.reduceAdd, Nat.reduceSub, Nat.reduceMul, Nat.reduceEqDiff, reduceCtorEq, ↓reduceIte, Int.reduceEq, Int.reduceLT, Int.reduceLE, Int.reduceNe, Int.reduceAdd, Int.reduceSub, Int.reduceMul, Int.reduceToNat, Nat.reduceShiftRight, Nat.reduceAnd, Nat.reduceBNe]
        refine ⟨by simp only [inR]; omega, ⟨by omega, by omega⟩, ?_⟩
        refine callF ky ⟨rfl, trivial⟩ rfl rfl ?_
        simp -implicitDefEqProofs only [push_cast, Nat.reduceBEq, Nat.reduceLT, Nat.reduceLeDiff, Nat.reduceAdd, Nat.reduceSub, Nat.reduceMul, Nat.reduceEqDiff, reduceCtorEq, ↓reduceIte, Int.reduceEq, Int.reduceLT, Int.reduceLE, Int.reduceNe, Int.reduceAdd, Int.reduceSub, Int.reduceMul, Int.reduceToNat, Nat.reduceShiftRight, Nat.reduceAnd, Nat.reduceBNe]
        refine callF kx ⟨rfl, trivial⟩ rfl rfl ?_
        simp -implicitDefEqProofs only [push_cast, Nat.reduceBEq, Nat.reduceLT, Nat.reduceLeDiff, Nat.reduceAdd, Nat.reduceSub, Nat.reduceMul, Nat.reduceEqDiff, reduceCtorEq, ↓reduceIte, Int.reduceEq, Int.reduceLT, Int.reduceLE, Int.reduceNe, Int.reduceAdd, Int.reduceSub, Int.reduceMul, Int.reduceToNat, Nat.reduceShiftRight, Nat.reduceAnd, Nat.reduceBNe]
        refine callF kc ⟨rfl, rfl, trivial⟩ rfl rfl ?_
        simp -implicitDefEqProofs only [push_cast, Nat.reduceBEq, Nat.reduceLT, Nat.reduceLeDiff, Nat.reduceAdd, Nat.reduceSub, Nat.reduceMul, Nat.reduceEqDiff, reduceCtorEq, ↓reduceIte, Int.reduceEq, Int.reduceLT, Int.reduceLE, Int.reduceNe, Int.reduceAdd, Int.reduceSub, Int.reduceMul, Int.reduceToNat, Nat.reduceShiftRight, Nat.reduceAnd, Nat.reduceBNe]
        refine ⟨by simp only [inR]; omega, ?_⟩
        refine callF hsame ⟨rfl, rfl, trivial⟩ rfl rfl ?_
        simp -implicitDefEqProofs only [push_cast, Nat.reduceBEq, Nat.reduceLT, Nat.reduceLeDiff, Nat.reduceAdd, Nat.reduceSub, Nat.reduceMul, Nat.reduceEqDiff, reduceCtorEq, ↓reduceIte, Int.reduceEq, Int.reduceLT, Int.reduceLE, Int.reduceNe, Int.reduceAdd, Int.reduceSub, Int.reduceMul, Int.reduceToNat, Nat.reduceShiftRight, Nat.reduceAnd, Nat.reduceBNe]
        refine ⟨by simp only [inR]; omega, k + 1, by omega, by omega, ?_⟩
        rw [hany, hstep]
        exact wk_c rfl ⟨rfl, rfl, rfl⟩ rfl
    · have c3 : decide ((0 : Int) < (k : Int)) = false := decide_eq_false (by omega)
      cases fb with
      | true =>
        simp -implicitDefEqProofs only [c9L0, c1, hx, c3, push_cast, Nat.reduceBEq, Nat.reduceLT, Nat.reduceLeDiff, Nat.reduceAdd, Nat.reduceSub, Nat.reduceMul, Nat.reduceEqDiff, reduceCtorEq, ↓reduceIte, Int.reduceEq, Int.reduceLT, Int.reduceLE, Int.reduceNe, Int.reduceAdd, Int.reduceSub, Int.reduceMul, Int.reduceToNat, Nat.reduceShiftRight, Nat.reduceAnd, Nat.reduceBNe]
        refine ⟨⟨by omega, by omega⟩, ?_⟩
        refine callF xm ⟨rfl, trivial⟩ rfl rfl ?_
        simp -implicitDefEqProofs only [push_cast, Nat.reduceBEq, Nat.reduceLT, Nat.reduceLeDiff, Nat.reduceAdd, Nat.reduceSub, Nat.reduceMul, Nat.reduceEqDiff, reduceCtorEq, ↓reduceIte, Int.reduceEq, Int.reduceLT, Int.reduceLE, Int.reduceNe, Int.reduceAdd, Int.reduceSub, Int.reduceMul, Int.reduceToNat, Nat.reduceShiftRight, Nat.reduceAnd, Nat.reduceBNe]
        refine callF xw ⟨rfl, trivial⟩ rfl rfl ?_
        simp -implicitDefEqProofs only [c2, push_cast, Nat.reduceBEq, Nat.reduceLT, Nat.reduceLeDiff, Nat.reduceAdd, Nat.reduceSub, Nat.reduceMul, Nat.reduceEqDiff, reduceCtorEq, ↓reduceIte, Int.reduceEq, Int.reduceLT, Int.reduceLE, Int.reduceNe, Int.reduceAdd, Int.reduceSub, Int.reduceMul, Int.reduceToNat, Nat.reduceShiftRight, Nat.reduceAnd, Nat.reduceBNe]
        refine callF hseq1 ⟨rfl, rfl, trivial⟩ rfl rfl ?_
        simp -implicitDefEqProofs only [push_cast, Nat.reduceBEq, Nat.reduceLT, Nat.reduceLeDiff, Nat.reduceAdd, Nat.reduceSub, Nat.reduceMul, Nat.reduceEqDiff, reduceCtorEq, ↓reduceIte, Int.reduceEq, Int.reduceLT, Int.reduceLE, Int.reduceNe, Int.reduceAdd, Int.reduceSub, Int.reduceMul, Int.reduceToNat, Nat.reduceShiftRight, Nat.reduceAnd, Nat.reduceBNe]
        refine callF hseq2 ⟨rfl, rfl, trivial⟩ rfl rfl ?_
        simp -implicitDefEqProofs only [c3, push_cast, Nat.reduceBEq, Nat.reduceLT, Nat.reduceLeDiff, Nat.reduceAdd, Nat.reduceSub, Nat.reduceMul, Nat.reduceEqDiff, reduceCtorEq, ↓reduceIte, Int.reduceEq, Int.reduceLT, Int.reduceLE, Int.reduceNe, Int.reduceAdd, Int.reduceSub, Int.reduceMul, Int.reduceToNat, Nat.reduceShiftRight, Nat.reduceAnd, Nat.reduceBNe]
        refine ⟨by simp only [inR]; omega, by simp only [inR]; omega, k + 1, by omega, by omega, ?_⟩
        rw [hany, hstep]
        exact wk_c rfl ⟨rfl, rfl, rfl⟩ rfl
      | false =>
        simp -implicitDefEqProofs only [c9L0, c1, hx, c3, push_cast, Nat.reduceBEq, Nat.reduceLT, Nat.reduceLeDiff, Nat.reduceAdd, Nat.reduceSub, Nat.reduceMul, Nat.reduceEqDiff, reduceCtorEq, ↓reduceIte, Int.reduceEq, Int.reduceLT, Int.reduceLE, Int.reduceNe, Int.reduceAdd, Int.reduceSub, Int.reduceMul, Int.reduceToNat, Nat.reduceShiftRight, Nat.reduceAnd, Nat.reduceBNe]
        refine ⟨⟨by omega, by omega⟩, ?_⟩
        refine callF xm ⟨rfl, trivial⟩ rfl rfl ?_
        simp -implicitDefEqProofs only [push_cast, Nat.reduceBEq, Nat.reduceLT, Nat.reduceLeDiff, Nat.reduceAdd, Nat.reduceSub, Nat.reduceMul, Nat.reduceEqDiff, reduceCtorEq, ↓reduceIte, Int.reduceEq, Int.reduceLT, Int.reduceLE, Int.reduceNe, Int.reduceAdd, Int.reduceSub, Int.reduceMul, Int.reduceToNat, Nat.reduceShiftRight, Nat.reduceAnd, Nat.reduceBNe]
        refine callF xw ⟨rfl, trivial⟩ rfl rfl ?_
        simp -implicitDefEqProofs only [c2, push_cast, Nat.reduceBEq, Nat.reduceLT, Nat.reduceLeDiff, Nat.reduceAdd, Nat.reduceSub, Nat.reduceMul, Nat.reduceEqDiff, reduceCtorEq, ↓reduceIte, Int.reduceEq, Int.reduceLT, Int.reduceLE, Int.reduceNe, Int.reduceAdd, Int.reduceSub, Int.reduceMul, Int.reduceToNat, Nat.reduceShiftRight, Nat.reduceAnd, Nat.reduceBNe]
        refine callF hseq1 ⟨rfl, rfl, trivial⟩ rfl rfl ?_
        simp -implicitDefEqProofs only [push_cast, Nat.reduceBEq, Nat.reduceLT, Nat.reduceLeDiff, Nat.reduceAdd, Nat.reduceSub, Nat.reduceMul, Nat.reduceEqDiff, reduceCtorEq, ↓reduceIte, Int.reduceEq, Int.reduceLT, Int.reduceLE, Int.reduceNe, Int.reduceAdd, Int.reduceSub, Int.reduceMul, Int.reduceToNat, Nat.reduceShiftRight, Nat.reduceAnd, Nat.reduceBNe]
        refine callF hseq2 ⟨rfl, rfl, trivial⟩ rfl rfl ?_
        simp -implicitDefEqProofs only [c3, push_cast, Nat.reduceBEq, Nat.reduceLT, Nat.reduceLeDiff, Nat.reduceAdd, Nat.reduceSub, Nat.reduceMul, Nat.reduceEqDiff, reduceCtorEq, ↓reduceIte, Int.reduceEq, Int.reduceLT, Int.reduceLE, Int.reduceNe, Int.reduceAdd, Int.reduceSub, Int.reduceMul, Int.reduceToNat, Nat.reduceShiftRight, Nat.reduceAnd, Nat.reduceBNe]
        refine ⟨by simp only [inR]; omega, ?_⟩
        refine callF hsame ⟨rfl, rfl, trivial⟩ rfl rfl ?_
        simp -implicitDefEqProofs only [push_cast, Nat.reduceBEq, Nat.reduceLT, Nat.reduceLeDiff, Nat.reduceAdd, Nat.reduceSub, Nat.reduceMul, Nat.reduceEqDiff, reduceCtorEq, ↓reduceIte, Int.reduceEq, Int.reduceLT, Int.reduceLE, Int.reduceNe, Int.reduceAdd, Int.reduceSub, Int.reduceMul, Int.reduceToNat, Nat.reduceShiftRight, Nat.reduceAnd, Nat.reduceBNe]
        refine ⟨by simp only [inR]; omega, k + 1, by omega, by omega, ?_⟩
        rw [hany, hstep]
        exact wk_c rfl ⟨rfl, rfl, rfl⟩ rfl
  · have c1 : decide ((k : Int) < (l.length : Int)) = false := decide_eq_false (by omega)
    have : k = l.length := by omega
    subst this
    rw [List.take_length, hfin, hsum]
    simp -implicitDefEqProofs only [c9L0, c1, push_cast, Nat.reduceBEq, Nat.reduceLT, Nat.reduceLeDiff, Nat.reduceAdd, Nat.reduceSub, Nat.reduceMul, Nat.reduceEqDiff, reduceCtorEq, ↓reduceIte, Int.reduceEq, Int.reduceLT, Int.reduceLE, Int.reduceNe, Int.reduceAdd, Int.reduceSub, Int.reduceMul, Int.reduceToNat, Nat.reduceShiftRight, Nat.reduceAnd, Nat.reduceBNe]
    exact finC rfl rfl
end Go.Proofs.YtligakiolapkkaaDoor
