/- Texts of this claim, joined: an abstract machine over the model, proved sound; contracts of functions. -/
import Derived.Test.YtligakiolapkkaaDoorM2
set_option linter.unusedSimpArgs false
set_option linter.unusedVariables false

namespace Go.Proofs.YtligakiolapkkaaDoor
open Go GoV
set_option maxHeartbeats 8000000
set_option maxRecDepth 10000
set_option linter.unusedVariables false
set_option linter.unusedSimpArgs false
def tN (t : List (List Int)) : Nat := tsum t / Nat.gcd (tsum t) (totalN t)
def tD (t : List (List Int)) : Nat := totalN t / Nat.gcd (tsum t) (totalN t)
theorem tail_ok {t : List (List Int)} (h : Tab t) : okQ (tN t) (tD t) ∧ 1 ≤ tD t ∧ tD t ≤ 2432902008176640000 ∧ tN t ≤ 2432902008176640000 := by
  have htot := total_pos h
  have hsum := tsum_le h
  have hg : 0 < Nat.gcd (tsum t) (totalN t) := Nat.gcd_pos_of_pos_right _ (by omega)
  have h1 : tD t ≤ totalN t := Nat.div_le_self _ _
  have h2 : tN t ≤ tsum t := Nat.div_le_self _ _
  have h3 : 1 ≤ tD t := Nat.div_pos (Nat.le_of_dvd (by omega) (Nat.gcd_dvd_right _ _)) hg
  have h4 : Nat.gcd (tN t) (tD t) = 1 := Nat.coprime_div_gcd_div_gcd hg
  refine ⟨?_, h3, by omega, by omega⟩
  unfold okQ
  rw [Int.natAbs_natCast, Int.toNat_natCast]
  exact ⟨⟨by omega, by omega⟩, by omega, h4⟩
def rej (t : List (List Int)) (n d : Int) : Bool := if lev n d = 0 then decide (tN t * d.toNat ≤ n.toNat * tD t) else false
theorem lev_zero {n d : Int} (h : lev n d = 0) : okQ n d ∧ 0 ≤ n ∧ n ≤ d := by
  unfold lev at h
  split at h
  · rename_i hk
    split at h
    · cases h
    · exact ⟨hk, by omega, by omega⟩
  · cases h
theorem reject_pc {t : List (List Int)} (h : Tab t) (n d : Int) (hn : i63 n) (hd : i63 d) : PC Tryd.prog 30 [TT t, QA n d] (.tup [B (rej t n d), I (lev n d)]) := by
  have ht : PC Tryd.prog 27 [TT t] (.tup [QA (tN t) (tD t), I 0]) := tail_pc h
  obtain ⟨hok, hd1, hd2, hd3⟩ := tail_ok h
  have hk := fcheck_pc n d hn hd
  obtain ⟨p, hp⟩ : ∃ p, tN t = p := ⟨_, rfl⟩
  obtain ⟨q, hq⟩ : ∃ p, tD t = p := ⟨_, rfl⟩
  rw [hp, hq] at ht hok
  unfold rej lev
  rw [hp, hq]
  by_cases hQ : okQ n d
  · rw [if_pos hQ] at hk ⊢
    have hQ' := hQ
    unfold okQ at hQ'
    by_cases h1 : n < 0
    · have e1 : decide (n < 0) = true := decide_eq_true h1
      rw [if_pos (Or.inl h1), if_neg (by decide)]
      refine pc_fn hmix h30 rfl ?_
      simp -implicitDefEqProofs only [c30, e1, push_cast, Nat.reduceBEq, Nat.reduceLT, Nat.reduceLeDiff, Nat.reduceAdd, Nat.reduceSub, Nat.reduceMul, Nat.reduceEqDiff, reduceCtorEq, ↓reduceIte, Int.reduceEq, Int.reduceLT, Int.reduceLE, Int.reduceNe, Int.reduceAdd, Int.reduceSub, Int.reduceMul, Int.reduceToNat, Nat.reduceShiftRight, Nat.reduceAnd, Nat.reduceBNe]
      refine callF ht ⟨rfl, trivial⟩ rfl rfl ?_
      simp -implicitDefEqProofs only [e1, push_cast, Nat.reduceBEq, Nat.reduceLT, Nat.reduceLeDiff, Nat.reduceAdd, Nat.reduceSub, Nat.reduceMul, Nat.reduceEqDiff, reduceCtorEq, ↓reduceIte, Int.reduceEq, Int.reduceLT, Int.reduceLE, Int.reduceNe, Int.reduceAdd, Int.reduceSub, Int.reduceMul, Int.reduceToNat, Nat.reduceShiftRight, Nat.reduceAnd, Nat.reduceBNe]
      refine callF hk ⟨⟨rfl, rfl⟩, trivial⟩ rfl rfl ?_
      simp -implicitDefEqProofs only [e1, push_cast, Nat.reduceBEq, Nat.reduceLT, Nat.reduceLeDiff, Nat.reduceAdd, Nat.reduceSub, Nat.reduceMul, Nat.reduceEqDiff, reduceCtorEq, ↓reduceIte, Int.reduceEq, Int.reduceLT, Int.reduceLE, Int.reduceNe, Int.reduceAdd, Int.reduceSub, Int.reduceMul, Int.reduceToNat, Nat.reduceShiftRight, Nat.reduceAnd, Nat.reduceBNe]
      exact finC rfl rfl
    · have e1 : decide (n < 0) = false := decide_eq_false h1
      by_cases h2 : d < n
      · have e2 : decide (d < n) = true := decide_eq_true h2
        rw [if_pos (Or.inr h2), if_neg (by decide)]
        refine pc_fn hmix h30 rfl ?_
        simp -implicitDefEqProofs only [c30, e1, e2, push_cast, Nat.reduceBEq, Nat.reduceLT, Nat.reduceLeDiff, Nat.reduceAdd, Nat.reduceSub, Nat.reduceMul, Nat.reduceEqDiff, reduceCtorEq, ↓reduceIte, Int.reduceEq, Int.reduceLT, Int.reduceLE, Int.reduceNe, Int.reduceAdd, Int.reduceSub, Int.reduceMul, Int.reduceToNat, Nat.reduceShiftRight, Nat.reduceAnd, Nat.reduceBNe]
        refine callF ht ⟨rfl, trivial⟩ rfl rfl ?_
        simp -implicitDefEqProofs only [e1, e2, push_cast, Nat.reduceBEq, Nat.reduceLT, Nat.reduceLeDiff, Nat.reduceAdd, Nat.reduceSub, Nat.reduceMul, Nat.reduceEqDiff, reduceCtorEq, ↓reduceIte, Int.reduceEq, Int.reduceLT, Int.reduceLE, Int.reduceNe, Int.reduceAdd, Int.reduceSub, Int.reduceMul, Int.reduceToNat, Nat.reduceShiftRight, Nat.reduceAnd, Nat.reduceBNe]
        refine callF hk ⟨⟨rfl, rfl⟩, trivial⟩ rfl rfl ?_
        simp -implicitDefEqProofs only [e1, e2, push_cast, Nat.reduceBEq, Nat.reduceLT, Nat.reduceLeDiff, Nat.reduceAdd, Nat.reduceSub, Nat.reduceMul, Nat.reduceEqDiff, reduceCtorEq, ↓reduceIte, Int.reduceEq, Int.reduceLT, Int.reduceLE, Int.reduceNe, Int.reduceAdd, Int.reduceSub, Int.reduceMul, Int.reduceToNat, Nat.reduceShiftRight, Nat.reduceAnd, Nat.reduceBNe]
        exact finC rfl rfl
      · have e2 : decide (d < n) = false := decide_eq_false h2
        rw [show (if n < 0 ∨ d < n then (2 : Int) else 0) = 0 from if_neg (by omega), if_pos rfl]
        obtain ⟨N, rfl⟩ : ∃ N : Nat, n = N := ⟨n.toNat, by omega⟩
        obtain ⟨D, rfl⟩ : ∃ N : Nat, d = N := ⟨d.toNat, by omega⟩
        rw [Int.toNat_natCast, Int.toNat_natCast]
        have hc := cmp_pc p q N D hok hQ
        have hle := cmpQ_le hok hQ
        obtain ⟨c, hcc⟩ : ∃ c, cmpQ p q N D = c := ⟨_, rfl⟩
        rw [hcc] at hc hle
        rw [show decide (p * D ≤ N * q) = decide (c ≤ 0) by rw [decide_eq_decide]; exact hle.symm]
        refine pc_fn hmix h30 rfl ?_
        simp -implicitDefEqProofs only [c30, e1, e2, push_cast, Nat.reduceBEq, Nat.reduceLT, Nat.reduceLeDiff, Nat.reduceAdd, Nat.reduceSub, Nat.reduceMul, Nat.reduceEqDiff, reduceCtorEq, ↓reduceIte, Int.reduceEq, Int.reduceLT, Int.reduceLE, Int.reduceNe, Int.reduceAdd, Int.reduceSub, Int.reduceMul, Int.reduceToNat, Nat.reduceShiftRight, Nat.reduceAnd, Nat.reduceBNe]
        refine callF ht ⟨rfl, trivial⟩ rfl rfl ?_
        simp -implicitDefEqProofs only [e1, e2, push_cast, Nat.reduceBEq, Nat.reduceLT, Nat.reduceLeDiff, Nat.reduceAdd, Nat.reduceSub, Nat.reduceMul, Nat.reduceEqDiff, reduceCtorEq, ↓reduceIte, Int.reduceEq, Int.reduceLT, Int.reduceLE, Int.reduceNe, Int.reduceAdd, Int.reduceSub, Int.reduceMul, Int.reduceToNat, Nat.reduceShiftRight, Nat.reduceAnd, Nat.reduceBNe]
        refine callF hk ⟨⟨rfl, rfl⟩, trivial⟩ rfl rfl ?_
        simp -implicitDefEqProofs only [e1, e2, push_cast, Nat.reduceBEq, Nat.reduceLT, Nat.reduceLeDiff, Nat.reduceAdd, Nat.reduceSub, Nat.reduceMul, Nat.reduceEqDiff, reduceCtorEq, ↓reduceIte, Int.reduceEq, Int.reduceLT, Int.reduceLE, Int.reduceNe, Int.reduceAdd, Int.reduceSub, Int.reduceMul, Int.reduceToNat, Nat.reduceShiftRight, Nat.reduceAnd, Nat.reduceBNe]
        refine callF hc ⟨⟨rfl, rfl⟩, ⟨rfl, rfl⟩, trivial⟩ rfl rfl ?_
        simp -implicitDefEqProofs only [push_cast, Nat.reduceBEq, Nat.reduceLT, Nat.reduceLeDiff, Nat.reduceAdd, Nat.reduceSub, Nat.reduceMul, Nat.reduceEqDiff, reduceCtorEq, ↓reduceIte, Int.reduceEq, Int.reduceLT, Int.reduceLE, Int.reduceNe, Int.reduceAdd, Int.reduceSub, Int.reduceMul, Int.reduceToNat, Nat.reduceShiftRight, Nat.reduceAnd, Nat.reduceBNe]
        refine ⟨fun h => ?_, fun h => ?_⟩
        · rw [decide_eq_true h]; exact finC rfl rfl
        · rw [decide_eq_false h]; exact finC rfl rfl
  · rw [if_neg hQ] at hk ⊢
    rw [if_neg (by decide)]
    refine pc_fn hmix h30 rfl ?_
    simp -implicitDefEqProofs only [c30, push_cast, Nat.reduceBEq, Nat.reduceLT, Nat.reduceLeDiff, Nat.reduceAdd, Nat.reduceSub, Nat.reduceMul, Nat.reduceEqDiff, reduceCtorEq, ↓reduceIte, Int.reduceEq, Int.reduceLT, Int.reduceLE, Int.reduceNe, Int.reduceAdd, Int.reduceSub, Int.reduceMul, Int.reduceToNat, Nat.reduceShiftRight, Nat.reduceAnd, Nat.reduceBNe]
    refine callF ht ⟨rfl, trivial⟩ rfl rfl ?_
    simp -implicitDefEqProofs only [push_cast, Nat.reduceBEq, Nat.reduceLT, Nat.reduceLeDiff, Nat.reduceAdd, Nat.reduceSub, Nat.reduceMul, Nat.reduceEqDiff, reduceCtorEq, ↓reduceIte, Int.reduceEq, Int.reduceLT, Int.reduceLE, Int.reduceNe, Int.reduceAdd, Int.reduceSub, Int.reduceMul, Int.reduceToNat, Nat.reduceShiftRight, Nat.reduceAnd, Nat.reduceBNe]
    refine callF hk ⟨⟨rfl, rfl⟩, trivial⟩ rfl rfl ?_
    simp -implicitDefEqProofs only [push_cast, Nat.reduceBEq, Nat.reduceLT, Nat.reduceLeDiff, Nat.reduceAdd, Nat.reduceSub, Nat.reduceMul, Nat.reduceEqDiff, reduceCtorEq, ↓reduceIte, Int.reduceEq, Int.reduceLT, Int.reduceLE, Int.reduceNe, Int.reduceAdd, Int.reduceSub, Int.reduceMul, Int.reduceToNat, Nat.reduceShiftRight, Nat.reduceAnd, Nat.reduceBNe]
    exact finC rfl rfl
theorem reject_bad (t : List (List Int)) (hl : t.length ≤ 1000) (hr : ∀ r ∈ t, r.length ≤ 1000) (hv : validB t = false) (n d : Int) : PC Tryd.prog 30 [TT t, QA n d] (.tup [B false, I 300]) := by
  have ht := tail_bad t hl hr hv
  refine pc_fn hmix h30 rfl ?_
  simp -implicitDefEqProofs only [c30, push_cast, Nat.reduceBEq, Nat.reduceLT, Nat.reduceLeDiff, Nat.reduceAdd, Nat.reduceSub, Nat.reduceMul, Nat.reduceEqDiff, reduceCtorEq, ↓reduceIte, Int.reduceEq, Int.reduceLT, Int.reduceLE, Int.reduceNe, Int.reduceAdd, Int.reduceSub, Int.reduceMul, Int.reduceToNat, Nat.reduceShiftRight, Nat.reduceAnd, Nat.reduceBNe]
  refine callF ht ⟨rfl, trivial⟩ rfl rfl ?_
  simp -implicitDefEqProofs only [push_cast, Nat.reduceBEq, Nat.reduceLT, Nat.reduceLeDiff, Nat.reduceAdd, Nat.reduceSub, Nat.reduceMul, Nat.reduceEqDiff, reduceCtorEq, ↓reduceIte, Int.reduceEq, Int.reduceLT, Int.reduceLE, Int.reduceNe, Int.reduceAdd, Int.reduceSub, Int.reduceMul, Int.reduceToNat, Nat.reduceShiftRight, Nat.reduceAnd, Nat.reduceBNe]
  exact finC rfl rfl
end Go.Proofs.YtligakiolapkkaaDoor

namespace Go.Proofs.YtligakiolapkkaaDoor
open Go GoV
set_option maxHeartbeats 8000000
set_option maxRecDepth 10000
theorem All_pc (t : List (List Int)) (hl : t.length ≤ 1000) (hr : ∀ r ∈ t, r.length ≤ 1000) : PC Tryd.prog 23 [TT t] (if validB t then .tup [TTT (allL t), I 0] else .tup [TTT [], I 300]) := by
  cases hv : validB t with
  | false => exact all_bad t hl hr hv
  | true =>
    show PC Tryd.prog 23 [TT t] (.tup [TTT (allL t), I 0])
    exact shapes (P := fun t => PC Tryd.prog 23 [TT t] (.tup [TTT (allL t), I 0])) (tab_of hv) (fun a b c d h _ => by rw [allL_22]; exact All22 a b c d h) (fun a b c d e f h _ => by rw [allL_23]; exact All23 a b c d e f h) (fun a b c d e f h _ => by rw [allL_32]; exact All32 a b c d e f h) (fun a b c d e f g i j h _ => by rw [allL_33]; exact All33 a b c d e f g i j h)
end Go.Proofs.YtligakiolapkkaaDoor

namespace Go.Proofs.YtligakiolapkkaaDoor
open Go GoV
set_option linter.unusedVariables false
set_option linter.unusedSimpArgs false
set_option maxRecDepth 10000
theorem mem_rowN : ∀ (cs r : List Nat), cs ≠ [] → r.length = cs.length → (∀ j, r.getD j 0 ≤ cs.getD j 0) → r ∈ rowN (sumN r) cs
  | [], _, h, _, _ => absurd rfl h
  | [c], [x], _, _, h => by
    have h0 : x ≤ c := h 0
    show [x] ∈ (if x + 0 ≤ c then [[x + 0]] else [])
    rw [if_pos (by omega)]; simp
  | [c], [], _, h, _ => by simp at h
  | [c], _ :: _ :: _, _, h, _ => by simp at h
  | c :: d :: cs, [], _, h, _ => by simp at h
  | c :: d :: cs, x :: r, _, hl, h => by
    have h0 : x ≤ c := h 0
    have ih := mem_rowN (d :: cs) r (by simp) (by simpa using hl) (fun j => by simpa using h (j + 1))
    unfold rowN
    rw [List.mem_flatMap]
    refine ⟨x, List.mem_range.2 (by show x < min (x + sumN r) c + 1; omega), ?_⟩
    rw [show sumN (x :: r) - x = sumN r by show x + sumN r - x = sumN r; omega]
    exact List.mem_map_of_mem ih
theorem subN_get : ∀ (cs r : List Nat) (j : Nat), r.length = cs.length → (subN cs r).getD j 0 = cs.getD j 0 - r.getD j 0
  | [], [], j, _ => by simp [subN]
  | [], _ :: _, _, h => by simp at h
  | _ :: _, [], _, h => by simp at h
  | c :: cs, x :: r, 0, _ => by simp [subN]
  | c :: cs, x :: r, j + 1, h => by
    simp only [subN, List.getD_cons_succ]
    exact subN_get cs r j (by simpa using h)
theorem subN_len : ∀ (cs r : List Nat), r.length = cs.length → (subN cs r).length = cs.length
  | [], [], _ => rfl
  | [], _ :: _, h => by simp at h
  | _ :: _, [], h => by simp at h
  | c :: cs, x :: r, h => by
    simp only [subN, List.length_cons] at h ⊢
    rw [subN_len cs r (by omega)]
theorem zero_all {cs : List Nat} (h : ∀ j, cs.getD j 0 = 0) : cs.all (fun c => decide (c = 0)) = true := by
  rw [List.all_eq_true]
  intro c hc
  obtain ⟨i, hi, rfl⟩ := List.getElem_of_mem hc
  have := h i
  simp [List.getD, hi] at this
  simpa using this
theorem mem_tabN : ∀ (y : List (List Nat)) (cs : List Nat), cs ≠ [] → (∀ r ∈ y, r.length = cs.length) → (∀ j, sumN (y.map fun r => r.getD j 0) = cs.getD j 0) → y ∈ tabN (y.map sumN) cs
  | [], cs, _, _, h => by
    show [] ∈ (if cs.all (fun c => decide (c = 0)) then [[]] else [])
    rw [if_pos (zero_all fun j => (h j).symm)]; simp
  | r :: t, cs, hne, hl, h => by
    have hr := hl r (by simp)
    have hj : ∀ j, r.getD j 0 + sumN (t.map fun r => r.getD j 0) = cs.getD j 0 := h
    show r :: t ∈ ((rowN (sumN r) cs).flatMap fun r => (tabN (t.map sumN) (subN cs r)).map fun t => r :: t)
    rw [List.mem_flatMap]
    refine ⟨r, mem_rowN cs r hne hr (fun j => by have := hj j; omega), ?_⟩
    have hsl := subN_len cs r hr
    refine List.mem_map_of_mem (mem_tabN t (subN cs r) ?_ (fun q hq => by rw [hsl]; exact hl q (by simp [hq])) (fun j => by rw [subN_get cs r j hr]; have := hj j; omega))
    intro e; rw [e] at hsl; simp at hsl; exact hne (List.eq_nil_of_length_eq_zero hsl.symm)
/-- a table in natural numbers -/
theorem tab_cast {t : List (List Int)} (h : Tab t) : ∃ y : List (List Nat), t = y.map castL ∧ ∀ r ∈ y, r.length = wid t := by
  have hrow := h.row
  have key : ∀ (u : List (List Int)), (∀ r ∈ u, r.length = wid t ∧ R20 r) → ∃ y : List (List Nat), u = y.map castL ∧ ∀ r ∈ y, r.length = wid t := by
    intro u
    induction u with
    | nil => intro _; exact ⟨[], rfl, by simp⟩
    | cons r u ih =>
      intro hu
      obtain ⟨y, e, hy⟩ := ih (fun q hq => hu q (by simp [hq]))
      obtain ⟨h1, h2⟩ := hu r (by simp)
      obtain ⟨m, hm⟩ := castL_of r (fun x hx => (h2 x hx).1)
      refine ⟨m :: y, by rw [List.map_cons, ← e, ← hm], fun q hq => ?_⟩
      rcases List.mem_cons.1 hq with rfl | hq
      · rw [← h1, hm, castL, List.length_map]
      · exact hy q hq
  exact key t hrow
theorem colsL_cast (y : List (List Nat)) : colsL (y.map castL) = castL ((List.range (wid (y.map castL))).map fun j => sumN (y.map fun r => r.getD j 0)) := by
  show (trL (y.map castL)).map sumL = _
  rw [trL, List.map_map, castL, List.map_map]
  refine List.map_congr_left (fun j _ => ?_)
  show sumL ((y.map castL).map (·.getD j 0)) = ((sumN (y.map fun r => r.getD j 0) : Nat) : Int)
  rw [← sumL_cast, castL, List.map_map, List.map_map]
  congr 1
  refine List.map_congr_left (fun r _ => ?_)
  exact castL_get r j
theorem allL_self {t : List (List Int)} (h : Tab t) : t ∈ allL t := by
  obtain ⟨y, e, hy⟩ := tab_cast h
  have hw := h.wid
  subst e
  have e1 : rowsL (y.map castL) = castL (y.map sumN) := map_sumL_cast y
  rw [allL, e1, colsL_cast, tabE_cast]
  obtain ⟨m, hm⟩ : ∃ m, wid (y.map castL) = m := ⟨_, rfl⟩
  rw [hm] at hy hw ⊢
  refine List.mem_map_of_mem (mem_tabN y _ ?_ (fun r hr => by rw [hy r hr]; simp) (fun j => ?_))
  · intro e; have := congrArg List.length e; simp at this; omega
  · by_cases hj : j < m
    · simp [List.getD, hj]
    · have hz : ∀ (u : List (List Nat)), (∀ r ∈ u, r.length = m) → sumN (u.map fun r => r.getD j 0) = 0 := by
        intro u
        induction u with
        | nil => intro _; rfl
        | cons r u ih =>
          intro hu
          show r.getD j 0 + sumN (u.map fun r => r.getD j 0) = 0
          rw [ih (fun q hq => hu q (by simp [hq])), show r.getD j 0 = 0 by
            have := hu r (by simp)
            simp [List.getD, List.getElem?_eq_none (by omega : r.length ≤ j)]]
      rw [hz y hy]
      simp [List.getD, hj]
def prodF : List Nat → Nat
  | [] => 1
  | x :: r => fct x * prodF r
theorem prodF_pos : ∀ r, 0 < prodF r
  | [] => Nat.one_pos
  | x :: r => Nat.mul_pos (fct_pos x) (prodF_pos r)
theorem MM_fct : ∀ r, MM r * prodF r = fct (sumN r)
  | [] => rfl
  | x :: r => by
    show ch (x + sumN r) x * MM r * (fct x * prodF r) = fct (x + sumN r)
    have h := ch_fct (x + sumN r) x (by omega)
    rw [Nat.add_sub_cancel_left] at h
    rw [← h, ← MM_fct r]
    simp only [Nat.mul_comm, Nat.mul_left_comm, Nat.mul_assoc]
def chk : Bool := (List.range 21).all fun a => (List.range 21).all fun b => (List.range 21).all fun c => Nat.ble 21 (a + b + c) || Nat.ble (fct (a + b + c)) (133024320 * (fct a * (fct b * (fct c * 1))))
theorem chk_ok : chk = true := by kernel_rfl
theorem fct3 {a b c : Nat} (h : a + b + c ≤ 20) : fct (a + b + c) ≤ 133024320 * (fct a * (fct b * (fct c * 1))) := by
  have h1 := chk_ok
  unfold chk at h1
  have h2 := List.all_eq_true.1 (List.all_eq_true.1 (List.all_eq_true.1 h1 a (List.mem_range.2 (by omega))) b (List.mem_range.2 (by omega))) c (List.mem_range.2 (by omega))
  rw [Bool.or_eq_true] at h2
  rcases h2 with h2 | h2
  · have := Nat.le_of_ble_eq_true h2; omega
  · exact Nat.le_of_ble_eq_true h2
theorem total_small {t : List (List Int)} (h : Tab t) : totalN t ≤ 133024320 := by
  obtain ⟨_, h2, _, h4, _, h6⟩ := tab_rows h
  obtain ⟨cs, hc⟩ := castL_of (colsL t) (fun x hx => (h2 x hx).1)
  have e : totalN t = MM cs := by rw [totalN, ← h4, hc, sumL_cast, Int.toNat_natCast, overN_MM]
  have hs : sumN cs ≤ 20 := by
    have h7 := h4
    rw [hc, sumL_cast] at h7
    have := h.tot
    omega
  have hl : cs.length = 2 ∨ cs.length = 3 := by
    have h8 := h6
    rw [hc, castL, List.length_map] at h8
    have := h.wid
    omega
  rw [e]
  have hm := MM_fct cs
  have hp := prodF_pos cs
  have key : fct (sumN cs) ≤ 133024320 * prodF cs := by
    rcases hl with hl | hl
    · obtain ⟨a, b, rfl⟩ := list2 hl
      have hs : a + (b + 0) ≤ 20 := hs
      have := fct3 (a := a) (b := b) (c := 0) (by omega)
      show fct (a + (b + 0)) ≤ 133024320 * (fct a * (fct b * 1))
      exact this
    · obtain ⟨a, b, c, rfl⟩ := list3 hl
      have hs : a + (b + (c + 0)) ≤ 20 := hs
      have := fct3 (a := a) (b := b) (c := c) (by omega)
      show fct (a + (b + (c + 0))) ≤ 133024320 * (fct a * (fct b * (fct c * 1)))
      rw [show a + (b + (c + 0)) = a + b + c by omega]
      exact this
  rw [← hm] at key
  exact Nat.le_of_mul_le_mul_right key hp
theorem ways_pos {t : List (List Int)} (h : Tab t) : 1 ≤ waysN t := by
  obtain ⟨y, e, hy⟩ := tab_cast h
  subst e
  rw [waysN_WW]
  clear h hy
  induction y with
  | nil => exact Nat.le_refl _
  | cons r y ih =>
    refine Nat.mul_pos ?_ ih
    have h1 := MM_fct r
    have h2 := fct_pos (sumN r)
    rcases Nat.eq_zero_or_pos (MM r) with h0 | h0
    · rw [h0, Nat.zero_mul] at h1; omega
    · exact h0
theorem sumB_mem {α : Type} {f : α → Nat} : ∀ {l : List α} {x : α}, x ∈ l → f x ≤ sumB f l
  | y :: l, x, h => by
    show f x ≤ f y + sumB f l
    rcases List.mem_cons.1 h with rfl | h
    · omega
    · have := sumB_mem (f := f) h; omega
end Go.Proofs.YtligakiolapkkaaDoor

namespace Go.Proofs.YtligakiolapkkaaDoor
open Go GoV
set_option linter.unusedVariables false
set_option linter.unusedSimpArgs false
set_option maxRecDepth 10000
theorem tsum_pos {t : List (List Int)} (h : Tab t) : 1 ≤ tsum t := by
  have h1 := sumB_mem (f := fun x => if waysN x ≤ waysN t then waysN x else 0) (allL_self h)
  simp only [Nat.le_refl, if_true] at h1
  have := ways_pos h
  unfold tsum
  omega
theorem tail_bounds {t : List (List Int)} (h : Tab t) : 1 ≤ tN t ∧ tN t ≤ tD t ∧ tD t ≤ 133024320 := by
  have h1 := tsum_pos h
  have h2 := tsum_le h
  have h3 := total_small h
  have hg : 0 < Nat.gcd (tsum t) (totalN t) := Nat.gcd_pos_of_pos_left _ (by omega)
  refine ⟨Nat.div_pos (Nat.le_of_dvd (by omega) (Nat.gcd_dvd_left _ _)) hg, Nat.div_le_div_right h2, Nat.le_trans (Nat.div_le_self _ _) h3⟩
theorem total_same {t x : List (List Int)} (h : Tab t) (hx : x ∈ allL t) : totalN x = totalN t := by
  obtain ⟨h1, h2, _⟩ := allL_props h hx
  have e : totL x = totL t := by
    show sumL (rowsL x) = sumL (rowsL t)
    rw [h1]
  rw [totalN, totalN, h2, e]
theorem argmax {α : Type} {f : α → Nat} {P : α → Bool} : ∀ (l : List α), (∃ x ∈ l, P x = true) → ∃ x ∈ l, P x = true ∧ ∀ y ∈ l, P y = true → f y ≤ f x
  | [], ⟨x, hx, _⟩ => by simp at hx
  | a :: l, ⟨x, hx, hp⟩ => by
    by_cases hl : ∃ x ∈ l, P x = true
    · obtain ⟨z, hz, hpz, hm⟩ := argmax l hl
      by_cases ha : P a = true ∧ f z ≤ f a
      · refine ⟨a, by simp, ha.1, fun y hy hpy => ?_⟩
        rcases List.mem_cons.1 hy with rfl | hy
        · exact Nat.le_refl _
        · exact Nat.le_trans (hm y hy hpy) ha.2
      · refine ⟨z, by simp [hz], hpz, fun y hy hpy => ?_⟩
        rcases List.mem_cons.1 hy with rfl | hy
        · have : ¬ f z ≤ f y := fun h => ha ⟨hpy, h⟩
          omega
        · exact hm y hy hpy
    · refine ⟨a, by simp, ?_, fun y hy hpy => ?_⟩
      · rcases List.mem_cons.1 hx with rfl | hx
        · exact hp
        · exact absurd ⟨x, hx, hp⟩ hl
      · rcases List.mem_cons.1 hy with rfl | hy
        · exact Nat.le_refl _
        · exact absurd ⟨y, hy, hpy⟩ hl
theorem sumB_le {α : Type} {f g : α → Nat} : ∀ (l : List α), (∀ x ∈ l, f x ≤ g x) → sumB f l ≤ sumB g l
  | [], _ => Nat.le_refl _
  | x :: l, h => Nat.add_le_add (h x (by simp)) (sumB_le l (fun y hy => h y (by simp [hy])))
/-- **the theorem of the stage** -/
theorem holds_thm {t : List (List Int)} (h : Tab t) (n d : Nat) (hz : lev n d = 0) (l : List (List (List Int))) (hl : sumB (fun x => if rej x n d then waysN x else 0) l ≤ sumB (fun x => if rej x n d then waysN x else 0) (allL t)) :
    sumB (fun x => if rej x n d then waysN x else 0) l * d ≤ n * totalN t := by
  refine Nat.le_trans (Nat.mul_le_mul_right d hl) ?_
  by_cases hex : ∃ x ∈ allL t, rej x n d = true
  · obtain ⟨z, hzm, hzr, hmax⟩ := argmax (f := waysN) (allL t) hex
    obtain ⟨_, _, hTz, _, _⟩ := allL_props h hzm
    have h1 : sumB (fun x => if rej x n d then waysN x else 0) (allL t) ≤ tsum z := by
      unfold tsum
      rw [allL_same h hzm]
      refine sumB_le _ (fun y hy => ?_)
      by_cases hr : rej y n d = true
      · simp only [hr, if_true]
        rw [if_pos (hmax y hy hr)]
        exact Nat.le_refl _
      · simp only [hr]
        exact Nat.zero_le _
    have h2 : tN z * d ≤ n * tD z := by
      have := hzr
      unfold rej at this
      rw [if_pos hz, Int.toNat_natCast, Int.toNat_natCast] at this
      exact of_decide_eq_true this
    have e1 : tN z * Nat.gcd (tsum z) (totalN z) = tsum z := Nat.div_mul_cancel (Nat.gcd_dvd_left _ _)
    have e2 : tD z * Nat.gcd (tsum z) (totalN z) = totalN z := Nat.div_mul_cancel (Nat.gcd_dvd_right _ _)
    obtain ⟨g, hg⟩ : ∃ g, Nat.gcd (tsum z) (totalN z) = g := ⟨_, rfl⟩
    rw [hg] at e1 e2
    refine Nat.le_trans (Nat.mul_le_mul_right d h1) ?_
    have h3 := Nat.mul_le_mul_right g h2
    rw [← total_same h hzm]
    calc tsum z * d = tN z * g * d := by rw [e1]
      _ = tN z * d * g := Nat.mul_right_comm _ _ _
      _ ≤ n * tD z * g := h3
      _ = n * (tD z * g) := Nat.mul_assoc _ _ _
      _ = n * totalN z := by rw [e2]
  · have h0 : sumB (fun x => if rej x n d then waysN x else 0) (allL t) = 0 := by
      have key : ∀ l : List (List (List Int)), (∀ x ∈ l, rej x n d ≠ true) → sumB (fun x => if rej x n d then waysN x else 0) l = 0 := by
        intro l
        induction l with
        | nil => intro _; rfl
        | cons x l ih =>
          intro hl
          show (if rej x n d then waysN x else 0) + _ = 0
          rw [if_neg (hl x (by simp)), ih (fun y hy => hl y (by simp [hy]))]
      exact key _ (fun x hx hr => hex ⟨x, hx, hr⟩)
    rw [h0, Nat.zero_mul]
    exact Nat.zero_le _
end Go.Proofs.YtligakiolapkkaaDoor

namespace Go.Proofs.YtligakiolapkkaaDoor
open Go GoV
set_option maxHeartbeats 8000000
set_option maxRecDepth 10000
set_option linter.unusedVariables false
set_option linter.unusedSimpArgs false
theorem subl60 {α : Type} (l : List α) : subL l 0 (min (l.length : Int) 60).toNat = l.take 60 := by
  have e : (min (l.length : Int) 60).toNat = min l.length 60 := by omega
  rw [e, subL, List.drop_zero]
  rcases Nat.le_total l.length 60 with h | h
  · rw [Nat.min_eq_left h, List.take_length, List.take_of_length_le h]
  · rw [Nat.min_eq_right h]
abbrev Q6 : Ex → St → Prop := (brk
          (thn
            (awp Tryd.prog 145 0
              ((AC.reg false
                    [{ dst := some 136, ins := GoV.Instr.mov (Opd.t 13), guard := none },
                      { dst := some 137, ins := GoV.Instr.fldA 1 (Opd.t 8), guard := none },
                      { dst := some 138, ins := GoV.Instr.load 1 false (Opd.t 137), guard := none },
                      { dst := some 139, ins := GoV.Instr.bin BinOp.mul (Opd.t 136) (Opd.t 138), guard := none },
                      { dst := some 140, ins := GoV.Instr.fldA 0 (Opd.t 8), guard := none },
                      { dst := some 141, ins := GoV.Instr.load 1 false (Opd.t 140), guard := none },
                      { dst := some 142, ins := GoV.Instr.mov (Opd.t 11), guard := none },
                      { dst := some 143, ins := GoV.Instr.bin BinOp.mul (Opd.t 141) (Opd.t 142), guard := none },
                      { dst := some 144, ins := GoV.Instr.bin BinOp.leq (Opd.t 139) (Opd.t 143), guard := none },
                      { dst := some 6, ins := GoV.Instr.mov (Opd.t 144), guard := none }]).seq
                AC.ret)
              none (finW Tryd.prog 0 [RV.tmp 6] fun v fr => Fz fr v (B true)))
            (finW Tryd.prog 0 [RV.tmp 6] fun v fr => Fz fr v (B true)))
          0)
theorem law6_loop (t : List (List Int)) (h : Tab t) (N D : Nat) (hz : lev N D = 0) (hD : 1 ≤ D ∧ D ≤ 256 ∧ N ≤ D) (z0 z1 z2 z3 z4 z5 z6 z7 z8 z9 z10 z11 : Int) :
    LoopW 0 (awp Tryd.prog 145 0 c6L0 none) Q6
    ⟨[(64, I 0), (63, I (((allL t).take 60).length : Nat)), (62, TTT ((allL t).take 60)), (13, I 0), (11, I (totalN t)), (8, .ptr 1 0)], [.box [.dat (.int .u8) z0, .dat (.int .u8) z1, .dat (.int .u8) z2, .dat (.int .u8) z3, .dat (.int .u8) z4, .dat (.int .u8) z5, .dat (.int .u8) z6, .dat (.int .u8) z7, .dat (.int .u8) z8, .dat (.int .u8) z9, .dat (.int .u8) z10, .dat (.int .u8) z11], .box [I N, I D]], []⟩ := by
  have hsum := ways_total h
  have htot := total_small h
  have hthm := holds_thm h N D hz
  have hmem : ∀ x ∈ (allL t).take 60, x ∈ allL t := fun x hx => List.mem_of_mem_take hx
  have hle : ∀ k, sumB (fun x => if rej x N D then waysN x else 0) (((allL t).take 60).take k) ≤ sumB (fun x => if rej x N D then waysN x else 0) (allL t) := fun k => Nat.le_trans (sumB_take_le _ _) (sumB_take_le _ _)
  have hle2 : sumB (fun x => if rej x N D then waysN x else 0) (allL t) ≤ totalN t := by
    rw [← hsum]
    exact sumB_le _ (fun x _ => by split; exact Nat.le_refl _; exact Nat.zero_le _)
  obtain ⟨l, hl⟩ : ∃ l, (allL t).take 60 = l := ⟨_, rfl⟩
  have hll : l.length ≤ 60 := by rw [← hl, List.length_take]; omega
  rw [hl] at hmem hle ⊢
  obtain ⟨f, hf⟩ : ∃ f : List (List Int) → Nat, (fun x => if rej x N D then waysN x else 0) = f := ⟨_, rfl⟩
  rw [hf] at hle hle2 hthm
  obtain ⟨tot, htt⟩ : ∃ n, totalN t = n := ⟨_, rfl⟩
  rw [htt] at hle2 htot hthm ⊢
  unfold Q6
  refine loop_w (α := Nat) (fun k => ⟨[(64, I k), (63, I l.length), (62, TTT l), (13, I (sumB f (l.take k) : Nat)), (11, I tot), (8, .ptr 1 0)], [.box [.dat (.int .u8) z0, .dat (.int .u8) z1, .dat (.int .u8) z2, .dat (.int .u8) z3, .dat (.int .u8) z4, .dat (.int .u8) z5, .dat (.int .u8) z6, .dat (.int .u8) z7, .dat (.int .u8) z8, .dat (.int .u8) z9, .dat (.int .u8) z10, .dat (.int .u8) z11], .box [I N, I D]], []⟩) (fun k => k ≤ l.length) (fun k => l.length - k) 0 (wk_c rfl ⟨rfl, rfl, rfl⟩ rfl) (by omega) ?_
  intro k hk
  by_cases hkl : (k : Int) < (l.length : Int)
  · have c1 : decide ((k : Int) < (l.length : Int)) = true := decide_eq_true hkl
    obtain ⟨x, hx⟩ : ∃ x, l.getD k [] = x := ⟨_, rfl⟩
    have hxm : x ∈ l := by rw [← hx]; exact getD_mem (by omega)
    obtain ⟨_, _, hT, _, _⟩ := allL_props h (hmem x hxm)
    have hrj := reject_pc hT N D (by simp only [i63]; omega) (by simp only [i63]; omega)
    rw [hz] at hrj
    have htl : PC Tryd.prog 27 [TT x] (.tup [QA (tN x) (tD x), I 0]) := tail_pc hT
    have hw := ways_pc x (by have := hT.len; omega) (fun r hr => by have := (hT.row r hr).1; have := hT.wid; omega)
    rw [tab_valid hT] at hw
    obtain ⟨b1, b2, b3⟩ := tail_bounds hT
    have hstep : sumB f (l.take (k + 1)) = sumB f (l.take k) + f x := by
      rw [take_at [] (by omega : k < l.length), sumB_app, hx]
      show _ + (f x + 0) = _
      rfl
    have hs1 := hle k
    have hs2 := hle (k + 1)
    have hrd : rej x N D = decide (tN x * D ≤ N * tD x) := by rw [rej, if_pos hz, Int.toNat_natCast, Int.toNat_natCast]
    have hfx : f x = if rej x N D then waysN x else 0 := by rw [← hf]
    obtain ⟨p, hp⟩ : ∃ p, tN x = p := ⟨_, rfl⟩
    obtain ⟨q, hq⟩ : ∃ p, tD x = p := ⟨_, rfl⟩
    obtain ⟨w, hwe⟩ : ∃ w, waysN x = w := ⟨_, rfl⟩
    rw [hp] at b1 b2 htl hrd
    rw [hq] at b2 b3 htl hrd
    rw [hwe] at hw hfx
    have m1 : p * D ≤ 133024320 * 256 := Nat.mul_le_mul (by omega) hD.2.1
    have m2 : N * q ≤ 256 * 133024320 := Nat.mul_le_mul (by omega) b3
    have u1 : (p : Int) * (D : Int) = ((p * D : Nat) : Int) := rfl
    have u2 : (N : Int) * (q : Int) = ((N * q : Nat) : Int) := rfl
    obtain ⟨P1, hP1⟩ : ∃ z, p * D = z := ⟨_, rfl⟩
    obtain ⟨P2, hP2⟩ : ∃ z, N * q = z := ⟨_, rfl⟩
    rw [hP1] at m1 u1 hrd
    rw [hP2] at m2 u2 hrd
    have c2 : decide ((q : Int) < 1) = false := decide_eq_false (by omega)
    have c3 : decide ((1073741824 : Int) < (q : Int)) = false := decide_eq_false (by omega)
    have c4 : decide ((p : Int) < 1) = false := decide_eq_false (by omega)
    have c5 : decide ((q : Int) < (p : Int)) = false := decide_eq_false (by omega)
    obtain ⟨s, hs⟩ : ∃ s, sumB f (l.take k) = s := ⟨_, rfl⟩
    rw [hs] at hstep hs1 ⊢
    obtain ⟨rb, hrb⟩ : ∃ rb, rej x N D = rb := ⟨_, rfl⟩
    rw [hrb] at hrj hrd hfx
    cases rb with
    | true =>
      have c6 : decide ((P1 : Int) ≤ (P2 : Int)) = true := decide_eq_true (by have := of_decide_eq_true hrd.symm; omega)
      rw [if_pos rfl] at hfx
      simp -implicitDefEqProofs only [c6L0, c1, hx, push_cast, Nat.reduceBEq, Nat.reduceLT, Nat.reduceLeDiff, Nat.reduceAdd, Nat.reduceSub, Nat.reduceMul, Nat.reduceEqDiff, reduceCtorEq, ↓reduceIte, Int.reduceEq, Int.reduceLT, Int.reduceLE, Int.reduceNe, Int.reduceAdd, Int.reduceSub, Int.reduceMul, Int.reduceToNat, Nat.reduceShiftRight, Nat.reduceAnd, Nat.reduceBNe]
      refine ⟨⟨by omega, by omega⟩, ?_⟩
      refine callF hrj ⟨rfl, ⟨rfl, rfl⟩, trivial⟩ rfl rfl ?_
      simp -implicitDefEqProofs only [push_cast, Nat.reduceBEq, Nat.reduceLT, Nat.reduceLeDiff, Nat.reduceAdd, Nat.reduceSub, Nat.reduceMul, Nat.reduceEqDiff, reduceCtorEq, ↓reduceIte, Int.reduceEq, Int.reduceLT, Int.reduceLE, Int.reduceNe, Int.reduceAdd, Int.reduceSub, Int.reduceMul, Int.reduceToNat, Nat.reduceShiftRight, Nat.reduceAnd, Nat.reduceBNe]
      refine callF htl ⟨rfl, trivial⟩ rfl rfl ?_
      simp -implicitDefEqProofs only [push_cast, Nat.reduceBEq, Nat.reduceLT, Nat.reduceLeDiff, Nat.reduceAdd, Nat.reduceSub, Nat.reduceMul, Nat.reduceEqDiff, reduceCtorEq, ↓reduceIte, Int.reduceEq, Int.reduceLT, Int.reduceLE, Int.reduceNe, Int.reduceAdd, Int.reduceSub, Int.reduceMul, Int.reduceToNat, Nat.reduceShiftRight, Nat.reduceAnd, Nat.reduceBNe]
      refine callF hw ⟨rfl, trivial⟩ rfl rfl ?_
      simp -implicitDefEqProofs only [c2, c3, c4, c5, u1, u2, c6, beq_self_eq_true, push_cast, Nat.reduceBEq, Nat.reduceLT, Nat.reduceLeDiff, Nat.reduceAdd, Nat.reduceSub, Nat.reduceMul, Nat.reduceEqDiff, reduceCtorEq, ↓reduceIte, Int.reduceEq, Int.reduceLT, Int.reduceLE, Int.reduceNe, Int.reduceAdd, Int.reduceSub, Int.reduceMul, Int.reduceToNat, Nat.reduceShiftRight, Nat.reduceAnd, Nat.reduceBNe]
      refine ⟨by simp only [inR]; omega, by simp only [inR]; omega, by simp only [inR]; omega, by simp only [inR]; omega, k + 1, by omega, by omega, ?_⟩
      rw [hstep, hfx]
      exact wk_c rfl ⟨rfl, rfl, rfl⟩ rfl
    | false =>
      have c6 : decide ((P1 : Int) ≤ (P2 : Int)) = false := decide_eq_false (by have := of_decide_eq_false hrd.symm; omega)
      rw [if_neg (by decide)] at hfx
      simp -implicitDefEqProofs only [c6L0, c1, hx, push_cast, Nat.reduceBEq, Nat.reduceLT, Nat.reduceLeDiff, Nat.reduceAdd, Nat.reduceSub, Nat.reduceMul, Nat.reduceEqDiff, reduceCtorEq, ↓reduceIte, Int.reduceEq, Int.reduceLT, Int.reduceLE, Int.reduceNe, Int.reduceAdd, Int.reduceSub, Int.reduceMul, Int.reduceToNat, Nat.reduceShiftRight, Nat.reduceAnd, Nat.reduceBNe]
      refine ⟨⟨by omega, by omega⟩, ?_⟩
      refine callF hrj ⟨rfl, ⟨rfl, rfl⟩, trivial⟩ rfl rfl ?_
      simp -implicitDefEqProofs only [push_cast, Nat.reduceBEq, Nat.reduceLT, Nat.reduceLeDiff, Nat.reduceAdd, Nat.reduceSub, Nat.reduceMul, Nat.reduceEqDiff, reduceCtorEq, ↓reduceIte, Int.reduceEq, Int.reduceLT, Int.reduceLE, Int.reduceNe, Int.reduceAdd, Int.reduceSub, Int.reduceMul, Int.reduceToNat, Nat.reduceShiftRight, Nat.reduceAnd, Nat.reduceBNe]
      refine callF htl ⟨rfl, trivial⟩ rfl rfl ?_
      simp -implicitDefEqProofs only [push_cast, Nat.reduceBEq, Nat.reduceLT, Nat.reduceLeDiff, Nat.reduceAdd, Nat.reduceSub, Nat.reduceMul, Nat.reduceEqDiff, reduceCtorEq, ↓reduceIte, Int.reduceEq, Int.reduceLT, Int.reduceLE, Int.reduceNe, Int.reduceAdd, Int.reduceSub, Int.reduceMul, Int.reduceToNat, Nat.reduceShiftRight, Nat.reduceAnd, Nat.reduceBNe]
      refine callF hw ⟨rfl, trivial⟩ rfl rfl ?_
      simp -implicitDefEqProofs only [c2, c3, c4, c5, u1, u2, c6, beq_self_eq_true, push_cast, Nat.reduceBEq, Nat.reduceLT, Nat.reduceLeDiff, Nat.reduceAdd, Nat.reduceSub, Nat.reduceMul, Nat.reduceEqDiff, reduceCtorEq, ↓reduceIte, Int.reduceEq, Int.reduceLT, Int.reduceLE, Int.reduceNe, Int.reduceAdd, Int.reduceSub, Int.reduceMul, Int.reduceToNat, Nat.reduceShiftRight, Nat.reduceAnd, Nat.reduceBNe]
      refine ⟨by simp only [inR]; omega, by simp only [inR]; omega, by simp only [inR]; omega, k + 1, by omega, by omega, ?_⟩
      rw [hstep, hfx, Nat.add_zero]
      exact wk_c rfl ⟨rfl, rfl, rfl⟩ rfl
  · have c1 : decide ((k : Int) < (l.length : Int)) = false := decide_eq_false hkl
    have : k = l.length := by omega
    subst this
    have hfin := hthm l (by have := hle l.length; rw [List.take_length] at this; exact this)
    have hs1 := hle l.length
    rw [List.take_length] at hs1 ⊢
    obtain ⟨s, hs⟩ : ∃ s, sumB f l = s := ⟨_, rfl⟩
    rw [hs] at hfin hs1 ⊢
    have m1 : s * D ≤ 133024320 * 256 := Nat.mul_le_mul (by omega) hD.2.1
    have m2 : N * tot ≤ 256 * 133024320 := Nat.mul_le_mul (by omega) htot
    have u1 : (s : Int) * (D : Int) = ((s * D : Nat) : Int) := rfl
    have u2 : (N : Int) * (tot : Int) = ((N * tot : Nat) : Int) := rfl
    obtain ⟨P1, hP1⟩ : ∃ z, s * D = z := ⟨_, rfl⟩
    obtain ⟨P2, hP2⟩ : ∃ z, N * tot = z := ⟨_, rfl⟩
    rw [hP1] at m1 u1 hfin
    rw [hP2] at m2 u2 hfin
    have c6 : decide ((P1 : Int) ≤ (P2 : Int)) = true := decide_eq_true (by omega)
    simp -implicitDefEqProofs only [c6L0, c1, u1, u2, c6, push_cast, Nat.reduceBEq, Nat.reduceLT, Nat.reduceLeDiff, Nat.reduceAdd, Nat.reduceSub, Nat.reduceMul, Nat.reduceEqDiff, reduceCtorEq, ↓reduceIte, Int.reduceEq, Int.reduceLT, Int.reduceLE, Int.reduceNe, Int.reduceAdd, Int.reduceSub, Int.reduceMul, Int.reduceToNat, Nat.reduceShiftRight, Nat.reduceAnd, Nat.reduceBNe]
    refine ⟨by simp only [inR]; omega, by simp only [inR]; omega, ?_⟩
    exact finC rfl rfl
theorem law6_pc {a b m n0 n1 n2 n3 n4 n5 n6 n7 n8 : Int} (hr : r8 a ∧ r8 b ∧ r8 m ∧ r8 n0 ∧ r8 n1 ∧ r8 n2 ∧ r8 n3 ∧ r8 n4 ∧ r8 n5 ∧ r8 n6 ∧ r8 n7 ∧ r8 n8) (s0 s1 : Int) (hs0 : r8 s0) (hs1 : r8 s1) :
    PC Tryd.prog 6 [DD a b [n0, n1, n2, n3, n4, n5, n6, n7, n8] m, .dat (.int .u8) s0, .dat (.int .u8) s1] (B true) := by
  obtain ⟨t, ht, hd⟩ := draft_pc hr
  obtain ⟨S0, rfl⟩ : ∃ n : Nat, s0 = n := ⟨s0.toNat, by omega⟩
  obtain ⟨S1, rfl⟩ : ∃ n : Nat, s1 = n := ⟨s1.toNat, by omega⟩
  simp only [r8] at hs0 hs1
  obtain ⟨M, hM⟩ : ∃ M, S0 % (S1 + 2) = M := ⟨_, rfl⟩
  have hMs : M < S1 + 2 := by rw [← hM]; exact Nat.mod_lt _ (by omega)
  have eM : (S0 : Int).tmod ((S1 : Int) + 2) = (M : Int) := by
    rw [← hM, Int.tmod_eq_emod_of_nonneg (by omega)]; rfl
  have hred := reduced_pc M (S1 + 1) (by omega) (by omega)
  have hgp : 0 < Nat.gcd M (S1 + 1) := Nat.gcd_pos_of_pos_right _ (by omega)
  obtain ⟨q1, e1⟩ : ∃ q, M / Nat.gcd M (S1 + 1) = q := ⟨_, rfl⟩
  obtain ⟨q2, e2⟩ : ∃ q, (S1 + 1) / Nat.gcd M (S1 + 1) = q := ⟨_, rfl⟩
  have hq1 : q1 ≤ M := by rw [← e1]; exact Nat.div_le_self _ _
  have hq2 : q2 ≤ S1 + 1 := by rw [← e2]; exact Nat.div_le_self _ _
  have hq0 : 1 ≤ q2 := by rw [← e2]; exact Nat.div_pos (Nat.le_of_dvd (by omega) (Nat.gcd_dvd_right _ _)) hgp
  have hco : Nat.gcd q1 q2 = 1 := by rw [← e1, ← e2]; exact Nat.coprime_div_gcd_div_gcd hgp
  rw [e1, e2] at hred
  have eS : ((S1 + 1 : Nat) : Int) = (S1 : Int) + 1 := by omega
  rw [eS] at hred
  have hal := All_pc t (by have := ht.len; omega) (fun r hr => by have := (ht.row r hr).1; have := ht.wid; omega)
  have hto := total_pc t (by have := ht.len; omega) (fun r hr => by have := (ht.row r hr).1; have := ht.wid; omega)
  rw [tab_valid ht] at hal hto
  refine pc_fn hmix h6 rfl ?_
  simp -implicitDefEqProofs only [c6, mapN, List.headD_cons, List.tail_cons, push_cast, Nat.reduceBEq, Nat.reduceLT, Nat.reduceLeDiff, Nat.reduceAdd, Nat.reduceSub, Nat.reduceMul, Nat.reduceEqDiff, reduceCtorEq, ↓reduceIte, Int.reduceEq, Int.reduceLT, Int.reduceLE, Int.reduceNe, Int.reduceAdd, Int.reduceSub, Int.reduceMul, Int.reduceToNat, Nat.reduceShiftRight, Nat.reduceAnd, Nat.reduceBNe]
  refine callF works_pc trivial rfl rfl ?_
  simp -implicitDefEqProofs only [push_cast, Nat.reduceBEq, Nat.reduceLT, Nat.reduceLeDiff, Nat.reduceAdd, Nat.reduceSub, Nat.reduceMul, Nat.reduceEqDiff, reduceCtorEq, ↓reduceIte, Int.reduceEq, Int.reduceLT, Int.reduceLE, Int.reduceNe, Int.reduceAdd, Int.reduceSub, Int.reduceMul, Int.reduceToNat, Nat.reduceShiftRight, Nat.reduceAnd, Nat.reduceBNe]
  refine callF hd ⟨⟨rfl, ⟨rfl, rfl⟩, ⟨rfl, rfl⟩, ⟨⟨rfl, rfl⟩, ⟨rfl, rfl⟩, ⟨rfl, rfl⟩, ⟨rfl, rfl⟩, ⟨rfl, rfl⟩, ⟨rfl, rfl⟩, ⟨rfl, rfl⟩, ⟨rfl, rfl⟩, ⟨rfl, rfl⟩, ⟨rfl, rfl⟩, trivial⟩, ⟨rfl, rfl⟩, rfl⟩, trivial⟩ rfl rfl ?_
  simp -implicitDefEqProofs only [eM, push_cast, Nat.reduceBEq, Nat.reduceLT, Nat.reduceLeDiff, Nat.reduceAdd, Nat.reduceSub, Nat.reduceMul, Nat.reduceEqDiff, reduceCtorEq, ↓reduceIte, Int.reduceEq, Int.reduceLT, Int.reduceLE, Int.reduceNe, Int.reduceAdd, Int.reduceSub, Int.reduceMul, Int.reduceToNat, Nat.reduceShiftRight, Nat.reduceAnd, Nat.reduceBNe]
  refine ⟨by simp only [inR]; omega, by simp only [inR]; omega, by simp only [inR]; omega, by omega, by simp only [inR]; omega, by simp only [inR]; omega, ?_⟩
  refine callF hred ⟨rfl, rfl, trivial⟩ rfl rfl ?_
  by_cases hgt : (q2 : Int) < (q1 : Int)
  · have g1 : decide ((q2 : Int) < (q1 : Int)) = true := decide_eq_true hgt
    simp -implicitDefEqProofs only [g1, push_cast, Nat.reduceBEq, Nat.reduceLT, Nat.reduceLeDiff, Nat.reduceAdd, Nat.reduceSub, Nat.reduceMul, Nat.reduceEqDiff, reduceCtorEq, ↓reduceIte, Int.reduceEq, Int.reduceLT, Int.reduceLE, Int.reduceNe, Int.reduceAdd, Int.reduceSub, Int.reduceMul, Int.reduceToNat, Nat.reduceShiftRight, Nat.reduceAnd, Nat.reduceBNe]
    refine callF hal ⟨rfl, trivial⟩ rfl rfl ?_
    simp -implicitDefEqProofs only [push_cast, Nat.reduceBEq, Nat.reduceLT, Nat.reduceLeDiff, Nat.reduceAdd, Nat.reduceSub, Nat.reduceMul, Nat.reduceEqDiff, reduceCtorEq, ↓reduceIte, Int.reduceEq, Int.reduceLT, Int.reduceLE, Int.reduceNe, Int.reduceAdd, Int.reduceSub, Int.reduceMul, Int.reduceToNat, Nat.reduceShiftRight, Nat.reduceAnd, Nat.reduceBNe]
    refine callF hto ⟨rfl, trivial⟩ rfl rfl ?_
    simp -implicitDefEqProofs only [subl60, push_cast, Nat.reduceBEq, Nat.reduceLT, Nat.reduceLeDiff, Nat.reduceAdd, Nat.reduceSub, Nat.reduceMul, Nat.reduceEqDiff, reduceCtorEq, ↓reduceIte, Int.reduceEq, Int.reduceLT, Int.reduceLE, Int.reduceNe, Int.reduceAdd, Int.reduceSub, Int.reduceMul, Int.reduceToNat, Nat.reduceShiftRight, Nat.reduceAnd, Nat.reduceBNe]
    refine ⟨by omega, ⟨by omega, by omega⟩, ?_⟩
    refine LoopW.wk ?_ (law6_loop t ht 1 1 (by decide) (by omega) a b n0 n1 n2 n3 n4 n5 n6 n7 n8 m)
    exact wk_c rfl ⟨rfl, rfl, rfl⟩ rfl
  · have g1 : decide ((q2 : Int) < (q1 : Int)) = false := decide_eq_false hgt
    have hz : lev q1 q2 = 0 := by
      unfold lev
      rw [if_pos (by unfold okQ; rw [Int.natAbs_natCast, Int.toNat_natCast]; exact ⟨⟨by omega, by omega⟩, by omega, hco⟩), if_neg (by omega)]
    simp -implicitDefEqProofs only [g1, push_cast, Nat.reduceBEq, Nat.reduceLT, Nat.reduceLeDiff, Nat.reduceAdd, Nat.reduceSub, Nat.reduceMul, Nat.reduceEqDiff, reduceCtorEq, ↓reduceIte, Int.reduceEq, Int.reduceLT, Int.reduceLE, Int.reduceNe, Int.reduceAdd, Int.reduceSub, Int.reduceMul, Int.reduceToNat, Nat.reduceShiftRight, Nat.reduceAnd, Nat.reduceBNe]
    refine callF hal ⟨rfl, trivial⟩ rfl rfl ?_
    simp -implicitDefEqProofs only [push_cast, Nat.reduceBEq, Nat.reduceLT, Nat.reduceLeDiff, Nat.reduceAdd, Nat.reduceSub, Nat.reduceMul, Nat.reduceEqDiff, reduceCtorEq, ↓reduceIte, Int.reduceEq, Int.reduceLT, Int.reduceLE, Int.reduceNe, Int.reduceAdd, Int.reduceSub, Int.reduceMul, Int.reduceToNat, Nat.reduceShiftRight, Nat.reduceAnd, Nat.reduceBNe]
    refine callF hto ⟨rfl, trivial⟩ rfl rfl ?_
    simp -implicitDefEqProofs only [subl60, push_cast, Nat.reduceBEq, Nat.reduceLT, Nat.reduceLeDiff, Nat.reduceAdd, Nat.reduceSub, Nat.reduceMul, Nat.reduceEqDiff, reduceCtorEq, ↓reduceIte, Int.reduceEq, Int.reduceLT, Int.reduceLE, Int.reduceNe, Int.reduceAdd, Int.reduceSub, Int.reduceMul, Int.reduceToNat, Nat.reduceShiftRight, Nat.reduceAnd, Nat.reduceBNe]
    refine ⟨by omega, ⟨by omega, by omega⟩, ?_⟩
    refine LoopW.wk ?_ (law6_loop t ht q1 q2 hz (by omega) a b n0 n1 n2 n3 n4 n5 n6 n7 n8 m)
    exact wk_c rfl ⟨rfl, rfl, rfl⟩ rfl
end Go.Proofs.YtligakiolapkkaaDoor
