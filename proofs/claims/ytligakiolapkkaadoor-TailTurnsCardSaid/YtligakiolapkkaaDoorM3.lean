/- Texts of this claim, joined: an abstract machine over the model, proved sound; contracts of functions. -/
import Derived.Test.YtligakiolapkkaaDoorV34
import Derived.Test.YtligakiolapkkaaDoorM2
set_option linter.unusedSimpArgs false
set_option linter.unusedVariables false

namespace Go.Proofs.YtligakiolapkkaaDoor
open Go GoV
set_option linter.unusedVariables false
set_option linter.unusedSimpArgs false
set_option maxRecDepth 10000
theorem nodup_flat {α β : Type} {g : α → List β} (key : β → α) : ∀ l : List α, l.Nodup → (∀ a ∈ l, (g a).Nodup) → (∀ a ∈ l, ∀ b ∈ g a, key b = a) → (l.flatMap g).Nodup
  | [], _, _, _ => by simp
  | a :: l, hn, hg, hk => by
    rw [List.nodup_cons] at hn
    rw [List.flatMap_cons, List.nodup_append]
    refine ⟨hg a (by simp), nodup_flat key l hn.2 (fun b hb => hg b (by simp [hb])) (fun b hb => hk b (by simp [hb])), ?_⟩
    intro x hx y hy e
    subst e
    obtain ⟨b, hb, hxb⟩ := List.mem_flatMap.1 hy
    have h1 := hk a (by simp) x hx
    have h2 := hk b (by simp [hb]) x hxb
    rw [h1] at h2
    subst h2
    exact hn.1 hb
theorem nodup_map_on {α β : Type} {f : α → β} : ∀ l : List α, (∀ a ∈ l, ∀ b ∈ l, f a = f b → a = b) → l.Nodup → (l.map f).Nodup
  | [], _, _ => by simp
  | a :: l, h, hn => by
    rw [List.nodup_cons] at hn
    rw [List.map_cons, List.nodup_cons]
    refine ⟨fun hm => ?_, nodup_map_on l (fun x hx y hy => h x (by simp [hx]) y (by simp [hy])) hn.2⟩
    obtain ⟨b, hb, e⟩ := List.mem_map.1 hm
    have := h b (by simp [hb]) a (by simp) e
    subst this
    exact hn.1 hb
theorem nodup_rowN : ∀ (cs : List Nat) (a : Nat), (rowN a cs).Nodup
  | [], _ => by simp [rowN]
  | [c], a => by unfold rowN; split <;> simp
  | c :: d :: cs, a => by
    unfold rowN
    refine nodup_flat (fun r => r.headD 0) _ List.nodup_range (fun x _ => nodup_map_on _ (fun p _ q _ e => by simpa using e) (nodup_rowN (d :: cs) _)) ?_
    intro x _ r hr
    obtain ⟨l, _, rfl⟩ := List.mem_map.1 hr
    rfl
theorem nodup_tabN : ∀ (l cs : List Nat), (tabN l cs).Nodup
  | [], cs => by unfold tabN; split <;> simp
  | a :: l, cs => by
    unfold tabN
    refine nodup_flat (fun t => t.headD []) _ (nodup_rowN cs a) (fun r _ => nodup_map_on _ (fun p _ q _ e => by simpa using e) (nodup_tabN l _)) ?_
    intro x _ r hr
    obtain ⟨u, _, rfl⟩ := List.mem_map.1 hr
    rfl
theorem castT_inj : ∀ {y z : List (List Nat)}, y.map castL = z.map castL → y = z
  | [], [], _ => rfl
  | r :: y, [], h => by simp at h
  | [], r :: z, h => by simp at h
  | r :: y, s :: z, h => by
    rw [List.map_cons, List.map_cons, List.cons.injEq] at h
    rw [castL_inj h.1, castT_inj h.2]
theorem nodup_allL {t : List (List Int)} (h : Tab t) : (allL t).Nodup := by
  obtain ⟨h1, h2, _⟩ := tab_rows h
  obtain ⟨l, hl⟩ := castL_of (rowsL t) (fun x hx => (h1 x hx).1)
  obtain ⟨cs, hc⟩ := castL_of (colsL t) (fun x hx => (h2 x hx).1)
  rw [allL, hl, hc, tabE_cast]
  exact nodup_map_on _ (fun p _ q _ e => castT_inj e) (nodup_tabN l cs)
theorem mem_allL {t z : List (List Int)} (h : Tab t) : z ∈ allL t ↔ Tab z ∧ rowsL z = rowsL t ∧ colsL z = colsL t := by
  constructor
  · intro hz
    obtain ⟨h1, h2, h3, _⟩ := allL_props h hz
    exact ⟨h3, h1, h2⟩
  · rintro ⟨h1, h2, h3⟩
    have := allL_self h1
    rw [allL, h2, h3] at this
    exact this
theorem sumB_perm {α : Type} {f : α → Nat} {a b : List α} (h : a.Perm b) : sumB f a = sumB f b := by
  induction h with
  | nil => rfl
  | cons x _ ih => show f x + _ = f x + _; rw [ih]
  | swap x y l => show f y + (f x + _) = f x + (f y + _); omega
  | trans _ _ h1 h2 => rw [h1, h2]
theorem perm_mem {α : Type} [DecidableEq α] {a b : List α} (ha : a.Nodup) (hb : b.Nodup) (h : ∀ x, x ∈ a ↔ x ∈ b) : a.Perm b := by
  rw [List.perm_iff_count]
  intro x
  rw [ha.count, hb.count]
  simp [h x]
theorem tail_eq {t u : List (List Int)} (ht : Tab t) (hu : Tab u) (hx : tsum u * totalN t = tsum t * totalN u) : tN u = tN t ∧ tD u = tD t := by
  obtain ⟨o1, _⟩ := tail_ok ht
  obtain ⟨o2, _⟩ := tail_ok hu
  refine okQ_eq o2 o1 ?_
  have p1 := tsum_pos ht
  have p2 := tsum_pos hu
  have g1 : 0 < Nat.gcd (tsum t) (totalN t) := Nat.gcd_pos_of_pos_left _ (by omega)
  have g2 : 0 < Nat.gcd (tsum u) (totalN u) := Nat.gcd_pos_of_pos_left _ (by omega)
  have e1 : tN t * Nat.gcd (tsum t) (totalN t) = tsum t := Nat.div_mul_cancel (Nat.gcd_dvd_left _ _)
  have e2 : tD t * Nat.gcd (tsum t) (totalN t) = totalN t := Nat.div_mul_cancel (Nat.gcd_dvd_right _ _)
  have e3 : tN u * Nat.gcd (tsum u) (totalN u) = tsum u := Nat.div_mul_cancel (Nat.gcd_dvd_left _ _)
  have e4 : tD u * Nat.gcd (tsum u) (totalN u) = totalN u := Nat.div_mul_cancel (Nat.gcd_dvd_right _ _)
  obtain ⟨g, hg⟩ : ∃ g, Nat.gcd (tsum t) (totalN t) = g := ⟨_, rfl⟩
  obtain ⟨k, hk⟩ : ∃ g, Nat.gcd (tsum u) (totalN u) = g := ⟨_, rfl⟩
  rw [hg] at e1 e2 g1
  rw [hk] at e3 e4 g2
  rw [← e1, ← e2, ← e3, ← e4] at hx
  refine Nat.eq_of_mul_eq_mul_right (Nat.mul_pos g1 g2) ?_
  calc tN u * tD t * (g * k) = tN u * k * (tD t * g) := by simp only [Nat.mul_comm, Nat.mul_left_comm, Nat.mul_assoc]
    _ = tN t * g * (tD u * k) := hx
    _ = tN t * tD u * (g * k) := by simp only [Nat.mul_comm, Nat.mul_left_comm, Nat.mul_assoc]
/-! rows made columns -/
theorem tr_tr {t : List (List Int)} (h : Tab t) : trL (trL t) = t :=
  shapes (P := fun t => trL (trL t) = t) h (fun _ _ _ _ _ _ => rfl) (fun _ _ _ _ _ _ _ _ => rfl) (fun _ _ _ _ _ _ _ _ => rfl) (fun _ _ _ _ _ _ _ _ _ _ _ => rfl)
theorem cols_tr {t : List (List Int)} (h : Tab t) : colsL (trL t) = rowsL t := by
  show rowsL (trL (trL t)) = rowsL t
  rw [tr_tr h]
theorem tr_perm {t : List (List Int)} (h : Tab t) : (allL (trL t)).Perm ((allL t).map trL) := by
  have h2 := tab_tr h
  refine perm_mem (nodup_allL h2) (nodup_map_on _ (fun a ha b hb e => ?_) (nodup_allL h)) (fun x => ?_)
  · have h3 := ((mem_allL h).1 ha).1
    have h4 := ((mem_allL h).1 hb).1
    rw [← tr_tr h3, e, tr_tr h4]
  · rw [mem_allL h2, List.mem_map]
    constructor
    · rintro ⟨k1, k2, k3⟩
      refine ⟨trL x, (mem_allL h).2 ⟨tab_tr k1, ?_, ?_⟩, tr_tr k1⟩
      · show colsL x = rowsL t
        rw [k3, cols_tr h]
      · rw [cols_tr k1, k2]; rfl
    · rintro ⟨z, hz, rfl⟩
      obtain ⟨k1, k2, k3⟩ := (mem_allL h).1 hz
      exact ⟨tab_tr k1, k3, by rw [cols_tr k1, cols_tr h, k2]⟩
def facF : List Int → Nat
  | [] => 1
  | x :: r => fct x.toNat * facF r
def facT : List (List Int) → Nat
  | [] => 1
  | r :: t => facF r * facT t
theorem facF_pos : ∀ r, 0 < facF r
  | [] => Nat.one_pos
  | x :: r => Nat.mul_pos (fct_pos _) (facF_pos r)
theorem facT_pos : ∀ r, 0 < facT r
  | [] => Nat.one_pos
  | x :: r => Nat.mul_pos (facF_pos _) (facT_pos r)
theorem facF_cast : ∀ r : List Nat, facF (castL r) = prodF r
  | [] => rfl
  | x :: r => by
    show fct ((x : Int)).toNat * facF (castL r) = fct x * prodF r
    rw [facF_cast r, Int.toNat_natCast]
theorem WW_fac : ∀ y : List (List Nat), WW y * facT (y.map castL) = facF (castL (y.map sumN))
  | [] => rfl
  | r :: y => by
    show MM r * WW y * (facF (castL r) * facT (y.map castL)) = fct ((sumN r : Nat) : Int).toNat * facF (castL (y.map sumN))
    rw [← WW_fac y, Int.toNat_natCast, ← MM_fct r, facF_cast]
    simp only [Nat.mul_comm, Nat.mul_left_comm, Nat.mul_assoc]
theorem ways_fac {t : List (List Int)} (h : Tab t) : waysN t * facT t = facF (rowsL t) := by
  obtain ⟨y, e, _⟩ := tab_cast h
  subst e
  rw [waysN_WW, WW_fac, rowsL, map_sumL_cast]
theorem total_fac {t : List (List Int)} (h : Tab t) : totalN t * facF (colsL t) = fct (totL t).toNat := by
  obtain ⟨_, h2, _, h4, _, _⟩ := tab_rows h
  obtain ⟨cs, hc⟩ := castL_of (colsL t) (fun x hx => (h2 x hx).1)
  rw [totalN, ← h4, hc, sumL_cast, Int.toNat_natCast, overN_MM, facF_cast, MM_fct]
theorem facT_tr {t : List (List Int)} (h : Tab t) : facT (trL t) = facT t := by
  refine shapes (P := fun t => facT (trL t) = facT t) h ?_ ?_ ?_ ?_
  · intro a b c d _ _
    show facT [[a, c], [b, d]] = _
    simp only [facT, facF, Nat.mul_one]
    simp only [Nat.mul_comm, Nat.mul_left_comm, Nat.mul_assoc]
  · intro a b c d e f _ _
    show facT [[a, d], [b, e], [c, f]] = _
    simp only [facT, facF, Nat.mul_one]
    simp only [Nat.mul_comm, Nat.mul_left_comm, Nat.mul_assoc]
  · intro a b c d e f _ _
    show facT [[a, c, e], [b, d, f]] = _
    simp only [facT, facF, Nat.mul_one]
    simp only [Nat.mul_comm, Nat.mul_left_comm, Nat.mul_assoc]
  · intro a b c d e f g i j _ _
    show facT [[a, d, g], [b, e, i], [c, f, j]] = _
    simp only [facT, facF, Nat.mul_one]
    simp only [Nat.mul_comm, Nat.mul_left_comm, Nat.mul_assoc]
theorem ways_tr {t z : List (List Int)} (h : Tab t) (hz : z ∈ allL t) : waysN (trL z) * totalN t = waysN z * totalN (trL t) := by
  obtain ⟨k1, k2, k3⟩ := (mem_allL h).1 hz
  have a1 := ways_fac k1
  have a2 := ways_fac (tab_tr k1)
  have a3 := total_fac h
  have a4 := total_fac (tab_tr h)
  rw [k2] at a1
  rw [facT_tr k1, show rowsL (trL z) = colsL z from rfl, k3] at a2
  rw [cols_tr h] at a4
  have e5 : totL (trL t) = totL t := by
    obtain ⟨_, _, h3, h4, _, _⟩ := tab_rows h
    show sumL (rowsL (trL t)) = totL t
    exact h4
  rw [e5] at a4
  refine Nat.eq_of_mul_eq_mul_right (facT_pos z) ?_
  calc waysN (trL z) * totalN t * facT z = totalN t * (waysN (trL z) * facT z) := by simp only [Nat.mul_comm, Nat.mul_left_comm, Nat.mul_assoc]
    _ = totalN (trL t) * facF (rowsL t) := by rw [a2, a3, a4]
    _ = waysN z * totalN (trL t) * facT z := by rw [← a1]; simp only [Nat.mul_comm, Nat.mul_left_comm, Nat.mul_assoc]
theorem sumB_mulr {α : Type} {f : α → Nat} (k : Nat) : ∀ (a : List α), sumB (fun x => f x * k) a = sumB f a * k
  | [] => by simp [sumB]
  | x :: a => by
    show f x * k + sumB (fun x => f x * k) a = (f x + sumB f a) * k
    rw [sumB_mulr k a, Nat.add_mul]
theorem tail_tr {t : List (List Int)} (h : Tab t) : tN (trL t) = tN t ∧ tD (trL t) = tD t := by
  have h2 := tab_tr h
  refine tail_eq h h2 ?_
  have hp := (total_pos h).1
  have hp2 := (total_pos h2).1
  unfold tsum
  rw [sumB_perm (tr_perm h), sumB_map, ← sumB_mulr, ← sumB_mulr]
  refine sumB_congr _ (fun z hz => ?_)
  have e1 := ways_tr h hz
  have e2 := ways_tr h (allL_self h)
  by_cases hle : waysN z ≤ waysN t
  · have : waysN (trL z) ≤ waysN (trL t) := by
      refine Nat.le_of_mul_le_mul_right (c := totalN t) ?_ (by omega)
      rw [e1, e2]
      exact Nat.mul_le_mul_right _ hle
    rw [if_pos hle, if_pos this]
    exact e1
  · have : ¬ waysN (trL z) ≤ waysN (trL t) := by
      intro hc
      refine hle (Nat.le_of_mul_le_mul_right (c := totalN (trL t)) ?_ (by omega))
      rw [← e1, ← e2]
      exact Nat.mul_le_mul_right _ hc
    rw [if_neg hle, if_neg this, Nat.zero_mul, Nat.zero_mul]
/-! rows exchanged -/
def swapL (a b : Nat) (t : List (List Int)) : List (List Int) := (t.set a (t.getD b [])).set b (t.getD a [])
theorem swap_props {t : List (List Int)} (h : Tab t) (a b : Nat) (ha : a < t.length) (hb : b < t.length) : Tab (swapL a b t) ∧ colsL (swapL a b t) = colsL t ∧ swapL a b (swapL a b t) = t ∧ waysN (swapL a b t) = waysN t ∧ (swapL a b t).length = t.length ∧ totL (swapL a b t) = totL t := by
  revert ha hb
  refine shapes (P := fun t => a < t.length → b < t.length → Tab (swapL a b t) ∧ colsL (swapL a b t) = colsL t ∧ swapL a b (swapL a b t) = t ∧ waysN (swapL a b t) = waysN t ∧ (swapL a b t).length = t.length ∧ totL (swapL a b t) = totL t) h ?_ ?_ ?_ ?_
  · intro p q r s ht _ ha hb
    have hq := tab_hyp22 ht
    have h1 := ht.tot
    simp only [totL, sumL, List.map_cons, List.map_nil] at h1
    have ea : a = 0 ∨ a = 1 := by simp at ha; omega
    have eb : b = 0 ∨ b = 1 := by simp at hb; omega
    rcases ea with rfl | rfl <;> rcases eb with rfl | rfl
    all_goals
      simp only [swapL, List.getD_cons_zero, List.getD_cons_succ, List.set_cons_zero, List.set_cons_succ]
      refine ⟨mkTab22 (by omega) (by omega), ?_, by first | trivial | rfl, ?_, by first | trivial | rfl, ?_⟩
      · first | trivial | rfl | (show colsL [_, _] = colsL [_, _]; rw [colsL_22, colsL_22]; simp only [Int.add_comm, Int.add_left_comm, Int.add_assoc])
      · first | trivial | rfl | (show waysN [_, _] = waysN [_, _]; simp only [waysN, Nat.mul_one]; simp only [Nat.mul_comm, Nat.mul_left_comm, Nat.mul_assoc])
      · first | trivial | rfl | (show totL [_, _] = totL [_, _]; simp only [totL, sumL, List.map_cons, List.map_nil]; omega)
  · intro p q r s u v ht _ ha hb
    have hq := tab_hyp23 ht
    have h1 := ht.tot
    simp only [totL, sumL, List.map_cons, List.map_nil] at h1
    have ea : a = 0 ∨ a = 1 := by simp at ha; omega
    have eb : b = 0 ∨ b = 1 := by simp at hb; omega
    rcases ea with rfl | rfl <;> rcases eb with rfl | rfl
    all_goals
      simp only [swapL, List.getD_cons_zero, List.getD_cons_succ, List.set_cons_zero, List.set_cons_succ]
      refine ⟨mkTab23 (by omega) (by omega), ?_, by first | trivial | rfl, ?_, by first | trivial | rfl, ?_⟩
      · first | trivial | rfl | (show colsL [_, _] = colsL [_, _]; rw [colsL_23, colsL_23]; simp only [Int.add_comm, Int.add_left_comm, Int.add_assoc])
      · first | trivial | rfl | (show waysN [_, _] = waysN [_, _]; simp only [waysN, Nat.mul_one]; simp only [Nat.mul_comm, Nat.mul_left_comm, Nat.mul_assoc])
      · first | trivial | rfl | (show totL [_, _] = totL [_, _]; simp only [totL, sumL, List.map_cons, List.map_nil]; omega)
  · intro p q r s u v ht _ ha hb
    have hq := tab_hyp32 ht
    have h1 := ht.tot
    simp only [totL, sumL, List.map_cons, List.map_nil] at h1
    have ea : a = 0 ∨ a = 1 ∨ a = 2 := by simp at ha; omega
    have eb : b = 0 ∨ b = 1 ∨ b = 2 := by simp at hb; omega
    rcases ea with rfl | rfl | rfl <;> rcases eb with rfl | rfl | rfl
    all_goals
      simp only [swapL, List.getD_cons_zero, List.getD_cons_succ, List.set_cons_zero, List.set_cons_succ]
      refine ⟨mkTab32 (by omega) (by omega), ?_, by first | trivial | rfl, ?_, by first | trivial | rfl, ?_⟩
      · first | trivial | rfl | (show colsL [_, _, _] = colsL [_, _, _]; rw [colsL_32, colsL_32]; simp only [Int.add_comm, Int.add_left_comm, Int.add_assoc])
      · first | trivial | rfl | (show waysN [_, _, _] = waysN [_, _, _]; simp only [waysN, Nat.mul_one]; simp only [Nat.mul_comm, Nat.mul_left_comm, Nat.mul_assoc])
      · first | trivial | rfl | (show totL [_, _, _] = totL [_, _, _]; simp only [totL, sumL, List.map_cons, List.map_nil]; omega)
  · intro p q r s u v x y z ht _ ha hb
    have hq := tab_hyp33 ht
    have h1 := ht.tot
    simp only [totL, sumL, List.map_cons, List.map_nil] at h1
    have ea : a = 0 ∨ a = 1 ∨ a = 2 := by simp at ha; omega
    have eb : b = 0 ∨ b = 1 ∨ b = 2 := by simp at hb; omega
    rcases ea with rfl | rfl | rfl <;> rcases eb with rfl | rfl | rfl
    all_goals
      simp only [swapL, List.getD_cons_zero, List.getD_cons_succ, List.set_cons_zero, List.set_cons_succ]
      refine ⟨mkTab33 (by omega) (by omega), ?_, by first | trivial | rfl, ?_, by first | trivial | rfl, ?_⟩
      · first | trivial | rfl | (show colsL [_, _, _] = colsL [_, _, _]; rw [colsL_33, colsL_33]; simp only [Int.add_comm, Int.add_left_comm, Int.add_assoc])
      · first | trivial | rfl | (show waysN [_, _, _] = waysN [_, _, _]; simp only [waysN, Nat.mul_one]; simp only [Nat.mul_comm, Nat.mul_left_comm, Nat.mul_assoc])
      · first | trivial | rfl | (show totL [_, _, _] = totL [_, _, _]; simp only [totL, sumL, List.map_cons, List.map_nil]; omega)
theorem rows_swap (a b : Nat) (x z : List (List Int)) (hl : x.length = z.length) (ha : a < z.length) (hb : b < z.length) (h : rowsL x = rowsL z) : rowsL (swapL a b x) = rowsL (swapL a b z) := by
  have key : ∀ u : List (List Int), a < u.length → b < u.length → rowsL (swapL a b u) = ((rowsL u).set a ((rowsL u).getD b 0)).set b ((rowsL u).getD a 0) := by
    intro u h1 h2
    have g : ∀ k, k < u.length → (rowsL u).getD k 0 = sumL (u.getD k []) := by
      intro k hk
      simp [rowsL, List.getD, hk]
    rw [g a h1, g b h2, swapL, rowsL, List.map_set, List.map_set]
    rfl
  rw [key x (by omega) (by omega), key z ha hb, h]
theorem swap_perm {t : List (List Int)} (h : Tab t) (a b : Nat) (ha : a < t.length) (hb : b < t.length) : (allL (swapL a b t)).Perm ((allL t).map (swapL a b)) := by
  obtain ⟨s1, s2, s3, _, s5, _⟩ := swap_props h a b ha hb
  have hlen : ∀ z, z ∈ allL t → z.length = t.length := fun z hz => (allL_props h hz).2.2.2.1
  refine perm_mem (nodup_allL s1) (nodup_map_on _ (fun x hx y hy e => ?_) (nodup_allL h)) (fun x => ?_)
  · obtain ⟨_, _, e1, _⟩ := swap_props ((mem_allL h).1 hx).1 a b (by rw [hlen x hx]; exact ha) (by rw [hlen x hx]; exact hb)
    obtain ⟨_, _, e2, _⟩ := swap_props ((mem_allL h).1 hy).1 a b (by rw [hlen y hy]; exact ha) (by rw [hlen y hy]; exact hb)
    rw [← e1, e, e2]
  · rw [List.mem_map]
    constructor
    · intro hx
      have hxl : x.length = t.length := by rw [(allL_props s1 hx).2.2.2.1, s5]
      obtain ⟨k1, k2, k3⟩ := (mem_allL s1).1 hx
      obtain ⟨q1, q2, q3, _, _, _⟩ := swap_props k1 a b (by omega) (by omega)
      refine ⟨swapL a b x, (mem_allL h).2 ⟨q1, ?_, by rw [q2, k3, s2]⟩, q3⟩
      rw [rows_swap a b x (swapL a b t) (by omega) (by omega) (by omega) k2, s3]
    · rintro ⟨z, hz, rfl⟩
      obtain ⟨k1, k2, k3⟩ := (mem_allL h).1 hz
      have hzl := hlen z hz
      obtain ⟨q1, q2, _⟩ := swap_props k1 a b (by omega) (by omega)
      exact (mem_allL s1).2 ⟨q1, rows_swap a b z t hzl ha hb k2, by rw [q2, k3, s2]⟩
theorem tail_swap {t : List (List Int)} (h : Tab t) (a b : Nat) (ha : a < t.length) (hb : b < t.length) : tN (swapL a b t) = tN t ∧ tD (swapL a b t) = tD t := by
  obtain ⟨s1, s2, _, s4, _, s6⟩ := swap_props h a b ha hb
  have et : totalN (swapL a b t) = totalN t := by rw [totalN, totalN, s2, s6]
  have es : tsum (swapL a b t) = tsum t := by
    unfold tsum
    rw [sumB_perm (swap_perm h a b ha hb), sumB_map, s4]
    refine sumB_congr _ (fun z hz => ?_)
    have hzl : z.length = t.length := (allL_props h hz).2.2.2.1
    obtain ⟨_, _, _, k4, _⟩ := swap_props ((mem_allL h).1 hz).1 a b (by omega) (by omega)
    rw [k4]
  unfold tN tD
  rw [et, es]
  exact ⟨rfl, rfl⟩
end Go.Proofs.YtligakiolapkkaaDoor

namespace Go.Proofs.YtligakiolapkkaaDoor
open Go GoV
set_option maxHeartbeats 8000000
set_option maxRecDepth 10000
set_option linter.unusedVariables false
set_option linter.unusedSimpArgs false
theorem clone2_new (t : List (List Int)) (h0 : t ≠ []) (hs : t.length ≤ 100000) : VCalls Tryd.prog 34 [TT t] [] (fun v fr => v = .slc 1 t.length 0 t.length ∧ fr = [.seq (.list (.int .i64)) [] true, .seq (.list (.int .i64)) t false]) := by
  refine vcalls_fn hmix h34 rfl ?_
  cases t with
  | nil => exact absurd rfl h0
  | cons y ys =>
    simp -implicitDefEqProofs only [c34, push_cast, Nat.reduceBEq, Nat.reduceLT, Nat.reduceLeDiff, Nat.reduceAdd, Nat.reduceSub, Nat.reduceMul, Nat.reduceEqDiff, reduceCtorEq, ↓reduceIte, Int.reduceEq, Int.reduceLT, Int.reduceLE, Int.reduceNe, Int.reduceAdd, Int.reduceSub, Int.reduceMul, Int.reduceToNat, Nat.reduceShiftRight, Nat.reduceAnd, Nat.reduceBNe]
    simp only [List.length_cons] at hs
    exact ⟨⟨by simp only [two47]; omega, by simp only [two47]; omega⟩, fin1 2 rfl ⟨rfl, rfl⟩⟩
def colT (t : List (List Int)) (j : Nat) : List Int := t.map (·.getD j 0)
theorem turned_new (t : List (List Int)) (n m : Nat) (hn : t.length = n) (hn1 : 1 ≤ n ∧ n ≤ 3) (hw : wid t = m) (hm : 1 ≤ m ∧ m ≤ 3) (hr : ∀ r ∈ t, r.length = m) : VCalls Tryd.prog 33 [TT t] [] (fun v fr => v = .slc 0 m 0 m ∧ fr = [.lst (.list (.int .i64)) (trL t)]) := by
  have htr : trL t = (List.range m).map (colT t) := by rw [trL, hw]; rfl
  have hw' : (t.getD 0 []).length = m := hw
  refine vcalls_fn hmix h33 rfl ?_
  simp -implicitDefEqProofs only [c33, push_cast, Nat.reduceBEq, Nat.reduceLT, Nat.reduceLeDiff, Nat.reduceAdd, Nat.reduceSub, Nat.reduceMul, Nat.reduceEqDiff, reduceCtorEq, ↓reduceIte, Int.reduceEq, Int.reduceLT, Int.reduceLE, Int.reduceNe, Int.reduceAdd, Int.reduceSub, Int.reduceMul, Int.reduceToNat, Nat.reduceShiftRight, Nat.reduceAnd, Nat.reduceBNe]
  refine loop_w (α := Nat) (fun j => ⟨[(4, I j), (3, .slc 0 j 0 j), (0, TT t)], [.lst (.list (.int .i64)) ((List.range j).map (colT t))], []⟩) (fun j => j ≤ m) (fun j => m - j) 0
    ((wk_cut [4, 3, 0] 0 rfl ⟨rfl, rfl, rfl⟩ rfl).trans (wk_own 3 (.list (.int .i64)) rfl)) (by omega) ?_
  intro j hj
  have hjl : ((List.range j).map (colT t)).length = j := by simp
  simp -implicitDefEqProofs only [c33L1, hw', push_cast, Nat.reduceBEq, Nat.reduceLT, Nat.reduceLeDiff, Nat.reduceAdd, Nat.reduceSub, Nat.reduceMul, Nat.reduceEqDiff, reduceCtorEq, ↓reduceIte, Int.reduceEq, Int.reduceLT, Int.reduceLE, Int.reduceNe, Int.reduceAdd, Int.reduceSub, Int.reduceMul, Int.reduceToNat, Nat.reduceShiftRight, Nat.reduceAnd, Nat.reduceBNe]
  refine ⟨by omega, fun h => ?_, fun h => ?_⟩
  · obtain ⟨c, hc⟩ : ∃ c, colT t j = c := ⟨_, rfl⟩
    have hcl : c.length = n := by rw [← hc, colT, List.length_map, hn]
    have hget : ∀ i, i < n → c.getD i 0 = (t.getD i []).getD j 0 := by
      intro i hi
      rw [← hc, colT]
      simp [List.getD, hn, hi]
    have hsucc : (List.range (j + 1)).map (colT t) = (List.range j).map (colT t) ++ [c] := by
      rw [List.range_succ, List.map_append, ← hc]; rfl
    obtain ⟨A, hA⟩ : ∃ A, (List.range j).map (colT t) = A := ⟨_, rfl⟩
    rw [hA] at hsucc hjl ⊢
    refine loop_w (α := Bool × Nat) (fun b => match b with
        | (true, i) => ⟨[(6, I i), (5, .slc 1 i 0 i), (4, I j), (3, .slc 0 j 0 j), (0, TT t)], [.lst (.list (.int .i64)) A, .lst (.int .i64) (c.take i)], []⟩
        | (false, i) => ⟨[(6, I i), (5, IL c), (4, I j), (3, .slc 0 j 0 j), (0, TT t)], [.lst (.list (.int .i64)) A, .dead], []⟩)
      (fun b => match b with | (true, i) => i < n | (false, i) => i = n) (fun b => n - b.2) (true, 0)
      ((wk_cut [6, 5, 4, 3, 0] 1 rfl ⟨rfl, rfl, rfl⟩ rfl).trans (wk_own 5 (.int .i64) rfl)) (by simp only; omega) ?_
    rintro ⟨b, i⟩ hi
    cases b with
    | true =>
      simp only at hi
      have hil : (c.take i).length = i := by rw [List.length_take]; omega
      have e := hget i hi
      have ei : c.take i ++ [(t.getD i []).getD j 0] = c.take (i + 1) := by
        rw [take_at 0 (by omega : i < c.length), e]
      have hrl : (t.getD i []).length = m := hr _ (getD_mem (by omega))
      simp -implicitDefEqProofs only [c33L0, push_cast, Nat.reduceBEq, Nat.reduceLT, Nat.reduceLeDiff, Nat.reduceAdd, Nat.reduceSub, Nat.reduceMul, Nat.reduceEqDiff, reduceCtorEq, ↓reduceIte, Int.reduceEq, Int.reduceLT, Int.reduceLE, Int.reduceNe, Int.reduceAdd, Int.reduceSub, Int.reduceMul, Int.reduceToNat, Nat.reduceShiftRight, Nat.reduceAnd, Nat.reduceBNe]
      refine ⟨fun _ => ⟨⟨by omega, by omega⟩, ⟨by omega, by omega⟩, ⟨hil, hil.symm⟩, ⟨by simp only [two47]; omega, by simp only [two47]; omega⟩, by simp only [inR]; omega, ?_⟩, fun h => by omega⟩
      rw [ei]
      by_cases hlast : i + 1 = n
      · refine ⟨(false, i + 1), hlast, by simp only; omega, ?_⟩
        rw [List.take_of_length_le (by omega : c.length ≤ i + 1)]
        refine Wk.trans (s' := ⟨[(6, I (i + 1 : Nat)), (5, .slc 1 c.length 0 c.length), (4, I j), (3, .slc 0 j 0 j), (0, TT t)], [.lst (.list (.int .i64)) A, .lst (.int .i64) c], []⟩) (wk_c rfl ⟨rfl, rfl, rfl⟩ rfl) ?_
        exact wk_frz 5 1 c.length rfl (.inr rfl) rfl
      · refine ⟨(true, i + 1), by simp only; omega, by simp only; omega, ?_⟩
        rw [show (c.take (i + 1)).length = i + 1 by rw [List.length_take]; omega]
        exact wk_c rfl ⟨rfl, rfl, rfl⟩ rfl
    | false =>
      simp only at hi
      subst hi
      have hlt : decide ((i : Int) < (t.length : Int)) = false := decide_eq_false (by omega)
      simp -implicitDefEqProofs only [c33L0, hlt, push_cast, Nat.reduceBEq, Nat.reduceLT, Nat.reduceLeDiff, Nat.reduceAdd, Nat.reduceSub, Nat.reduceMul, Nat.reduceEqDiff, reduceCtorEq, ↓reduceIte, Int.reduceEq, Int.reduceLT, Int.reduceLE, Int.reduceNe, Int.reduceAdd, Int.reduceSub, Int.reduceMul, Int.reduceToNat, Nat.reduceShiftRight, Nat.reduceAnd, Nat.reduceBNe]
      refine ⟨⟨hjl, hjl.symm⟩, ⟨by simp only [two47]; omega, by simp only [two47]; omega⟩, by simp only [inR]; omega, j + 1, by omega, by omega, ?_⟩
      rw [hsucc, show (A ++ [c]).length = j + 1 by rw [List.length_append, hjl]; rfl]
      exact wk_c rfl ⟨rfl, rfl, rfl⟩ rfl
  · have : j = m := by omega
    subst this
    exact fin1 1 rfl ⟨rfl, by rw [htr]; rfl⟩
end Go.Proofs.YtligakiolapkkaaDoor

namespace Go.Proofs.YtligakiolapkkaaDoor
open Go GoV
set_option maxHeartbeats 8000000
set_option maxRecDepth 10000
set_option linter.unusedVariables false
set_option linter.unusedSimpArgs false
theorem law7_pc {a b m n0 n1 n2 n3 n4 n5 n6 n7 n8 : Int} (hr : r8 a ∧ r8 b ∧ r8 m ∧ r8 n0 ∧ r8 n1 ∧ r8 n2 ∧ r8 n3 ∧ r8 n4 ∧ r8 n5 ∧ r8 n6 ∧ r8 n7 ∧ r8 n8) (s0 s1 : Int) (hs0 : r8 s0) (hs1 : r8 s1) :
    PC Tryd.prog 7 [DD a b [n0, n1, n2, n3, n4, n5, n6, n7, n8] m, .dat (.int .u8) s0, .dat (.int .u8) s1] (B true) := by
  obtain ⟨t, ht, hd⟩ := draft_pc hr
  obtain ⟨S0, rfl⟩ : ∃ n : Nat, s0 = n := ⟨s0.toNat, by omega⟩
  obtain ⟨S1, rfl⟩ : ∃ n : Nat, s1 = n := ⟨s1.toNat, by omega⟩
  simp only [r8] at hs0 hs1
  have hlen := ht.len
  have hwid := ht.wid
  have htr := tab_tr ht
  have hul : (trL t).length = wid t := by rw [trL]; simp
  obtain ⟨i, hi⟩ : ∃ i, S0 % t.length = i := ⟨_, rfl⟩
  obtain ⟨j, hj⟩ : ∃ i, S1 % t.length = i := ⟨_, rfl⟩
  obtain ⟨i', hi'⟩ : ∃ i, S0 % (trL t).length = i := ⟨_, rfl⟩
  obtain ⟨j', hj'⟩ : ∃ i, S1 % (trL t).length = i := ⟨_, rfl⟩
  have li : i < t.length := by rw [← hi]; exact Nat.mod_lt _ (by omega)
  have lj : j < t.length := by rw [← hj]; exact Nat.mod_lt _ (by omega)
  have li' : i' < (trL t).length := by rw [← hi']; exact Nat.mod_lt _ (by omega)
  have lj' : j' < (trL t).length := by rw [← hj']; exact Nat.mod_lt _ (by omega)
  have ei : (S0 : Int).tmod (t.length : Int) = (i : Int) := by rw [← hi, Int.tmod_eq_emod_of_nonneg (by omega)]; rfl
  have ej : (S1 : Int).tmod (t.length : Int) = (j : Int) := by rw [← hj, Int.tmod_eq_emod_of_nonneg (by omega)]; rfl
  have ei' : (S0 : Int).tmod ((trL t).length : Int) = (i' : Int) := by rw [← hi', Int.tmod_eq_emod_of_nonneg (by omega)]; rfl
  have ej' : (S1 : Int).tmod ((trL t).length : Int) = (j' : Int) := by rw [← hj', Int.tmod_eq_emod_of_nonneg (by omega)]; rfl
  obtain ⟨sw1, _, _, _, sl1, _⟩ := swap_props ht i j li lj
  obtain ⟨sw2, _, _, _, sl2, _⟩ := swap_props htr i' j' li' lj'
  have k1 : PC Tryd.prog 27 [TT t] (.tup [QA (tN t) (tD t), I 0]) := tail_pc ht
  have k2 : PC Tryd.prog 27 [TT (trL t)] (.tup [QA (tN (trL t)) (tD (trL t)), I 0]) := tail_pc htr
  have k3 : PC Tryd.prog 27 [TT (swapL i j t)] (.tup [QA (tN (swapL i j t)) (tD (swapL i j t)), I 0]) := tail_pc sw1
  have k4 : PC Tryd.prog 27 [TT (trL (swapL i' j' (trL t)))] (.tup [QA (tN (trL (swapL i' j' (trL t)))) (tD (trL (swapL i' j' (trL t)))), I 0]) := tail_pc (tab_tr sw2)
  rw [(tail_tr sw2).1, (tail_tr sw2).2, (tail_swap htr i' j' li' lj').1, (tail_swap htr i' j' li' lj').2, (tail_tr ht).1, (tail_tr ht).2] at k4
  rw [(tail_swap ht i j li lj).1, (tail_swap ht i j li lj).2] at k3
  rw [(tail_tr ht).1, (tail_tr ht).2] at k2
  obtain ⟨b1, b2, b3⟩ := tail_bounds ht
  have k5 := refturned_pc sw2
  have kt := turned_new t t.length (wid t) rfl (by omega) rfl (by omega) (fun r hr => (ht.row r hr).1)
  have kc := clone2_new t (by intro e; rw [e] at hlen; simp at hlen) (by omega)
  obtain ⟨p, hp⟩ : ∃ p, tN t = p := ⟨_, rfl⟩
  obtain ⟨q, hq⟩ : ∃ p, tD t = p := ⟨_, rfl⟩
  rw [hp, hq] at k1 k2 k3 k4
  rw [hp] at b1 b2
  rw [hq] at b2 b3
  obtain ⟨u, hu⟩ : ∃ u, trL t = u := ⟨_, rfl⟩
  rw [hu] at k2 k4 k5 kt li' lj' ei' ej' hul
  have c1 : decide ((0 : Int) < (p : Int)) = true := decide_eq_true (by omega)
  have c2 : decide ((p : Int) ≤ (q : Int)) = true := decide_eq_true (by omega)
  have hs3 : swapL i j t = (t.set i (t.getD j [])).set j (t.getD i []) := rfl
  have hs4 : swapL i' j' u = (u.set i' (u.getD j' [])).set j' (u.getD i' []) := rfl
  rw [hs3] at k3
  rw [hs4] at k4 k5
  rw [← hul] at kt
  refine pc_fn hmix h7 rfl ?_
  simp -implicitDefEqProofs only [c7, mapN, List.headD_cons, List.tail_cons, push_cast, Nat.reduceBEq, Nat.reduceLT, Nat.reduceLeDiff, Nat.reduceAdd, Nat.reduceSub, Nat.reduceMul, Nat.reduceEqDiff, reduceCtorEq, ↓reduceIte, Int.reduceEq, Int.reduceLT, Int.reduceLE, Int.reduceNe, Int.reduceAdd, Int.reduceSub, Int.reduceMul, Int.reduceToNat, Nat.reduceShiftRight, Nat.reduceAnd, Nat.reduceBNe]
  refine callF works_pc trivial rfl rfl ?_
  simp -implicitDefEqProofs only [push_cast, Nat.reduceBEq, Nat.reduceLT, Nat.reduceLeDiff, Nat.reduceAdd, Nat.reduceSub, Nat.reduceMul, Nat.reduceEqDiff, reduceCtorEq, ↓reduceIte, Int.reduceEq, Int.reduceLT, Int.reduceLE, Int.reduceNe, Int.reduceAdd, Int.reduceSub, Int.reduceMul, Int.reduceToNat, Nat.reduceShiftRight, Nat.reduceAnd, Nat.reduceBNe]
  refine callF hd ⟨⟨rfl, ⟨rfl, rfl⟩, ⟨rfl, rfl⟩, ⟨⟨rfl, rfl⟩, ⟨rfl, rfl⟩, ⟨rfl, rfl⟩, ⟨rfl, rfl⟩, ⟨rfl, rfl⟩, ⟨rfl, rfl⟩, ⟨rfl, rfl⟩, ⟨rfl, rfl⟩, ⟨rfl, rfl⟩, ⟨rfl, rfl⟩, trivial⟩, ⟨rfl, rfl⟩, rfl⟩, trivial⟩ rfl rfl ?_
  simp -implicitDefEqProofs only [push_cast, Nat.reduceBEq, Nat.reduceLT, Nat.reduceLeDiff, Nat.reduceAdd, Nat.reduceSub, Nat.reduceMul, Nat.reduceEqDiff, reduceCtorEq, ↓reduceIte, Int.reduceEq, Int.reduceLT, Int.reduceLE, Int.reduceNe, Int.reduceAdd, Int.reduceSub, Int.reduceMul, Int.reduceToNat, Nat.reduceShiftRight, Nat.reduceAnd, Nat.reduceBNe]
  refine callF k1 ⟨rfl, trivial⟩ rfl rfl ?_
  simp -implicitDefEqProofs only [push_cast, Nat.reduceBEq, Nat.reduceLT, Nat.reduceLeDiff, Nat.reduceAdd, Nat.reduceSub, Nat.reduceMul, Nat.reduceEqDiff, reduceCtorEq, ↓reduceIte, Int.reduceEq, Int.reduceLT, Int.reduceLE, Int.reduceNe, Int.reduceAdd, Int.reduceSub, Int.reduceMul, Int.reduceToNat, Nat.reduceShiftRight, Nat.reduceAnd, Nat.reduceBNe]
  refine callA kt ⟨rfl, trivial⟩ rfl ?_
  simp -implicitDefEqProofs only [shA, shAs, shB, shRowB, List.map_cons, List.map_nil, push_cast, Nat.reduceBEq, Nat.reduceLT, Nat.reduceLeDiff, Nat.reduceAdd, Nat.reduceSub, Nat.reduceMul, Nat.reduceEqDiff, reduceCtorEq, ↓reduceIte, Int.reduceEq, Int.reduceLT, Int.reduceLE, Int.reduceNe, Int.reduceAdd, Int.reduceSub, Int.reduceMul, Int.reduceToNat, Nat.reduceShiftRight, Nat.reduceAnd, Nat.reduceBNe]
  refine callB k2 ⟨rd_lst rfl rfl, trivial⟩ rfl rfl ?_
  simp -implicitDefEqProofs only [ei, ej, push_cast, Nat.reduceBEq, Nat.reduceLT, Nat.reduceLeDiff, Nat.reduceAdd, Nat.reduceSub, Nat.reduceMul, Nat.reduceEqDiff, reduceCtorEq, ↓reduceIte, Int.reduceEq, Int.reduceLT, Int.reduceLE, Int.reduceNe, Int.reduceAdd, Int.reduceSub, Int.reduceMul, Int.reduceToNat, Nat.reduceShiftRight, Nat.reduceAnd, Nat.reduceBNe]
  refine ⟨by simp only [inR]; omega, by omega, by simp only [inR]; omega, by omega, ?_⟩
  refine callA kc ⟨rfl, trivial⟩ rfl ?_
  simp -implicitDefEqProofs only [shA, shAs, shB, shRowB, List.map_cons, List.map_nil, push_cast, Nat.reduceBEq, Nat.reduceLT, Nat.reduceLeDiff, Nat.reduceAdd, Nat.reduceSub, Nat.reduceMul, Nat.reduceEqDiff, reduceCtorEq, ↓reduceIte, Int.reduceEq, Int.reduceLT, Int.reduceLE, Int.reduceNe, Int.reduceAdd, Int.reduceSub, Int.reduceMul, Int.reduceToNat, Nat.reduceShiftRight, Nat.reduceAnd, Nat.reduceBNe]
  have hset : (t.set i (t.getD j [])).length = t.length := List.length_set
  have hset2 : ((t.set i (t.getD j [])).set j (t.getD i [])).length = t.length := by rw [List.length_set, List.length_set]
  refine ⟨⟨by omega, by omega⟩, lj, ⟨by omega, by omega⟩, li, ⟨by omega, by omega⟩, li, ⟨by omega, by omega⟩, hset, ⟨hset, by omega⟩, ?_⟩
  refine callB k3 ⟨rd_seq rfl hset2, trivial⟩ rfl rfl ?_
  simp -implicitDefEqProofs only [ei', ej', push_cast, Nat.reduceBEq, Nat.reduceLT, Nat.reduceLeDiff, Nat.reduceAdd, Nat.reduceSub, Nat.reduceMul, Nat.reduceEqDiff, reduceCtorEq, ↓reduceIte, Int.reduceEq, Int.reduceLT, Int.reduceLE, Int.reduceNe, Int.reduceAdd, Int.reduceSub, Int.reduceMul, Int.reduceToNat, Nat.reduceShiftRight, Nat.reduceAnd, Nat.reduceBNe]
  have hsu : (u.set i' (u.getD j' [])).length = u.length := List.length_set
  have hsu2 : ((u.set i' (u.getD j' [])).set j' (u.getD i' [])).length = u.length := by rw [List.length_set, List.length_set]
  have hu0 : 2 ≤ u.length := by omega
  refine ⟨by simp only [inR]; omega, by omega, by simp only [inR]; omega, by omega, ⟨by omega, by omega⟩, lj', ⟨by omega, by omega⟩, li', ⟨by omega, by omega⟩, li', ⟨by omega, by omega⟩, hsu, ⟨hsu, by omega⟩, ?_⟩
  refine callK [2] k5 ⟨⟨rfl, rd_lst rfl hsu2, trivial⟩, trivial⟩ rfl rfl ?_
  simp -implicitDefEqProofs only [killR, push_cast, Nat.reduceBEq, Nat.reduceLT, Nat.reduceLeDiff, Nat.reduceAdd, Nat.reduceSub, Nat.reduceMul, Nat.reduceEqDiff, reduceCtorEq, ↓reduceIte, Int.reduceEq, Int.reduceLT, Int.reduceLE, Int.reduceNe, Int.reduceAdd, Int.reduceSub, Int.reduceMul, Int.reduceToNat, Nat.reduceShiftRight, Nat.reduceAnd, Nat.reduceBNe]
  refine callF k4 ⟨rfl, trivial⟩ rfl rfl ?_
  simp -implicitDefEqProofs only [c1, c2, beq_self_eq_true, push_cast, Nat.reduceBEq, Nat.reduceLT, Nat.reduceLeDiff, Nat.reduceAdd, Nat.reduceSub, Nat.reduceMul, Nat.reduceEqDiff, reduceCtorEq, ↓reduceIte, Int.reduceEq, Int.reduceLT, Int.reduceLE, Int.reduceNe, Int.reduceAdd, Int.reduceSub, Int.reduceMul, Int.reduceToNat, Nat.reduceShiftRight, Nat.reduceAnd, Nat.reduceBNe]
  exact finC rfl rfl
end Go.Proofs.YtligakiolapkkaaDoor
