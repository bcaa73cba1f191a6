/- Slices made and appended to. -/
import Derived.Test.YtligakiolapkkaaDoorV9
set_option linter.unusedSectionVars false
namespace GoV
open Go

section
variable [GTab] {P : Program} {S : Nat → Prop} {μ : Mu} {h : Heap} {w : World} {C : CallSem}

theorem zchk_rep {T : Nat → Prop} : ∀ (t : Ty) (cs rest : List Value), zchk t cs = some rest → ∃ c, cs = c ++ rest ∧ DRep w T t t.dflt c := by
  intro t
  induction t with
  | int k =>
    intro cs rest H
    unfold zchk zI at H
    split at H
    · split at H
      · rename_i hk
        cases H
        exact ⟨_, (List.singleton_append ..).symm, by rw [← kEq_eq hk]; rfl⟩
      · cases H
    · cases H
  | bool =>
    intro cs rest H
    unfold zchk zB at H
    split at H
    · cases H; exact ⟨_, (List.singleton_append ..).symm, rfl⟩
    · cases H
  | str =>
    intro cs rest H
    unfold zchk zS at H
    split at H
    · split at H
      · rename_i s _ _ hs
        cases H
        refine ⟨_, (List.singleton_append ..).symm, ?_⟩
        obtain ⟨⟨l⟩⟩ := s
        have hs : l = [] := hs
        subst hs
        rfl
      · cases H
    · cases H
  | list t ih =>
    intro cs rest H
    unfold zchk zL at H
    split at H
    · cases H; exact ⟨_, (List.singleton_append ..).symm, none, 0, rfl, Nat.le_refl _, fun e => absurd rfl e⟩
    · cases H
  | unit => intro cs rest H; cases H; exact ⟨[], rfl, rfl⟩
  | pair a b iha ihb =>
    intro cs rest H
    unfold zchk at H
    obtain ⟨r1, h1, h2⟩ := bindSome H
    obtain ⟨c1, e1, d1⟩ := iha _ _ h1
    obtain ⟨c2, e2, d2⟩ := ihb _ _ h2
    exact ⟨c1 ++ c2, by rw [e1, e2, List.append_assoc], c1, c2, rfl, d1, d2⟩
  | arr n t ih =>
    intro cs rest H
    unfold zchk at H
    have key : ∀ (n : Nat) (cs rest : List Value), zchkN (zchk t) n cs = some rest → ∃ c, cs = c ++ rest ∧ DRep w T (.arr n t) (List.replicate n t.dflt) c := by
      intro n
      induction n with
      | zero => intro cs rest H; cases H; exact ⟨[], rfl, rfl, [], rfl, rfl, fun i hi => by simp at hi⟩
      | succ n ihn =>
        intro cs rest H
        unfold zchkN at H
        obtain ⟨r1, h1, h2⟩ := bindSome H
        obtain ⟨c1, e1, d1⟩ := ih _ _ h1
        obtain ⟨c2, e2, hn, css, hl, ef, d2⟩ := ihn _ _ h2
        refine ⟨c1 ++ c2, by rw [e1, e2, List.append_assoc], by simp, c1 :: css, by simp [hl], by simp [ef], ?_⟩
        intro i hi hi'
        cases i with
        | zero => simpa [List.replicate_succ] using d1
        | succ i =>
          have := d2 i (by simpa using hi) (by simpa using hi')
          simpa [List.replicate_succ] using this
    exact key n cs rest H

theorem elTy_spec {e : TypeId} {t : Ty} {by_ : Nat} (he : elTy P e = some (t, by_)) : ∃ i z, P.info? e = some i ∧ i.size = t.size ∧ 0 < t.size ∧ i.zero = some z ∧ i.bytes = by_ ∧
    ∀ (w : World) (T : Nat → Prop), DRep w T t t.dflt z.cells.toList := by
  unfold elTy at he
  split at he
  · rename_i t' i ht hi
    split at he
    · rename_i z hs hp hz
      split at he
      · rename_i hc
        simp only [Option.some.injEq, Prod.mk.injEq] at he
        obtain ⟨rfl, rfl⟩ := he
        refine ⟨i, z, hi, Nat.eq_of_beq_eq_true hs, Nat.le_of_ble_eq_true hp, hz, rfl, fun w T => ?_⟩
        obtain ⟨c, e, d⟩ := zchk_rep (w := w) (T := T) _ _ _ hc
        rw [e, List.append_nil]; exact d
      · cases he
    · cases he
  · cases he

theorem elemOf_spec {t e : TypeId} (he : elemOf P t = some e) : P.underlying t = some (.slice e) := by
  unfold elemOf at he
  split at he
  · rename_i e' hu; cases he; exact hu
  · cases he

theorem madeCells_rep (z : Array Value) : ∀ (n : Nat), (madeCells z (n * z.size)).toList = (List.replicate n z.toList).flatten := by
  intro n
  by_cases hz : z.size = 0
  · have : z = #[] := Array.eq_empty_of_size_eq_zero hz
    subst this
    simp [madeCells]
  apply List.ext_getElem?
  intro i
  have hflat : ∀ n, (List.replicate n z.toList).flatten.length = n * z.size := by
    intro n; induction n with
    | zero => simp
    | succ n ih => rw [List.replicate_succ, List.flatten_cons, List.length_append, ih, Nat.add_mul]; simp; omega
  have hget : ∀ n i, i < n * z.size → (List.replicate n z.toList).flatten[i]? = z[i % z.size]? := by
    intro n
    induction n with
    | zero => intro i hi; simp at hi
    | succ n ih =>
      intro i hi
      rw [List.replicate_succ, List.flatten_cons]
      by_cases hlt : i < z.size
      · rw [List.getElem?_append_left (by simpa using hlt), Nat.mod_eq_of_lt hlt]; simp
      · rw [List.getElem?_append_right (by simp; omega)]
        simp only [Array.length_toList]
        rw [ih (i - z.size) (by rw [Nat.add_mul] at hi; omega), ← Nat.mod_eq_sub_mod (by omega)]
  by_cases hi : i < n * z.size
  · rw [hget n i hi]
    have hm : i % z.size < z.size := Nat.mod_lt _ (by omega)
    simp [madeCells, hi, hm]
  · rw [List.getElem?_eq_none (by simp [madeCells]; omega), List.getElem?_eq_none (by rw [hflat]; omega)]

theorem dflt_rep {t : Ty} {z : Value} {T : Nat → Prop} (hz : DRep w T t t.dflt z.cells.toList) (n : Nat) : DRep w T (.arr n t) (List.replicate n t.dflt) (madeCells z.cells (n * z.cells.size)).toList := by
  rw [madeCells_rep]
  refine ⟨by simp, List.replicate n z.cells.toList, by simp, rfl, fun i hi hi' => ?_⟩
  simpa using hz

theorem flatten_set {sz : Nat} : ∀ (css : List (List Value)) (i : Nat) (c : List Value), (∀ d ∈ css, d.length = sz) → c.length = sz → i < css.length → (css.set i c).flatten = splice css.flatten (i * sz) c := by
  intro css i c hall hc hi
  have hlen : ∀ (l : List (List Value)), (∀ d ∈ l, d.length = sz) → l.flatten.length = l.length * sz := by
    intro l
    induction l with
    | nil => intro _; simp
    | cons d l ih => intro H; simp only [List.flatten_cons, List.length_append, List.length_cons, ih (fun e he => H e (List.mem_cons_of_mem _ he)), H d (List.mem_cons_self ..), Nat.add_mul]; omega
  have hd := hlen css hall
  have hle : (i + 1) * sz ≤ css.length * sz := Nat.mul_le_mul_right _ hi
  rw [Nat.add_mul] at hle
  rw [splice_eq _ _ _ (by rw [hc, hd]; omega)]
  have e1 : css = css.take i ++ css[i] :: css.drop (i + 1) := by simp
  have h1 : (css.take i).flatten.length = i * sz := by
    rw [hlen _ (fun d hd => hall d (List.mem_of_mem_take hd))]; simp [Nat.min_eq_left (Nat.le_of_lt hi)]
  have h2 : (css[i]).length = sz := hall _ (List.getElem_mem hi)
  have e2 : css.flatten = (css.take i).flatten ++ (css[i] ++ (css.drop (i + 1)).flatten) := by
    conv => lhs; rw [e1]
    rw [List.flatten_append, List.flatten_cons]
  have e3 : css.set i c = css.take i ++ c :: css.drop (i + 1) := by rw [List.set_eq_take_append_cons_drop, if_pos hi]
  rw [e3, e2]
  simp only [List.flatten_append, List.flatten_cons]
  rw [hc]
  have t1 : ((css.take i).flatten ++ (css[i] ++ (css.drop (i + 1)).flatten)).take (i * sz) = (css.take i).flatten := by rw [← h1]; exact List.take_left
  have t2 : ((css.take i).flatten ++ (css[i] ++ (css.drop (i + 1)).flatten)).drop (i * sz + sz) = (css.drop (i + 1)).flatten := by
    rw [← List.append_assoc]
    have : ((css.take i).flatten ++ css[i]).length = i * sz + sz := by simp [h1, h2]
    rw [← this]; exact List.drop_left
  rw [t1, t2, List.append_assoc]

theorem DRep.arr_set {t : Ty} {n : Nat} {xs : List t.den} {cs c : List Value} {y : t.den} {T : Nat → Prop} {i : Nat} (H : DRep w T (.arr n t) xs cs) (hy : DRep w T t y c) (hi : i < n) :
    DRep w T (.arr n t) (xs.set i y) (splice cs (i * t.size) c) := by
  obtain ⟨hn, css, hl, e, hd⟩ := H
  have hlen : ∀ d ∈ css, d.length = t.size := by
    intro d hd'
    obtain ⟨q, hq', e⟩ := List.getElem_of_mem hd'
    have := DRep.len t _ _ (hd q (by omega) hq')
    rw [e] at this; exact this
  refine ⟨by simpa using hn, css.set i c, by simpa using hl, by rw [e]; exact (flatten_set css i c hlen (DRep.len _ _ _ hy) (by omega)).symm, ?_⟩
  intro j hj hj'
  by_cases hij : i = j
  · subst hij; simpa using hy
  · simp only [List.getElem_set_ne hij]
    exact hd j (by simpa using hj) (by simpa using hj')

theorem DRep.arr_append {t : Ty} {n m : Nat} {xs ys : List t.den} {cs ds : List Value} {T : Nat → Prop} (H : DRep w T (.arr n t) xs cs) (K : DRep w T (.arr m t) ys ds) :
    DRep w T (.arr (n + m) t) (xs ++ ys) (cs ++ ds) := by
  obtain ⟨hn, css, hl, e, hd⟩ := H
  obtain ⟨hm, dss, hl', e', hd'⟩ := K
  refine ⟨by simp [hn, hm], css ++ dss, by simp [hl, hl'], by simp [e, e'], fun i hi hi' => ?_⟩
  by_cases hlt : i < n
  · rw [List.getElem_append_left (by omega), List.getElem_append_left (by omega)]
    exact hd i (by omega) (by omega)
  · rw [List.getElem_append_right (by omega), List.getElem_append_right (by omega)]
    have e : i - css.length = i - xs.length := by omega
    simp only [e]
    exact hd' _ (by simp at hi; omega) (by simp at hi; omega)

theorem DRep.arr_sub {t : Ty} {n : Nat} {xs : List t.den} {cs : List Value} {T : Nat → Prop} (H : DRep w T (.arr n t) xs cs) (off len : Nat) (hle : off + len ≤ n) :
    DRep w T (.arr len t) (subL xs off len) ((cs.drop (off * t.size)).take (len * t.size)) := by
  obtain ⟨hn, css, hl, e, hd⟩ := H
  have hlen : ∀ d ∈ css, d.length = t.size := by
    intro d hd'
    obtain ⟨q, hq', e⟩ := List.getElem_of_mem hd'
    have := DRep.len t _ _ (hd q (by omega) hq')
    rw [e] at this; exact this
  have hfl : ∀ (l : List (List Value)), (∀ d ∈ l, d.length = t.size) → ∀ k, k ≤ l.length → l.flatten.drop (k * t.size) = (l.drop k).flatten ∧ l.flatten.take (k * t.size) = (l.take k).flatten := by
    intro l
    induction l with
    | nil => intro _ k hk; simp at hk; subst hk; simp
    | cons d l ih =>
      intro H k hk
      cases k with
      | zero => simp
      | succ k =>
        have hdl := H d (List.mem_cons_self ..)
        have := ih (fun e he => H e (List.mem_cons_of_mem _ he)) k (by simpa using hk)
        have e : (k + 1) * t.size = d.length + k * t.size := by rw [hdl, Nat.add_mul]; omega
        constructor
        · rw [List.flatten_cons, e, ← List.drop_drop, List.drop_left, this.1]; rfl
        · rw [List.flatten_cons, e, List.take_length_add_append, this.2]; rfl
  refine ⟨by simp [subL]; omega, (css.drop off).take len, by simp; omega, ?_, ?_⟩
  · rw [e, (hfl css hlen off (by omega)).1, (hfl (css.drop off) (fun d hd => hlen d (List.mem_of_mem_drop hd)) len (by simp; omega)).2]
  · intro i hi hi'
    have : i < len := by simp at hi'; omega
    have := hd (off + i) (by omega) (by omega)
    simpa [subL] using this
end
end GoV
