/- A call whose arguments are read, and whose new rows are taken over. -/
import Derived.Test.YtligakiolapkkaaDoorV23
set_option linter.unusedSectionVars false
namespace GoV
open Go

mutual
/-- no list within: nothing that could lie in another's block -/
def flatA : AV → Bool
  | .dat t _ => t.flat
  | .imm _ _ => false
  | .lit _ _ => false
  | .agg cs => flatAs cs
  | .tup cs => flatAs cs
  | .fn _ a b => flatAs a && flatAs b
  | .ifc _ a => flatA a
  | .pan _ => false
  | _ => true
def flatAs : List AV → Bool
  | [] => true
  | a :: as => flatA a && flatAs as
end

mutual
def shA (n : Nat) : AV → AV
  | .agg cs => .agg (shAs n cs)
  | .tup cs => .tup (shAs n cs)
  | .slc r L off len => .slc (n + r) L off len
  | .ptr r off => .ptr (n + r) off
  | .eptr r L i => .eptr (n + r) L i
  | .yld r => .yld (n + r)
  | .mref r => .mref (n + r)
  | .ifc T a => .ifc T (shA n a)
  | .fn f a b => .fn f (shAs n a) (shAs n b)
  | v => v
def shAs (n : Nat) : List AV → List AV
  | [] => []
  | a :: as => shA n a :: shAs n as
end

def flatRow : Row → Bool
  | .box cs => flatAs cs
  | .seq t _ _ => t.flat
  | .lst t _ => t.flat
  | .dead => true
  | .mp .. => true
  | _ => false
def shRow (n : Nat) : Row → Row
  | .box cs => match flatAs cs with | true => .box (shAs n cs) | false => .dead
  | .seq t xs ex => match t.flat with | true => .seq t xs ex | false => .dead
  | .lst t xs => match t.flat with | true => .lst t xs | false => .dead
  | .mp a b es => .mp a b es
  | _ => .dead
def flatRows : Heap → Bool
  | [] => true
  | r :: h => flatRow r && flatRows h
def shRows (n : Nat) : Heap → Heap
  | [] => []
  | r :: h => shRow n r :: shRows n h

section
variable [GTab] {w w' : World} {S : Nat → Prop} {μ μ' : Mu} {h fr : Heap}

theorem shRows_get (n : Nat) : ∀ (fr : Heap) (i : Nat), (shRows n fr)[i]? = (fr[i]?).map (shRow n)
  | [], i => by simp [shRows]
  | r :: fr, 0 => by simp [shRows]
  | r :: fr, i + 1 => by simpa [shRows] using shRows_get n fr i
theorem shRows_length (n : Nat) : ∀ (fr : Heap), (shRows n fr).length = fr.length
  | [] => rfl
  | r :: fr => by simp [shRows, shRows_length n fr]
theorem flatRows_get : ∀ {fr : Heap}, flatRows fr = true → ∀ (i : Nat) (row : Row), fr[i]? = some row → flatRow row = true
  | [], _, i, row, e => by simp at e
  | r :: fr, H, 0, row, e => by simp only [flatRows, Bool.and_eq_true] at H; simp at e; subst e; exact H.1
  | r :: fr, H, i + 1, row, e => by simp only [flatRows, Bool.and_eq_true] at H; exact flatRows_get H.2 i row (by simpa using e)

theorem DRep.flat {T T' : Nat → Prop} : ∀ (t : Ty) (x : t.den) (cs : List Value), t.flat = true → DRep w T t x cs → DRep w T' t x cs := by
  intro t
  induction t with
  | int k => intro x cs _ H; exact H
  | bool => intro x cs _ H; exact H
  | str => intro x cs _ H; exact H
  | unit => intro x cs _ H; exact H
  | list t ih => intro x cs hf H; simp [Ty.flat] at hf
  | pair a b iha ihb =>
    intro x cs hf H
    simp only [Ty.flat, Bool.and_eq_true] at hf
    obtain ⟨c1, c2, e, h1, h2⟩ := H
    exact ⟨c1, c2, e, iha _ _ hf.1 h1, ihb _ _ hf.2 h2⟩
  | arr n t ih =>
    intro xs cs hf H
    simp only [Ty.flat] at hf
    obtain ⟨hn, css, hl, e, h1⟩ := H
    exact ⟨hn, css, hl, e, fun i hi hi' => ih _ _ hf (h1 i hi hi')⟩

theorem DVal.flat {T T' : Nat → Prop} {t : Ty} {x : t.den} {v : Value} (hf : t.flat = true) (H : DVal w T t x v) : DVal w T' t x v := by
  unfold DVal at *
  split at H
  · obtain ⟨cs, e, h1⟩ := H; exact ⟨cs, e, h1.flat _ _ _ hf⟩
  · exact H.flat _ _ _ hf

theorem get_sh (r : Nat) : (h ++ shRows h.length fr)[h.length + r]? = (fr[r]?).map (shRow h.length) := by
  rw [List.getElem?_append_right (by omega), Nat.add_sub_cancel_left]; exact shRows_get _ _ _
theorem curL_sh {r L : Nat} (H : curL (h ++ shRows h.length fr) (h.length + r) L) : curL fr r L ∧ rowTy (h ++ shRows h.length fr) (h.length + r) = rowTy fr r := by
  unfold curL rowTy at *
  rw [get_sh] at *
  cases hr : fr[r]? with
  | none => rw [hr] at H; exact H.elim
  | some row =>
    rw [hr] at H
    cases row with
    | box cs => simp only [Option.map_some, shRow] at H ⊢; cases hf : flatAs cs <;> rw [hf] at H <;> first | exact H.elim | exact ⟨trivial, rfl⟩
    | seq t xs ex => simp only [Option.map_some, shRow] at H ⊢; cases hf : t.flat <;> rw [hf] at H <;> first | exact H.elim | exact ⟨H, rfl⟩
    | lst t xs => simp only [Option.map_some, shRow] at H ⊢; cases hf : t.flat <;> rw [hf] at H <;> first | exact H.elim | exact ⟨H, rfl⟩
    | loop => exact H.elim
    | dfr => exact H.elim
    | dead => exact H.elim
    | res => exact H.elim
    | mp => exact ⟨trivial, rfl⟩
theorem virL_sh {r : Nat} (H : virL (h ++ shRows h.length fr) (h.length + r)) : virL fr r := by
  unfold virL at *
  rw [get_sh] at *
  cases hr : fr[r]? with
  | none => rw [hr] at H; exact H.elim
  | some row =>
    rw [hr] at H
    cases row with
    | box cs => simp only [Option.map_some, shRow] at H; cases hf : flatAs cs <;> rw [hf] at H <;> exact H.elim
    | seq t xs ex => simp only [Option.map_some, shRow] at H; cases hf : t.flat <;> rw [hf] at H <;> exact H.elim
    | lst t xs => simp only [Option.map_some, shRow] at H ⊢; cases hf : t.flat <;> rw [hf] at H <;> first | exact H.elim | exact H
    | loop => exact H.elim
    | dfr => exact H.elim
    | dead => exact H.elim
    | res => exact H.elim
    | mp => exact H.elim
theorem genOK_sh {r L : Nat} (H : genOK fr r L) : genOK (h ++ shRows h.length fr) (h.length + r) L := by
  unfold genOK at *
  rw [get_sh]
  cases hr : fr[r]? with
  | none => trivial
  | some row =>
    rw [hr] at H
    cases row with
    | seq t xs ex => simp only [Option.map_some, shRow]; cases hf : t.flat <;> first | trivial | exact H
    | lst t xs => simp only [Option.map_some, shRow]; cases hf : t.flat <;> first | trivial | exact H
    | box cs => simp only [Option.map_some, shRow]; cases hf : flatAs cs <;> trivial
    | loop => trivial
    | dfr => trivial
    | dead => trivial
    | res => exact H.elim
    | mp => trivial
theorem mu_sh (hl : μ.length = h.length) (r : Nat) : (μ ++ μ')[h.length + r]? = μ'[r]? := by
  rw [List.getElem?_append_right (by omega)]; congr 1; omega

mutual
theorem ARep.adopt (hl : μ.length = h.length) : ∀ (a : AV) (v : Value), flatA a = true → ARep w S μ' fr a v → ARep w S (μ ++ μ') (h ++ shRows h.length fr) (shA h.length a) v
  | .top, v, _, H => by unfold shA ARep; trivial
  | .dat t x, v, hf, H => by
    unfold shA
    unfold flatA at hf
    unfold ARep at H ⊢
    exact H.flat hf
  | .agg cs, v, hf, H => by
    unfold shA
    unfold flatA at hf
    unfold ARep at H ⊢
    obtain ⟨vs, e, h1, h2⟩ := H; exact ⟨vs, e, ARepL.adopt hl cs vs hf h1, h2⟩
  | .tup cs, v, hf, H => by
    unfold shA
    unfold flatA at hf
    unfold ARep at H ⊢
    obtain ⟨vs, e, h1⟩ := H; exact ⟨vs, e, ARepL.adopt hl cs vs hf h1⟩
  | .nils, v, _, H => by unfold shA; unfold ARep at H ⊢; exact H
  | .nilp, v, _, H => by unfold shA; unfold ARep at H ⊢; exact H
  | .nilf, v, _, H => by unfold shA; unfold ARep at H ⊢; exact H
  | .nilm, v, _, H => by unfold shA; unfold ARep at H ⊢; exact H
  | .glob g, v, _, H => by unfold shA; unfold ARep at H ⊢; exact H
  | .imm t x, v, hf, _ => by unfold flatA at hf; cases hf
  | .slc r L off len, v, _, H => by
    unfold shA
    unfold ARep at H ⊢
    refine ⟨H.1, ⟨by rw [List.length_append, shRows_length]; have := H.2.1.1; omega, genOK_sh H.2.1.2⟩, fun hc => ?_, fun hv => H.2.2.2 (virL_sh hv)⟩
    obtain ⟨k1, k2⟩ := curL_sh hc
    rw [mu_sh hl, k2]
    exact H.2.2.1 k1
  | .ptr r off, v, _, H => by
    unfold shA
    unfold ARep at H ⊢
    refine ⟨H.1, ⟨by rw [List.length_append, shRows_length]; have := H.2.1.1; omega, genOK_sh H.2.1.2⟩, fun hc => ?_⟩
    obtain ⟨k1, k2⟩ := curL_sh hc
    rw [mu_sh hl, k2]
    exact H.2.2 k1
  | .eptr r L i, v, _, H => by
    unfold shA
    unfold ARep at H ⊢
    refine ⟨H.1, ⟨by rw [List.length_append, shRows_length]; have := H.2.1.1; omega, genOK_sh H.2.1.2⟩, fun hc => ?_⟩
    obtain ⟨k1, k2⟩ := curL_sh hc
    rw [mu_sh hl, k2]
    exact H.2.2 k1
  | .yld r, v, _, H => by
    unfold shA
    unfold ARep at H ⊢
    refine ⟨H.1, ⟨by rw [List.length_append, shRows_length]; have := H.2.1.1; omega, genOK_sh H.2.1.2⟩, fun hc => ?_⟩
    obtain ⟨k1, k2⟩ := curL_sh hc
    rw [mu_sh hl, k2]
    exact H.2.2 k1
  | .mref r, v, _, H => by
    unfold shA
    unfold ARep at H ⊢
    refine ⟨H.1, ⟨by rw [List.length_append, shRows_length]; have := H.2.1.1; omega, genOK_sh H.2.1.2⟩, fun hc => ?_⟩
    obtain ⟨k1, k2⟩ := curL_sh hc
    rw [mu_sh hl, k2]
    exact H.2.2 k1
  | .nili, v, _, H => by unfold shA; unfold ARep at H ⊢; exact H
  | .lit t xs, v, hf, _ => by unfold flatA at hf; cases hf
  | .pan _, v, _, H => by unfold ARep at H; exact H.elim
  | .ifc T a, v, hf, H => by
    unfold shA
    unfold flatA at hf
    unfold ARep at H ⊢
    obtain ⟨u, e, h1⟩ := H
    exact ⟨u, e, ARep.adopt hl a u hf h1⟩
  | .fn f first caps, v, hf, H => by
    unfold shA
    unfold flatA at hf
    unfold ARep at H ⊢
    simp only [Bool.and_eq_true] at hf
    obtain ⟨fs, cs, e, h1, h2⟩ := H
    exact ⟨fs, cs, e, ARepL.adopt hl first fs hf.1 h1, ARepL.adopt hl caps cs hf.2 h2⟩
theorem ARepL.adopt (hl : μ.length = h.length) : ∀ (as : List AV) (vs : List Value), flatAs as = true → ARepL w S μ' fr as vs → ARepL w S (μ ++ μ') (h ++ shRows h.length fr) (shAs h.length as) vs
  | [], [], _, _ => by unfold shAs ARepL; trivial
  | a :: as, v :: vs, hf, H => by
    unfold shAs
    unfold ARepL at H ⊢
    unfold flatAs at hf
    simp only [Bool.and_eq_true] at hf
    exact ⟨ARep.adopt hl a v hf.1 H.1, ARepL.adopt hl as vs hf.2 H.2⟩
  | [], _ :: _, _, H => by unfold ARepL at H; exact H.elim
  | _ :: _, [], _, H => by unfold ARepL at H; exact H.elim
end

/-- The rows of a call that ran beside ours are taken over. -/
theorem hrep_adopt (hH : HRep w S μ h) (he : Ext [] w μ' w') (hF : HRep w' S μ' fr) :
    Ext μ w (μ ++ μ') w' ∧ HExt μ h (μ ++ μ') (h ++ shRows h.length fr) ∧ HRep w' S (μ ++ μ') (h ++ shRows h.length fr) := by
  have hge : ∀ b, μ'.has b → w.heap.size ≤ b := fun b hb => (he.fresh b hb).elim (fun h => (has_nil b h).elim) id
  have happ : ∀ (i : Nat) (x : Option (Nat × Nat)), (μ ++ μ')[i]? = some x → (i < h.length ∧ μ[i]? = some x) ∨ (h.length ≤ i ∧ μ'[i - h.length]? = some x) := by
    intro i x e
    rcases Nat.lt_or_ge i h.length with hi | hi
    · exact .inl ⟨hi, by rwa [List.getElem?_append_left (by rw [hH.len]; exact hi)] at e⟩
    · exact .inr ⟨hi, by rwa [List.getElem?_append_right (by rw [hH.len]; exact hi), hH.len] at e⟩
  have hE : Ext μ w (μ ++ μ') w' := ⟨he.os, he.tape, he.output, he.grow, fun b hb _ => he.same b hb (has_nil b), fun b ⟨i, m, hm⟩ => by
    rcases happ i _ hm with ⟨_, h1⟩ | ⟨_, h1⟩
    · exact .inl ⟨i, m, h1⟩
    · exact .inr (hge b ⟨_, m, h1⟩)⟩
  have hX : HExt μ h (μ ++ μ') (h ++ shRows h.length fr) := ⟨by simp, fun r L hr _ hc => by
      unfold curL at hc
      rw [List.getElem?_append_left hr] at hc
      refine ⟨hc, List.getElem?_append_left (by rw [hH.len]; exact hr), ?_⟩
      unfold rowTy
      rw [List.getElem?_append_left hr], fun r L hr hg => by
      unfold genOK
      rw [List.getElem?_append_left hr]; exact hg, fun r hr hv => by
      unfold virL at hv ⊢
      rw [List.getElem?_append_left hr] at hv; exact hv⟩
  refine ⟨hE, hX, ⟨by simp [hH.len, hF.len, shRows_length], ?_, ?_, ?_, ?_⟩⟩
  · intro i j b m m' h1 h2
    rcases happ i _ h1 with ⟨a1, a2⟩ | ⟨a1, a2⟩ <;> rcases happ j _ h2 with ⟨b1, b2⟩ | ⟨b1, b2⟩
    · exact hH.inj i j b m m' a2 b2
    · have := hH.lt i b m a2; have := hge b ⟨_, m', b2⟩; omega
    · have := hH.lt j b m' b2; have := hge b ⟨_, m, a2⟩; omega
    · have := hF.inj _ _ b m m' a2 b2; omega
  · intro i b m h1
    rcases happ i _ h1 with ⟨_, a2⟩ | ⟨_, a2⟩
    · exact Nat.lt_of_lt_of_le (hH.lt i b m a2) he.grow
    · exact hF.lt _ b m a2
  · intro i b m h1
    rcases happ i _ h1 with ⟨_, a2⟩ | ⟨_, a2⟩
    · exact hH.own i b m a2
    · exact hF.own _ b m a2
  · intro i row h1 hl
    rcases Nat.lt_or_ge i h.length with hi | hi
    · rw [List.getElem?_append_left hi] at h1
      obtain ⟨b, m, e, H⟩ := hH.rows i row h1 hl
      refine ⟨b, m, by rw [List.getElem?_append_left (by rw [hH.len]; exact hi)]; exact e, ?_⟩
      refine RRep.ext hH ⟨i, e⟩ hE hX (he.same b (hH.lt _ _ _ e) (has_nil b)) ?_ H
      intro d db dm _ k1 k2
      have hd := (List.getElem?_eq_some_iff.1 k2).1
      exact ⟨by rw [List.getElem?_append_left (by rw [hH.len]; exact hd)]; exact k1, by rw [List.getElem?_append_left hd]; exact k2⟩
    · obtain ⟨j, rfl⟩ : ∃ j, i = h.length + j := ⟨i - h.length, by omega⟩
      rw [get_sh] at h1
      cases hj : fr[j]? with
      | none => rw [hj] at h1; cases h1
      | some row0 =>
        rw [hj] at h1
        simp only [Option.map_some, Option.some.injEq] at h1
        subst h1
        cases row0 with
        | box cs =>
          simp only [shRow] at hl ⊢
          cases hf : flatAs cs with
          | false => rw [hf] at hl; cases hl
          | true =>
            obtain ⟨b, m, e, c, ty, k1, k2, k0, k3, k4⟩ := hF.rows j _ hj rfl
            have k5 := ARepL.adopt hH.len _ _ hf k3
            exact ⟨b, m, by rw [mu_sh hH.len]; exact e, c, ty, k1, k2, by rw [k5.length, List.length_take]; omega, by rw [k5.length, List.length_take, show min cs.length c.toList.length = cs.length from Nat.min_eq_left (by simp only [Array.length_toList]; omega)]; exact k5, k4⟩
        | seq t xs ex =>
          simp only [shRow] at hl ⊢
          cases hf : t.flat with
          | false => rw [hf] at hl; cases hl
          | true =>
            obtain ⟨b, m, e, c, ty, k1, k2, k3, k4, k5, k6⟩ := hF.rows j _ hj rfl
            exact ⟨b, m, by rw [mu_sh hH.len]; exact e, c, ty, k1, k2, k3, k4, k5, k6.flat _ _ _ (by simpa [Ty.flat] using hf)⟩
        | lst t xs =>
          simp only [shRow] at hl ⊢
          cases hf : t.flat with
          | false => rw [hf] at hl; cases hl
          | true =>
            rw [hf] at hl
            obtain ⟨b, m, e, c, ty, k1, k2, k3, k4, k5, k6⟩ := hF.rows j _ hj hl
            exact ⟨b, m, by rw [mu_sh hH.len]; exact e, c, ty, k1, k2, k3, k4, k5, k6.flat _ _ _ (by simpa [Ty.flat] using hf)⟩
        | loop => cases hl
        | dfr => cases hl
        | dead => cases hl
        | res => cases hl
        | mp a b es =>
          obtain ⟨b, m, e, k⟩ := hF.rows j _ hj rfl
          exact ⟨b, m, by rw [mu_sh hH.len]; exact e, k⟩
end

end GoV
