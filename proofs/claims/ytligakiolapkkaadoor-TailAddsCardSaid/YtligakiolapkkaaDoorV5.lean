/- Reading: length, addresses, loads, parts. -/
import Derived.Test.YtligakiolapkkaaDoorV4
set_option linter.unusedSectionVars false
namespace GoV
open Go

section
variable [GTab] {P : Program} {S : Nat → Prop} {μ : Mu} {h : Heap} {w : World} {C : CallSem}

theorem sz_info {t : TypeId} {sz : Nat} {ag : Bool} (hz : szOf P t = some (sz, ag)) : ∃ i d, P.info? t = some i ∧ P.underlying t = some d ∧ i.size = sz ∧
    (isAgg t).run P w = .ok ag w ∧ (Go.sizeOf t).run P w = .ok sz w := by
  unfold szOf at hz
  split at hz
  · rename_i i d hi hd
    simp only [Option.some.injEq, Prod.mk.injEq] at hz
    obtain ⟨rfl, hg⟩ := hz
    refine ⟨i, d, hi, hd, rfl, ?_, by simp [Go.sizeOf, typeInfo, hi]⟩
    unfold isAgg
    simp only [Sem.run_bind, run_underlying hd, Result.andThen_ok]
    subst hg
    cases d <;> simp
  · cases hz

theorem exec_builtin {o : Oper} {c : Call} {b : Builtin} {a : Act} (ho : o.op = .call c) (hb : c.callee = .builtin b) :
    (execOp a.eval o).run P w = (builtin b c.argTypes o.type (c.args.map fun | .const _ => true | _ => false) (c.args.map a.eval)).run P w := by
  unfold execOp
  simp [ho, resolve, hb, invoke]
  rfl

theorem arr_of_list {α : Type} {x : Array α} {l : List α} (e : x.toList = l) : x = l.toArray := by rw [← e]

theorem rep_slc_seq {r L off len : Nat} {t : Ty} {xs : List t.den} {ex : Bool} {v : Value} (hr : getR h r = .seq t xs ex) (hL : xs.length = L) (H : ARep w S μ h (.slc r L off len) v) :
    ∃ b m cap, μ[r]? = some (some (b, m)) ∧ v = .slice (some ⟨b, off * t.size, none⟩) len cap ∧ len ≤ cap ∧ (off + cap) * t.size = m := by
  have e := getR_some hr rfl
  unfold ARep at H
  obtain ⟨b, m, cap, h1, h2, h3, h4⟩ := H.2.2.1 ((curL_seq e).2 hL)
  rw [rowTy_seq e] at h2 h4
  exact ⟨b, m, cap, h1, h2, h3, h4⟩

theorem rep_slc_lst {r L off len : Nat} {t : Ty} {xs : List t.den} {v : Value} (hr : getR h r = .lst t xs) (hL : xs.length = L) (H : ARep w S μ h (.slc r L off len) v) :
    (xs = [] ∧ v = .slice none 0 0 ∧ len = 0) ∨ (0 < xs.length ∧ ∃ b m cap, μ[r]? = some (some (b, m)) ∧ v = .slice (some ⟨b, off * t.size, none⟩) len cap ∧ len ≤ cap ∧ (off + cap) * t.size = m) := by
  have e := getR_lst hr
  unfold ARep at H
  rcases Nat.eq_zero_or_pos xs.length with h0 | h0
  · obtain ⟨k1, k2⟩ := H.2.2.2 ((virL_lst e).2 h0) (by omega)
    exact .inl ⟨List.eq_nil_of_length_eq_zero h0, k1, k2⟩
  · obtain ⟨b, m, cap, h1, h2, h3, h4⟩ := H.2.2.1 ((curL_lst e).2 ⟨h0, hL⟩)
    rw [rowTy_lst e] at h2 h4
    exact .inr ⟨h0, b, m, cap, h1, h2, h3, h4⟩

theorem rep_eptr_lst {r L i : Nat} {t : Ty} {xs : List t.den} {v : Value} (hr : getR h r = .lst t xs) (h0 : 0 < xs.length) (hL : xs.length = L) (H : ARep w S μ h (.eptr r L i) v) :
    ∃ b m, μ[r]? = some (some (b, m)) ∧ v = .pointer (some ⟨b, i * t.size, none⟩) := by
  have e := getR_lst hr
  unfold ARep at H
  obtain ⟨b, m, h1, h2⟩ := H.2.2 ((curL_lst e).2 ⟨h0, hL⟩)
  exact ⟨b, m, h1, h2 _ (by rw [rowTy_lst e]; rfl)⟩

theorem rep_slc_box {r L off len : Nat} {cs : List AV} {v : Value} (hr : getR h r = .box cs) (H : ARep w S μ h (.slc r L off len) v) :
    ∃ b m cap, μ[r]? = some (some (b, m)) ∧ v = .slice (some ⟨b, off, none⟩) len cap ∧ len ≤ cap := by
  have e := getR_some hr rfl
  unfold ARep at H
  obtain ⟨b, m, cap, h1, h2, h3, _⟩ := H.2.2.1 (curL_box e)
  rw [rowTy_box e] at h2
  exact ⟨b, m, cap, h1, h2, h3⟩

theorem rep_ptr_box {r off : Nat} {cs : List AV} {v : Value} (hr : getR h r = .box cs) (H : ARep w S μ h (.ptr r off) v) :
    ∃ b m, μ[r]? = some (some (b, m)) ∧ v = .pointer (some ⟨b, off, none⟩) := by
  have e := getR_some hr rfl
  unfold ARep at H
  obtain ⟨b, m, h1, h2⟩ := H.2.2 (curL_box e)
  exact ⟨b, m, h1, h2 (rowTy_box e)⟩

theorem rep_eptr {r L i : Nat} {t : Ty} {xs : List t.den} {ex : Bool} {v : Value} (hr : getR h r = .seq t xs ex) (hL : xs.length = L) (H : ARep w S μ h (.eptr r L i) v) :
    ∃ b m, μ[r]? = some (some (b, m)) ∧ v = .pointer (some ⟨b, i * t.size, none⟩) := by
  have e := getR_some hr rfl
  unfold ARep at H
  obtain ⟨b, m, h1, h2⟩ := H.2.2 ((curL_seq e).2 hL)
  exact ⟨b, m, h1, h2 _ (by rw [rowTy_seq e]; rfl)⟩

/-- a builtin that only yields a value -/
theorem snd_len {o : Oper} {c : Call} (ho : o.op = .call c) (hb : c.callee = .builtin .len) : Sound P o := by
  intro S μ h w C hC N s a Q I _ hH hT hc H
  rw [ho] at hc
  simp only [cOp0, hb, cBuiltin] at hc
  unfold cLen at hc
  split at hc
  case h_2 => cases hc
  rename_i x t hx ht
  obtain ⟨x', h1, hc⟩ := bindSome hc
  have rx := ev_rep hT h1
  have hexec : (execOp a.eval o).run P w = ((Builtin.len_ #[t] o.type #[a.eval x]).run P w).andThen fun v w' => .ok (.value v) w' := by
    rw [exec_builtin ho hb, arr_of_list hx, arr_of_list ht]
    simp [builtin]
  generalize a.eval x = vx at *
  have same : ∀ (u : Value) (av : AV), (Builtin.len_ #[t] o.type #[vx]).run P w = .ok u w → ARep w S μ h av u → Q (av, h) → Out S μ w h ((execOp a.eval o).run P w) Q := by
    intro u av h1 h2 h3
    exact Out.same hH (v := u) (by rw [hexec, h1]; rfl) h2 h3
  split at hc
  · rename_i e hu
    cases hc
    simp only [vop, Tr.sem_bind, Tr.sem] at H
    generalize ev s x' = X at *
    have hlen : ∀ b n cp, (Builtin.len_ #[t] o.type #[.slice b n cp]).run P w = .ok (goInt n) w := by intro b n cp; simp [Builtin.len_, run_underlying hu]
    unfold lenV at H
    split at H
    · rename_i t' xs _
      rw [rep_list] at rx
      obtain ⟨ad, cap, e1, _, _⟩ := rx
      cases e1
      exact same _ _ (hlen _ _ _) (rep_int.2 rfl) H
    · unfold ARep at rx
      subst rx
      exact same _ _ (hlen _ _ _) (rep_int.2 rfl) H
    · split at H
      · rename_i hr
        obtain ⟨b, m, cap, _, e2, _⟩ := rep_slc_seq hr H.1 rx
        subst e2
        exact same _ _ (hlen _ _ _) (rep_int.2 rfl) H.2
      · rename_i hr
        rcases rep_slc_lst hr H.1 rx with ⟨_, e2, e3⟩ | ⟨_, b, m, cap, _, e2, _⟩
        · subst e2
          subst e3
          exact same _ _ (hlen _ _ _) (rep_int.2 rfl) H.2
        · subst e2
          exact same _ _ (hlen _ _ _) (rep_int.2 rfl) H.2
      · rename_i hr
        obtain ⟨b, m, cap, _, e2, _⟩ := rep_slc_box hr rx
        subst e2
        exact same _ _ (hlen _ _ _) (rep_int.2 rfl) H
      · exact H.elim
    · exact H.elim
  · rename_i hu
    cases hc
    simp only [vop, Tr.sem_bind, Tr.sem] at H
    generalize ev s x' = X at *
    unfold lenSV at H
    split at H
    · rename_i bs
      rw [rep_str] at rx
      subst rx
      refine same (goInt bs.length) _ ?_ (rep_int.2 rfl) H
      simp [Builtin.len_, run_underlying hu]
      rfl
    · exact H.elim
  · rename_i n e hu
    cases hc
    simp only [vop, Tr.sem] at H
    exact same (goInt n) _ (by simp [Builtin.len_, run_underlying hu]) (rep_int.2 rfl) H
  · cases hc

theorem snd_mm {o : Oper} {c : Call} (ho : o.op = .call c) (b : Bool) (hb : c.callee = .builtin (if b then .max else .min)) : Sound P o := by
  intro S μ h w C hC N s a Q I _ hH hT hc H
  rw [ho] at hc
  have hc' : ∃ x y x' y', c.args = #[x, y] ∧ cOpd x = some x' ∧ cOpd y = some y' ∧ I = .mm b x' y' := by
    have hc : cMM b c.args.toList = some I := by
      cases b <;> simpa only [cOp0, hb, cBuiltin, if_true, if_false, Bool.false_eq_true] using hc
    unfold cMM at hc
    split at hc
    · rename_i x y hx
      obtain ⟨x', h1, hc⟩ := bindSome hc
      obtain ⟨y', h2, hc⟩ := mapSome hc
      exact ⟨x, y, x', y', arr_of_list hx, h1, h2, hc.symm⟩
    · cases hc
  obtain ⟨x, y, x', y', e1, h1, h2, rfl⟩ := hc'
  have rx := ev_rep hT h1
  have ry := ev_rep hT h2
  have hexec : (execOp a.eval o).run P w = (((if b then Builtin.max_ c.argTypes o.type #[a.eval x, a.eval y] else Builtin.min_ c.argTypes o.type #[a.eval x, a.eval y])).run P w).andThen fun v w' => .ok (.value v) w' := by
    rw [exec_builtin ho hb, e1]
    cases b <;> simp [builtin]
  generalize a.eval x = vx at *
  generalize a.eval y = vy at *
  simp only [vop] at H
  generalize ev s x' = X at *
  generalize ev s y' = Y at *
  split at H
  · rename_i k m k' n
    split at H
    · rename_i hk
      have := kEq_eq hk
      subst this
      rw [rep_int] at rx ry
      subst rx; subst ry
      cases b with
      | true =>
        refine Out.same hH (v := .int k (max m n)) ?_ (rep_int.2 rfl) H
        rw [hexec]; simp [Builtin.max_, Builtin.max2]; omega
      | false =>
        refine Out.same hH (v := .int k (min m n)) ?_ (rep_int.2 rfl) H
        rw [hexec]; simp [Builtin.min_, Builtin.min2]; omega
    · exact H.elim
  · exact H.elim
end
end GoV
