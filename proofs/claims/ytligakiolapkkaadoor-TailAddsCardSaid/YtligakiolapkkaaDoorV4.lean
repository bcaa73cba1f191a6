/- What instructions of the abstract machine say of the model's operations: those that compute, read, make rows. -/
import Derived.Test.YtligakiolapkkaaDoorV3
set_option linter.unusedSectionVars false
namespace GoV
open Go

section
variable [GTab] {P : Program} {S : Nat → Prop} {μ : Mu} {h : Heap} {w : World} {C : CallSem}

theorem rep_int {k : IntKind} {n : Int} {v : Value} : ARep w S μ h (.dat (.int k) n) v ↔ v = .int k n := by
  unfold ARep; simp [DVal, Ty.isAgg, DRep]
theorem rep_bool {b : Bool} {v : Value} : ARep w S μ h (.dat .bool b) v ↔ v = .bool b := by
  unfold ARep; simp [DVal, Ty.isAgg, DRep]
theorem rep_str {b : List UInt8} {v : Value} : ARep w S μ h (.dat .str b) v ↔ v = .string ⟨b.toArray⟩ := by
  unfold ARep; simp [DVal, Ty.isAgg, DRep]
theorem rep_list {t : Ty} {xs : List t.den} {v : Value} : ARep w S μ h (.dat (.list t) xs) v ↔ DRep w (Sd S μ) (.list t) xs [v] := by
  unfold ARep; simp [DVal, Ty.isAgg]

theorem wrap_in {k : IntKind} {n : Int} (hn : inR k n) : k.wrap n = n := by
  unfold inR at hn
  cases k <;> simp only [IntKind.wrap, IntKind.signed, IntKind.bits, Bool.true_and, Bool.false_and, Bool.false_eq_true, if_false, Int.reducePow, Nat.reduceSub] at * <;> (first | omega | (split <;> (rename_i hh; simp at hh; omega)))

theorem bv_toNat {k : IntKind} {x : Int} (h0 : 0 ≤ x) (hx : inR k x) : (BitVec.ofInt k.bits x).toNat = x.toNat := by
  rw [BitVec.toNat_ofInt]
  unfold inR at hx
  have : x % (2 ^ k.bits : Nat) = x := by
    apply Int.emod_eq_of_lt h0
    cases k <;> simp only [IntKind.bits, Nat.reducePow] at * <;> omega
  rw [this]

theorem inR_bits {k : IntKind} {x y : Int} (r : Nat) (h0 : 0 ≤ x) (hx : inR k x) (hy0 : 0 ≤ y) (hy : inR k y) (hr : ∀ m : Nat, x.toNat < 2 ^ m → y.toNat < 2 ^ m → r < 2 ^ m) : inR k (r : Int) := by
  unfold inR at *
  cases k <;> simp only at *
  case i8 => have := hr 7 (by omega) (by omega); omega
  case i16 => have := hr 15 (by omega) (by omega); omega
  case i32 => have := hr 31 (by omega) (by omega); omega
  case i64 => have := hr 63 (by omega) (by omega); omega
  case u8 => have := hr 8 (by omega) (by omega); omega
  case u16 => have := hr 16 (by omega) (by omega); omega
  case u32 => have := hr 32 (by omega) (by omega); omega
  case u64 => have := hr 64 (by omega) (by omega); omega

theorem lt_bits {k : IntKind} {y : Int} (hy0 : 0 ≤ y) (hy : inR k y) : y.toNat < 2 ^ k.bits := by
  unfold inR at hy
  cases k <;> simp only [IntKind.bits, Nat.reducePow] at * <;> omega

theorem wrap_u64 {k : IntKind} (hk : isU64 k = true) (n : Int) : k.wrap n = n % 18446744073709551616 := by
  cases k <;> first | (cases hk; done) | skip
  simp only [IntKind.wrap, IntKind.signed, IntKind.bits, Bool.false_and, Bool.false_eq_true, if_false, Int.reducePow]
theorem run_binI {op : BinOp} {k : IntKind} {x y : Int} {t : TypeId} {Q : AV → Prop} (hns : op ≠ .shl ∧ op ≠ .shr) (H : (binI op k x y).sem C Q) :
    ∃ av v, (binOp op t (.int k x) (.int k y)).run P w = .ok v w ∧ ARep w S μ h av v ∧ Q av := by
  cases op <;> simp only [binI, Tr.nd, Tr.sem] at H <;> (try exact absurd rfl hns.1) <;> (try exact absurd rfl hns.2)
  case add => exact ⟨_, .int k (k.wrap (x + y)), by simp [binOp, Op.intArith], rep_int.2 (by rw [wrap_in H.1]), H.2⟩
  case sub => exact ⟨_, .int k (k.wrap (x - y)), by simp [binOp, Op.intArith], rep_int.2 (by rw [wrap_in H.1]), H.2⟩
  case mul =>
    unfold mulI at H
    split at H
    · rename_i hk
      exact ⟨_, .int k (k.wrap (x * y)), by simp [binOp, Op.intArith], rep_int.2 (by rw [wrap_u64 hk]), H⟩
    · exact ⟨_, .int k (k.wrap (x * y)), by simp [binOp, Op.intArith], rep_int.2 (by rw [wrap_in H.1]), H.2⟩
  case quo => exact ⟨_, .int k (k.wrap (x.tdiv y)), by simp [binOp, Op.intDiv, H.1.1], rep_int.2 (by rw [wrap_in H.1.2]), H.2⟩
  case rem => exact ⟨_, .int k (x.tmod y), by simp [binOp, Op.intDiv, H.1], rep_int.2 rfl, H.2⟩
  case and =>
    obtain ⟨⟨⟨h1, h2⟩, h3, h4⟩, H⟩ := H
    refine ⟨_, .int k (k.wrap ((BitVec.ofInt k.bits x &&& BitVec.ofInt k.bits y).toNat : Nat)), by simp [binOp, Op.intBits], rep_int.2 ?_, H⟩
    rw [BitVec.toNat_and, bv_toNat h1 h2, bv_toNat h3 h4, wrap_in (inR_bits _ h1 h2 h3 h4 (fun m hx _ => Nat.and_lt_two_pow _ (by assumption)))]
  case or =>
    obtain ⟨⟨⟨h1, h2⟩, h3, h4⟩, H⟩ := H
    refine ⟨_, .int k (k.wrap ((BitVec.ofInt k.bits x ||| BitVec.ofInt k.bits y).toNat : Nat)), by simp [binOp, Op.intBits], rep_int.2 ?_, H⟩
    rw [BitVec.toNat_or, bv_toNat h1 h2, bv_toNat h3 h4, wrap_in (inR_bits _ h1 h2 h3 h4 (fun m hx hy => Nat.or_lt_two_pow hx hy))]
  case xor =>
    obtain ⟨⟨⟨h1, h2⟩, h3, h4⟩, H⟩ := H
    refine ⟨_, .int k (k.wrap ((BitVec.ofInt k.bits x ^^^ BitVec.ofInt k.bits y).toNat : Nat)), by simp [binOp, Op.intBits], rep_int.2 ?_, H⟩
    rw [BitVec.toNat_xor, bv_toNat h1 h2, bv_toNat h3 h4, wrap_in (inR_bits _ h1 h2 h3 h4 (fun m hx hy => Nat.xor_lt_two_pow hx hy))]
  case andNot =>
    obtain ⟨⟨⟨h1, h2⟩, h3, h4⟩, H⟩ := H
    refine ⟨_, .int k (k.wrap ((BitVec.ofInt k.bits x &&& ~~~ BitVec.ofInt k.bits y).toNat : Nat)), by simp [binOp, Op.intBits], rep_int.2 ?_, H⟩
    have e : (BitVec.ofInt k.bits x &&& ~~~ BitVec.ofInt k.bits y) = BitVec.ofInt k.bits x ^^^ (BitVec.ofInt k.bits x &&& BitVec.ofInt k.bits y) := by
      ext i hi; simp; cases (BitVec.ofInt k.bits x)[i] <;> cases (BitVec.ofInt k.bits y)[i] <;> rfl
    rw [e, BitVec.toNat_xor, BitVec.toNat_and, bv_toNat h1 h2, bv_toNat h3 h4, wrap_in (inR_bits _ h1 h2 h3 h4 (fun m hx hy => Nat.xor_lt_two_pow hx (Nat.and_lt_two_pow _ hy)))]
  case eql => exact ⟨_, .bool (x == y), by simp [binOp, Op.intCmp], rep_bool.2 (by simp [BEq.beq]), H⟩
  case neq => exact ⟨_, .bool (x != y), by simp [binOp, Op.intCmp], rep_bool.2 (by simp [bne, BEq.beq]), H⟩
  case lss => exact ⟨_, .bool (decide (x < y)), by simp [binOp, Op.intCmp], rep_bool.2 rfl, H⟩
  case leq => exact ⟨_, .bool (decide (x ≤ y)), by simp [binOp, Op.intCmp], rep_bool.2 rfl, H⟩
  case gtr => exact ⟨_, .bool (decide (x > y)), by simp [binOp, Op.intCmp], rep_bool.2 rfl, H⟩
  case geq => exact ⟨_, .bool (decide (x ≥ y)), by simp [binOp, Op.intCmp], rep_bool.2 rfl, H⟩

theorem run_shiftI {op : BinOp} {k k' : IntKind} {x y : Int} {t : TypeId} {Q : AV → Prop} (H : (shiftI op k x y).sem C Q) :
    ∃ av v, (binOp op t (.int k x) (.int k' y)).run P w = .ok v w ∧ ARep w S μ h av v ∧ Q av := by
  cases op <;> simp only [shiftI, Tr.nd, Tr.sem] at H
  case shl =>
    obtain ⟨⟨⟨h1, h2⟩, h3⟩, H⟩ := H
    refine ⟨_, .int k (k.wrap (x * 2 ^ (min y.toNat k.bits))), by simp [binOp, Op.shift, show ¬ y < 0 by omega], rep_int.2 ?_, H⟩
    rw [Nat.min_eq_left (by omega), wrap_in h3]
  case shr =>
    obtain ⟨⟨h1, h2⟩, H⟩ := H
    refine ⟨_, .int k (x.fdiv (2 ^ (min y.toNat k.bits))), by simp [binOp, Op.shift, show ¬ y < 0 by omega], rep_int.2 ?_, H⟩
    rw [Nat.min_eq_left (by omega), Int.fdiv_eq_ediv_of_nonneg _ (Int.pow_nonneg (by omega))]

theorem eqGuard_plain {op : BinOp} {t : TypeId} {x y : Operand} {k k' : IntKind} {m n : Int} : (eqGuard op t x y (.int k m) (.int k' n)).run P w = .ok () w := by
  unfold eqGuard; cases op <;> simp
theorem eqGuard_bool {op : BinOp} {t : TypeId} {x y : Operand} {m n : Bool} : (eqGuard op t x y (.bool m) (.bool n)).run P w = .ok () w := by
  unfold eqGuard; cases op <;> simp

theorem bindSome {α β : Type} {o : Option α} {f : α → Option β} {b : β} (H : o.bind f = some b) : ∃ a, o = some a ∧ f a = some b := by
  cases o with
  | none => cases H
  | some a => exact ⟨a, rfl, H⟩
theorem mapSome {α β : Type} {o : Option α} {f : α → β} {b : β} (H : o.map f = some b) : ∃ a, o = some a ∧ f a = b := by
  cases o with
  | none => cases H
  | some a => exact ⟨a, rfl, Option.some.inj H⟩

/-- one of two outcomes -/
def CoinOK (C : CallSem) : Prop := ∀ (h : Heap) (Q : AV → Heap → Prop), C .coin [] h Q → ∀ b, Q (.dat .bool b) h

/-- What is proved of each operation. -/
def Sound [GTab] (P : Program) (o : Oper) : Prop :=
  ∀ (S : Nat → Prop) (μ : Mu) (h : Heap) (w : World) (C : CallSem) (_ : CoinOK C) (N : Nat) (s : List (Nat × AV)) (a : Act) (Q : AV × Heap → Prop) (I : Instr),
    Open S w → HRep w S μ h → TRep w S μ h N s a.tmps → cOp0 P o.op = some I → (vop s h I).sem C Q → Out S μ w h ((execOp a.eval o).run P w) Q

theorem run_isnil {eq : Bool} {X : AV} {v : Value} {Q : AV × Heap → Prop} (hC : CoinOK C) (hX : ARep w S μ h X v) (H : (nilV eq h X).sem C Q) :
    ∃ ad l c, v = .slice ad l c ∧ Q (.dat .bool (eqB eq ad.isNone), h) := by
  cases X with
  | nils =>
    unfold ARep at hX
    exact ⟨none, 0, 0, hX, by cases eq <;> exact H⟩
  | dat t xs =>
    cases t with
    | list t =>
      rw [rep_list] at hX
      obtain ⟨ad, cap, e, hcap, hne⟩ := hX
      cases e
      refine ⟨ad, xs.length, cap, rfl, ?_⟩
      cases xs with
      | nil => exact hC _ _ H _
      | cons y ys =>
        obtain ⟨b, off, e, _⟩ := hne (by simp)
        subst e
        cases eq <;> exact H
    | _ => exact H.elim
  | slc r L off len =>
    unfold ARep at hX
    obtain ⟨_, ⟨hrl, _⟩, hcur, hvir⟩ := hX
    simp only [nilV] at H
    split at H
    · rename_i t xs ex hr
      obtain ⟨hL, H⟩ := H
      obtain ⟨b, m, cap, _, e, _⟩ := hcur ((curL_seq (getR_some hr rfl)).2 hL)
      exact ⟨_, _, _, e, by cases eq <;> exact H⟩
    · rename_i t xs hr
      obtain ⟨⟨hL, hlen⟩, H⟩ := H
      have hg := getR_lst hr
      cases xs with
      | nil =>
        have h0 : L = 0 := by simpa using hL.symm
        obtain ⟨e, _⟩ := hvir ((virL_lst hg).2 rfl) h0
        exact ⟨none, 0, 0, e, by cases eq <;> exact H⟩
      | cons y ys =>
        obtain ⟨b, m, cap, _, e, _⟩ := hcur ((curL_lst hg).2 ⟨by simp, hL⟩)
        exact ⟨_, _, _, e, by cases eq <;> exact H⟩
    · exact H.elim
  | _ => exact H.elim

theorem run_nil_of {eq : Bool} {t e : TypeId} {ad : Option Addr} {l c : Nat} (hu : P.underlying t = some (.slice e)) : (binOp (if eq then .eql else .neq) t (.slice ad l c) (.slice none 0 0)).run P w = .ok (.bool (eqB eq ad.isNone)) w := by
  have h1 : (Go.Op.equal t (.slice ad l c) (.slice none 0 0)).run P w = .ok ad.isNone w := by
    have : ∀ d, (Go.Op.equalIn (d + 1) t (.slice ad l c) (.slice none 0 0)).run P w = .ok ad.isNone w := fun d => by
      cases ad <;> simp [Go.Op.equalIn, run_underlying hu]
    exact this 9999
  cases eq <;> simp [binOp, h1, eqB]

theorem snd_mov {o : Oper} {x : Operand} (ho : o.op = .move x ∨ o.op = .assign x) : Sound P o := by
  intro S μ h w C hC N s a Q I _ hH hT hc H
  have hc' : (cOpd x).map Instr.mov = some I := by rcases ho with ho | ho <;> rw [ho] at hc <;> exact hc
  obtain ⟨x', h1, rfl⟩ := mapSome hc'
  refine Out.same hH (v := a.eval x) ?_ (ev_rep hT h1) H
  unfold execOp
  rcases ho with ho | ho <;> simp [ho]

theorem snd_pick {o : Oper} {c x y : Operand} (ho : o.op = .pick c x y) : Sound P o := by
  intro S μ h w C hC N s a Q I _ hH hT hc H
  rw [ho] at hc
  simp only [cOp0] at hc
  obtain ⟨c', h0, hc⟩ := bindSome hc
  obtain ⟨x', h1, hc⟩ := bindSome hc
  obtain ⟨y', h2, rfl⟩ := mapSome hc
  have rc := ev_rep hT h0
  simp only [vop] at H
  generalize ev s c' = X at *
  split at H
  · rename_i t
    rw [rep_bool] at rc
    simp only [Tr.sem] at H
    cases t with
    | true => exact Out.same hH (v := a.eval x) (by unfold execOp; simp [ho, rc, asBool]) (ev_rep hT h1) (H.1 rfl)
    | false => exact Out.same hH (v := a.eval y) (by unfold execOp; simp [ho, rc, asBool]) (ev_rep hT h2) (H.2 rfl)
  · exact H.elim

theorem snd_un {o : Oper} {op : UnOp} {t : TypeId} {x : Operand} (ho : o.op = .unOp op t x) : Sound P o := by
  intro S μ h w C hC N s a Q I _ hH hT hc H
  rw [ho] at hc
  simp only [cOp0] at hc
  obtain ⟨x', h1, rfl⟩ := mapSome hc
  have rx := ev_rep hT h1
  simp only [vop, Tr.sem_bind, Tr.sem] at H
  generalize ev s x' = X at *
  unfold unV at H
  split at H
  · rw [rep_bool] at rx
    split at H
    · rename_i b _
      exact Out.same hH (v := .bool (!b)) (by unfold execOp; simp [ho, rx, Op.unary]) (rep_bool.2 rfl) H
    · exact H.elim
  · rename_i k n
    rw [rep_int] at rx
    split at H
    · unfold negI at H
      split at H
      · rename_i hk
        refine Out.same hH (v := .int k (k.wrap (0 - n))) (by unfold execOp; simp [ho, rx, Op.unary, Op.intArith]) (rep_int.2 ?_) H
        rw [wrap_u64 hk, Int.zero_sub]
      · refine Out.same hH (v := .int k (k.wrap (0 - n))) (by unfold execOp; simp [ho, rx, Op.unary, Op.intArith]) (rep_int.2 ?_) H.2
        rw [wrap_in H.1]; simp
    · exact H.elim
  · exact H.elim

theorem snd_conv {o : Oper} {src dst : TypeId} {x : Operand} (ho : o.op = .convert src dst x) : Sound P o := by
  intro S μ h w C hC N s a Q I _ hH hT hc H
  rw [ho] at hc
  simp only [cOp0] at hc
  split at hc
  · rename_i k hs hd
    obtain ⟨x', h1, rfl⟩ := mapSome hc
    have rx := ev_rep hT h1
    simp only [vop, Tr.sem_bind, Tr.sem] at H
    generalize ev s x' = X at *
    unfold convV at H
    split at H
    · rename_i k' n
      rw [rep_int] at rx
      have hr : (convert src dst (.int k' n)).run P w = .ok (.int k (k.wrap n)) w := by simp [convert, run_underlying hs, run_underlying hd, Conv.intToInt]
      split at H
      · rename_i hk
        exact Out.same hH (v := .int k (k.wrap n)) (by unfold execOp; simp [ho, rx, hr]) (rep_int.2 (by rw [wrap_u64 hk])) H
      · exact Out.same hH (v := .int k (k.wrap n)) (by unfold execOp; simp [ho, rx, hr]) (rep_int.2 (by rw [wrap_in H.1])) H.2
    · exact H.elim
  · cases hc

theorem snd_ext {o : Oper} {x : Operand} {i : Nat} (ho : o.op = .extract x i) : Sound P o := by
  intro S μ h w C hC N s a Q I _ hH hT hc H
  rw [ho] at hc
  simp only [cOp0] at hc
  obtain ⟨x', h1, rfl⟩ := mapSome hc
  have rx := ev_rep hT h1
  simp only [vop] at H
  generalize ev s x' = X at *
  split at H
  · rename_i vs
    obtain ⟨av, e, hq⟩ := Tr.sem_ofOpt H
    unfold ARep at rx
    obtain ⟨us, eu, hl⟩ := rx
    obtain ⟨u, e1, e2⟩ := hl.get i av e
    exact Out.same hH (v := u) (by unfold execOp; simp [ho, eu, Instr.extract, e1]) e2 hq
  · exact H.elim

theorem snd_mkfn {o : Oper} {fn : Fn} {first caps : Array Operand} (ho : o.op = .makeFunc fn first caps) : Sound P o := by
  intro S μ h w C hC N s a Q I _ hH hT hc H
  rw [ho] at hc
  cases fn with
  | func f =>
    simp only [cOp0] at hc
    obtain ⟨fs, h1, hc⟩ := bindSome hc
    obtain ⟨cs, h2, rfl⟩ := mapSome hc
    have r1 := evL_rep hT h1
    have r2 := evL_rep hT h2
    refine Out.same hH (v := .func (.func f) (first.map a.eval) (caps.map a.eval)) (by unfold execOp; simp [ho, Instr.makeFunc]) ?_ H
    unfold ARep
    exact ⟨_, _, by simp [← Array.toList_map], r1, r2⟩
  | _ => simp only [cOp0] at hc; cases hc
end
end GoV
