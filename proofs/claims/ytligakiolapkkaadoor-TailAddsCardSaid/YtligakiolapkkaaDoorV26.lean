/- Words for walks. -/
import Derived.Test.YtligakiolapkkaaDoorV25
set_option linter.unusedSectionVars false
namespace GoV
open Go
theorem NatBeq (i j : Nat) : Nat.beq i j = (i == j) := by
  by_cases h : i = j
  · subst h; simp
  · rw [nbeq_ne h]; exact (beq_false_of_ne h).symm
theorem NatBlt (i j : Nat) : Nat.blt i j = decide (i < j) := by
  cases h : Nat.blt i j with
  | true => exact (decide_eq_true (Nat.le_of_ble_eq_true h)).symm
  | false =>
    refine (decide_eq_false fun hlt => ?_).symm
    have h2 : Nat.blt i j = true := Nat.ble_eq_true_of_le hlt
    rw [h] at h2
    cases h2
theorem NatBle (i j : Nat) : Nat.ble i j = decide (i ≤ j) := by
  cases h : Nat.ble i j with
  | true => exact (decide_eq_true (Nat.le_of_ble_eq_true h)).symm
  | false =>
    refine (decide_eq_false fun hlt => ?_).symm
    rw [Nat.ble_eq_true_of_le hlt] at h
    cases h

/-! ### One rule for each word -/
section
variable [GTab] {P : Program} {N B : Nat} {C : CallSem}

def regK (Q : Ex → St → Prop) (m : List Mk) (r : List (Nat × AV) × Heap) : Prop := Q .normal ⟨r.1, r.2, m⟩
theorem regK_mk {Q : Ex → St → Prop} {m : List Mk} {t : List (Nat × AV)} {h : Heap} : regK Q m (t, h) = Q .normal ⟨t, h, m⟩ := rfl
def regD (Q : Ex → St → Prop) (m : List Mk) (t : List (Nat × AV)) (h : Heap) : Prop := Q .normal ⟨t, h, m⟩

theorem awp_skip {ro : Option Nat} {Q : Ex → St → Prop} {s : St} : awp P N B .skip ro Q s = Q .normal s := rfl
theorem awp_ret {ro : Option Nat} {Q : Ex → St → Prop} {s : St} : awp P N B .ret ro Q s = Q .ret s := rfl
theorem awp_exit {ro : Option Nat} {Q : Ex → St → Prop} {s : St} {i : Nat} : awp P N B (.exit i) ro Q s = Q (.exit i) s := rfl
theorem awp_seq {ro : Option Nat} {Q : Ex → St → Prop} {s : St} {a b : AC} : awp P N B (.seq a b) ro Q s = awp P N B a ro (thn (awp P N B b ro Q) Q) s := rfl
theorem awp_block {ro : Option Nat} {Q : Ex → St → Prop} {s : St} {i : Nat} {c : AC} : awp P N B (.block i c) ro Q s = awp P N B c ro (brk Q i) s := rfl
theorem awp_loop {ro : Option Nat} {Q : Ex → St → Prop} {s : St} {c : AC} : awp P N B (.loop c) ro Q s = LoopW B (awp P N B c ro) Q s := rfl
theorem awp_reg {ro : Option Nat} {Q : Ex → St → Prop} {t : List (Nat × AV)} {h : Heap} {m : List Mk} {ops : List AOp} : awp P N B (.reg false ops) ro Q ⟨t, h, m⟩ = (vops ops t h).sem (VC P) (regK Q m) := rfl
theorem awp_regD {ro : Option Nat} {Q : Ex → St → Prop} {t : List (Nat × AV)} {h : Heap} {m : List Mk} {ops : List AOp} : awp P N B (.reg true ops) ro Q ⟨t, h, m⟩ = vopsD P ops t h (regD Q m) := rfl
theorem awp_dfr {Q : Ex → St → Prop} {t : List (Nat × AV)} {h : Heap} {m : List Mk} {ops : List AOp} {x : Opd} : awp P N B (.dfr ops x) none Q ⟨t, h, m⟩ = (vops ops t h).sem (VC P) (dfrK Q m x) := rfl
theorem dfrK_mk {Q : Ex → St → Prop} {m : List Mk} {x : Opd} {t : List (Nat × AV)} {h : Heap} : dfrK Q m x (t, h) = (match ev t x with
    | .fn f first caps => Q .normal ⟨t, h, .clo f (first ++ caps) :: m⟩
    | _ => False) := rfl
theorem outMarks_clo {f : FuncId} {as : List AV} {rs : List Mk} {h : Heap} {K : Heap → Prop} : outMarks P (.clo f as :: rs) h K = VDef P f as h (fun h' => outMarks P rs h' K) := rfl
theorem finD_n {K : Heap → Prop} {t : List (Nat × AV)} {h : Heap} {m : List Mk} : finD B K .normal ⟨t, h, m⟩ = (m = [] ∧ ∃ n, B ≤ n ∧ rowsRefs n (h.take n) = true ∧ K (h.take n)) := rfl
theorem finD_r {K : Heap → Prop} {t : List (Nat × AV)} {h : Heap} {m : List Mk} : finD B K .ret ⟨t, h, m⟩ = (m = [] ∧ ∃ n, B ≤ n ∧ rowsRefs n (h.take n) = true ∧ K (h.take n)) := rfl
theorem awp_regG {ro : Option Nat} {Q : Ex → St → Prop} {t : List (Nat × AV)} {h : Heap} {m : List Mk} {n : Nat} {ms : List Nat} {ops : List AOp} : awp P N B (.regG n ms ops) ro Q ⟨t, h, m⟩ = vopsG P ops ms [] t (h ++ List.replicate n .res) (regD Q m) := rfl
theorem regD_mk {Q : Ex → St → Prop} {m : List Mk} {t : List (Nat × AV)} {h : Heap} : regD Q m t h = Q .normal ⟨t, h, m⟩ := rfl

def condW (v : AV) (a b : Prop) : Prop := match v with
  | .dat .bool t => (t = true → a) ∧ (t = false → b)
  | _ => False
theorem awp_cond {ro : Option Nat} {Q : Ex → St → Prop} {s : St} {c : Opd} {a b : AC} : awp P N B (.cond c a b) ro Q s = condW (ev s.tmps c) (awp P N B a ro Q s) (awp P N B b ro Q s) := rfl
theorem condW_dec {p : Prop} {dp : Decidable p} {a b : Prop} : condW (.dat .bool (@decide p dp)) a b = ((p → a) ∧ (¬ p → b)) := by simp [condW]
theorem condW_not {p : Prop} {dp : Decidable p} {a b : Prop} : condW (.dat .bool (!@decide p dp)) a b = ((¬ p → a) ∧ (p → b)) := by simp [condW]
theorem condW_true {a b : Prop} : condW (.dat .bool true) a b = a := by simp [condW]
theorem condW_false {a b : Prop} : condW (.dat .bool false) a b = b := by simp [condW]
theorem condW_b {t : Bool} {a b : Prop} : condW (.dat .bool t) a b = ((t = true → a) ∧ (t = false → b)) := rfl

theorem thn_n {K : St → Prop} {Q : Ex → St → Prop} {s : St} : thn K Q .normal s = K s := rfl
theorem thn_x {K : St → Prop} {Q : Ex → St → Prop} {s : St} {i : Nat} : thn K Q (.exit i) s = Q (.exit i) s := rfl
theorem thn_r {K : St → Prop} {Q : Ex → St → Prop} {s : St} : thn K Q .ret s = Q .ret s := rfl
theorem brk_n {Q : Ex → St → Prop} {s : St} {i : Nat} : brk Q i .normal s = Q .normal s := rfl
theorem brk_r {Q : Ex → St → Prop} {s : St} {i : Nat} : brk Q i .ret s = Q .ret s := rfl
theorem brk_x {Q : Ex → St → Prop} {s : St} {i j : Nat} : brk Q i (.exit j) s = if j = i then Q .normal s else Q (.exit j) s := by
  simp only [brk]
  by_cases h : j = i
  · subst h; simp
  · rw [nbeq_ne h]; simp [h]

/-- behind an operation -/
def vnext (r : List AOp) (s : List (Nat × AV)) (d : Option Nat) (x : AV × Heap) : Tr (List (Nat × AV) × Heap) := vops r (putT s d x.1) x.2
theorem vnext_mk {r : List AOp} {s : List (Nat × AV)} {d : Option Nat} {v : AV} {h : Heap} : vnext r s d (v, h) = vops r (putT s d v) h := rfl
theorem vops_nil {s : List (Nat × AV)} {h : Heap} : vops [] s h = .ret (s, h) := rfl
theorem vops_one {r : List AOp} {s : List (Nat × AV)} {h : Heap} {d : Option Nat} {i : Instr} : vops (⟨d, i, none⟩ :: r) s h = (vop s h i).bind (vnext r s d) := rfl

def vgd (v : AV) (g : Nat) (want : Bool) (r : List AOp) (s : List (Nat × AV)) (h : Heap) (d : Option Nat) (i : Instr) : Tr (List (Nat × AV) × Heap) := match v with
  | .dat .bool b => .branch b
      (match want with
        | true => (vop (setT s g (.dat .bool true)) h i).bind (vnext r (setT s g (.dat .bool true)) d)
        | false => vops r (putT (setT s g (.dat .bool true)) d (.tup [])) h)
      (match want with
        | true => vops r (putT (setT s g (.dat .bool false)) d (.tup [])) h
        | false => (vop (setT s g (.dat .bool false)) h i).bind (vnext r (setT s g (.dat .bool false)) d))
  | .tup [] => vops r (putT s d (.tup [])) h
  | _ => .fail
theorem vops_grd {r : List AOp} {s : List (Nat × AV)} {h : Heap} {d : Option Nat} {i : Instr} {g : Nat} {want : Bool} : vops (⟨d, i, some (g, want)⟩ :: r) s h = vgd (getT s g) g want r s h d i := rfl

theorem vgd_true {g : Nat} {want : Bool} {r : List AOp} {s : List (Nat × AV)} {h : Heap} {d : Option Nat} {i : Instr} {Q : List (Nat × AV) × Heap → Prop} : (vgd (.dat .bool true) g want r s h d i).sem C Q = (match want with
    | true => (vop (setT s g (.dat .bool true)) h i).bind (vnext r (setT s g (.dat .bool true)) d)
    | false => vops r (putT (setT s g (.dat .bool true)) d (.tup [])) h).sem C Q := by
  simp only [vgd, Tr.sem]; simp
theorem vgd_false {g : Nat} {want : Bool} {r : List AOp} {s : List (Nat × AV)} {h : Heap} {d : Option Nat} {i : Instr} {Q : List (Nat × AV) × Heap → Prop} : (vgd (.dat .bool false) g want r s h d i).sem C Q = (match want with
    | true => vops r (putT (setT s g (.dat .bool false)) d (.tup [])) h
    | false => (vop (setT s g (.dat .bool false)) h i).bind (vnext r (setT s g (.dat .bool false)) d)).sem C Q := by
  simp only [vgd, Tr.sem]; simp
theorem vgd_dec {p : Prop} {dp : Decidable p} {g : Nat} {want : Bool} {r : List AOp} {s : List (Nat × AV)} {h : Heap} {d : Option Nat} {i : Instr} {Q : List (Nat × AV) × Heap → Prop} : (vgd (.dat .bool (@decide p dp)) g want r s h d i).sem C Q = ((p → (vgd (.dat .bool true) g want r s h d i).sem C Q) ∧ (¬ p → (vgd (.dat .bool false) g want r s h d i).sem C Q)) := by
  rw [vgd_true, vgd_false]
  simp only [vgd, Tr.sem, decide_eq_true_eq, decide_eq_false_iff_not]
theorem vgd_not {p : Prop} {dp : Decidable p} {g : Nat} {want : Bool} {r : List AOp} {s : List (Nat × AV)} {h : Heap} {d : Option Nat} {i : Instr} {Q : List (Nat × AV) × Heap → Prop} : (vgd (.dat .bool (!@decide p dp)) g want r s h d i).sem C Q = ((¬ p → (vgd (.dat .bool true) g want r s h d i).sem C Q) ∧ (p → (vgd (.dat .bool false) g want r s h d i).sem C Q)) := by
  rw [vgd_true, vgd_false]
  simp only [vgd, Tr.sem, Bool.not_eq_true', decide_eq_false_iff_not, Bool.not_eq_false', decide_eq_true_eq]
theorem vgd_und {g : Nat} {want : Bool} {r : List AOp} {s : List (Nat × AV)} {h : Heap} {d : Option Nat} {i : Instr} : vgd (.tup []) g want r s h d i = vops r (putT s d (.tup [])) h := rfl

theorem sem_ret {α : Type} {a : α} {Q : α → Prop} : (Tr.ret a).sem C Q = Q a := rfl
theorem sem_nd {α : Type} {p : Prop} {d : Decidable p} {k : Tr α} {Q : α → Prop} : (@Tr.nd α p d k).sem C Q = (p ∧ k.sem C Q) := rfl
theorem sem_fail {α : Type} {Q : α → Prop} : (Tr.fail : Tr α).sem C Q = False := rfl
theorem sem_br {α : Type} {c : Bool} {t e : Tr α} {Q : α → Prop} : (Tr.branch c t e).sem C Q = ((c = true → t.sem C Q) ∧ (c = false → e.sem C Q)) := rfl
theorem bind_ret {α β : Type} {a : α} {f : α → Tr β} : (Tr.ret a).bind f = f a := rfl
theorem bind_nd {α β : Type} {p : Prop} {d : Decidable p} {k : Tr α} {f : α → Tr β} : (@Tr.nd α p d k).bind f = @Tr.nd β p d (k.bind f) := rfl
theorem bind_fail {α β : Type} {f : α → Tr β} : (Tr.fail : Tr α).bind f = .fail := rfl
theorem bind_br {α β : Type} {c : Bool} {t e : Tr α} {f : α → Tr β} : (Tr.branch c t e).bind f = .branch c (t.bind f) (e.bind f) := rfl
theorem ofOpt_some {α β : Type} {a : α} {k : α → Tr β} : Tr.ofOpt (some a) k = k a := rfl
theorem ofOpt_none {α β : Type} {k : α → Tr β} : Tr.ofOpt none k = .fail := rfl

/-- at a call -/
theorem sem_call {α : Type} {f : Callee} {args : List AV} {h : Heap} {k : AV → Heap → Tr (AV × Heap)} {n : AV × Heap → Tr α} {Q : α → Prop} (H : VC P f args h (fun v h' => ((k v h').bind n).sem (VC P) Q)) : ((Tr.call f args h k).bind n).sem (VC P) Q := H
theorem call_rule {α : Type} {f : Nat} {args : List AV} {h : Heap} {n : AV × Heap → Tr α} {Q : α → Prop} {R : AV → Heap → Prop} (H : VCalls P f args h R) (hk : ∀ v h', R v h' → (n (v, h')).sem (VC P) Q) : ((Tr.call (.fn f) args h fun v h' => .ret (v, h')).bind n).sem (VC P) Q :=
  VC.mono (.fn f) args h _ _ hk H

def finK (B : Nat) (rs : List RV) (t : List (Nat × AV)) (Q : AV → Heap → Prop) (h : Heap) : Prop := match resL t h rs with
  | some vs => ∃ n, B ≤ n ∧ refsLt n (resV vs) = true ∧ rowsRefs n (h.take n) = true ∧ Q (resV vs) (h.take n)
  | none => False
theorem finW_n {rs : List RV} {Q : AV → Heap → Prop} {t : List (Nat × AV)} {h : Heap} {m : List Mk} : finW P B rs Q .normal ⟨t, h, m⟩ = outMarks P m h (finK B rs t Q) := rfl
theorem finW_r {rs : List RV} {Q : AV → Heap → Prop} {t : List (Nat × AV)} {h : Heap} {m : List Mk} : finW P B rs Q .ret ⟨t, h, m⟩ = outMarks P m h (finK B rs t Q) := rfl
theorem outMarks_nil {h : Heap} {K : Heap → Prop} : outMarks P [] h K = K h := rfl
theorem finK_of {rs : List RV} {t : List (Nat × AV)} {Q : AV → Heap → Prop} {h : Heap} {vs : List AV} (n : Nat) (hr : resL t h rs = some vs) (hc : (Nat.ble B n && refsLt n (resV vs) && rowsRefs n (h.take n)) = true) (hq : Q (resV vs) (h.take n)) : finK B rs t Q h := by
  unfold finK
  rw [hr]
  simp only [Bool.and_eq_true] at hc
  exact ⟨n, Nat.le_of_ble_eq_true hc.1.1, hc.1.2, hc.2, hq⟩

/-- A loop by a family of states, from where the code comes to it. -/
theorem loop_rule {α : Type} {c : AC} {ro : Option Nat} {Q : Ex → St → Prop} {s : St} (f : α → St) (I : α → Prop) (m : α → Nat) (ks : List Nat) (n : Nat) (a0 : α) (hB : Nat.ble B n = true) (h0 : trimOK ks n s) (h1 : s.trim ks n = f a0) (hI : I a0)
    (step : ∀ a, I a → awp P N B c ro (thn (fun s' => ∃ a', I a' ∧ m a' < m a ∧ trimOK ks n s' ∧ s'.trim ks n = f a') Q) (f a)) : LoopW B (awp P N B c ro) Q s := by
  have hB := Nat.le_of_ble_eq_true hB
  refine LoopW.forget ks n hB h0 ?_
  rw [h1]
  exact LoopW.inv f I m ks n hB step a0 hI

theorem subL_cons {α : Type} {a : α} {l : List α} {n : Nat} : subL (a :: l) 0 (n + 1) = a :: subL l 0 n := rfl
theorem subL_zero {α : Type} {l : List α} : subL l 0 0 = [] := rfl

theorem sem_coin {α : Type} {h : Heap} {k : AV → Heap → Tr (AV × Heap)} {n : AV × Heap → Tr α} {Q : α → Prop} : ((Tr.call .coin [] h k).bind n).sem (VC P) Q = (((k (.dat .bool true) h).bind n).sem (VC P) Q ∧ ((k (.dat .bool false) h).bind n).sem (VC P) Q) := by
  refine propext ⟨fun H => ⟨H true, H false⟩, fun H b => ?_⟩
  cases b with
  | true => exact H.1
  | false => exact H.2

/-! ### Regions that draw -/
def vnD [GTab] (P : Program) (r : List AOp) (s : List (Nat × AV)) (d : Option Nat) (K : List (Nat × AV) → Heap → Prop) (x : AV × Heap) : Prop := vopsD P r (putT s d x.1) x.2 K
theorem vnD_mk {r : List AOp} {s : List (Nat × AV)} {d : Option Nat} {K : List (Nat × AV) → Heap → Prop} {v : AV} {h : Heap} : vnD P r s d K (v, h) = vopsD P r (putT s d v) h K := rfl
theorem vopsD_nil {s : List (Nat × AV)} {h : Heap} {K : List (Nat × AV) → Heap → Prop} : vopsD P [] s h K = K s h := rfl
theorem vopsD_one {r : List AOp} {s : List (Nat × AV)} {h : Heap} {d : Option Nat} {i : Instr} {K : List (Nat × AV) → Heap → Prop} : vopsD P (⟨d, i, none⟩ :: r) s h K = (vop s h i).det (VC P) (vnD P r s d K) := rfl

def vgD [GTab] (P : Program) (v : AV) (g : Nat) (want : Bool) (r : List AOp) (s : List (Nat × AV)) (h : Heap) (d : Option Nat) (i : Instr) (K : List (Nat × AV) → Heap → Prop) : Prop := match v with
  | .dat .bool b =>
    (b = true → match want with
      | true => (vop (setT s g (.dat .bool true)) h i).det (VC P) (vnD P r (setT s g (.dat .bool true)) d K)
      | false => vopsD P r (putT (setT s g (.dat .bool true)) d (.tup [])) h K) ∧
    (b = false → match want with
      | true => vopsD P r (putT (setT s g (.dat .bool false)) d (.tup [])) h K
      | false => (vop (setT s g (.dat .bool false)) h i).det (VC P) (vnD P r (setT s g (.dat .bool false)) d K))
  | .tup [] => vopsD P r (putT s d (.tup [])) h K
  | _ => False
theorem vopsD_grd {r : List AOp} {s : List (Nat × AV)} {h : Heap} {d : Option Nat} {i : Instr} {g : Nat} {want : Bool} {K : List (Nat × AV) → Heap → Prop} : vopsD P (⟨d, i, some (g, want)⟩ :: r) s h K = vgD P (getT s g) g want r s h d i K := rfl
theorem vgD_true {g : Nat} {want : Bool} {r : List AOp} {s : List (Nat × AV)} {h : Heap} {d : Option Nat} {i : Instr} {K : List (Nat × AV) → Heap → Prop} : vgD P (.dat .bool true) g want r s h d i K = match want with
    | true => (vop (setT s g (.dat .bool true)) h i).det (VC P) (vnD P r (setT s g (.dat .bool true)) d K)
    | false => vopsD P r (putT (setT s g (.dat .bool true)) d (.tup [])) h K := by simp [vgD]
theorem vgD_false {g : Nat} {want : Bool} {r : List AOp} {s : List (Nat × AV)} {h : Heap} {d : Option Nat} {i : Instr} {K : List (Nat × AV) → Heap → Prop} : vgD P (.dat .bool false) g want r s h d i K = match want with
    | true => vopsD P r (putT (setT s g (.dat .bool false)) d (.tup [])) h K
    | false => (vop (setT s g (.dat .bool false)) h i).det (VC P) (vnD P r (setT s g (.dat .bool false)) d K) := by simp [vgD]
theorem vgD_dec {p : Prop} {dp : Decidable p} {g : Nat} {want : Bool} {r : List AOp} {s : List (Nat × AV)} {h : Heap} {d : Option Nat} {i : Instr} {K : List (Nat × AV) → Heap → Prop} : vgD P (.dat .bool (@decide p dp)) g want r s h d i K = ((p → vgD P (.dat .bool true) g want r s h d i K) ∧ (¬ p → vgD P (.dat .bool false) g want r s h d i K)) := by
  rw [vgD_true, vgD_false]
  simp only [vgD, decide_eq_true_eq, decide_eq_false_iff_not]
theorem vgD_und {g : Nat} {want : Bool} {r : List AOp} {s : List (Nat × AV)} {h : Heap} {d : Option Nat} {i : Instr} {K : List (Nat × AV) → Heap → Prop} : vgD P (.tup []) g want r s h d i K = vopsD P r (putT s d (.tup [])) h K := rfl
/-! .. of which the rows are apart -/
def vnG [GTab] (P : Program) (r : List AOp) (ms : List Nat) (fs : List Foot) (s : List (Nat × AV)) (d : Option Nat) (n : Nat) (K : List (Nat × AV) → Heap → Prop) (x : AV × Heap) : Prop := Nat.beq x.2.length n = true ∧ vopsG P r ms fs (putT s d x.1) x.2 K
theorem vnG_mk {r : List AOp} {ms : List Nat} {fs : List Foot} {s : List (Nat × AV)} {d : Option Nat} {n : Nat} {K : List (Nat × AV) → Heap → Prop} {v : AV} {h : Heap} : vnG P r ms fs s d n K (v, h) = (Nat.beq h.length n = true ∧ vopsG P r ms fs (putT s d v) h K) := rfl
theorem vopsG_nil {ms : List Nat} {fs : List Foot} {s : List (Nat × AV)} {h : Heap} {K : List (Nat × AV) → Heap → Prop} : vopsG P [] ms fs s h K = K s h := rfl
theorem vopsG_one {r : List AOp} {m : Nat} {ms : List Nat} {fs : List Foot} {s : List (Nat × AV)} {h : Heap} {d : Option Nat} {i : Instr} {K : List (Nat × AV) → Heap → Prop} : vopsG P (⟨d, i, none⟩ :: r) (m :: ms) fs s h K = (fOK m (footI s h.length i) 0 fs = true ∧ (vop s h i).det (VC P) (vnG P r ms (fs ++ [footI s h.length i]) s d h.length K)) := rfl
def vgG [GTab] (P : Program) (v : AV) (want : Bool) (r : List AOp) (m : Nat) (ms : List Nat) (fs : List Foot) (s : List (Nat × AV)) (h : Heap) (d : Option Nat) (i : Instr) (K : List (Nat × AV) → Heap → Prop) : Prop := match v with
  | .dat .bool b =>
    (b = want → fOK m (footI s h.length i) 0 fs = true ∧ (vop s h i).det (VC P) (vnG P r ms (fs ++ [footI s h.length i]) s d h.length K)) ∧
    (b = (!want) → vopsG P r ms (fs ++ [.rw [] []]) (putT s d (.tup [])) h K)
  | .tup [] => vopsG P r ms (fs ++ [.rw [] []]) (putT s d (.tup [])) h K
  | _ => False
theorem vopsG_grd {r : List AOp} {m : Nat} {ms : List Nat} {fs : List Foot} {s : List (Nat × AV)} {h : Heap} {d : Option Nat} {i : Instr} {g : Nat} {want : Bool} {K : List (Nat × AV) → Heap → Prop} : vopsG P (⟨d, i, some (g, want)⟩ :: r) (m :: ms) fs s h K = vgG P (getT s g) want r m ms fs s h d i K := rfl
theorem vgG_und {want : Bool} {r : List AOp} {m : Nat} {ms : List Nat} {fs : List Foot} {s : List (Nat × AV)} {h : Heap} {d : Option Nat} {i : Instr} {K : List (Nat × AV) → Heap → Prop} : vgG P (.tup []) want r m ms fs s h d i K = vopsG P r ms (fs ++ [.rw [] []]) (putT s d (.tup [])) h K := rfl
theorem vgG_b {b want : Bool} {r : List AOp} {m : Nat} {ms : List Nat} {fs : List Foot} {s : List (Nat × AV)} {h : Heap} {d : Option Nat} {i : Instr} {K : List (Nat × AV) → Heap → Prop} : vgG P (.dat .bool b) want r m ms fs s h d i K = ((b = want → fOK m (footI s h.length i) 0 fs = true ∧ (vop s h i).det (VC P) (vnG P r ms (fs ++ [footI s h.length i]) s d h.length K)) ∧
    (b = (!want) → vopsG P r ms (fs ++ [.rw [] []]) (putT s d (.tup [])) h K)) := rfl
theorem det_ret {α : Type} {a : α} {K : α → Prop} : (Tr.ret a).det C K = K a := rfl
theorem det_nd {α : Type} {p : Prop} {d : Decidable p} {k : Tr α} {K : α → Prop} : (@Tr.nd α p d k).det C K = (p ∧ k.det C K) := rfl
theorem det_fail {α : Type} {K : α → Prop} : (Tr.fail : Tr α).det C K = False := rfl
theorem det_br {α : Type} {c : Bool} {t e : Tr α} {K : α → Prop} : (Tr.branch c t e).det C K = ((c = true → t.det C K) ∧ (c = false → e.det C K)) := rfl
theorem det_call {α : Type} {f : Callee} {args : List AV} {h : Heap} {k : AV → Heap → Tr α} {K : α → Prop} (v : AV) (h' : Heap) (H : VC P f args h (fun u h1 => u = v ∧ h1 = h')) (hk : (k v h').det (VC P) K) : (Tr.call f args h k).det (VC P) K := ⟨v, h', H, hk⟩
end
end GoV
