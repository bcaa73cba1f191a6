/- Closed code: a run that the kernel makes. -/
import Derived.Test.YtligakiolapkkaaDoorV30
set_option linter.unusedSectionVars false
namespace GoV
open Go

/-! ### Values in full -/
def fNat {β : Type} (n : Nat) (K : Nat → β) : β := match n with | 0 => K 0 | m + 1 => K (m + 1)
def fInt {β : Type} (n : Int) (K : Int → β) : β := match n with | .ofNat m => fNat m fun m => K (.ofNat m) | .negSucc m => fNat m fun m => K (.negSucc m)
def fBool {β : Type} (b : Bool) (K : Bool → β) : β := match b with | true => K true | false => K false
def fList {α β : Type} (f : α → (α → β) → β) : List α → (List α → β) → β
  | [], K => K []
  | a :: as, K => f a fun a => fList f as fun as => K (a :: as)
def fDen {β : Type} : (t : Ty) → t.den → (t.den → β) → β
  | .int _, x, K => fInt x K
  | .bool, x, K => fBool x K
  | .list t, xs, K => fList (fDen t) xs K
  | .arr _ t, xs, K => fList (fDen t) xs K
  | .pair a b, x, K => fDen a x.1 fun y => fDen b x.2 fun z => K (y, z)
  | _, x, K => K x
mutual
def fAV {β : Type} : AV → (AV → β) → β
  | .dat t x, K => fDen t x fun x => K (.dat t x)
  | .agg cs, K => fAVs cs fun cs => K (.agg cs)
  | .tup cs, K => fAVs cs fun cs => K (.tup cs)
  | .slc r L off len, K => fNat r fun r => fNat L fun L => fNat off fun off => fNat len fun len => K (.slc r L off len)
  | .ptr r off, K => fNat r fun r => fNat off fun off => K (.ptr r off)
  | .eptr r L i, K => fNat r fun r => fNat L fun L => fNat i fun i => K (.eptr r L i)
  | .fn f as bs, K => fAVs as fun as => fAVs bs fun bs => K (.fn f as bs)
  | .ifc T a, K => fAV a fun a => K (.ifc T a)
  | v, K => K v
def fAVs {β : Type} : List AV → (List AV → β) → β
  | [], K => K []
  | a :: as, K => fAV a fun a => fAVs as fun as => K (a :: as)
end
def fRow {β : Type} : Row → (Row → β) → β
  | .box cs, K => fAVs cs fun cs => K (.box cs)
  | .seq t xs ex, K => fList (fDen t) xs fun xs => fBool ex fun ex => K (.seq t xs ex)
  | .lst t xs, K => fList (fDen t) xs fun xs => K (.lst t xs)
  | r, K => K r
/-- rows; those that are new in full -/
def fRows {β : Type} : Heap → Heap → (Heap → β) → β
  | _ :: h, r :: h', K => fRows h h' fun h' => K (r :: h')
  | _, [], K => K []
  | [], r :: h', K => fRow r fun r => fRows [] h' fun h' => K (r :: h')
/-- one row in full -/
def fAt {β : Type} : Nat → Heap → (Heap → β) → β
  | _, [], K => K []
  | 0, r :: h, K => fRow r fun r => K (r :: h)
  | n + 1, r :: h, K => fAt n h fun h => K (r :: h)
def fSpine {α β : Type} : List α → (List α → β) → β
  | [], K => K []
  | a :: as, K => fSpine as fun as => K (a :: as)
def fTm {β : Type} : List (Nat × AV) → (List (Nat × AV) → β) → β
  | [], K => K []
  | (i, v) :: r, K => fTm r fun r => K ((i, v) :: r)

def setK {β : Type} : List (Nat × AV) → Nat → AV → (List (Nat × AV) → β) → β
  | [], i, v, K => K [(i, v)]
  | (j, u) :: r, i, v, K => match Nat.beq i j with
    | true => K ((i, v) :: r)
    | false => match Nat.blt j i with
      | true => K ((i, v) :: (j, u) :: r)
      | false => setK r i v fun r => K ((j, u) :: r)
def putK {β : Type} (s : List (Nat × AV)) (d : Option Nat) (v : AV) (K : List (Nat × AV) → β) : β :=
  match d with
  | none => K s
  | some d => setK s d v K

theorem fNat_eq {β : Type} (n : Nat) (K : Nat → β) : fNat n K = K n := by cases n <;> rfl
theorem fInt_eq {β : Type} (n : Int) (K : Int → β) : fInt n K = K n := by cases n <;> simp [fInt, fNat_eq]
theorem fBool_eq {β : Type} (n : Bool) (K : Bool → β) : fBool n K = K n := by cases n <;> rfl
theorem fList_eq {α β : Type} {f : α → (α → β) → β} (hf : ∀ a K, f a K = K a) : ∀ (l : List α) (K : List α → β), fList f l K = K l
  | [], K => rfl
  | a :: as, K => by simp [fList, hf, fList_eq hf as]
theorem fDen_eq {β : Type} : ∀ (t : Ty) (x : t.den) (K : t.den → β), fDen t x K = K x := by
  intro t
  induction t with
  | int k => intro x K; exact fInt_eq x K
  | bool => intro x K; exact fBool_eq x K
  | list t ih => intro x K; exact fList_eq ih x K
  | arr n t ih => intro x K; exact fList_eq ih x K
  | pair a b iha ihb => intro x K; simp only [fDen, iha, ihb]
  | _ => intro x K; rfl
mutual
theorem fAV_eq {β : Type} : ∀ (v : AV) (K : AV → β), fAV v K = K v
  | .dat t x, K => by unfold fAV; exact fDen_eq t x _
  | .agg cs, K => by unfold fAV; exact fAVs_eq cs _
  | .tup cs, K => by unfold fAV; exact fAVs_eq cs _
  | .slc r L off len, K => by unfold fAV; simp only [fNat_eq]
  | .ptr r off, K => by unfold fAV; simp only [fNat_eq]
  | .eptr r L i, K => by unfold fAV; simp only [fNat_eq]
  | .fn f as bs, K => by unfold fAV; rw [fAVs_eq as, fAVs_eq bs]
  | .top, K | .nils, K | .nilp, K | .nilf, K | .nilm, K | .imm _ _, K | .glob _, K | .yld _, K | .mref _, K | .nili, K | .pan _, K | .lit _ _, K => by unfold fAV; rfl
  | .ifc T a, K => by unfold fAV; exact fAV_eq a _
theorem fAVs_eq {β : Type} : ∀ (vs : List AV) (K : List AV → β), fAVs vs K = K vs
  | [], K => by unfold fAVs; rfl
  | a :: as, K => by unfold fAVs; rw [fAV_eq a, fAVs_eq as]
end
theorem fRow_eq {β : Type} (r : Row) (K : Row → β) : fRow r K = K r := by
  cases r <;> simp [fRow, fAVs_eq, fList_eq (fDen_eq _), fBool_eq]
theorem fRows_eq {β : Type} : ∀ (h h' : Heap) (K : Heap → β), fRows h h' K = K h'
  | _ :: h, r :: h', K => by simp only [fRows]; exact fRows_eq h h' _
  | [], [], K => by simp only [fRows]
  | _ :: _, [], K => by simp only [fRows]
  | [], r :: h', K => by simp only [fRows, fRow_eq]; exact fRows_eq [] h' _
theorem fAt_eq {β : Type} : ∀ (n : Nat) (h : Heap) (K : Heap → β), fAt n h K = K h
  | 0, [], _ => rfl
  | _ + 1, [], _ => rfl
  | 0, r :: h, K => by simp [fAt, fRow_eq]
  | n + 1, r :: h, K => by simp [fAt, fAt_eq n]
theorem fSpine_eq {α β : Type} : ∀ (l : List α) (K : List α → β), fSpine l K = K l
  | [], _ => rfl
  | a :: as, K => by simp [fSpine, fSpine_eq as]
theorem fTm_eq {β : Type} : ∀ (l : List (Nat × AV)) (K : List (Nat × AV) → β), fTm l K = K l
  | [], _ => rfl
  | (i, v) :: r, K => by simp [fTm, fTm_eq r]

theorem setK_eq {β : Type} : ∀ (s : List (Nat × AV)) (i : Nat) (v : AV) (K : List (Nat × AV) → β), setK s i v K = K (setT s i v)
  | [], _, _, _ => rfl
  | (j, u) :: r, i, v, K => by
    simp only [setK, setT]
    cases Nat.beq i j with
    | true => rfl
    | false => cases Nat.blt j i with
      | true => rfl
      | false => exact setK_eq r i v _
theorem putK_eq {β : Type} (s : List (Nat × AV)) (d : Option Nat) (v : AV) (K : List (Nat × AV) → β) : putK s d v K = K (putT s d v) := by
  cases d with
  | none => rfl
  | some d => exact setK_eq s d v K

/-! ### The run -/
abbrev CalT := Callee → List AV → Heap → Option (AV × Heap)
abbrev EvT := Nat → Option Nat → AC → St → Option (Ex × St)

def evTr (cal : CalT) {α : Type} : Tr α → Option α
  | .ret a => some a
  | .need _ d k => match d with | .isTrue _ => evTr cal k | .isFalse _ => none
  | .branch c t e => match c with | true => evTr cal t | false => evTr cal e
  | .fail => none
  | .call f args h k => match cal f args h with
    | some r => evTr cal (k r.1 r.2)
    | none => none

/-- does it touch the rows? -/
def heapI : Instr → Bool
  | .mov _ | .pick .. | .bin .. | .binB .. | .un .. | .conv .. | .len _ | .lenS _ | .lenK _ | .idxA .. | .idxArrA .. | .load .. | .fldA .. | .fld .. | .ext .. | .mm .. => false
  | _ => true

/-- the row that is written -/
def wrI (s : List (Nat × AV)) : Instr → Option Nat
  | .store _ a _ => match ev s a with
    | .ptr r _ => some r
    | .eptr r _ _ => some r
    | _ => none
  | .app _ _ x _ => match ev s x with
    | .slc r _ _ _ => some r
    | _ => none
  | _ => none
def fWr {β : Type} (s : List (Nat × AV)) (i : Instr) (h : Heap) (K : Heap → β) : β :=
  match wrI s i with
  | some r => fAt r h K
  | none => K h
theorem fWr_eq {β : Type} (s : List (Nat × AV)) (i : Instr) (h : Heap) (K : Heap → β) : fWr s i h K = K h := by
  unfold fWr
  split
  · exact fAt_eq _ _ _
  · rfl

def evI (cal : CalT) (s : List (Nat × AV)) (h : Heap) (o : AOp) : Option (List (Nat × AV) × Heap) :=
  match evTr cal (vop s h o.ins) with
  | some x => fAV x.1 fun v => putK s o.dst v fun s' => match heapI o.ins with
    | true => fRows h x.2 fun h' => fWr s o.ins h' fun h'' => some (s', h'')
    | false => some (s', x.2)
  | none => none

def evOps (cal : CalT) : List AOp → List (Nat × AV) → Heap → Option (List (Nat × AV) × Heap)
  | [], s, h => some (s, h)
  | o :: r, s, h => match o.guard with
    | none => match evI cal s h o with | some x => evOps cal r x.1 x.2 | none => none
    | some (d, want) => match getT s d with
      | .dat .bool b => match b with
        | true => match want with
          | true => match evI cal (setT s d (.dat .bool true)) h o with | some x => evOps cal r x.1 x.2 | none => none
          | false => putK (setT s d (.dat .bool true)) o.dst (.tup []) fun s => evOps cal r s h
        | false => match want with
          | true => putK (setT s d (.dat .bool false)) o.dst (.tup []) fun s => evOps cal r s h
          | false => match evI cal (setT s d (.dat .bool false)) h o with | some x => evOps cal r x.1 x.2 | none => none
      | .tup [] => putK s o.dst (.tup []) fun s => evOps cal r s h
      | _ => none

/-- operations of a region in which rows are kept free -/
def evOpsG (cal : CalT) : List AOp → List Nat → List Foot → List (Nat × AV) → Heap → Option (List (Nat × AV) × Heap)
  | [], _, _, s, h => some (s, h)
  | o :: r, ms, fs, s, h => match o.guard with
    | none => match fOK (ms.headD 0) (footI s h.length o.ins) 0 fs with
      | true => match evTr cal (vop s h o.ins) with
        | some x => match Nat.beq x.2.length h.length with
          | true => fAV x.1 fun v => fRows h x.2 fun h' => putK s o.dst v fun s' => evOpsG cal r ms.tail (fs ++ [footI s h.length o.ins]) s' h'
          | false => none
        | none => none
      | false => none
    | some (d, want) => match getT s d with
      | .dat .bool b => match b == want with
        | true => match fOK (ms.headD 0) (footI s h.length o.ins) 0 fs with
          | true => match evTr cal (vop s h o.ins) with
            | some x => match Nat.beq x.2.length h.length with
              | true => fAV x.1 fun v => fRows h x.2 fun h' => putK s o.dst v fun s' => evOpsG cal r ms.tail (fs ++ [footI s h.length o.ins]) s' h'
              | false => none
            | none => none
          | false => none
        | false => putK s o.dst (.tup []) fun s' => evOpsG cal r ms.tail (fs ++ [.rw [] []]) s' h
      | .tup [] => putK s o.dst (.tup []) fun s' => evOpsG cal r ms.tail (fs ++ [.rw [] []]) s' h
      | _ => none

def exB : Ex → Bool
  | .exit _ => false
  | _ => true
def defB [GTab] (P : Program) (ev : EvT) (f : Nat) (as : List AV) (h : Heap) : Option Heap :=
  match defOf P f with
  | some c => match Nat.ble as.length c.n with
    | true => match evOps (fun _ _ _ => none) c.ops (putT (enumT 0 as) c.d .nili) h with
      | some x => match ev c.n none c.rest ⟨x.1, x.2, []⟩ with
        | some (e, s') => match exB e, s'.marks with
          | true, [] => match rowsRefs h.length (s'.heap.take h.length) with
            | true => fSpine (s'.heap.take h.length) fun h' => some h'
            | false => none
          | _, _ => none
        | none => none
      | none => none
    | false => none
  | none => none

def outB [GTab] (P : Program) (ev : EvT) : List Mk → Heap → Option Heap
  | [], h => some h
  | .row r :: rs, h => match getR h r with
    | .dfr => match noDfr r h with | true => outB P ev rs (h.set r .dead) | false => none
    | _ => none
  | .clo f as :: rs, h => match defB P ev f as h with
    | some h' => outB P ev rs h'
    | none => none

/-- the rows that are still looked at -/
def firstN (v : AV) (h : Heap) : Nat → Nat → Option (AV × Heap)
  | 0, _ => none
  | k + 1, n => match refsLt n v && rowsRefs n (h.take n) with
    | true => fSpine (h.take n) fun h => some (v, h)
    | false => fNat (n + 1) fun m => firstN v h k m

def finB (B : Nat) (rs : List RV) (tm : List (Nat × AV)) (h : Heap) : Option (AV × Heap) :=
  match resL tm h rs with
  | some vs => fAV (resV vs) fun v => firstN v h (h.length + 1) B
  | none => none

def leaveB [GTab] (P : Program) (ev : EvT) (B : Nat) (rs : List RV) : Ex → St → Option (AV × Heap)
  | .exit _, _ => none
  | _, s => match outB P ev s.marks s.heap with
    | some h => finB B rs s.tmps h
    | none => none

def endRoundB (r : Nat) (h : Heap) (j : Option Code) : Option (AV × Heap) :=
  match getR h r with
  | .loop _ _ N tm ps as bd d => match j with
    | none => fSpine (h.set r (.loop .ready none N tm ps as bd d)) fun h => some (.dat .bool true, h)
    | some c => fSpine (h.set r (.loop .done (some c) N tm ps as bd d)) fun h => some (.dat .bool false, h)
  | _ => none

def roundB (r : Nat) : Ex → St → Option (AV × Heap)
  | .normal, s => endRoundB r s.heap none
  | .ret, s => endRoundB r s.heap (some .ret)
  | .exit i, s => endRoundB r s.heap (some (.exit i))

def bodyB (ev : EvT) (N : Nat) (cb : AC) (r : Nat) (s : St) : Option (AV × Heap) :=
  match getR s.heap r with
  | .loop .ready pe M tm ps as bd d => fSpine (s.heap.set r (.loop .busy pe M tm ps as bd d)) fun h => match ev N (some r) cb ⟨s.tmps, h, s.marks⟩ with
    | some x => roundB r x.1 x.2
    | none => none
  | _ => none

/-- calls that are known already -/
abbrev Orc := Nat → List AV → Heap → Option (AV × Heap)
def orcNone : Orc := fun _ _ _ => none

/-- a result as data -/
def frzB (fr : Heap) (t : Ty) (v : AV) : Option AV :=
  match refsLt 0 v with
  | true => some v
  | false => match v, t.isAgg with
    | .agg cs, true => match evTr (fun _ _ _ => none) (cvC t fr cs) with
      | some x => fDen t x.1 fun y => some (.dat t y)
      | none => none
    | .slc r L off len, false => match evTr (fun _ _ _ => none) (cvC t fr [.slc r L off len]) with
      | some x => fDen t x.1 fun y => some (.dat t y)
      | none => none
    | _, _ => none
def frzBs (fr : Heap) : List Ty → List AV → Option (List AV)
  | [], [] => some []
  | t :: ts, v :: vs => match frzB fr t v with
    | some a => match frzBs fr ts vs with
      | some as => some (a :: as)
      | none => none
    | none => none
  | _, _ => none
def resTys (P : Program) (f : Nat) : List Ty :=
  match P.funcs[f]? with
  | some fn => fn.resultTypes.toList.map fun t => (tyOf P 8 t).getD .unit
  | none => []
def frzV (P : Program) (f : Nat) (fr : Heap) (v : AV) : Option AV :=
  match refsLt 0 v with
  | true => some v
  | false => match v with
    | .tup vs => match frzBs fr (resTys P f) vs with
      | some as => some (.tup as)
      | none => none
    | v => match resTys P f with
      | [t] => frzB fr t v
      | _ => none

def calF0 [GTab] (P : Program) (ev : EvT) (f : Nat) (args : List AV) (h : Heap) : Option (AV × Heap) :=
  match fnOf P f with
  | some fn => match Nat.ble args.length fn.n with
    | true => match ev fn.n none fn.body ⟨enumT 0 args, h, []⟩ with
      | some x => leaveB P ev h.length fn.res x.1 x.2
      | none => none
    | false => none
  | none => none
/-- .. a result of closed arguments as data -/
def calFz [GTab] (P : Program) (ev : EvT) (f : Nat) (args : List AV) (h : Heap) : Option (AV × Heap) :=
  match refsLtL 0 args with
  | true => match calF0 P ev f args [] with
    | some r => match frzV P f r.2 r.1 with
      | some v => match refsLt 0 v with | true => fAV v fun v => some (v, h) | false => none
      | none => none
    | none => none
  | false => calF0 P ev f args h
def calFn [GTab] (P : Program) (orc : Orc) (ev : EvT) (f : Nat) (args : List AV) (h : Heap) : Option (AV × Heap) :=
  match orc f args h with
  | some r => some r
  | none => match GTab.frz f with
    | false => calF0 P ev f args h
    | true => fAVs (frzAs h args).1 fun as => fSpine (frzAs h args).2 fun h => match orc f as h with
      | some r => some r
      | none => calFz P ev f as h
/-! what is read as data -/
def rdN {α : Type} (f : List AV → Option α) (sz : Nat) : Nat → List AV → Option (List α)
  | 0, _ => some []
  | n + 1, cs => match f (cs.take sz) with
    | some x => match rdN f sz n (cs.drop sz) with
      | some xs => some (x :: xs)
      | none => none
    | none => none
def rdES (t : Ty) : List AV → Option t.den
  | [.dat t' x] => match t.isAgg with | false => castD t t' x | true => none
  | _ => none
def rdEL (h : Heap) (t : Ty) (f : List AV → Option t.den) : List AV → Option (List t.den)
  | [.nils] => some []
  | [.dat t' x] => castD (.list t) t' x
  | [.slc r L off len] => match getR h r with
    | .seq t' xs _ => match Nat.beq xs.length L && Nat.ble (off + len) xs.length with | true => castD (.list t) (.list t') (subL xs off len) | false => none
    | .lst t' xs => match Nat.beq xs.length L && Nat.ble (off + len) xs.length with | true => castD (.list t) (.list t') (subL xs off len) | false => none
    | .box cs => rdN f t.size len (cs.drop off)
    | _ => none
  | _ => none
def rdE (h : Heap) : (t : Ty) → List AV → Option t.den
  | .int k, cs => rdES (.int k) cs
  | .bool, cs => rdES .bool cs
  | .str, cs => rdES .str cs
  | .list t, cs => rdEL h t (rdE h t) cs
  | .unit, cs => match cs with | [] => some () | _ => none
  | .pair a b, cs => match rdE h a (cs.take a.size) with
    | some x => match rdE h b (cs.drop a.size) with
      | some y => some (x, y)
      | none => none
    | none => none
  | .arr _ _, _ => none
def rdB (h : Heap) (t : Ty) (a : AV) : Option AV :=
  match refsLt 0 a with
  | true => some a
  | false => match a, t.isAgg with
    | .agg cs, true => match rdE h t cs with | some x => fDen t x fun x => some (.dat t x) | none => none
    | .slc r L off len, false => match t with
      | .list t => match rdE h (.list t) [.slc r L off len] with | some x => fDen (.list t) x fun x => some (.dat (.list t) x) | none => none
      | _ => none
    | _, _ => none
def rdBs (h : Heap) : List Ty → List AV → Option (List AV)
  | [], [] => some []
  | t :: ts, v :: vs => match rdB h t v with
    | some a => match rdBs h ts vs with
      | some as => some (a :: as)
      | none => none
    | none => none
  | _, _ => none
def parTys (P : Program) (f : Nat) : List Ty :=
  match P.funcs[f]? with
  | some fn => fn.params.toList.map fun t => (tyOf P 8 t).getD .unit
  | none => []

/-- a call beside whatever rows: its result as data -/
def calQ [GTab] (P : Program) (orc : Orc) (ev : EvT) (f : Nat) (args : List AV) (h : Heap) : Option (AV × Heap) :=
  match refsLtL 0 args with
  | true => match calFn P orc ev f args [] with
    | some r => match frzV P f r.2 r.1 with
      | some v => match refsLt 0 v with
        | true => some (v, h)
        | false => none
      | none => none
    | none => none
  | false => none
/-- .. its arguments may lie in rows -/
def calP [GTab] (P : Program) (orc : Orc) (ev : EvT) (f : Nat) (args : List AV) (h : Heap) : Option (AV × Heap) :=
  match refsLtL 0 args with
  | true => calQ P orc ev f args h
  | false => match rdBs h (parTys P f) args with
    | some args' => match calFn P orc ev f args' [] with
      | some r => match flatA r.1 && flatRows r.2 with
        | true => match frzV P f r.2 r.1 with
          | some v => match refsLt 0 v with
            | true => some (v, h)
            | false => none
          | none => none
        | false => none
      | none => none
    | none => none

def calB [GTab] (P : Program) (orc : Orc) (ev : EvT) (f : Callee) (args : List AV) (h : Heap) : Option (AV × Heap) :=
  match f with
  | .pfn f => calP P orc ev f args h
  | .qfn f => calQ P orc ev f args h
  | .coin => none
  | .fn f => calFn P orc ev f args h
  | .yld r => match getR h r with
    | .loop .ready _ M tm ps as bd _ => match cCode P M as, cCode P M bd with
      | some ca, some cb => match Nat.beq ps.length args.length && allLt M ps with
        | true => fTm (setTs tm ps args) fun t => match ev M (some r) ca ⟨t, h, []⟩ with
          | some (.normal, s) => bodyB ev M cb r s
          | _ => none
        | false => none
      | _, _ => none
    | _ => none

def endB (s : St) : Option Code → Option (Ex × St)
  | none => some (.normal, s)
  | some .ret => some (.ret, s)
  | some (.exit i) => some (.exit i, s)
  | _ => none

def rangeEndB (tm : List (Nat × AV)) (l : Nat) (marks : List Mk) (h2 : Heap) : Option (Ex × St) :=
  match getR h2 l with
  | .loop .busy _ _ _ _ _ _ _ => none
  | .loop _ pend _ _ _ _ _ _ => fSpine (h2.set l .dead) fun h => endB ⟨tm, h, marks⟩ pend
  | _ => none

def evF [GTab] (P : Program) (orc : Orc) : Nat → EvT
  | 0, _, _, _, _ => none
  | n + 1, N, ro, c, s => match c with
    | .skip => some (.normal, s)
    | .reg _ ops => match evOps (calB P orc (evF P orc n)) ops s.tmps s.heap with
      | some x => some (.normal, ⟨x.1, x.2, s.marks⟩)
      | none => none
    | .regG k ms ops => match evOpsG (calB P orc (evF P orc n)) ops ms [] s.tmps (s.heap ++ List.replicate k .res) with
      | some x => some (.normal, ⟨x.1, x.2, s.marks⟩)
      | none => none
    | .dfr ops x => match ro with
      | none => match evOps (calB P orc (evF P orc n)) ops s.tmps s.heap with
        | some r => match ev r.1 x with
          | .fn f first caps => some (.normal, ⟨r.1, r.2, .clo f (first ++ caps) :: s.marks⟩)
          | _ => none
        | none => none
      | some _ => none
    | .seq a b => match evF P orc n N ro a s with
      | some (.normal, s) => evF P orc n N ro b s
      | r => r
    | .cond c a b => match ev s.tmps c with
      | .dat .bool t => match t with | true => evF P orc n N ro a s | false => evF P orc n N ro b s
      | _ => none
    | .block i c => match evF P orc n N ro c s with
      | some (.exit j, s) => match Nat.beq j i with | true => some (.normal, s) | false => some (.exit j, s)
      | r => r
    | .loop c => match evF P orc n N ro c s with
      | some (.normal, s) => evF P orc n N ro (.loop c) s
      | r => r
    | .exit i => some (.exit i, s)
    | .ret => some (.ret, s)
    | .rangeF g ps ca cb => match ev s.tmps g with
      | .fn f first caps => match ro with
        | none => fNat s.heap.length fun l => match calB P orc (evF P orc n) (.fn f) (first ++ [.yld (l + 1)] ++ caps) (s.heap ++ [.dfr] ++ [.loop .ready none N s.tmps ps ca cb l]) with
          | some x => rangeEndB s.tmps (l + 1) (.row l :: s.marks) x.2
          | none => none
        | some r => match getR s.heap r with
          | .loop _ _ _ _ _ _ _ d => fNat s.heap.length fun l => match calB P orc (evF P orc n) (.fn f) (first ++ [.yld l] ++ caps) (s.heap ++ [.loop .ready none N s.tmps ps ca cb d]) with
            | some x => rangeEndB s.tmps l s.marks x.2
            | none => none
          | _ => none
      | _ => none

section
variable [GTab] {P : Program}

def CalOK [GTab] (P : Program) (cal : CalT) : Prop := ∀ f args h r, cal f args h = some r → VC P f args h (fun v h' => v = r.1 ∧ h' = r.2)
def OrcOK [GTab] (P : Program) (orc : Orc) : Prop := ∀ f args h r, orc f args h = some r → VCalls P f args h (fun v h' => v = r.1 ∧ h' = r.2)
def EvOK [GTab] (P : Program) (ev : EvT) : Prop := ∀ (N B : Nat) (ro : Option Nat) (c : AC) (s : St) (r : Ex × St), ev N ro c s = some r → awp P N B c ro (fun e s => e = r.1 ∧ s = r.2) s

theorem evTr_det {cal : CalT} (hcal : CalOK P cal) {α : Type} {K : α → Prop} : ∀ (t : Tr α) (a : α), evTr cal t = some a → K a → t.det (VC P) K
  | .ret a, b, H, hk => by cases H; exact hk
  | .need p d k, b, H, hk => by
    simp only [evTr] at H
    cases d with
    | isTrue hp => exact ⟨hp, evTr_det hcal k b H hk⟩
    | isFalse hp => cases H
  | .branch c t e, b, H, hk => by
    simp only [evTr] at H
    cases c with
    | true => exact ⟨fun _ => evTr_det hcal t b H hk, fun e => by cases e⟩
    | false => exact ⟨(fun e => by cases e), fun _ => evTr_det hcal e b H hk⟩
  | .fail, b, H, _ => by cases H
  | .call f args h k, b, H, hk => by
    simp only [evTr] at H
    split at H
    case h_2 => cases H
    rename_i r hr
    exact ⟨r.1, r.2, hcal f args h r hr, evTr_det hcal _ b H hk⟩

theorem evI_det {cal : CalT} (hcal : CalOK P cal) {s : List (Nat × AV)} {h : Heap} {o : AOp} {r : List (Nat × AV) × Heap} (H : evI cal s h o = some r) {K : AV × Heap → Prop}
    (hk : ∀ x : AV × Heap, (putT s o.dst x.1, x.2) = r → K x) : (vop s h o.ins).det (VC P) K := by
  unfold evI at H
  split at H
  case h_2 => cases H
  rename_i x hx
  refine evTr_det hcal _ x hx (hk x ?_)
  simp only [fAV_eq, putK_eq, fRows_eq, fWr_eq] at H
  cases hh : heapI o.ins <;> rw [hh] at H <;> exact Option.some.inj H

theorem evOps_det {cal : CalT} (hcal : CalOK P cal) : ∀ (os : List AOp) (s : List (Nat × AV)) (h : Heap) (r : List (Nat × AV) × Heap) (K : List (Nat × AV) → Heap → Prop), evOps cal os s h = some r → K r.1 r.2 → vopsD P os s h K
  | [], s, h, r, K, H, hk => by cases H; exact hk
  | o :: os, s, h, r, K, H, hk => by
    have one : ∀ s', (match evI cal s' h o with | some x => evOps cal os x.1 x.2 | none => none) = some r → (vop s' h o.ins).det (VC P) fun x => vopsD P os (putT s' o.dst x.1) x.2 K := by
      intro s' H
      split at H
      case h_2 => cases H
      rename_i x hx
      refine evI_det hcal hx (fun y hy => ?_)
      have h1 : putT s' o.dst y.1 = x.1 := congrArg Prod.fst hy
      have h2 : y.2 = x.2 := congrArg Prod.snd hy
      rw [h1, h2]
      exact evOps_det hcal os _ _ r K H hk
    simp only [evOps] at H
    simp only [vopsD]
    cases hg : o.guard with
    | none => rw [hg] at H; exact one s H
    | some p =>
      obtain ⟨d, want⟩ := p
      rw [hg] at H
      simp only at H ⊢
      split at H
      case h_3 => cases H
      case h_2 hb =>
        rw [hb]
        simp only [putK_eq] at H ⊢
        exact evOps_det hcal os _ _ r K H hk
      rename_i b hb
      rw [hb]
      simp only
      cases b with
      | true =>
        refine ⟨fun _ => ?_, fun e => by cases e⟩
        cases want with
        | true => exact one _ H
        | false =>
          simp only [putK_eq] at H
          exact evOps_det hcal os _ _ r K H hk
      | false =>
        refine ⟨(fun e => by cases e), fun _ => ?_⟩
        cases want with
        | true =>
          simp only [putK_eq] at H
          exact evOps_det hcal os _ _ r K H hk
        | false => exact one _ H

/-- one outcome in the order of the text is an outcome -/
theorem vops_of_vopsD {K : List (Nat × AV) → Heap → Prop} : ∀ (os : List AOp) (s : List (Nat × AV)) (h : Heap), vopsD P os s h K → (vops os s h).sem (VC P) (fun r => K r.1 r.2)
  | [], s, h, H => H
  | o :: os, s, h, H => by
    have one : ∀ s', ((vop s' h o.ins).det (VC P) fun x => vopsD P os (putT s' o.dst x.1) x.2 K) → ((vop s' h o.ins).bind fun x => vops os (putT s' o.dst x.1) x.2).sem (VC P) (fun r => K r.1 r.2) := by
      intro s' H
      rw [Tr.sem_bind]
      exact sem_mono (fun x hx => vops_of_vopsD os _ _ hx) (det_sem _ H)
    simp only [vopsD] at H
    simp only [vops]
    cases hg : o.guard with
    | none => rw [hg] at H; exact one s H
    | some p =>
      obtain ⟨d, want⟩ := p
      rw [hg] at H
      simp only at H ⊢
      split at H
      case h_3 => exact H.elim
      case h_2 hb =>
        rw [hb]
        simp only
        exact vops_of_vopsD os _ _ H
      rename_i b hb
      rw [hb]
      simp only
      refine ⟨fun e => ?_, fun e => ?_⟩
      · have H := H.1 e
        cases want with
        | true => exact one _ H
        | false => exact vops_of_vopsD os _ _ H
      · have H := H.2 e
        cases want with
        | true => exact vops_of_vopsD os _ _ H
        | false => exact one _ H

theorem calNone_ok : CalOK P (fun _ _ _ => none) := fun _ _ _ _ h => by cases h

theorem evOpsG_det {cal : CalT} (hcal : CalOK P cal) : ∀ (os : List AOp) (ms : List Nat) (fs : List Foot) (s : List (Nat × AV)) (h : Heap) (r : List (Nat × AV) × Heap) (K : List (Nat × AV) → Heap → Prop), evOpsG cal os ms fs s h = some r → K r.1 r.2 → vopsG P os ms fs s h K
  | [], ms, fs, s, h, r, K, H, hk => by cases H; exact hk
  | o :: os, ms, fs, s, h, r, K, H, hk => by
    have one : (match fOK (ms.headD 0) (footI s h.length o.ins) 0 fs with
        | true => match evTr cal (vop s h o.ins) with
          | some x => match Nat.beq x.2.length h.length with
            | true => fAV x.1 fun v => fRows h x.2 fun h' => putK s o.dst v fun s' => evOpsG cal os ms.tail (fs ++ [footI s h.length o.ins]) s' h'
            | false => none
          | none => none
        | false => none) = some r → (fOK (ms.headD 0) (footI s h.length o.ins) 0 fs = true ∧ (vop s h o.ins).det (VC P) fun x => Nat.beq x.2.length h.length = true ∧ vopsG P os ms.tail (fs ++ [footI s h.length o.ins]) (putT s o.dst x.1) x.2 K) := by
      intro H
      split at H
      case h_2 => cases H
      rename_i hf
      split at H
      case h_2 => cases H
      rename_i x hx
      split at H
      case h_2 => cases H
      rename_i hl
      simp only [fAV_eq, putK_eq, fRows_eq] at H
      exact ⟨hf, evTr_det hcal _ x hx ⟨hl, evOpsG_det hcal os _ _ _ _ r K H hk⟩⟩
    simp only [evOpsG] at H
    simp only [vopsG]
    cases hg : o.guard with
    | none => rw [hg] at H; exact one H
    | some p =>
      obtain ⟨d, want⟩ := p
      rw [hg] at H
      simp only at H ⊢
      split at H
      · rename_i b hb
        rw [hb]
        split at H
        · rename_i hbw
          have hbw : b = want := by simpa using hbw
          subst hbw
          exact ⟨fun _ => one H, fun e => by cases b <;> cases e⟩
        · rename_i hbw
          have hbw : b = !want := by cases b <;> cases want <;> first | rfl | (cases hbw)
          subst hbw
          simp only [putK_eq] at H
          exact ⟨(fun e => by cases want <;> cases e), fun _ => evOpsG_det hcal os _ _ _ _ r K H hk⟩
      · rename_i hb
        rw [hb]
        simp only [putK_eq] at H ⊢
        exact evOpsG_det hcal os _ _ _ _ r K H hk
      · cases H

theorem defB_sound (hmix : P.follows .mixedOrders = true) {ev : EvT} (hev : EvOK P ev) {f : Nat} {as : List AV} {h h' : Heap} {K : Heap → Prop} (H : defB P ev f as h = some h') (hk : K h') : VDef P f as h K := by
  unfold defB at H
  split at H
  case h_2 => cases H
  rename_i c hc
  split at H
  case h_2 => cases H
  rename_i hN
  split at H
  case h_2 => cases H
  rename_i x hx
  split at H
  case h_2 => cases H
  rename_i e s' hs
  refine vdef_fn hmix hc hN (vops_of_vopsD _ _ _ (evOps_det calNone_ok _ _ _ x (fun t h1 => awp P c.n h.length c.rest none (finD h.length K) ⟨t, h1, []⟩) hx ?_))
  refine awp_mono _ ?_ _ (hev c.n h.length none c.rest _ _ hs)
  rintro e1 s1 ⟨e1e, s1e⟩
  subst e1e
  subst s1e
  split at H
  · rename_i hx1 hm
    split at H
    case h_2 => cases H
    rename_i hr
    simp only [fSpine_eq] at H
    cases H
    cases e1 with
    | exit i => cases hx1
    | normal => exact ⟨hm, h.length, Nat.le_refl _, hr, hk⟩
    | ret => exact ⟨hm, h.length, Nat.le_refl _, hr, hk⟩
  · cases H

theorem outB_sound (hmix : P.follows .mixedOrders = true) {ev : EvT} (hev : EvOK P ev) : ∀ (rs : List Mk) (h h' : Heap) (K : Heap → Prop), outB P ev rs h = some h' → K h' → outMarks P rs h K
  | [], h, h', K, H, hk => by cases H; exact hk
  | .row r :: rs, h, h', K, H, hk => by
    simp only [outB] at H
    simp only [outMarks]
    split at H
    case h_2 => cases H
    rename_i hr
    rw [hr]
    split at H
    case h_2 => cases H
    rename_i hn
    exact ⟨hn, outB_sound hmix hev rs _ h' K H hk⟩
  | .clo f as :: rs, h, h', K, H, hk => by
    simp only [outB] at H
    simp only [outMarks]
    split at H
    case h_2 => cases H
    rename_i h1 hh
    exact defB_sound hmix hev hh (outB_sound hmix hev rs h1 h' K H hk)

theorem firstN_sound {v : AV} {h : Heap} {r : AV × Heap} {B : Nat} : ∀ (k n : Nat), B ≤ n → firstN v h k n = some r → ∃ n, B ≤ n ∧ refsLt n v = true ∧ rowsRefs n (h.take n) = true ∧ v = r.1 ∧ h.take n = r.2
  | 0, _, _, H => by cases H
  | k + 1, n, hn, H => by
    simp only [firstN, fSpine_eq, fNat_eq] at H
    split at H
    · rename_i hb
      simp only [Bool.and_eq_true] at hb
      cases H
      exact ⟨n, hn, hb.1, hb.2, rfl, rfl⟩
    · exact firstN_sound k (n + 1) (by omega) H

theorem finB_sound {B : Nat} {rs : List RV} {tm : List (Nat × AV)} {h : Heap} {r : AV × Heap} {Q : AV → Heap → Prop} (H : finB B rs tm h = some r) (hq : Q r.1 r.2) : match resL tm h rs with
    | some vs => ∃ n, B ≤ n ∧ refsLt n (resV vs) = true ∧ rowsRefs n (h.take n) = true ∧ Q (resV vs) (h.take n)
    | none => False := by
  unfold finB at H
  split at H
  case h_2 => cases H
  simp only [fAV_eq] at H
  obtain ⟨n, h1, h2, h3, h4, h5⟩ := firstN_sound _ B (Nat.le_refl _) H
  exact ⟨n, h1, h2, h3, by rw [h4, h5]; exact hq⟩

theorem leaveB_sound (hmix : P.follows .mixedOrders = true) {ev : EvT} (hev : EvOK P ev) {B : Nat} {rs : List RV} {Q : AV → Heap → Prop} {r : AV × Heap} (hq : Q r.1 r.2) : ∀ (e : Ex) (s : St), leaveB P ev B rs e s = some r → finW P B rs Q e s := by
  have key : ∀ (s : St), (match outB P ev s.marks s.heap with | some h => finB B rs s.tmps h | none => none) = some r → outMarks P s.marks s.heap fun h => match resL s.tmps h rs with
      | some vs => ∃ n, B ≤ n ∧ refsLt n (resV vs) = true ∧ rowsRefs n (h.take n) = true ∧ Q (resV vs) (h.take n)
      | none => False := by
    intro s H
    split at H
    case h_2 => cases H
    rename_i h' hh
    exact outB_sound hmix hev _ _ h' _ hh (finB_sound H hq)
  intro e s H
  cases e with
  | exit i => cases H
  | normal => exact key s H
  | ret => exact key s H

theorem endRoundB_sound {k : Nat} {h : Heap} {j : Option Code} {r : AV × Heap} {Q : AV → Heap → Prop} (H : endRoundB k h j = some r) (hq : Q r.1 r.2) : endRoundW k h j Q := by
  unfold endRoundB at H
  unfold endRoundW
  split at H
  case h_2 => cases H
  rename_i hr
  rw [hr]
  cases j with
  | none => simp only [fSpine_eq] at H; cases H; exact hq
  | some c => simp only [fSpine_eq] at H; cases H; exact hq

theorem roundB_sound {k : Nat} {r : AV × Heap} {Q : AV → Heap → Prop} (hq : Q r.1 r.2) : ∀ (e : Ex) (s : St), roundB k e s = some r → roundW k Q e s
  | .normal, _, H => by unfold roundB at H; exact endRoundB_sound H hq
  | .ret, _, H => by unfold roundB at H; exact endRoundB_sound H hq
  | .exit _, _, H => by unfold roundB at H; exact endRoundB_sound H hq

theorem rangeEndB_sound {tm : List (Nat × AV)} {l : Nat} {marks : List Mk} {h2 : Heap} {r : Ex × St} {Q : Ex → St → Prop} (H : rangeEndB tm l marks h2 = some r) (hq : Q r.1 r.2) : rangeEnd Q tm l marks h2 := by
  unfold rangeEndB at H
  unfold rangeEnd
  split at H
  · cases H
  · rename_i hnb hr
    rw [hr]
    simp only [fSpine_eq] at H
    refine ⟨fun e => hnb e, ?_⟩
    unfold endB at H
    unfold endF
    split at H
    · cases H; exact hq
    · cases H; exact hq
    · cases H; exact hq
    · cases H
  · cases H

theorem calF0_sound (hmix : P.follows .mixedOrders = true) {ev : EvT} (hev : EvOK P ev) {f : Nat} {args : List AV} {h : Heap} {r : AV × Heap} (H : calF0 P ev f args h = some r) : VCalls P f args h (fun v h' => v = r.1 ∧ h' = r.2) := by
  unfold calF0 at H
  split at H
  case h_2 => cases H
  rename_i fn hf
  split at H
  case h_2 => cases H
  rename_i hN
  split at H
  case h_2 => cases H
  rename_i x hx
  refine vcalls_fn hmix hf hN (awp_mono _ ?_ _ (hev fn.n h.length _ _ _ _ hx))
  rintro e s ⟨rfl, rfl⟩
  exact leaveB_sound hmix hev (Q := fun v h' => v = r.1 ∧ h' = r.2) ⟨rfl, rfl⟩ _ _ H

section
variable {w : World} {S : Nat → Prop} {μ : Mu} {fr : Heap}
theorem evTr_sem {C : CallSem} {α : Type} : ∀ (t : Tr α) (a : α), evTr (fun _ _ _ => none) t = some a → t.sem C (· = a)
  | .ret b, a, H => by cases H; rfl
  | .need p d k, a, H => by
    simp only [evTr] at H
    cases d with
    | isTrue hp => exact ⟨hp, evTr_sem k a H⟩
    | isFalse hp => cases H
  | .branch c t e, a, H => by
    simp only [evTr] at H
    cases c with
    | true => exact ⟨fun _ => evTr_sem t a H, fun e => by cases e⟩
    | false => exact ⟨(fun e => by cases e), fun _ => evTr_sem e a H⟩
  | .fail, a, H => by cases H
  | .call f args h k, a, H => by simp only [evTr] at H; cases H

theorem dval_nil {t : Ty} {y : t.den} {u : Value} {μ' : Mu} (H : DVal w (Sd S μ') t y u) : ARep w S [] [] (.dat t y) u := by
  unfold ARep
  exact H.mono (Nat.le_refl _) (fun b hb _ => ⟨rfl, sd_nil.2 hb.1⟩)

theorem frzB_rep (hH : HRep w S μ fr) {t : Ty} {v a : AV} {u : Value} (hv : ARep w S μ fr v u) (H : frzB fr t v = some a) : ARep w S [] [] a u := by
  unfold frzB at H
  split at H
  · rename_i hc
    cases H
    exact ARep.closed (Nat.le_refl _) (fun b hb _ => ⟨rfl, sd_nil.2 hb.1⟩) _ _ hc hv
  · split at H
    · rename_i _ cs hag _
      split at H
      case h_2 => cases H
      rename_i x hx
      simp only [fDen_eq] at H
      cases H
      unfold ARep at hv
      obtain ⟨vs, rfl, hl, _⟩ := hv
      obtain ⟨μ', y, h', _, _, _, hd, _, e⟩ := cvC_rep (C := fun _ _ _ _ => False) t μ fr cs vs _ hH hl (evTr_sem _ _ hx)
      cases e
      refine dval_nil (μ' := μ') ?_
      unfold DVal
      rw [hag]
      exact ⟨vs, rfl, hd⟩
    · rename_i _ r L off len hag _
      split at H
      case h_2 => cases H
      rename_i x hx
      simp only [fDen_eq] at H
      cases H
      obtain ⟨μ', y, h', _, _, _, hd, _, e⟩ := cvC_rep (C := fun _ _ _ _ => False) t μ fr [.slc r L off len] [u] _ hH (by unfold ARepL ARepL; exact ⟨hv, trivial⟩) (evTr_sem _ _ hx)
      cases e
      refine dval_nil (μ' := μ') ?_
      unfold DVal
      rw [hag]
      exact hd
    · cases H

theorem frzBs_rep (hH : HRep w S μ fr) : ∀ {ts : List Ty} {vs as : List AV} {us : List Value}, ARepL w S μ fr vs us → frzBs (fr := fr) ts vs = some as → ARepL w S [] [] as us
  | [], [], as, us, hl, H => by
    simp only [frzBs, Option.some.injEq] at H
    subst H
    cases us with
    | nil => unfold ARepL; trivial
    | cons _ _ => unfold ARepL at hl; exact hl.elim
  | t :: ts, v :: vs, as, us, hl, H => by
    simp only [frzBs] at H
    split at H
    case h_2 => cases H
    rename_i a ha
    split at H
    case h_2 => cases H
    rename_i as' has
    cases H
    cases us with
    | nil => unfold ARepL at hl; exact hl.elim
    | cons u us =>
      unfold ARepL at hl ⊢
      exact ⟨frzB_rep hH hl.1 ha, frzBs_rep hH hl.2 has⟩
  | [], _ :: _, _, _, _, H => by simp only [frzBs] at H; cases H
  | _ :: _, [], _, _, _, H => by simp only [frzBs] at H; cases H

theorem frzV_rep (hH : HRep w S μ fr) {f : Nat} {v a : AV} {u : Value} (hv : ARep w S μ fr v u) (H : frzV P f fr v = some a) : ARep w S [] [] a u := by
  unfold frzV at H
  split at H
  · rename_i hc
    cases H
    exact ARep.closed (Nat.le_refl _) (fun b hb _ => ⟨rfl, sd_nil.2 hb.1⟩) _ _ hc hv
  · split at H
    · rename_i vs _
      split at H
      case h_2 => cases H
      rename_i as has
      cases H
      unfold ARep at hv ⊢
      obtain ⟨us, e, hl⟩ := hv
      exact ⟨us, e, frzBs_rep hH hl has⟩
    · split at H
      · exact frzB_rep hH hv H
      · cases H
end

/-- a run without rows gives a contract of data -/
theorem pc_calF0 (hmix : P.follows .mixedOrders = true) {ev : EvT} (hev : EvOK P ev) {f : Nat} {args : List AV} {r : AV × Heap} {v : AV} (H : calF0 P ev f args [] = some r) (hz : frzV P f r.2 r.1 = some v) : PC P f args v := by
  have H := calF0_sound hmix hev H
  refine ⟨H.1, fun S μ w vs hO hG hH ha => ?_⟩
  have := mu_nil hH
  subst this
  refine (H.2 S [] w vs hO hG hH ha).mono ?_
  intro e w' he
  cases e with
  | panicked c => exact he.elim
  | outgrown => exact he.elim
  | returned u =>
    obtain ⟨μ', av, fr, k1, _, k3, k4, rfl, rfl⟩ := he
    exact ⟨[], v, [], ⟨k1.os, k1.tape, k1.output, k1.grow, fun b hb _ => k1.same b hb (has_nil b), fun b hb => .inl hb⟩, HExt.refl _ _, hrep_nil _ _, frzV_rep k3 k4 hz, rfl, rfl⟩

theorem calFn_sound (hmix : P.follows .mixedOrders = true) {orc : Orc} (horc : OrcOK P orc) {ev : EvT} (hev : EvOK P ev) {f : Nat} {args : List AV} {h : Heap} {r : AV × Heap} (H : calFn P orc ev f args h = some r) : VCalls P f args h (fun v h' => v = r.1 ∧ h' = r.2) := by
  unfold calFn at H
  split at H
  case h_1 r' hr' => cases H; exact horc f args h r hr'
  split at H
  · exact calF0_sound hmix hev H
  · simp only [fAVs_eq, fSpine_eq] at H
    split at H
    case h_1 r' hr' => cases H; exact vcalls_frz (horc _ _ _ r hr')
    refine vcalls_frz ?_
    unfold calFz at H
    split at H
    · rename_i hcl
      split at H
      case h_2 => cases H
      rename_i x hx
      split at H
      case h_2 => cases H
      rename_i v hv
      split at H
      case h_2 => cases H
      rename_i hc
      simp only [fAV_eq] at H
      cases H
      exact pc_frame (pc_calF0 hmix hev hx hv) hcl (rdL_refl _ hcl) hc
    · exact calF0_sound hmix hev H

theorem pc_calFn (hmix : P.follows .mixedOrders = true) {orc : Orc} (horc : OrcOK P orc) {ev : EvT} (hev : EvOK P ev) {f : Nat} {args : List AV} {r : AV × Heap} {v : AV} (H : calFn P orc ev f args [] = some r) (hz : frzV P f r.2 r.1 = some v) : PC P f args v := by
  have H := calFn_sound hmix horc hev H
  refine ⟨H.1, fun S μ w vs hO hG hH ha => ?_⟩
  have := mu_nil hH
  subst this
  refine (H.2 S [] w vs hO hG hH ha).mono ?_
  intro e w' he
  cases e with
  | panicked c => exact he.elim
  | outgrown => exact he.elim
  | returned u =>
    obtain ⟨μ', av, fr, k1, _, k3, k4, rfl, rfl⟩ := he
    exact ⟨[], v, [], ⟨k1.os, k1.tape, k1.output, k1.grow, fun b hb _ => k1.same b hb (has_nil b), fun b hb => .inl hb⟩, HExt.refl _ _, hrep_nil _ _, frzV_rep k3 k4 hz, rfl, rfl⟩

theorem calQ_sound (hmix : P.follows .mixedOrders = true) {orc : Orc} (horc : OrcOK P orc) {ev : EvT} (hev : EvOK P ev) {f : Nat} {args : List AV} {h : Heap} {r : AV × Heap} (H : calQ P orc ev f args h = some r) : r.2 = h ∧ ∀ h1, VCalls P f args h1 (fun v h' => v = r.1 ∧ h' = h1) := by
  unfold calQ at H
  split at H
  case h_2 => cases H
  rename_i hcl
  split at H
  case h_2 => cases H
  rename_i x hx
  split at H
  case h_2 => cases H
  rename_i v hv
  split at H
  case h_2 => cases H
  rename_i hc
  cases H
  exact ⟨rfl, fun h1 => pc_frame (pc_calFn hmix horc hev hx hv) hcl (rdL_refl _ hcl) hc⟩

theorem rdN_chop {α : Type} {f : List AV → Option α} {g : α → List AV → Prop} {sz : Nat} (hfg : ∀ cs x, f cs = some x → g x cs) : ∀ (n : Nat) (cs : List AV) (xs : List α), rdN f sz n cs = some xs → xs.length = n ∧ chopR g sz xs cs
  | 0, cs, xs, H => by simp only [rdN, Option.some.injEq] at H; subst H; exact ⟨rfl, trivial⟩
  | n + 1, cs, xs, H => by
    simp only [rdN] at H
    split at H
    case h_2 => cases H
    rename_i x hx
    split at H
    case h_2 => cases H
    rename_i xs' hxs
    cases H
    obtain ⟨h1, h2⟩ := rdN_chop hfg n _ _ hxs
    exact ⟨by simp [h1], hfg _ _ hx, h2⟩
theorem castD_av {t t' : Ty} {x : t'.den} {y : t.den} (H : castD t t' x = some y) : AV.dat t' x = AV.dat t y := by
  obtain ⟨e1, e2⟩ := castD_some H
  cases e1
  cases e2
  rfl
theorem rdES_spec {t : Ty} {cs : List AV} {x : t.den} (H : rdES t cs = some x) : ∃ c, cs = [c] ∧ RdS t x c := by
  unfold rdES at H
  split at H
  · split at H
    · rename_i hag
      exact ⟨_, rfl, hag, castD_av H⟩
    · cases H
  · cases H
theorem rdEL_spec {h : Heap} {t : Ty} {f : List AV → Option t.den} (hf : ∀ cs x, f cs = some x → RdC h t x cs) {cs : List AV} {x : List t.den} (H : rdEL h t f cs = some x) : ∃ c, cs = [c] ∧ RdLs h t (RdC h t) x c := by
  unfold rdEL at H
  split at H
  · cases H; exact ⟨_, rfl, trivial⟩
  · exact ⟨_, rfl, rfl, castD_av H⟩
  · rename_i r L off len
    refine ⟨_, rfl, ?_⟩
    unfold RdLs
    simp only
    split at H
    · rename_i hr
      rw [hr]
      split at H
      case h_2 => cases H
      rename_i hb
      simp only [Bool.and_eq_true] at hb
      exact ⟨⟨Nat.eq_of_beq_eq_true hb.1, Nat.le_of_ble_eq_true hb.2⟩, castD_av (t' := .list _) H⟩
    · rename_i hr
      rw [hr]
      split at H
      case h_2 => cases H
      rename_i hb
      simp only [Bool.and_eq_true] at hb
      exact ⟨⟨Nat.eq_of_beq_eq_true hb.1, Nat.le_of_ble_eq_true hb.2⟩, castD_av (t' := .list _) H⟩
    · rename_i hr
      rw [hr]
      exact rdN_chop hf _ _ _ H
    · cases H
  · cases H
theorem rdE_spec {h : Heap} : ∀ (t : Ty) (cs : List AV) (x : t.den), rdE h t cs = some x → RdC h t x cs := by
  intro t
  induction t with
  | int k => intro cs x H; obtain ⟨c, rfl, h1⟩ := rdES_spec H; exact h1
  | bool => intro cs x H; obtain ⟨c, rfl, h1⟩ := rdES_spec H; exact h1
  | str => intro cs x H; obtain ⟨c, rfl, h1⟩ := rdES_spec H; exact h1
  | list t ih => intro cs x H; obtain ⟨c, rfl, h1⟩ := rdEL_spec ih H; exact h1
  | unit =>
    intro cs x H
    simp only [rdE] at H
    split at H
    · exact rfl
    · cases H
  | arr n t ih => intro cs x H; cases H
  | pair a b iha ihb =>
    intro cs x H
    simp only [rdE] at H
    split at H
    case h_2 => cases H
    rename_i y hy
    split at H
    case h_2 => cases H
    rename_i z hz
    cases H
    exact ⟨iha _ _ hy, ihb _ _ hz⟩
theorem rdB_spec {h : Heap} {t : Ty} {a b : AV} (H : rdB h t a = some b) : Rd h a b := by
  unfold rdB at H
  split at H
  · rename_i hc; cases H; exact rd_refl h hc
  · split at H
    · rename_i hag _
      split at H
      case h_2 => cases H
      rename_i x hx
      simp only [fDen_eq] at H
      cases H
      exact ⟨hag, rdE_spec _ _ _ hx⟩
    · split at H
      · split at H
        case h_2 => cases H
        rename_i x hx
        simp only [fDen_eq] at H
        cases H
        have := rdE_spec _ _ _ hx
        exact this
      · cases H
    · cases H
theorem rdBs_spec {h : Heap} : ∀ {ts : List Ty} {as bs : List AV}, rdBs h ts as = some bs → RdL h as bs
  | [], [], bs, H => by simp only [rdBs, Option.some.injEq] at H; subst H; trivial
  | t :: ts, a :: as, bs, H => by
    simp only [rdBs] at H
    split at H
    case h_2 => cases H
    rename_i x hx
    split at H
    case h_2 => cases H
    rename_i xs hxs
    cases H
    exact ⟨rdB_spec hx, rdBs_spec hxs⟩
  | [], _ :: _, _, H => by simp only [rdBs] at H; cases H
  | _ :: _, [], _, H => by simp only [rdBs] at H; cases H

theorem calP_sound (hmix : P.follows .mixedOrders = true) {orc : Orc} (horc : OrcOK P orc) {ev : EvT} (hev : EvOK P ev) {f : Nat} {args : List AV} {h : Heap} {r : AV × Heap} (H : calP P orc ev f args h = some r) : r.2 = h ∧ VCalls P f args h (fun v h' => v = r.1 ∧ h' = h) := by
  unfold calP at H
  split at H
  · obtain ⟨h1, h2⟩ := calQ_sound hmix horc hev H
    exact ⟨h1, h2 h⟩
  · split at H
    case h_2 => cases H
    rename_i args' hrd
    split at H
    case h_2 => cases H
    rename_i x hx
    split at H
    case h_2 => cases H
    rename_i hfl
    simp only [Bool.and_eq_true] at hfl
    split at H
    case h_2 => cases H
    rename_i v hv
    split at H
    case h_2 => cases H
    rename_i hc
    cases H
    exact ⟨rfl, vcalls_fresh (calFn_sound hmix horc hev hx) (rdBs_spec hrd) hfl.1 hfl.2 (fun w S μ u k1 k2 => frzV_rep k1 k2 hv) hc⟩

theorem calB_sound (hmix : P.follows .mixedOrders = true) {orc : Orc} (horc : OrcOK P orc) {ev : EvT} (hev : EvOK P ev) : CalOK P (calB P orc ev) := by
  intro f args h r H
  unfold calB at H
  cases f with
  | pfn f =>
    obtain ⟨e, k⟩ := calP_sound hmix horc hev H
    refine VC.mono (.fn f) args h _ _ ?_ k
    rintro v h' ⟨e1, e2⟩
    exact ⟨e2, e1, e.symm⟩
  | qfn f =>
    obtain ⟨e, k⟩ := calQ_sound hmix horc hev H
    intro h1
    refine VC.mono (.fn f) args h1 _ _ ?_ (k h1)
    rintro v h' ⟨e1, e2⟩
    exact ⟨e2, e1, e.symm⟩
  | coin => cases H
  | fn f => exact calFn_sound hmix horc hev H
  | yld k =>
    simp only at H
    split at H
    case h_2 => cases H
    rename_i pe M tm ps as bd d hr
    split at H
    case h_2 => cases H
    rename_i ca cb hca hcb
    split at H
    case h_2 => cases H
    rename_i hb
    simp only [Bool.and_eq_true] at hb
    simp only [fTm_eq] at H
    split at H
    case h_2 => cases H
    rename_i s1 hx
    refine vyield_of_awp hmix hr hca hcb hb.1 hb.2 (awp_mono _ ?_ _ (hev M h.length _ _ _ _ hx))
    rintro e s ⟨rfl, rfl⟩
    simp only [thn, bodyW]
    unfold bodyB at H
    split at H
    case h_2 => cases H
    rename_i hr2
    rw [hr2]
    simp only [fSpine_eq] at H
    split at H
    case h_2 => cases H
    rename_i x hx2
    refine awp_mono _ ?_ _ (hev M h.length _ _ _ _ hx2)
    rintro e s ⟨rfl, rfl⟩
    exact roundB_sound (Q := fun v h' => v = r.1 ∧ h' = r.2) ⟨rfl, rfl⟩ _ _ H

theorem evF_sound (hmix : P.follows .mixedOrders = true) {orc : Orc} (horc : OrcOK P orc) : ∀ (n : Nat), EvOK P (evF P orc n)
  | 0, _, _, _, _, _, _, H => by cases H
  | n + 1, N, B, ro, c, s, r, H => by
    have ih := evF_sound hmix horc n
    cases c with
    | skip => cases H; exact ⟨rfl, rfl⟩
    | exit i => cases H; exact ⟨rfl, rfl⟩
    | ret => cases H; exact ⟨rfl, rfl⟩
    | rangeF g ps ca cb =>
      simp only [evF] at H
      simp only [awp]
      split at H
      case h_2 => cases H
      rename_i f first caps hg
      rw [hg]
      simp only [fNat_eq] at H ⊢
      split at H
      · split at H
        case h_2 => cases H
        rename_i x hx
        refine VC.mono (.fn f) _ _ _ _ ?_ (calB_sound hmix horc ih (.fn f) _ _ _ hx)
        rintro _ h2 ⟨_, rfl⟩
        exact rangeEndB_sound H ⟨rfl, rfl⟩
      · split at H
        case h_2 => cases H
        rename_i hr
        simp only [hr]
        split at H
        case h_2 => cases H
        rename_i x hx
        refine VC.mono (.fn f) _ _ _ _ ?_ (calB_sound hmix horc ih (.fn f) _ _ _ hx)
        rintro _ h2 ⟨_, rfl⟩
        exact rangeEndB_sound H ⟨rfl, rfl⟩
    | regG k ms ops =>
      simp only [evF] at H
      split at H
      case h_2 => cases H
      rename_i x hx
      cases H
      exact evOpsG_det (calB_sound hmix horc ih) ops ms [] s.tmps _ x (fun t h => Ex.normal = Ex.normal ∧ (⟨t, h, s.marks⟩ : St) = ⟨x.1, x.2, s.marks⟩) hx ⟨rfl, rfl⟩
    | dfr ops x =>
      simp only [evF] at H
      simp only [awp]
      split at H
      case h_2 => cases H
      split at H
      case h_2 => cases H
      rename_i y hy
      refine vops_of_vopsD _ _ _ (evOps_det (calB_sound hmix horc ih) ops s.tmps s.heap y (fun t h => dfrK (fun e s => e = r.1 ∧ s = r.2) s.marks x (t, h)) hy ?_)
      split at H
      case h_2 => cases H
      rename_i hev
      unfold dfrK
      simp only [hev]
      cases H
      exact ⟨rfl, rfl⟩
    | reg draw ops =>
      simp only [evF] at H
      split at H
      case h_2 => cases H
      rename_i x hx
      cases H
      have key := evOps_det (calB_sound hmix horc ih) ops s.tmps s.heap x (fun t h => Ex.normal = Ex.normal ∧ (⟨t, h, s.marks⟩ : St) = ⟨x.1, x.2, s.marks⟩) hx ⟨rfl, rfl⟩
      cases draw with
      | true => exact key
      | false => exact vops_of_vopsD _ _ _ key
    | seq a b =>
      simp only [evF] at H
      split at H
      · rename_i s1 hx
        refine awp_mono a (fun e s h => ?_) s (ih N B ro a s _ hx)
        obtain ⟨rfl, rfl⟩ := h
        exact ih N B ro b _ _ H
      · rename_i hne
        refine awp_mono a (fun e s h => ?_) s (ih N B ro a s _ H)
        obtain ⟨rfl, rfl⟩ := h
        cases hr : r.1 with
        | normal => exact absurd (by rw [H, ← hr]) (hne r.2)
        | exit i => exact ⟨rfl, rfl⟩
        | ret => exact ⟨rfl, rfl⟩
    | cond c a b =>
      simp only [evF] at H
      simp only [awp]
      split at H
      case h_2 => cases H
      rename_i t ht
      rw [ht]
      cases t with
      | true => exact ⟨fun _ => ih N B ro a s _ H, fun e => by cases e⟩
      | false => exact ⟨(fun e => by cases e), fun _ => ih N B ro b s _ H⟩
    | block i c =>
      simp only [evF] at H
      split at H
      · rename_i j s1 hx
        refine awp_mono c (fun e s h => ?_) s (ih N B ro c s _ hx)
        obtain ⟨rfl, rfl⟩ := h
        simp only [brk]
        cases hb : Nat.beq j i with
        | true => rw [hb] at H; cases H; exact ⟨rfl, rfl⟩
        | false => rw [hb] at H; cases H; exact ⟨rfl, rfl⟩
      · rename_i hne
        refine awp_mono c (fun e s h => ?_) s (ih N B ro c s _ H)
        obtain ⟨rfl, rfl⟩ := h
        cases hr : r.1 with
        | normal => exact ⟨rfl, rfl⟩
        | exit j => exact absurd (by rw [H, ← hr]) (hne j r.2)
        | ret => exact ⟨rfl, rfl⟩
    | loop c =>
      simp only [evF] at H
      split at H
      · rename_i s1 hx
        refine LoopW.unroll (awp_mono c (fun e s h => ?_) s (ih N B ro c s _ hx))
        obtain ⟨rfl, rfl⟩ := h
        exact ih N B ro (.loop c) _ _ H
      · rename_i hne
        refine LoopW.unroll (awp_mono c (fun e s h => ?_) s (ih N B ro c s _ H))
        obtain ⟨rfl, rfl⟩ := h
        cases hr : r.1 with
        | normal => exact absurd (by rw [H, ← hr]) (hne r.2)
        | exit i => exact ⟨rfl, rfl⟩
        | ret => exact ⟨rfl, rfl⟩

theorem orcNone_ok : OrcOK P orcNone := fun _ _ _ _ h => by cases h

/-- **A closed call, by a run of the kernel's.** -/
theorem vcalls_run (hmix : P.follows .mixedOrders = true) {orc : Orc} (horc : OrcOK P orc) {f : Nat} {args : List AV} {h : Heap} {r : AV × Heap} (n : Nat) (H : calB P orc (evF P orc n) (.fn f) args h = some r) : VCalls P f args h (fun v h' => v = r.1 ∧ h' = r.2) :=
  calB_sound hmix horc (evF_sound hmix horc n) (.fn f) args h r H
end
end GoV
