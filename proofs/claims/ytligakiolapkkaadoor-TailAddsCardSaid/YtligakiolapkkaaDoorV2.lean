/- The abstract machine: instructions, their compilation out of the model's code, their run. -/
import Derived.Test.YtligakiolapkkaaDoorV1
namespace GoV
open Go

/-! ### A tree of conditions -/
inductive Callee where
  | fn (f : FuncId)
  | yld (r : Nat)
  | pfn (f : FuncId)
  | qfn (f : FuncId)      -- called as if there were no rows
  | coin                  -- one of two outcomes

inductive Tr (α : Type) : Type where
  | ret (a : α)
  | need (p : Prop) (d : Decidable p) (k : Tr α)
  | branch (c : Bool) (t e : Tr α)
  | fail
  | call (f : Callee) (args : List AV) (h : Heap) (k : AV → Heap → Tr α)

def Tr.bind {α β : Type} : Tr α → (α → Tr β) → Tr β
  | .ret a, f => f a
  | .need p d k, f => .need p d (k.bind f)
  | .branch c t e, f => .branch c (t.bind f) (e.bind f)
  | .fail, _ => .fail
  | .call g args h k, f => .call g args h fun v h' => (k v h').bind f

def Tr.nd {α : Type} (p : Prop) [d : Decidable p] (k : Tr α) : Tr α := .need p d k

inductive Opd where
  | t (i : Nat)
  | c (v : AV)
  deriving Inhabited

/-- a list of known capacity is data where its capacity does not matter -/
def coe : AV → AV
  | .lit t xs => .dat (.list t) xs
  | .top => .top
  | .dat t x => .dat t x
  | .agg cs => .agg cs
  | .tup vs => .tup vs
  | .nils => .nils
  | .nilp => .nilp
  | .nilf => .nilf
  | .nilm => .nilm
  | .slc r L off len => .slc r L off len
  | .ptr r off => .ptr r off
  | .eptr r L i => .eptr r L i
  | .imm t x => .imm t x
  | .glob g => .glob g
  | .fn f a b => .fn f a b
  | .yld r => .yld r
  | .mref r => .mref r
  | .nili => .nili
  | .ifc T a => .ifc T a
  | .pan a => .pan a
def raw (s : List (Nat × AV)) : Opd → AV
  | .t i => getT s i
  | .c v => v
def ev (s : List (Nat × AV)) (x : Opd) : AV := coe (raw s x)

inductive Instr where
  | mov (x : Opd)
  | pick (c a b : Opd)
  | bin (op : BinOp) (x y : Opd)
  | binB (op : BinOp) (x y : Opd)
  | un (op : UnOp) (x : Opd)
  | conv (k : IntKind) (x : Opd)
  | len (x : Opd)
  | lenS (x : Opd)
  | lenK (n : Nat)
  | idxA (sz : Nat) (x i : Opd)
  | idxArrA (n sz : Nat) (x i : Opd)
  | idx (n sz : Nat) (agg : Bool) (x i : Opd)
  | load (sz : Nat) (agg : Bool) (x : Opd)
  | store (sz : Nat) (a x : Opd)
  | fldA (off : Nat) (x : Opd)
  | fld (off sz : Nat) (agg : Bool) (x : Opd)
  | box (x : Opd)
  | alloc (z : List AV)
  | build (z : List AV) (parts : List (Nat × Nat × Opd))
  | bslice (t : Ty) (n : Nat) (parts : List (Nat × Opd))
  | mk (t : Ty) (bytes : Nat) (len cap : Opd)
  | slice (sz : Nat) (x : Opd) (lo hi : Option Opd)
  | app (t : Ty) (bytes : Nat) (x y : Opd)
  | ext (x : Opd) (i : Nat)
  | mkfn (f : FuncId) (first caps : List Opd)
  | call (f : Opd) (args : List Opd)
  | callp (f : Opd) (args : List Opd)
  | bdat (t : Ty) (n : Nat) (parts : List (Nat × Opd))
  | mm (mx : Bool) (x y : Opd)
  | isnil (eq : Bool) (x : Opd)
  | eqv (eq : Bool) (ts : List Bool) (x y : Opd)
  | boxR (d : Nat) (x : Opd)
  | allocR (d : Nat) (z : List AV)
  | mkR (d : Nat) (t : Ty) (bytes : Nat) (len cap : Opd)
  | callq (f : Opd) (args : List Opd)
  | mkB (z : List AV) (sz bytes : Nat) (len cap : Opd)
  | appZ (t : Ty) (bytes : Nat) (x n : Opd)
  | bsliceB (t : Ty) (z : List AV) (sz n : Nat) (parts : List (Nat × Opd))
  | capI (x : Opd)
  | slcArr (n sz : Nat) (x : Opd) (lo hi : Option Opd)
  | isnili (eq : Bool) (x : Opd)
  | bad
  deriving Inhabited

structure AOp where
  dst : Option Nat
  ins : Instr
  guard : Option (Nat × Bool)     -- the temporary that decides
  deriving Inhabited

/-! ### Compilation -/
def kEq : IntKind → IntKind → Bool
  | .i8, .i8 | .i16, .i16 | .i32, .i32 | .i64, .i64 | .u8, .u8 | .u16, .u16 | .u32, .u32 | .u64, .u64 => true
  | _, _ => false
theorem kEq_eq {a b : IntKind} (h : kEq a b = true) : a = b := by cases a <;> cases b <;> first | rfl | cases h

def cst : Value → Option AV
  | .int k n => some (.dat (.int k) n)
  | .bool b => some (.dat .bool b)
  | .string s => some (.dat .str s.data.toList)
  | .slice none 0 0 => some .nils
  | .pointer none => some .nilp
  | .nilFunc => some .nilf
  | .map none => some .nilm
  | .nilIface => some .nili
  | _ => none

def cstL : List Value → Option (List AV)
  | [] => some []
  | v :: vs => (cst v).bind fun a => (cstL vs).map (a :: ·)

/-- constants of more than one cell too -/
def cstA : Value → Option AV
  | .agg cs => (cstL cs.toList).map .agg
  | v => cst v

def cOpd [GTab] : Operand → Option Opd
  | .tmp t => some (.t t)
  | .const v => (cstA v).map .c
  | .global g => match GTab.tab g with
    | some ⟨t, x⟩ => some (.c (.imm t x))
    | none => some (.c (.glob g))
  | .func f => some (.c (.fn f [] []))

def cOpds [GTab] : List Operand → Option (List Opd)
  | [] => some []
  | x :: xs => (cOpd x).bind fun a => (cOpds xs).map (a :: ·)

def cOpdO [GTab] : Option Operand → Option (Option Opd)
  | none => some none
  | some x => (cOpd x).map some

/-- the data type of a type of the program -/
def tyOf (P : Program) : Nat → TypeId → Option Ty
  | 0, _ => none
  | d + 1, t => match P.underlying t with
    | some (.int k) => some (.int k)
    | some .bool => some .bool
    | some .string => some .str
    | some (.slice e) => (tyOf P d e).map .list
    | some (.array n e) => (tyOf P d e).map (.arr n)
    | some (.struct fs) => fs.toList.foldr (fun f acc => match tyOf P d f.type, acc with | some a, some b => some (.pair a b) | _, _ => none) (some .unit)
    | _ => none

/-- size, and whether it is a struct or an array -/
def szOf (P : Program) (t : TypeId) : Option (Nat × Bool) :=
  match P.info? t, P.underlying t with
  | some i, some d => some (i.size, match d with | .struct _ | .array _ _ => true | _ => false)
  | _, _ => none

def elemOf (P : Program) (t : TypeId) : Option TypeId :=
  match P.underlying t with
  | some (.slice e) => some e
  | _ => none

def zeroOf (P : Program) (t : TypeId) : Option (List AV) :=
  match P.info? t with
  | some i => match i.zero with
    | some z => cstL z.cells.toList
    | none => none
  | none => none

/-- the zero value of a data type, read off the front of some cells -/
def zchkN (f : List Value → Option (List Value)) : Nat → List Value → Option (List Value)
  | 0, cs => some cs
  | n + 1, cs => (f cs).bind (zchkN f n)

def zI (k : IntKind) : List Value → Option (List Value)
  | .int k' (.ofNat 0) :: r => match kEq k k' with | true => some r | false => none
  | _ => none
def zB : List Value → Option (List Value)
  | .bool false :: r => some r
  | _ => none
def zS : List Value → Option (List Value)
  | .string s :: r => match s.data.toList with | [] => some r | _ => none
  | _ => none
def zL : List Value → Option (List Value)
  | .slice none 0 0 :: r => some r
  | _ => none

def zchk : Ty → List Value → Option (List Value)
  | .int k, cs => zI k cs
  | .bool, cs => zB cs
  | .str, cs => zS cs
  | .list _, cs => zL cs
  | .unit, r => some r
  | .pair a b, cs => (zchk a cs).bind (zchk b)
  | .arr n t, cs => zchkN (zchk t) n cs

/-- the data type of an element, checked against its size and its zero value -/
def elTy (P : Program) (e : TypeId) : Option (Ty × Nat) :=
  match tyOf P 8 e, P.info? e with
  | some t, some i => match Nat.beq i.size t.size, Nat.ble 1 t.size, i.zero with
    | true, true, some z => match zchk t z.cells.toList with
      | some [] => some (t, i.bytes)
      | _ => none
    | _, _, _ => none
  | _, _ => none

def cParts [GTab] (parts : List (Nat × Operand)) : Option (List (Nat × Opd)) :=
  match parts with
  | [] => some []
  | (i, x) :: r => (cOpd x).bind fun a => (cParts r).map ((i, a) :: ·)

/-- where the parts of a struct or an array lie -/
def placesOf (P : Program) : TypeDesc → Option (Nat → Option (Nat × Nat))
  | .struct fs => (fs.toList.mapM (fun f => (P.info? f.type).map fun i => (f.offset, i.size))).map fun l => (l[·]?)
  | .array _ e => (P.info? e).map fun ie => fun i => some (i * ie.size, ie.size)
  | _ => none

/-- the parts of a struct or an array: cell, size, what -/
def cPlaces [GTab] (place : Nat → Option (Nat × Nat)) : List (Nat × Operand) → Option (List (Nat × Nat × Opd))
  | [] => some []
  | (i, x) :: r => (place i).bind fun p => (cOpd x).bind fun a => (cPlaces place r).map ((p.1, p.2, a) :: ·)

def cLen [GTab] (P : Program) : List Operand → List TypeId → Option Instr
  | [x], [t] => (cOpd x).bind fun x => match P.underlying t with
    | some (.slice _) => some (.len x)
    | some .string => some (.lenS x)
    | some (.array n _) => some (.lenK n)
    | _ => none
  | _, _ => none

def cApp [GTab] (P : Program) : List Operand → List TypeId → Option Instr
  | [x, y], [t, u] => (cOpd x).bind fun x => (cOpd y).bind fun y => match elemOf P t, Nat.beq t u with
    | some e, true => (elTy P e).map fun (t, by_) => .app t by_ x y
    | some e, false => match P.underlying u with
      | some (.int _) => (elTy P e).map fun (t, by_) => .appZ t by_ x y
      | _ => none
    | none, _ => none
  | _, _ => none

def cMM [GTab] (mx : Bool) : List Operand → Option Instr
  | [x, y] => (cOpd x).bind fun x => (cOpd y).map fun y => .mm mx x y
  | _ => none

def cCap [GTab] (P : Program) : List Operand → List TypeId → Option Instr
  | [x], [t] => (cOpd x).bind fun x => match P.underlying t with
    | some (.slice _) => some (.capI x)
    | _ => none
  | _, _ => none

def cBuiltin [GTab] (P : Program) (b : Builtin) (args : List Operand) (tys : List TypeId) : Option Instr :=
  match b with
  | .len => cLen P args tys
  | .cap => cCap P args tys
  | .append => cApp P args tys
  | .min => cMM false args
  | .max => cMM true args
  | _ => none

/-- cells of data, one against the other (true: an integer, false: a bool) -/
def eqC : List Bool → List AV → List AV → Option Bool
  | [], [], [] => some true
  | true :: ts, .dat (.int k) a :: as, .dat (.int k') b :: bs => match kEq k k' with
    | true => (eqC ts as bs).map fun r => (decide ((a : Int) = (b : Int)) && r)
    | false => none
  | false :: ts, .dat .bool a :: as, .dat .bool b :: bs => (eqC ts as bs).map fun r => ((a : Bool) == (b : Bool)) && r
  | _, _, _ => none

def scalarT (P : Program) (t : TypeId) : Option Bool := match P.underlying t, szOf P t with
  | some (.int _), some (1, false) => some true
  | some .bool, some (1, false) => some false
  | _, _ => none
def tagsFs (P : Program) : List Field → Nat → Option (List Bool)
  | [], _ => some []
  | f :: fs, k => match f.name != "_" && Nat.beq f.offset k with
    | true => (scalarT P f.type).bind fun b => (tagsFs P fs (k + 1)).map (b :: ·)
    | false => none

/-- structs and arrays of integers and bools, by their cells -/
def tagsOf (P : Program) (t : TypeId) : Option (List Bool) :=
  match P.eqGuardType P.depth t with
  | true => none
  | false => match P.underlying t with
    | some (.struct fs) => match P.stoodInHeld t with
      | true => none
      | false => tagsFs P fs.toList 0
    | some (.array n e) => (scalarT P e).map (List.replicate n)
    | _ => none
def cEqv (P : Program) (op : BinOp) (t : TypeId) (x y : Opd) : Option Instr := match op with
  | .eql => (tagsOf P t).map fun ts => .eqv true ts x y
  | .neq => (tagsOf P t).map fun ts => .eqv false ts x y
  | _ => none

def cOp0 [GTab] (P : Program) : Op → Option Instr
  | .move x | .assign x => (cOpd x).map .mov
  | .pick c a b => (cOpd c).bind fun c => (cOpd a).bind fun a => (cOpd b).map fun b => .pick c a b
  | .binOp op t x y _ => (cOpd x).bind fun x => (cOpd y).bind fun y => match P.underlying t with
    | some (.int _) => some (.bin op x y)
    | some .bool => some (.binB op x y)
    | some (.slice _) => match y, op with
      | .c .nils, .eql => some (.isnil true x)
      | .c .nils, .neq => some (.isnil false x)
      | _, _ => none
    | some (.interface _) => match y, op with
      | .c .nili, .eql => some (.isnili true x)
      | .c .nili, .neq => some (.isnili false x)
      | _, _ => none
    | _ => cEqv P op t x y
  | .unOp op _ x => (cOpd x).map (.un op)
  | .convert s d x => match P.underlying s, P.underlying d with
    | some (.int _), some (.int k) => (cOpd x).map (.conv k)
    | _, _ => none
  | .indexAddr t x i => (cOpd x).bind fun x => (cOpd i).bind fun i => match P.underlying t with
    | some (.slice e) => (szOf P e).map fun (sz, _) => .idxA sz x i
    | some (.array n e) => (szOf P e).map fun (sz, _) => .idxArrA n sz x i
    | _ => none
  | .index t x i => (cOpd x).bind fun x => (cOpd i).bind fun i => match P.underlying t with
    | some (.array n e) => (szOf P e).map fun (sz, ag) => .idx n sz ag x i
    | _ => none
  | .load t x => (cOpd x).bind fun x => (szOf P t).map fun (sz, ag) => .load sz ag x
  | .store t a x => (cOpd a).bind fun a => (cOpd x).bind fun x => (szOf P t).map fun (sz, _) => .store sz a x
  | .fieldAddr t x f => (cOpd x).bind fun x => match P.underlying t with
    | some (.struct fs) => (fs[f]?).bind fun f => match szOf P f.type with
      | some (_ + 1, _) => some (.fldA f.offset x)
      | _ => none
    | _ => none
  | .field t x f => (cOpd x).bind fun x => match P.underlying t with
    | some (.struct fs) => (fs[f]?).bind fun f => (szOf P f.type).map fun (sz, ag) => .fld f.offset sz ag x
    | _ => none
  | .box _ x => (cOpd x).map .box
  | .alloc t => (zeroOf P t).map .alloc
  | .build t parts => (P.underlying t).bind fun d => (placesOf P d).bind fun pl => (zeroOf P t).bind fun z => (cPlaces pl parts.toList).map (.build z)
  | .buildSlice t n parts => match elemOf P t with
    | some e => (elTy P e).bind fun (t, _) => match (t.flat || Nat.beq n 0) with
      | true => (cParts parts.toList).map (.bslice t n)
      | false => (zeroOf P e).bind fun z => (cParts parts.toList).map (.bsliceB t z t.size n)
    | none => none
  | .makeSlice t l c => (cOpd l).bind fun l => (cOpd c).bind fun c => match elemOf P t with
    | some e => (elTy P e).bind fun (t, by_) => match t.flat with
      | true => some (.mk t by_ l c)
      | false => (zeroOf P e).map fun z => .mkB z t.size by_ l c
    | none => none
  | .slice t x lo hi none => (cOpd x).bind fun x => (cOpdO lo).bind fun lo => (cOpdO hi).bind fun hi => match P.underlying t with
    | some (.slice e) => (szOf P e).map fun (sz, _) => .slice sz x lo hi
    | some (.array n e) => (szOf P e).map fun (sz, _) => .slcArr n sz x lo hi
    | _ => none
  | .extract x i => (cOpd x).map fun x => .ext x i
  | .makeFunc (.func f) first caps => (cOpds first.toList).bind fun a => (cOpds caps.toList).map fun b => .mkfn f a b
  | .call c => match c.callee with
    | .value f => (cOpd f).bind fun f => (cOpds c.args.toList).map (.call f)
    | .builtin b => cBuiltin P b c.args.toList c.argTypes.toList
    | _ => none
  | _ => none

/-- operations that are no instructions may be compiled too: nothing is known of them, they must not be reached -/
def offOp : Op → Bool
  | .defer _ => true
  | _ => false
def cOp [GTab] (P : Program) (op : Op) : Option Instr :=
  match cOp0 P op with
  | some i => some i
  | none => match offOp op with | true => none | false => some .bad

/-! ### Running one instruction -/
def castD (t t' : Ty) (x : t'.den) : Option t.den := if h : t' = t then some (h ▸ x) else none
@[simp] theorem castD_self (t : Ty) (x : t.den) : castD t t x = some x := by simp [castD]

def Tr.ofOpt {α β : Type} (o : Option α) (k : α → Tr β) : Tr β := match o with | some a => k a | none => .fail

def getR : Heap → Nat → Row
  | [], _ => .dead
  | r :: _, 0 => r
  | _ :: h, n + 1 => getR h n

def subL {α : Type} (xs : List α) (off len : Nat) : List α := (xs.drop off).take len

def arrC {α : Type} (f : Heap → List AV → Tr (α × Heap)) (sz : Nat) : Nat → Heap → List AV → Tr (List α × Heap)
  | 0, h, [] => .ret ([], h)
  | n + 1, h, cs => (f h (cs.take sz)).bind fun (x, h) => (arrC f sz n h (cs.drop sz)).bind fun (y, h) => .ret (x :: y, h)
  | _, _, _ => .fail

def cvS (t : Ty) (h : Heap) : List AV → Tr (t.den × Heap)
  | [.dat t' x] => .ofOpt (castD t t' x) fun x => .ret (x, h)
  | _ => .fail

def cvL (t : Ty) (f : Heap → List AV → Tr (t.den × Heap)) (h : Heap) : List AV → Tr (List t.den × Heap)
  | [.dat t' x] => .ofOpt (castD (.list t) t' x) fun x => .ret (x, h)
  | [.nils] => .ret ([], h)
  | [.slc r L off len] => match getR h r with
    | .seq t' xs _ => .nd (xs.length = L ∧ off + len ≤ xs.length) (.ofOpt (castD (.list t) (.list t') xs) fun xs => .ret (subL xs off len, h.set r .dead))
    | .lst t' xs => .nd (xs.length = L ∧ off + len ≤ xs.length) (.ofOpt (castD (.list t) (.list t') xs) fun xs => .ret (subL xs off len, h.set r .dead))
    | .box cs => (arrC f t.size len h ((cs.drop off).take (len * t.size))).bind fun p => .ret (p.1, p.2.set r .dead)
    | _ => .fail
  | _ => .fail

def cvU (h : Heap) : List AV → Tr (Unit × Heap)
  | [] => .ret ((), h)
  | _ => .fail

/-- What a value reads as at type t; rows that become data are given up. -/
def cvC : (t : Ty) → Heap → List AV → Tr (t.den × Heap)
  | .int k, h, cs => cvS (.int k) h cs
  | .bool, h, cs => cvS .bool h cs
  | .str, h, cs => cvS .str h cs
  | .list t, h, cs => cvL t (cvC t) h cs
  | .unit, h, cs => cvU h cs
  | .pair a b, h, cs => (cvC a h (cs.take a.size)).bind fun (x, h) => (cvC b h (cs.drop a.size)).bind fun (y, h) => .ret ((x, y), h)
  | .arr n t, h, cs => arrC (cvC t) t.size n h cs

def cv (h : Heap) (t : Ty) (v : AV) : Tr (t.den × Heap) :=
  match v with
  | .dat t' x => .ofOpt (castD t t' x) fun x => .ret (x, h)
  | .agg cs => match t.isAgg with | true => cvC t h cs | false => .fail
  | v => match t.isAgg with | true => .fail | false => cvC t h [v]

def mapN {α β : Type} (f : α → List β) (d : α) : Nat → List α → List β
  | 0, _ => []
  | n + 1, xs => f (xs.headD d) ++ mapN f d n xs.tail

/-- the cells of data -/
def cellsD : (t : Ty) → t.den → List AV
  | .int k, x => [.dat (.int k) x]
  | .bool, x => [.dat .bool x]
  | .str, x => [.dat .str x]
  | .list t, x => [.dat (.list t) x]
  | .unit, _ => []
  | .pair a b, x => cellsD a x.1 ++ cellsD b x.2
  | .arr n t, xs => mapN (cellsD t) t.dflt n xs

def okCells : AV → Bool
  | .top => false
  | .tup _ => false
  | .pan _ => false
  | .lit _ _ => false
  | _ => true

def cellsV : AV → List AV
  | .dat t x => cellsD t x
  | .agg cs => cs
  | v => [v]

def sliceOf (cs : List AV) (off sz : Nat) (agg : Bool) : Option AV :=
  match agg with
  | true => match Nat.ble (off + sz) cs.length with | true => some (.agg ((cs.drop off).take sz)) | false => none
  | false => cs[off]?

def inR (k : IntKind) (n : Int) : Prop := match k with
  | .i8 => -128 ≤ n ∧ n ≤ 127
  | .i16 => -32768 ≤ n ∧ n ≤ 32767
  | .i32 => -2147483648 ≤ n ∧ n ≤ 2147483647
  | .i64 => -9223372036854775808 ≤ n ∧ n ≤ 9223372036854775807
  | .u8 => 0 ≤ n ∧ n ≤ 255
  | .u16 => 0 ≤ n ∧ n ≤ 65535
  | .u32 => 0 ≤ n ∧ n ≤ 4294967295
  | .u64 => 0 ≤ n ∧ n ≤ 18446744073709551615
instance (k : IntKind) (n : Int) : Decidable (inR k n) := match k with
  | .i8 => inferInstanceAs (Decidable (-128 ≤ n ∧ n ≤ 127))
  | .i16 => inferInstanceAs (Decidable (-32768 ≤ n ∧ n ≤ 32767))
  | .i32 => inferInstanceAs (Decidable (-2147483648 ≤ n ∧ n ≤ 2147483647))
  | .i64 => inferInstanceAs (Decidable (-9223372036854775808 ≤ n ∧ n ≤ 9223372036854775807))
  | .u8 => inferInstanceAs (Decidable (0 ≤ n ∧ n ≤ 255))
  | .u16 => inferInstanceAs (Decidable (0 ≤ n ∧ n ≤ 65535))
  | .u32 => inferInstanceAs (Decidable (0 ≤ n ∧ n ≤ 4294967295))
  | .u64 => inferInstanceAs (Decidable (0 ≤ n ∧ n ≤ 18446744073709551615))


def isU64 : IntKind → Bool
  | .u64 => true
  | .u32 => false
  | .u16 => false
  | .u8 => false
  | .i64 => false
  | .i32 => false
  | .i16 => false
  | .i8 => false
/-- a product; of unsigned words, what is left of it -/
def mulI (k : IntKind) (x y : Int) : Tr AV := match isU64 k with
  | true => .ret (.dat (.int k) ((x * y) % 18446744073709551616))
  | false => .nd (inR k (x * y)) (.ret (.dat (.int k) (x * y)))
def binI (op : BinOp) (k : IntKind) (x y : Int) : Tr AV :=
  match op with
  | .add => .nd (inR k (x + y)) (.ret (.dat (.int k) (x + y)))
  | .sub => .nd (inR k (x - y)) (.ret (.dat (.int k) (x - y)))
  | .mul => mulI k x y
  | .quo => .nd (y ≠ 0 ∧ inR k (x.tdiv y)) (.ret (.dat (.int k) (x.tdiv y)))
  | .rem => .nd (y ≠ 0) (.ret (.dat (.int k) (x.tmod y)))
  | .and => .nd ((0 ≤ x ∧ inR k x) ∧ 0 ≤ y ∧ inR k y) (.ret (.dat (.int k) ((x.toNat &&& y.toNat : Nat) : Int)))
  | .or => .nd ((0 ≤ x ∧ inR k x) ∧ 0 ≤ y ∧ inR k y) (.ret (.dat (.int k) ((x.toNat ||| y.toNat : Nat) : Int)))
  | .xor => .nd ((0 ≤ x ∧ inR k x) ∧ 0 ≤ y ∧ inR k y) (.ret (.dat (.int k) ((x.toNat ^^^ y.toNat : Nat) : Int)))
  | .andNot => .nd ((0 ≤ x ∧ inR k x) ∧ 0 ≤ y ∧ inR k y) (.ret (.dat (.int k) ((x.toNat ^^^ (x.toNat &&& y.toNat) : Nat) : Int)))
  | .lss => .ret (.dat .bool (decide (x < y)))
  | .leq => .ret (.dat .bool (decide (x ≤ y)))
  | .gtr => .ret (.dat .bool (decide (y < x)))
  | .geq => .ret (.dat .bool (decide (y ≤ x)))
  | .eql => .ret (.dat .bool (decide (x = y)))
  | .neq => .ret (.dat .bool (!decide (x = y)))
  | _ => .fail

def shiftI (op : BinOp) (k : IntKind) (x y : Int) : Tr AV :=
  match op with
  | .shl => .nd ((0 ≤ y ∧ y.toNat < k.bits) ∧ inR k (x * 2 ^ y.toNat)) (.ret (.dat (.int k) (x * 2 ^ y.toNat)))
  | .shr => .nd (0 ≤ y ∧ y.toNat < k.bits) (.ret (.dat (.int k) (x / 2 ^ y.toNat)))
  | _ => .fail

def binV (op : BinOp) : AV → AV → Tr AV
  | .dat (.int k) x, .dat (.int k') y => match op with
    | .shl => shiftI .shl k x y
    | .shr => shiftI .shr k x y
    | op => match kEq k k' with | true => binI op k x y | false => .fail
  | _, _ => .fail

def binB (op : BinOp) : AV → AV → Tr AV
  | .dat .bool a, .dat .bool b => match op with
    | .eql => .ret (.dat .bool (a == b))
    | .neq => .ret (.dat .bool (!(a == b)))
    | _ => .fail
  | _, _ => .fail

def negI (k : IntKind) (n : Int) : Tr AV := match isU64 k with
  | true => .ret (.dat (.int k) ((-n) % 18446744073709551616))
  | false => .nd (inR k (0 - n)) (.ret (.dat (.int k) (-n)))

def unV (op : UnOp) : AV → Tr AV
  | .dat .bool b => match op with | .not => .ret (.dat .bool (!b)) | _ => .fail
  | .dat (.int k) n => match op with | .neg => negI k n | _ => .fail
  | _ => .fail

def convV (k : IntKind) : AV → Tr AV
  | .dat (.int _) n => match isU64 k with
    | true => .ret (.dat (.int k) (n % 18446744073709551616))
    | false => .nd (inR k n) (.ret (.dat (.int k) n))
  | _ => .fail

def lenV : AV → Heap → Tr AV
  | .dat (.list _) xs, _ => .ret (.dat (.int .i64) (xs.length : Int))
  | .nils, _ => .ret (.dat (.int .i64) 0)
  | .slc r L _ n, h => match getR h r with
    | .seq _ xs _ => .nd (xs.length = L) (.ret (.dat (.int .i64) (n : Int)))
    | .lst _ xs => .nd (xs.length = L) (.ret (.dat (.int .i64) (n : Int)))
    | .box _ => .ret (.dat (.int .i64) (n : Int))
    | _ => .fail
  | _, _ => .fail

def lenSV : AV → Tr AV
  | .dat .str s => .ret (.dat (.int .i64) (s.length : Int))
  | _ => .fail

def splice {α : Type} (cs : List α) : Nat → List α → List α
  | _, [] => cs
  | off, c :: r => splice (cs.set off c) (off + 1) r

def evL (s : List (Nat × AV)) : List Opd → List AV
  | [] => []
  | x :: xs => ev s x :: evL s xs

def fillV (s : List (Nat × AV)) (cs : List AV) : List (Nat × Nat × Opd) → Tr (List AV)
  | [] => .ret cs
  | (off, sz, x) :: r =>
    let c := cellsV (ev s x)
    .nd (okCells (ev s x) = true ∧ c.length = sz ∧ off + sz ≤ cs.length) (fillV s (splice cs off c) r)

def fillS (t : Ty) (s : List (Nat × AV)) (h : Heap) (xs : List t.den) : List (Nat × Opd) → Tr (List t.den × Heap)
  | [] => .ret (xs, h)
  | (i, x) :: r => (cv h t (ev s x)).bind fun (y, h) => .nd (i < xs.length) (fillS t s h (xs.set i y) r)

/-- the elements of a slice that is only read -/
def elems (h : Heap) (t : Ty) : AV → Tr (List t.den)
  | .nils => .ret []
  | .dat t' x => .ofOpt (castD (.list t) t' x) .ret
  | .slc r L off len => match getR h r with
    | .seq t' xs _ => .nd (xs.length = L ∧ off + len ≤ xs.length) (.ofOpt (castD (.list t) (.list t') xs) fun xs => .ret (subL xs off len))
    | .lst t' xs => .nd (xs.length = L ∧ off + len ≤ xs.length) (.ofOpt (castD (.list t) (.list t') xs) fun xs => .ret (subL xs off len))
    | _ => .fail
  | _ => .fail

/-- the elements of a slice that is appended; where they hold lists, their rows are given up -/
def elemsH (h : Heap) (t : Ty) (v : AV) : Tr (List t.den × Heap) :=
  match v with
  | .slc r L off len => match getR h r with
    | .box cs => (arrC (cvC t) t.size len h ((cs.drop off).take (len * t.size))).bind fun p => match t.flat with
      | true => .ret p
      | false => .ret (p.1, p.2.set r .dead)
    | _ => (elems h t (.slc r L off len)).bind fun ys => .ret (ys, h)
  | v => (elems h t v).bind fun ys => .ret (ys, h)

/-- parts that are data already -/
def fillD (t : Ty) (s : List (Nat × AV)) (xs : List t.den) : List (Nat × Opd) → Tr (List t.den)
  | [] => .ret xs
  | (i, x) :: r => match ev s x with
    | .dat t' y => .ofOpt (castD t t' y) fun y => .nd (i < xs.length) (fillD t s (xs.set i y) r)
    | _ => .fail

def two47 : Nat := 140737488355328

def appV (h : Heap) (t : Ty) (bytes : Nat) (x : AV) (ys : List t.den) : Tr (AV × Heap) :=
  match x with
  | .nils => .branch ys.isEmpty (.ret (.nils, h)) (.nd (ys.length * bytes ≤ two47 ∧ ys.length ≤ two47) (.ret (.slc h.length ys.length 0 ys.length, h ++ [.seq t ys false])))
  | .slc r L off len => match getR h r with
    | .seq t' xs ex => .nd (xs.length = L ∧ off + len ≤ xs.length) (.ofOpt (castD (.list t) (.list t') xs) fun xs =>
      .nd ((len + ys.length) * bytes ≤ two47 ∧ len + ys.length ≤ two47 ∧ off = 0) <| match ex with
      | false => .branch (decide (len = xs.length)) (.ret (.slc r (xs ++ ys).length 0 (xs ++ ys).length, h.set r (.seq t (xs ++ ys) false)))
          (.nd (len + ys.length ≤ xs.length) (.ret (.slc r L 0 (len + ys.length), h.set r (.seq t (xs.take len ++ ys ++ xs.drop (len + ys.length)) false))))
      | true => .branch (decide (len + ys.length ≤ xs.length))
          (.ret (.slc r L 0 (len + ys.length), h.set r (.seq t (xs.take len ++ ys ++ xs.drop (len + ys.length)) true)))
          (.ret (.slc h.length (xs.take len ++ ys).length 0 (xs.take len ++ ys).length, h ++ [.seq t (xs.take len ++ ys) false])))
    | .lst t' xs => .nd (xs.length = L ∧ off = 0 ∧ len = xs.length) (.ofOpt (castD (.list t) (.list t') xs) fun xs =>
      .nd ((xs.length + ys.length) * bytes ≤ two47 ∧ xs.length + ys.length ≤ two47) (.ret (.slc r (xs ++ ys).length 0 (xs ++ ys).length, h.set r (.lst t (xs ++ ys)))))
    | _ => .fail
  | .lit t' xs => .ofOpt (castD (.list t) (.list t') xs) fun xs => .nd ((xs.length + ys.length) * bytes ≤ two47 ∧ xs.length + ys.length ≤ two47) (.ret (.dat (.list t) (xs ++ ys), h))
  | _ => .fail

/-! append of cells that are references: the new list is a box -/
def refA : AV → Bool
  | .slc .. | .ptr .. | .eptr .. | .fn .. | .mref _ => true
  | _ => false
def anyRef : List AV → Bool
  | [] => false
  | a :: as => match refA a with | true => true | false => anyRef as
def isBoxS (h : Heap) : AV → Bool
  | .slc r _ _ _ => match getR h r with | .box _ => true | _ => false
  | _ => false
def boxY (h : Heap) (sz : Nat) (x y : AV) : Option (List AV × Nat) :=
  match y with
  | .slc r _ off k => match getR h r with
    | .box cs => match anyRef ((cs.drop off).take (k * sz)) with
      | true => some ((cs.drop off).take (k * sz), k)
      | false => match isBoxS h x with | true => some ((cs.drop off).take (k * sz), k) | false => none
    | _ => none
  | _ => none
def appB (h : Heap) (sz bytes : Nat) (x : AV) (ys : List AV) (k : Nat) : Tr (AV × Heap) :=
  match x with
  | .nils => .nd ((0 < k ∧ ys.length = k * sz) ∧ k * bytes ≤ two47 ∧ k ≤ two47) (.ret (.slc h.length sz 0 k, h ++ [.box ys]))
  | .slc r L off n => match getR h r with
    | .box cs => .nd (((off = 0 ∧ L = sz) ∧ (0 < k ∧ ys.length = k * sz) ∧ cs.length = n * sz) ∧ (n + k) * bytes ≤ two47 ∧ n + k ≤ two47) (.ret (.slc h.length sz 0 (n + k), h.set r .dead ++ [.box (cs ++ ys)]))
    | _ => .fail
  | _ => .fail

/-- (at the integers themselves: the types stay plain) -/
@[reducible] def rng (n : Int) (len : Nat) : Prop := 0 ≤ n ∧ n < len
@[reducible] def mmI (mx : Bool) (x y : Int) : Int := match mx with | true => max x y | false => min x y
def bndI (n : Int) : Tr Nat := .nd (0 ≤ n) (.ret n.toNat)
def mkI (h : Heap) (t : Ty) (bytes : Nat) (l c : Int) : Tr (AV × Heap) :=
  .nd ((0 ≤ l ∧ l ≤ c) ∧ c * bytes ≤ two47 ∧ c ≤ two47) (.ret (.slc h.length c.toNat 0 l.toNat, h ++ [.seq t (List.replicate c.toNat t.dflt) true]))

/-- a list of zeros, appended to nil -/
def appZI (h : Heap) (t : Ty) (bytes : Nat) (m : Int) : Tr (AV × Heap) :=
  .nd (0 < m ∧ m * bytes ≤ two47 ∧ m ≤ two47) (.ret (.slc h.length m.toNat 0 m.toNat, h ++ [.seq t (List.replicate m.toNat t.dflt) false]))
def bnd (s : List (Nat × AV)) (d : Nat) : Option Opd → Tr Nat
  | none => .ret d
  | some x => match ev s x with
    | .dat (.int _) n => bndI n
    | _ => .fail

def eqB (eq b : Bool) : Bool := match eq with | true => b | false => !b
def isAggV : AV → Bool
  | .agg _ => true
  | .dat t _ => t.isAgg
  | _ => false
/-- is it nil? -/
def nilV (eq : Bool) (h : Heap) : AV → Tr (AV × Heap)
  | .nils => .ret (.dat .bool eq, h)
  | .dat (.list _) xs => match xs with
    | [] => .call .coin [] h fun v _ => .ret (v, h)
    | _ :: _ => .ret (.dat .bool (!eq), h)
  | .slc r L _ len => match getR h r with
    | .seq _ xs _ => .nd (xs.length = L) (.ret (.dat .bool (!eq), h))
    | .lst _ xs => .nd (xs.length = L ∧ len = L) (.ret (.dat .bool (match xs with | [] => eq | _ :: _ => !eq), h))
    | _ => .fail
  | _ => .fail

/-- the capacity, where it is known -/
def capV : AV → Heap → Tr AV
  | .nils, _ => .ret (.dat (.int .i64) 0)
  | .slc r L off _, h => match getR h r with
    | .seq _ xs ex => .nd (xs.length = L ∧ ex = true) (.ret (.dat (.int .i64) ((xs.length - off : Nat) : Int)))
    | _ => .fail
  | _, _ => .fail
def mkIB (h : Heap) (z : List AV) (sz bytes : Nat) (l c : Int) : Tr (AV × Heap) :=
  .nd ((0 ≤ l ∧ l ≤ c) ∧ c * bytes ≤ two47 ∧ c ≤ two47) (.ret (.slc h.length 0 0 l.toNat, h ++ [.box (List.replicate c.toNat z).flatten]))
def partsB (sz : Nat) : List (Nat × Opd) → List (Nat × Nat × Opd)
  | [] => []
  | (i, x) :: r => (i * sz, sz, x) :: partsB sz r

/-- a row that is kept free -/
def isRes : Row → Bool
  | .res => true
  | _ => false
def mkRI (h : Heap) (d : Nat) (t : Ty) (bytes : Nat) (l c : Int) : Tr (AV × Heap) :=
  .nd ((0 ≤ l ∧ l ≤ c) ∧ c * bytes ≤ two47 ∧ c ≤ two47) (.ret (.slc (h.length - d) c.toNat 0 l.toNat, h.set (h.length - d) (.seq t (List.replicate c.toNat t.dflt) true)))

def vop (s : List (Nat × AV)) (h : Heap) : Instr → Tr (AV × Heap)
  | .mov x => .ret (ev s x, h)
  | .pick c a b => match ev s c with
    | .dat .bool t => .branch t (.ret (ev s a, h)) (.ret (ev s b, h))
    | _ => .fail
  | .bin op x y => (binV op (ev s x) (ev s y)).bind fun a => .ret (a, h)
  | .binB op x y => (binB op (ev s x) (ev s y)).bind fun a => .ret (a, h)
  | .un op x => (unV op (ev s x)).bind fun a => .ret (a, h)
  | .conv k x => (convV k (ev s x)).bind fun a => .ret (a, h)
  | .len x => (lenV (ev s x) h).bind fun a => .ret (a, h)
  | .lenS x => (lenSV (ev s x)).bind fun a => .ret (a, h)
  | .lenK n => .ret (.dat (.int .i64) (n : Int), h)
  | .idxA sz x i => match ev s i with
    | .dat (.int _) n => match ev s x with
      | .dat (.list t) xs => .nd (rng n xs.length ∧ t.size = sz) (.ret (.imm t (xs.getD (Int.toNat n) t.dflt), h))
      | .slc r L off len => .nd (rng n len) <| match getR h r with
        | .seq t xs _ => .nd (xs.length = L ∧ t.size = sz) (.ret (.eptr r L (off + Int.toNat n), h))
        | .lst t xs => .nd (xs.length = L ∧ t.size = sz) (.ret (.eptr r L (off + Int.toNat n), h))
        | .box _ => .ret (.ptr r (off + Int.toNat n * sz), h)
        | _ => .fail
      | _ => .fail
    | _ => .fail
  | .idxArrA n sz x i => match ev s i with
    | .dat (.int _) j => match ev s x with
      | .ptr r off => match getR h r with
        | .box _ => .nd (rng j n) (.ret (.ptr r (off + Int.toNat j * sz), h))
        | _ => .fail
      | .imm (.arr m t) xs => .nd ((rng j n ∧ n ≤ m) ∧ t.size = sz ∧ xs.length = m) (.ret (.imm t (xs.getD (Int.toNat j) t.dflt), h))
      | _ => .fail
    | _ => .fail
  | .idx n sz agg x i => match ev s i with
    | .dat (.int _) j => .nd (rng j n) <| match ev s x with
      | .agg cs => .ofOpt (sliceOf cs (Int.toNat j * sz) sz agg) fun a => .ret (a, h)
      | .dat (.arr m t) xs => .nd (n ≤ m ∧ t.size = sz ∧ t.isAgg = agg) (.ret (.dat t (xs.getD (Int.toNat j) t.dflt), h))
      | _ => .fail
    | _ => .fail
  | .load sz agg x => match ev s x with
    | .imm t x => .nd (t.size = sz ∧ t.isAgg = agg) (.ret (.dat t x, h))
    | .ptr r off => match getR h r with
      | .box cs => .ofOpt (sliceOf cs off sz agg) fun a => .ret (a, h)
      | _ => .fail
    | .eptr r L i => match getR h r with
      | .seq t xs _ => .nd ((xs.length = L ∧ i < xs.length) ∧ t.size = sz ∧ t.isAgg = agg) (.ret (.dat t (xs.getD i t.dflt), h))
      | .lst t xs => .nd ((xs.length = L ∧ i < xs.length) ∧ t.size = sz ∧ t.isAgg = agg) (.ret (.dat t (xs.getD i t.dflt), h))
      | _ => .fail
    | _ => .fail
  | .store sz a x => match ev s a with
    | .ptr r off => match getR h r with
      | .box cs => .nd (okCells (ev s x) = true ∧ (cellsV (ev s x)).length = sz ∧ off + sz ≤ cs.length) (.ret (.top, h.set r (.box (splice cs off (cellsV (ev s x))))))
      | _ => .fail
    | .eptr r L i => match getR h r with
      | .seq t xs ex => .nd ((xs.length = L ∧ i < xs.length) ∧ t.size = sz) <| (cv h t (ev s x)).bind fun (y, h) => match getR h r with
        | .dead => .fail
        | _ => .ret (.top, h.set r (.seq t (xs.set i y) ex))
      | .lst t xs => .nd ((xs.length = L ∧ i < xs.length) ∧ t.size = sz) <| (cv h t (ev s x)).bind fun (y, h) => match getR h r with
        | .dead => .fail
        | _ => .ret (.top, h.set r (.lst t (xs.set i y)))
      | _ => .fail
    | _ => .fail
  | .fldA off x => match ev s x with
    | .ptr r o => match getR h r with
      | .box _ => .ret (.ptr r (o + off), h)
      | _ => .fail
    | _ => .fail
  | .fld off sz agg x => match ev s x with
    | .agg cs => .ofOpt (sliceOf cs off sz agg) fun a => .ret (a, h)
    | .dat t x => .nd (t.isAgg = true) (.ofOpt (sliceOf (cellsD t x) off sz agg) fun a => .ret (a, h))
    | _ => .fail
  | .box x => .nd (okCells (ev s x) = true) (.ret (.ptr h.length 0, h ++ [.box (cellsV (ev s x))]))
  | .alloc z => .ret (.ptr h.length 0, h ++ [.box z])
  | .build z parts => (fillV s z parts).bind fun cs => .ret (.agg cs, h)
  | .bslice t n parts => (fillS t s h (List.replicate n t.dflt) parts).bind fun (xs, h) => .nd (n * t.size ≤ 16777216 ∧ xs.length = n) (.ret (.slc h.length n 0 n, h ++ [.seq t xs true]))
  | .mk t bytes l c => match ev s l, ev s c with
    | .dat (.int _) l, .dat (.int _) c => mkI h t bytes l c
    | _, _ => .fail
  | .slice sz x lo hi => match ev s x with
    | .nils => (bnd s 0 lo).bind fun l => (bnd s 0 hi).bind fun u => .nd (l ≤ u ∧ u ≤ 0) (.ret (.nils, h))
    | .dat (.list t) xs => (bnd s 0 lo).bind fun l => (bnd s xs.length hi).bind fun u => .nd ((l ≤ u ∧ u ≤ xs.length) ∧ t.size = sz) (.ret (.dat (.list t) (subL xs l (u - l)), h))
    | .slc r L off len => (bnd s 0 lo).bind fun l => (bnd s len hi).bind fun u => .nd (l ≤ u ∧ u ≤ len) <| match getR h r with
      | .seq t xs _ => .nd (xs.length = L ∧ t.size = sz) (.branch (decide (l = 0 ∨ l < u)) (.ret (.slc r L (off + l) (u - l), h)) (.ret (.dat (.list t) [], h)))
      | .lst t xs => .nd (xs.length = L ∧ t.size = sz) (.branch (decide (l = 0 ∨ l < u)) (.ret (.slc r L (off + l) (u - l), h)) (.ret (.dat (.list t) [], h)))
      | .box _ => .nd (l = 0 ∨ l < u) (.ret (.slc r 0 (off + l * sz) (u - l), h))
      | _ => .fail
    | _ => .fail
  | .app t bytes x y => match boxY h t.size (ev s x) (ev s y) with
    | some p => appB h t.size bytes (ev s x) p.1 p.2
    | none => (elemsH h t (ev s y)).bind fun p => appV p.2 t bytes (raw s x) p.1
  | .appZ t bytes x n => match ev s x, ev s n with
    | .nils, .dat (.int _) m => appZI h t bytes m
    | _, _ => .fail
  | .mkB z sz bytes l c => match ev s l, ev s c with
    | .dat (.int _) l, .dat (.int _) c => mkIB h z sz bytes l c
    | _, _ => .fail
  | .bsliceB _ z sz n parts => (fillV s (List.replicate n z).flatten (partsB sz parts)).bind fun cs => .nd (n * sz ≤ 16777216 ∧ cs.length = n * sz) (.ret (.slc h.length 0 0 n, h ++ [.box cs]))
  | .capI x => (capV (ev s x) h).bind fun a => .ret (a, h)
  | .slcArr n sz x lo hi => match ev s x with
    | .ptr r off => match getR h r with
      | .box _ => (bnd s 0 lo).bind fun l => (bnd s n hi).bind fun u => .nd ((l ≤ u ∧ u ≤ n) ∧ (l = 0 ∨ l < u)) (.ret (.slc r 0 (off + l * sz) (u - l), h))
      | _ => .fail
    | .imm (.arr m t) xs => (bnd s 0 lo).bind fun l => (bnd s n hi).bind fun u => .nd (((l ≤ u ∧ u ≤ n) ∧ n ≤ m) ∧ t.size = sz ∧ xs.length = m) (.ret (.dat (.list t) (subL xs l (u - l)), h))
    | _ => .fail
  | .ext x i => match ev s x with
    | .tup vs => .ofOpt vs[i]? fun a => .ret (a, h)
    | _ => .fail
  | .mkfn f first caps => .ret (.fn f (evL s first) (evL s caps), h)
  | .call f args => match ev s f with
    | .fn f first caps => .call (.fn f) (first ++ evL s args ++ caps) h fun v h' => .ret (v, h')
    | .yld r => .call (.yld r) (evL s args) h fun v h' => .ret (v, h')
    | _ => .fail
  | .callp f args => match ev s f with
    | .fn f first caps => .call (.pfn f) (first ++ evL s args ++ caps) h fun v _ => .ret (v, h)
    | _ => .fail
  | .bdat t n parts => (fillD t s (List.replicate n t.dflt) parts).bind fun xs => .nd (n * t.size ≤ 16777216 ∧ xs.length = n) (.ret (.lit t xs, h))
  | .mm mx x y => match ev s x, ev s y with
    | .dat (.int k) x, .dat (.int k') y => match kEq k k' with
      | true => .ret (.dat (.int k) (mmI mx x y), h)
      | false => .fail
    | _, _ => .fail
  | .isnil eq x => nilV eq h (ev s x)
  | .isnili eq x => match ev s x with
    | .nili => .ret (.dat .bool eq, h)
    | .ifc _ _ => .ret (.dat .bool (!eq), h)
    | _ => .fail
  | .eqv eq ts x y => .nd (isAggV (ev s x) = true ∧ isAggV (ev s y) = true) (.ofOpt (eqC ts (cellsV (ev s x)) (cellsV (ev s y))) fun r => .ret (.dat .bool (eqB eq r), h))
  | .boxR d x => .nd (isRes (getR h (h.length - d)) = true ∧ okCells (ev s x) = true) (.ret (.ptr (h.length - d) 0, h.set (h.length - d) (.box (cellsV (ev s x)))))
  | .allocR d z => .nd (isRes (getR h (h.length - d)) = true) (.ret (.ptr (h.length - d) 0, h.set (h.length - d) (.box z)))
  | .mkR d t bytes l c => match ev s l, ev s c with
    | .dat (.int _) l, .dat (.int _) c => .nd (isRes (getR h (h.length - d)) = true) (mkRI h d t bytes l c)
    | _, _ => .fail
  | .callq f args => match ev s f with
    | .fn f first caps => .call (.qfn f) (first ++ evL s args ++ caps) h fun v _ => .ret (v, h)
    | _ => .fail
  | .bad => .fail
end GoV
