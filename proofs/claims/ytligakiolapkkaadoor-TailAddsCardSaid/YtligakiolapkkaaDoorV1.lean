/- A deterministic abstract machine over the model's code, and what its values mean in a concrete world. Definitions only. -/
import Derived.RangeFuncLeaves
import Derived.Laws.AppendOwn
import Derived.Lib.AppendZeros
import Derived.Laws.OwnMore
import Derived.Laws.Slices
import Derived.Laws.Cover1
import Derived.KernelRfl
namespace GoV
open Go

/-! ### Data -/
inductive Ty where
  | int (k : IntKind) | bool | str | list (t : Ty) | unit | pair (a b : Ty) | arr (n : Nat) (t : Ty)
  deriving DecidableEq, Inhabited

@[reducible] def Ty.den : Ty → Type
  | .int _ => Int
  | .bool => Bool
  | .str => List UInt8
  | .list t => List t.den
  | .unit => Unit
  | .pair a b => a.den × b.den
  | .arr _ t => List t.den

def Ty.size : Ty → Nat
  | .int _ => 1
  | .bool => 1
  | .str => 1
  | .list _ => 1
  | .unit => 0
  | .pair a b => a.size + b.size
  | .arr n t => n * t.size

def Ty.dflt : (t : Ty) → t.den
  | .int _ => (0 : Int)
  | .bool => false
  | .str => []
  | .list _ => []
  | .unit => ()
  | .pair a b => (a.dflt, b.dflt)
  | .arr n t => List.replicate n t.dflt

def Ty.isAgg : Ty → Bool
  | .unit | .pair _ _ | .arr _ _ => true
  | _ => false

/-- no references inside -/
def Ty.flat : Ty → Bool
  | .int _ | .bool | .str | .unit => true
  | .list _ => false
  | .pair a b => a.flat && b.flat
  | .arr _ t => t.flat

/-! ### Abstract values -/
inductive AV where
  | top
  | dat (t : Ty) (x : t.den)
  | agg (cs : List AV)
  | tup (vs : List AV)
  | nils | nilp | nilf | nilm
  | slc (r L off len : Nat)
  | ptr (r off : Nat)
  | eptr (r L i : Nat)
  | imm (t : Ty) (x : t.den)
  | glob (g : Nat)
  | fn (f : FuncId) (first caps : List AV)
  | yld (r : Nat)
  | mref (r : Nat)                  -- a map of ours
  | nili                            -- the nil interface
  | ifc (T : TypeId) (a : AV)
  | pan (a : AV)                    -- no value: a call's panic
  | lit (t : Ty) (xs : List t.den)  -- data: a list whose capacity is its length
  deriving Inhabited

inductive Row where
  | box (cs : List AV)
  | seq (t : Ty) (xs : List t.den) (exact : Bool)
  | lst (t : Ty) (xs : List t.den)
  | loop (state : LoopState) (pending : Option Code) (N : Nat) (tmps : List (Nat × AV)) (params : List Nat) (assign body : Code) (dfr : Nat)
  | dfr
  | dead
  | res
  | mp (kk kv : IntKind) (es : List (Int × Int))
  deriving Inhabited

abbrev Heap := List Row

/-- what is done when the function is left: a loop's collected calls; a deferred function -/
inductive Mk where
  | row (r : Nat)
  | clo (f : FuncId) (args : List AV)
  deriving Inhabited

structure St where
  tmps : List (Nat × AV)
  heap : Heap
  marks : List Mk

def getT : List (Nat × AV) → Nat → AV
  | [], _ => .top
  | (j, v) :: r, i => match Nat.beq i j with | true => v | false => getT r i

def setT : List (Nat × AV) → Nat → AV → List (Nat × AV)
  | [], i, v => [(i, v)]
  | (j, u) :: r, i, v => match Nat.beq i j with
    | true => (i, v) :: r
    | false => match Nat.blt j i with
      | true => (i, v) :: (j, u) :: r
      | false => (j, u) :: setT r i v

def keepT (ks : List Nat) : List (Nat × AV) → List (Nat × AV)
  | [] => []
  | (j, v) :: r => match ks.any (Nat.beq j) with | true => (j, v) :: keepT ks r | false => keepT ks r

theorem nbeq_self (i : Nat) : Nat.beq i i = true := Nat.beq_refl i
theorem nbeq_ne {i j : Nat} (h : i ≠ j) : Nat.beq i j = false := by
  cases hb : Nat.beq i j with
  | false => rfl
  | true => exact absurd (Nat.eq_of_beq_eq_true hb) h

theorem getT_setT_same (s : List (Nat × AV)) (i : Nat) (v : AV) : getT (setT s i v) i = v := by
  induction s with
  | nil => simp only [setT, getT, nbeq_self]
  | cons p r ih =>
    obtain ⟨j, u⟩ := p
    simp only [setT]
    by_cases h : i = j
    · subst h; simp only [getT, nbeq_self]
    · have h1 : Nat.beq i j = false := nbeq_ne h
      rw [h1]
      cases h2 : Nat.blt j i with
      | true => simp only [getT, nbeq_self]
      | false => simp only [getT, h1]; exact ih

theorem getT_setT_other (s : List (Nat × AV)) (i j : Nat) (v : AV) (hij : j ≠ i) : getT (setT s i v) j = getT s j := by
  have h0 : Nat.beq j i = false := nbeq_ne hij
  induction s with
  | nil => simp only [setT, getT, h0]
  | cons p r ih =>
    obtain ⟨q, u⟩ := p
    simp only [setT]
    by_cases h : i = q
    · subst h
      simp only [nbeq_self, getT, h0]
    · have h1 : Nat.beq i q = false := nbeq_ne h
      rw [h1]
      cases h2 : Nat.blt q i with
      | true => simp only [getT, h0]
      | false => simp only [getT]; rw [ih]

theorem getT_keepT (ks : List Nat) (s : List (Nat × AV)) (i : Nat) : getT (keepT ks s) i = getT s i ∨ getT (keepT ks s) i = .top := by
  induction s with
  | nil => simp [keepT]
  | cons p r ih =>
    obtain ⟨j, u⟩ := p
    simp only [keepT]
    cases h : ks.any (Nat.beq j) with
    | true =>
      simp only [getT]
      cases Nat.beq i j with
      | true => exact .inl rfl
      | false => exact ih
    | false =>
      simp only [getT]
      cases hb : Nat.beq i j with
      | true =>
        right
        have hij : i = j := Nat.eq_of_beq_eq_true hb
        subst hij
        have key : ∀ r : List (Nat × AV), getT (keepT ks r) i = .top := by
          intro r
          induction r with
          | nil => rfl
          | cons p r ih =>
            obtain ⟨q, v⟩ := p
            simp only [keepT]
            cases h' : ks.any (Nat.beq q) with
            | false => exact ih
            | true =>
              simp only [getT]
              cases hq : Nat.beq i q with
              | false => exact ih
              | true =>
                have : i = q := Nat.eq_of_beq_eq_true hq
                subst this
                rw [h] at h'; cases h'
        exact key r
      | false => exact ih

/-! ### What abstract values mean -/
/-- `n` cells from `⟨b, off⟩` on are `c`. -/
def cellsAt (w : World) (b off : Nat) (c : List Value) : Prop := ∀ j, j < c.length → w.cell? ⟨b, off + j, none⟩ = c[j]?

def DRep (w : World) (S : Nat → Prop) : (t : Ty) → t.den → List Value → Prop
  | .int k, n, cs => cs = [.int k n]
  | .bool, b, cs => cs = [.bool b]
  | .str, s, cs => cs = [.string ⟨s.toArray⟩]
  | .list t, xs, cs => ∃ a cap, cs = [.slice a xs.length cap] ∧ xs.length ≤ cap ∧
      (xs ≠ [] → ∃ b off, a = some ⟨b, off, none⟩ ∧ S b ∧ b < w.heap.size ∧ ∀ i (h : i < xs.length), ∃ c : List Value, c.length = t.size ∧ cellsAt w b (off + i * t.size) c ∧ DRep w S t xs[i] c)
  | .unit, _, cs => cs = []
  | .pair a b, x, cs => ∃ c1 c2, cs = c1 ++ c2 ∧ DRep w S a x.1 c1 ∧ DRep w S b x.2 c2
  | .arr n t, xs, cs => xs.length = n ∧ ∃ css : List (List Value), css.length = n ∧ cs = css.flatten ∧ ∀ i (h : i < xs.length) (h' : i < css.length), DRep w S t xs[i] css[i]

/-- at a value -/
def DVal (w : World) (S : Nat → Prop) (t : Ty) (x : t.den) (v : Value) : Prop :=
  match t.isAgg with
  | true => ∃ cs : List Value, v = .agg cs.toArray ∧ DRep w S t x cs
  | false => DRep w S t x [v]

abbrev Mu := List (Option (Nat × Nat))

def Mu.has (μ : Mu) (b : Nat) : Prop := ∃ (r m : Nat), μ[r]? = some (some (b, m))

/-- the blocks that data may lie in -/
def Sd (S : Nat → Prop) (μ : Mu) (b : Nat) : Prop := S b ∧ ¬ μ.has b

/-- the row's generation: its length -/
def curL (h : Heap) (r L : Nat) : Prop :=
  match h[r]? with
  | some (.seq _ xs _) => xs.length = L
  | some (.lst _ xs) => 0 < xs.length ∧ xs.length = L
  | some (.box _) => True
  | some (.loop ..) => True
  | some .dfr => True
  | some (.mp ..) => True
  | _ => False

/-- a value's generation is none of the future -/
def genOK (h : Heap) (r L : Nat) : Prop :=
  match h[r]? with
  | some (.seq _ xs _) => L ≤ xs.length
  | some (.lst _ xs) => L ≤ xs.length
  | some .res => False
  | _ => True

/-- a list that is still nil -/
def virL (h : Heap) (r : Nat) : Prop :=
  match h[r]? with
  | some (.lst _ xs) => xs.length = 0
  | _ => False

/-- cells of one element -/
def rowTy (h : Heap) (r : Nat) : Option Ty :=
  match h[r]? with
  | some (.seq t _ _) => some t
  | some (.lst t _) => some t
  | _ => none

def offIn (ty : Option Ty) (off : Nat) : Nat := match ty with | some t => off * t.size | none => off
def capIn (ty : Option Ty) (L off cap m : Nat) : Prop := match ty with | some t => (off + cap) * t.size = m | none => L = 0 ∨ off + cap * L ≤ m
def eltIn (ty : Option Ty) (i : Nat) : Option Nat := ty.map fun t => i * t.size

mutual
def ARep (w : World) (S : Nat → Prop) (μ : Mu) (h : Heap) : AV → Value → Prop
  | .top, _ => True
  | .dat t x, v => DVal w (Sd S μ) t x v
  | .agg cs, v => ∃ vs : List Value, v = .agg vs.toArray ∧ ARepL w S μ h cs vs ∧ ∀ u ∈ vs, u.oneCell' = true
  | .tup cs, v => ∃ vs : List Value, v = .tuple vs.toArray ∧ ARepL w S μ h cs vs
  | .nils, v => v = .slice none 0 0
  | .nilp, v => v = .pointer none
  | .nilf, v => v = .nilFunc
  | .nilm, v => v = .map none
  | .slc r L off len, v => v.oneCell' = true ∧ (r < h.length ∧ genOK h r L) ∧ (curL h r L → ∃ b m cap, μ[r]? = some (some (b, m)) ∧ v = .slice (some ⟨b, offIn (rowTy h r) off, none⟩) len cap ∧ len ≤ cap ∧ capIn (rowTy h r) L off cap m) ∧ (virL h r → L = 0 → v = .slice none 0 0 ∧ len = 0)
  | .ptr r off, v => v.oneCell' = true ∧ (r < h.length ∧ genOK h r 0) ∧ (curL h r 0 → ∃ b m, μ[r]? = some (some (b, m)) ∧ (rowTy h r = none → v = .pointer (some ⟨b, off, none⟩)))
  | .eptr r L i, v => v.oneCell' = true ∧ (r < h.length ∧ genOK h r L) ∧ (curL h r L → ∃ b m, μ[r]? = some (some (b, m)) ∧ ∀ o, eltIn (rowTy h r) i = some o → v = .pointer (some ⟨b, o, none⟩))
  | .imm t x, v => ∃ b off c, v = .pointer (some ⟨b, off, none⟩) ∧ Sd S μ b ∧ b < w.heap.size ∧ c.length = t.size ∧ cellsAt w b off c ∧ DRep w (Sd S μ) t x c
  | .glob g, v => v = .pointer (some ⟨g, 0, none⟩)
  | .fn f first caps, v => ∃ fs cs : List Value, v = .func (.func f) fs.toArray cs.toArray ∧ ARepL w S μ h first fs ∧ ARepL w S μ h caps cs
  | .yld r, v => v.oneCell' = true ∧ (r < h.length ∧ genOK h r 0) ∧ (curL h r 0 → ∃ b m, μ[r]? = some (some (b, m)) ∧ (rowTy h r = none → v = .func (.yield b) #[] #[]))
  | .mref r, v => v.oneCell' = true ∧ (r < h.length ∧ genOK h r 0) ∧ (curL h r 0 → ∃ b m, μ[r]? = some (some (b, m)) ∧ (rowTy h r = none → v = .map (some b)))
  | .nili, v => v = .nilIface
  | .lit t xs, v => DVal w (Sd S μ) (.list t) xs v ∧ ∃ a, v = .slice a xs.length xs.length
  | .ifc T a, v => ∃ u, v = .iface T u ∧ ARep w S μ h a u
  | .pan _, _ => False
def ARepL (w : World) (S : Nat → Prop) (μ : Mu) (h : Heap) : List AV → List Value → Prop
  | [], [] => True
  | a :: as, v :: vs => ARep w S μ h a v ∧ ARepL w S μ h as vs
  | _, _ => False
end

def RRep (w : World) (S : Nat → Prop) (μ : Mu) (h : Heap) : Row → Nat → Nat → Prop
  | .box cs, b, m => ∃ c e, w.heap[b]? = some (.cells c e (0, 0)) ∧ c.size = m ∧ cs.length ≤ m ∧ ARepL w S μ h cs (c.toList.take cs.length) ∧ ∀ u ∈ c, u.oneCell' = true
  | .seq t xs ex, b, m => ∃ c e, w.heap[b]? = some (.cells c e (0, 0)) ∧ c.size = m ∧ 0 < t.size ∧ xs.length * t.size ≤ m ∧ (ex = true → xs.length * t.size = m) ∧
      DRep w (Sd S μ) (.arr xs.length t) xs (c.toList.take (xs.length * t.size))
  | .lst t xs, b, m => ∃ c e, w.heap[b]? = some (.cells c e (0, 0)) ∧ c.size = m ∧ 0 < t.size ∧ xs.length * t.size ≤ m ∧ (false = true → xs.length * t.size = m) ∧
      DRep w (Sd S μ) (.arr xs.length t) xs (c.toList.take (xs.length * t.size))
  | .loop st pend N tm ps as bd dfr, b, _ => ∃ (fn : FuncId) (tmps : Array Value) (db dm : Nat), w.heap[b]? = some (.loop { state := st, pending := pend, fn, tmps, params := ps.toArray, assign := as, body := bd, defers := db }) ∧
      tmps.size = N ∧ (∀ i, ARep w S μ h (getT tm i) (tmps.getD i undef)) ∧ μ[dfr]? = some (some (db, dm)) ∧ h[dfr]? = some .dfr
  | .dfr, b, _ => w.heap[b]? = some (.deferred (some []))
  | .dead, _, _ => True
  | .res, _, _ => True
  | .mp kk kv es, b, _ => ∃ (es' : Array MapEntry) (clock : Nat), w.heap[b]? = some (.map es' clock) ∧ es'.toList.map (fun e => (e.key, e.val)) = es.map (fun e => (Value.int kk e.1, Value.int kv e.2)) ∧ (es.map (·.1)).Nodup

def Row.live : Row → Bool
  | .dead => false
  | .res => false
  | .lst _ xs => !xs.isEmpty
  | _ => true

structure HRep (w : World) (S : Nat → Prop) (μ : Mu) (h : Heap) : Prop where
  len : μ.length = h.length
  inj : ∀ (i j b m m' : Nat), μ[i]? = some (some (b, m)) → μ[j]? = some (some (b, m')) → i = j
  lt : ∀ (i b m : Nat), μ[i]? = some (some (b, m)) → b < w.heap.size
  own : ∀ (i b m : Nat), μ[i]? = some (some (b, m)) → S b
  rows : ∀ (i : Nat) (row : Row), h[i]? = some row → row.live = true → ∃ b m, μ[i]? = some (some (b, m)) ∧ RRep w S μ h row b m

/-- package-level variables whose contents are known and never change -/
class GTab where
  tab : Nat → Option ((t : Ty) × t.den)
  frz : Nat → Bool := fun _ => false     -- functions whose lists are seen as data at a call (closed runs)
  pure : Nat → Bool := fun _ => false    -- functions (by their number of temporaries) whose slice literals and calls give data at once
def GRep [GTab] (w : World) (S : Nat → Prop) (μ : Mu) : Prop :=
  ∀ g t x, GTab.tab g = some ⟨t, x⟩ → ∃ c : List Value, Sd S μ g ∧ g < w.heap.size ∧ c.length = t.size ∧ cellsAt w g 0 c ∧ DRep w (Sd S μ) t x c

structure TRep [GTab] (w : World) (S : Nat → Prop) (μ : Mu) (h : Heap) (N : Nat) (tm : List (Nat × AV)) (tmps : Array Value) : Prop where
  size : tmps.size = N
  at_ : ∀ (i : Nat), ARep w S μ h (getT tm i) (tmps.getD i undef)
  glob : GRep w S μ

/-- From (μ, w) to (μ', w'): what was there and is no row's stays; rows' blocks are old rows' or new. -/
structure Ext (μ : Mu) (w : World) (μ' : Mu) (w' : World) : Prop where
  os : w'.os = w.os
  tape : w'.tape = w.tape
  output : w'.output = w.output
  grow : w.heap.size ≤ w'.heap.size
  same : ∀ b, b < w.heap.size → ¬ μ.has b → w'.heap[b]? = w.heap[b]?
  fresh : ∀ b, μ'.has b → μ.has b ∨ w.heap.size ≤ b

theorem Ext.refl (μ : Mu) (w : World) : Ext μ w μ w := ⟨rfl, rfl, rfl, Nat.le_refl _, fun _ _ _ => rfl, fun _ h => .inl h⟩

theorem Ext.trans {μ μ' μ'' : Mu} {w w' w'' : World} (h : Ext μ w μ' w') (k : Ext μ' w' μ'' w'') : Ext μ w μ'' w'' where
  os := k.os.trans h.os
  tape := k.tape.trans h.tape
  output := k.output.trans h.output
  grow := Nat.le_trans h.grow k.grow
  same := fun b hb hn => by
    rw [k.same b (Nat.lt_of_lt_of_le hb h.grow) (fun hm => (h.fresh b hm).elim hn (fun h' => by omega)), h.same b hb hn]
  fresh := fun b hb => (k.fresh b hb).elim (fun h1 => h.fresh b h1) (fun h1 => .inr (Nat.le_trans h.grow h1))

theorem cellsAt_lt {w : World} {b off : Nat} {c : List Value} (h : cellsAt w b off c) (hc : c ≠ []) : b < w.heap.size := by
  have h0 : 0 < c.length := List.length_pos_iff.2 hc
  have h1 := h 0 h0
  rw [List.getElem?_eq_getElem h0] at h1
  exact World.block_lt_of_cell? w ⟨b, off + 0, none⟩ h1

theorem cell?_of_heap {w w' : World} {a : Addr} (h : w'.heap[a.block]? = w.heap[a.block]?) : w'.cell? a = w.cell? a := World.cell?_of_block h

theorem cellsAt_mono {w w' : World} {b off : Nat} {c : List Value} (h : cellsAt w b off c) (hs : b < w.heap.size → w'.heap[b]? = w.heap[b]?) : cellsAt w' b off c := by
  intro j hj
  have h1 := h j hj
  have hlt : b < w.heap.size := cellsAt_lt h (by intro e; rw [e] at hj; simp at hj)
  rw [← h1]
  exact World.cell?_of_block (w := w) (hs hlt)

/-- Data stay data while their blocks stay. -/
theorem DRep.mono {w w' : World} {S S' : Nat → Prop} (hg : w.heap.size ≤ w'.heap.size) (hs : ∀ b, S b → b < w.heap.size → w'.heap[b]? = w.heap[b]? ∧ S' b) :
    ∀ (t : Ty) (x : t.den) (cs : List Value), DRep w S t x cs → DRep w' S' t x cs := by
  intro t
  induction t with
  | int k => intro x cs h; exact h
  | bool => intro x cs h; exact h
  | str => intro x cs h; exact h
  | unit => intro x cs h; exact h
  | pair a b iha ihb =>
    intro x cs h
    obtain ⟨c1, c2, e, h1, h2⟩ := h
    exact ⟨c1, c2, e, iha _ _ h1, ihb _ _ h2⟩
  | arr n t ih =>
    intro xs cs h
    obtain ⟨hn, css, hl, e, h1⟩ := h
    exact ⟨hn, css, hl, e, fun i hi hi' => ih _ _ (h1 i hi hi')⟩
  | list t ih =>
    intro xs cs h
    obtain ⟨a, cap, e, hc, h1⟩ := h
    refine ⟨a, cap, e, hc, fun hne => ?_⟩
    obtain ⟨b, off, e1, hb, hlt, h2⟩ := h1 hne
    refine ⟨b, off, e1, (hs b hb hlt).2, Nat.lt_of_lt_of_le hlt hg, fun i hi => ?_⟩
    obtain ⟨c, hcl, hca, hd⟩ := h2 i hi
    exact ⟨c, hcl, cellsAt_mono hca (fun hlt => (hs b hb hlt).1), ih _ _ hd⟩

theorem Ext.sd {μ μ' : Mu} {w w' : World} (he : Ext μ w μ' w') {S : Nat → Prop} {b : Nat} (hb : Sd S μ b) (hl : b < w.heap.size) : w'.heap[b]? = w.heap[b]? ∧ Sd S μ' b :=
  ⟨he.same b hl hb.2, hb.1, fun hm => (he.fresh b hm).elim hb.2 (fun h' => by omega)⟩

theorem DRep.ext {μ μ' : Mu} {w w' : World} {S : Nat → Prop} (he : Ext μ w μ' w') {t : Ty} {x : t.den} {cs : List Value} (h : DRep w (Sd S μ) t x cs) : DRep w' (Sd S μ') t x cs :=
  DRep.mono he.grow (fun _ hb hl => he.sd hb hl) t x cs h

theorem DVal.ext {μ μ' : Mu} {w w' : World} {S : Nat → Prop} (he : Ext μ w μ' w') {t : Ty} {x : t.den} {v : Value} (h : DVal w (Sd S μ) t x v) : DVal w' (Sd S μ') t x v := by
  unfold DVal at *
  split at h
  · obtain ⟨cs, e, h1⟩ := h; exact ⟨cs, e, h1.ext he⟩
  · exact DRep.ext he h

/-- Old rows that live on lie where they lay, with their type; a row whose block moved has a new length. -/
structure HExt (μ : Mu) (h : Heap) (μ' : Mu) (h' : Heap) : Prop where
  len : h.length ≤ h'.length
  keep : ∀ (r L : Nat), r < h.length → genOK h r L → curL h' r L → curL h r L ∧ μ'[r]? = μ[r]? ∧ rowTy h' r = rowTy h r
  gen : ∀ (r L : Nat), r < h.length → genOK h r L → genOK h' r L
  vir : ∀ (r : Nat), r < h.length → virL h' r → virL h r

theorem HExt.refl (μ : Mu) (h : Heap) : HExt μ h μ h := ⟨Nat.le_refl _, fun _ _ _ _ hc => ⟨hc, rfl, rfl⟩, fun _ _ _ h => h, fun _ _ h => h⟩
theorem HExt.trans {μ μ' μ'' : Mu} {h h' h'' : Heap} (a : HExt μ h μ' h') (b : HExt μ' h' μ'' h'') : HExt μ h μ'' h'' :=
  ⟨Nat.le_trans a.len b.len, fun r L hr hg hc => by
    obtain ⟨h1, h2, h3⟩ := b.keep r L (Nat.lt_of_lt_of_le hr a.len) (a.gen r L hr hg) hc
    obtain ⟨k1, k2, k3⟩ := a.keep r L hr hg h1
    exact ⟨k1, h2.trans k2, h3.trans k3⟩, fun r L hr hg => b.gen r L (Nat.lt_of_lt_of_le hr a.len) (a.gen r L hr hg), fun r hr hv => a.vir r hr (b.vir r (Nat.lt_of_lt_of_le hr a.len) hv)⟩

section
variable {μ μ' : Mu} {w w' : World} {h h' : Heap} {S : Nat → Prop}
mutual
theorem ARep.ext (he : Ext μ w μ' w') (hh : HExt μ h μ' h') : ∀ (a : AV) (v : Value), ARep w S μ h a v → ARep w' S μ' h' a v
  | .top, v, H => H
  | .dat t x, v, H => DVal.ext he H
  | .agg cs, v, H => by
    unfold ARep at H ⊢
    obtain ⟨vs, e, h1, h2⟩ := H; exact ⟨vs, e, ARepL.ext he hh cs vs h1, h2⟩
  | .tup cs, v, H => by
    unfold ARep at H ⊢
    obtain ⟨vs, e, h1⟩ := H; exact ⟨vs, e, ARepL.ext he hh cs vs h1⟩
  | .nils, v, H => H
  | .nilp, v, H => H
  | .nilf, v, H => H
  | .nilm, v, H => H
  | .glob g, v, H => H
  | .slc r L off len, v, H => by
    unfold ARep at H ⊢
    refine ⟨H.1, ⟨Nat.lt_of_lt_of_le H.2.1.1 hh.len, hh.gen _ _ H.2.1.1 H.2.1.2⟩, fun hc => ?_, fun hv => H.2.2.2 (hh.vir _ H.2.1.1 hv)⟩
    obtain ⟨k1, k2, k3⟩ := hh.keep r L H.2.1.1 H.2.1.2 hc
    obtain ⟨b, m, cap, e1, e2, e3, e4⟩ := H.2.2.1 k1
    exact ⟨b, m, cap, k2.trans e1, by rw [k3]; exact e2, e3, by rw [k3]; exact e4⟩
  | .ptr r off, v, H => by
    unfold ARep at H ⊢
    refine ⟨H.1, ⟨Nat.lt_of_lt_of_le H.2.1.1 hh.len, hh.gen _ _ H.2.1.1 H.2.1.2⟩, fun hc => ?_⟩
    obtain ⟨k1, k2, k3⟩ := hh.keep r 0 H.2.1.1 H.2.1.2 hc
    obtain ⟨b, m, e1, e2⟩ := H.2.2 k1
    exact ⟨b, m, k2.trans e1, by rw [k3]; exact e2⟩
  | .eptr r L i, v, H => by
    unfold ARep at H ⊢
    refine ⟨H.1, ⟨Nat.lt_of_lt_of_le H.2.1.1 hh.len, hh.gen _ _ H.2.1.1 H.2.1.2⟩, fun hc => ?_⟩
    obtain ⟨k1, k2, k3⟩ := hh.keep r L H.2.1.1 H.2.1.2 hc
    obtain ⟨b, m, e1, e2⟩ := H.2.2 k1
    exact ⟨b, m, k2.trans e1, by rw [k3]; exact e2⟩
  | .yld r, v, H => by
    unfold ARep at H ⊢
    refine ⟨H.1, ⟨Nat.lt_of_lt_of_le H.2.1.1 hh.len, hh.gen _ _ H.2.1.1 H.2.1.2⟩, fun hc => ?_⟩
    obtain ⟨k1, k2, k3⟩ := hh.keep r 0 H.2.1.1 H.2.1.2 hc
    obtain ⟨b, m, e1, e2⟩ := H.2.2 k1
    exact ⟨b, m, k2.trans e1, by rw [k3]; exact e2⟩
  | .mref r, v, H => by
    unfold ARep at H ⊢
    refine ⟨H.1, ⟨Nat.lt_of_lt_of_le H.2.1.1 hh.len, hh.gen _ _ H.2.1.1 H.2.1.2⟩, fun hc => ?_⟩
    obtain ⟨k1, k2, k3⟩ := hh.keep r 0 H.2.1.1 H.2.1.2 hc
    obtain ⟨b, m, e1, e2⟩ := H.2.2 k1
    exact ⟨b, m, k2.trans e1, by rw [k3]; exact e2⟩
  | .nili, v, H => H
  | .lit t xs, v, H => ⟨DVal.ext he H.1, H.2⟩
  | .pan _, v, H => H
  | .ifc T a, v, H => by
    unfold ARep at H ⊢
    obtain ⟨u, e, h1⟩ := H
    exact ⟨u, e, ARep.ext he hh a u h1⟩
  | .imm t x, v, H => by
    unfold ARep at H ⊢
    obtain ⟨b, off, c, e, hs, hlt, hl, hc, hd⟩ := H
    exact ⟨b, off, c, e, (he.sd hs hlt).2, Nat.lt_of_lt_of_le hlt he.grow, hl, cellsAt_mono hc (fun hlt => (he.sd hs hlt).1), hd.ext he⟩
  | .fn f first caps, v, H => by
    unfold ARep at H ⊢
    obtain ⟨fs, cs, e, h1, h2⟩ := H
    exact ⟨fs, cs, e, ARepL.ext he hh first fs h1, ARepL.ext he hh caps cs h2⟩
theorem ARepL.ext (he : Ext μ w μ' w') (hh : HExt μ h μ' h') : ∀ (as : List AV) (vs : List Value), ARepL w S μ h as vs → ARepL w' S μ' h' as vs
  | [], [], _ => by unfold ARepL; trivial
  | a :: as, v :: vs, H => by
    unfold ARepL at H ⊢
    exact ⟨ARep.ext he hh a v H.1, ARepL.ext he hh as vs H.2⟩
  | [], _ :: _, H => by unfold ARepL at H; exact H.elim
  | _ :: _, [], H => by unfold ARepL at H; exact H.elim
end

theorem GRep.ext [GTab] (he : Ext μ w μ' w') (H : GRep w S μ) : GRep w' S μ' := fun g t x e =>
  let ⟨c, h1, h2, h3, h4, h5⟩ := H g t x e
  ⟨c, (he.sd h1 h2).2, Nat.lt_of_lt_of_le h2 he.grow, h3, cellsAt_mono h4 (fun _ => (he.sd h1 h2).1), h5.ext he⟩

theorem TRep.ext [GTab] (he : Ext μ w μ' w') (hh : HExt μ h μ' h') {N : Nat} {tm : List (Nat × AV)} {tmps : Array Value} (H : TRep w S μ h N tm tmps) : TRep w' S μ' h' N tm tmps :=
  ⟨H.size, fun i => ARep.ext he hh _ _ (H.at_ i), H.glob.ext he⟩

theorem ARepL.length : ∀ {as : List AV} {vs : List Value}, ARepL w S μ h as vs → as.length = vs.length
  | [], [], _ => rfl
  | a :: as, v :: vs, H => by unfold ARepL at H; simp [ARepL.length H.2]
  | [], _ :: _, H => by unfold ARepL at H; exact H.elim
  | _ :: _, [], H => by unfold ARepL at H; exact H.elim

theorem ARepL.get : ∀ {as : List AV} {vs : List Value}, ARepL w S μ h as vs → ∀ (i : Nat) (a : AV), as[i]? = some a → ∃ v, vs[i]? = some v ∧ ARep w S μ h a v
  | [], [], _, i, a, e => by simp at e
  | a :: as, v :: vs, H, 0, b, e => by unfold ARepL at H; simp at e; subst e; exact ⟨v, by simp, H.1⟩
  | a :: as, v :: vs, H, i + 1, b, e => by unfold ARepL at H; simp at e; obtain ⟨u, h1, h2⟩ := ARepL.get H.2 i b e; exact ⟨u, by simpa using h1, h2⟩
  | [], _ :: _, H, _, _, _ => by unfold ARepL at H; exact H.elim
  | _ :: _, [], H, _, _, _ => by unfold ARepL at H; exact H.elim

theorem ARepL.append : ∀ {as bs : List AV} {vs us : List Value}, ARepL w S μ h as vs → ARepL w S μ h bs us → ARepL w S μ h (as ++ bs) (vs ++ us)
  | [], bs, [], us, _, H => H
  | a :: as, bs, v :: vs, us, H, K => by
    unfold ARepL at H
    show ARepL w S μ h (a :: (as ++ bs)) (v :: (vs ++ us))
    unfold ARepL
    exact ⟨H.1, ARepL.append H.2 K⟩
  | [], _, _ :: _, _, H, _ => by unfold ARepL at H; exact H.elim
  | _ :: _, _, [], _, H, _ => by unfold ARepL at H; exact H.elim

theorem ARepL.set : ∀ {as : List AV} {vs : List Value}, ARepL w S μ h as vs → ∀ (i : Nat) {a : AV} {v : Value}, ARep w S μ h a v → ARepL w S μ h (as.set i a) (vs.set i v)
  | [], [], H, i, _, _, _ => by simpa using H
  | a :: as, v :: vs, H, 0, b, u, K => by
    unfold ARepL at H
    show ARepL w S μ h (b :: as) (u :: vs)
    unfold ARepL
    exact ⟨K, H.2⟩
  | a :: as, v :: vs, H, i + 1, b, u, K => by
    unfold ARepL at H
    show ARepL w S μ h (a :: as.set i b) (v :: vs.set i u)
    unfold ARepL
    exact ⟨H.1, ARepL.set H.2 i K⟩
  | [], _ :: _, H, _, _, _, _ => by unfold ARepL at H; exact H.elim
  | _ :: _, [], H, _, _, _, _ => by unfold ARepL at H; exact H.elim

theorem ARepL.drop : ∀ {as : List AV} {vs : List Value}, ARepL w S μ h as vs → ∀ n, ARepL w S μ h (as.drop n) (vs.drop n)
  | as, vs, H, 0 => H
  | [], [], H, n + 1 => H
  | a :: as, v :: vs, H, n + 1 => by unfold ARepL at H; exact ARepL.drop H.2 n
  | [], _ :: _, H, _ + 1 => by unfold ARepL at H; exact H.elim
  | _ :: _, [], H, _ + 1 => by unfold ARepL at H; exact H.elim

theorem ARepL.take : ∀ {as : List AV} {vs : List Value}, ARepL w S μ h as vs → ∀ n, ARepL w S μ h (as.take n) (vs.take n)
  | as, vs, H, 0 => by simp only [List.take_zero]; unfold ARepL; trivial
  | [], [], H, n + 1 => H
  | a :: as, v :: vs, H, n + 1 => by
    unfold ARepL at H
    show ARepL w S μ h (a :: as.take n) (v :: vs.take n)
    unfold ARepL
    exact ⟨H.1, ARepL.take H.2 n⟩
  | [], _ :: _, H, _ + 1 => by unfold ARepL at H; exact H.elim
  | _ :: _, [], H, _ + 1 => by unfold ARepL at H; exact H.elim
end
end GoV
