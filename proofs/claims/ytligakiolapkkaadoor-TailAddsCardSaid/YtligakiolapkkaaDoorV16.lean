/- Regions in any order: soundness. -/
import Derived.Test.YtligakiolapkkaaDoorV15
set_option linter.unusedSectionVars false
namespace GoV
open Go

theorem testBit_maskOf {acc es : List Nat} {i : Nat} : (maskOf acc es).testBit i = true ↔ ∃ e ∈ es, e = i ∨ (acc.getD e 0).testBit i = true := by
  have key : ∀ (es : List Nat) (s : Nat), (es.foldl (fun s e => s ||| 2 ^ e ||| acc.getD e 0) s).testBit i = true ↔ s.testBit i = true ∨ ∃ e ∈ es, e = i ∨ (acc.getD e 0).testBit i = true := by
    intro es
    induction es with
    | nil => intro s; simp
    | cons e es ih =>
      intro s
      simp only [List.foldl_cons, ih, Nat.testBit_or, Nat.testBit_two_pow, Bool.or_eq_true, decide_eq_true_eq, List.mem_cons, exists_eq_or_imp]
      constructor
      · rintro (((h | h) | h) | h)
        · exact .inl h
        · exact .inr (.inl (.inl h))
        · exact .inr (.inl (.inr h))
        · exact .inr (.inr h)
      · rintro (h | (h | h) | h)
        · exact .inl (.inl (.inl h))
        · exact .inl (.inl (.inr h))
        · exact .inl (.inr h)
        · exact .inr h
  have := key es 0
  simpa [maskOf] using this

theorem clo_spec : ∀ (r : List (List Nat)) (acc : List Nat), (clo acc r).take acc.length = acc ∧ (clo acc r).length = acc.length + r.length ∧
    ∀ (j : Nat) (es : List Nat), r[j]? = some es → (clo acc r).getD (acc.length + j) 0 = maskOf ((clo acc r).take (acc.length + j)) es
  | [], acc => ⟨by simp [clo], by simp [clo], fun j es h => by simp at h⟩
  | es :: r, acc => by
    obtain ⟨h1, h2, h3⟩ := clo_spec r (acc ++ [maskOf acc es])
    simp only [List.length_append, List.length_cons, List.length_nil, Nat.zero_add] at h1 h2 h3
    have h4 : (clo acc (es :: r)) = clo (acc ++ [maskOf acc es]) r := rfl
    rw [h4]
    have h5 : (clo (acc ++ [maskOf acc es]) r).take acc.length = acc := by
      have := congrArg (List.take acc.length) h1
      rw [List.take_take, Nat.min_eq_left (by omega)] at this
      rw [this]; simp
    refine ⟨h5, by rw [h2, List.length_cons]; omega, fun j es' hj => ?_⟩
    cases j with
    | zero =>
      simp at hj
      subst hj
      rw [Nat.add_zero, h5]
      have : ((clo (acc ++ [maskOf acc es]) r).take (acc.length + 1)).getD acc.length 0 = (acc ++ [maskOf acc es]).getD acc.length 0 := by rw [h1]
      simpa [List.getD, List.getElem?_take] using this
    | succ j =>
      have := h3 j es' (by simpa using hj)
      rw [show acc.length + (j + 1) = acc.length + 1 + j by omega]
      exact this

theorem edgesOK_spec : ∀ (r : List (List Nat)) (j : Nat), edgesOK j r = true → ∀ (i : Nat) (es : List Nat), r[i]? = some es → ∀ e ∈ es, e < j + i
  | [], _, _, i, es, h, _, _ => by simp at h
  | es :: r, j, H, i, es', h, e, he => by
    simp only [edgesOK, Bool.and_eq_true, List.all_eq_true] at H
    cases i with
    | zero => simp at h; subst h; exact Nat.le_of_ble_eq_true (H.1 e he)
    | succ i =>
      have := edgesOK_spec r (j + 1) H.2 i es' (by simpa using h) e he
      omega

theorem rowOK_spec {m : Nat} {b : AOp} : ∀ (pre : List AOp) (k : Nat), rowOK m b k pre = true → ∀ (i : Nat) (a : AOp), pre[i]? = some a → clash a b = true → m.testBit (k + i) = true
  | [], _, _, i, a, h, _ => by simp at h
  | x :: pre, k, H, i, a, h, hc => by
    simp only [rowOK, Bool.and_eq_true, Bool.or_eq_true, Bool.not_eq_true'] at H
    cases i with
    | zero =>
      simp at h
      subst h
      rcases H.1 with h1 | h1
      · rw [hc] at h1; cases h1
      · exact h1
    | succ i =>
      have := rowOK_spec pre (k + 1) H.2 i a (by simpa using h) hc
      rwa [show k + (i + 1) = k + 1 + i by omega]

theorem ordGo_spec {ms : List Nat} : ∀ (r pre : List AOp) (j : Nat), pre.length = j → ordGo ms j pre r = true → ∀ (q i : Nat) (a b : AOp), (pre ++ r)[q]? = some b → j ≤ q → (pre ++ r)[i]? = some a → i < q → clash a b = true → (ms.getD q 0).testBit i = true
  | [], pre, j, hp, _, q, i, a, b, hb, hq, _, _, _ => by
    rw [List.append_nil] at hb
    have := (List.getElem?_eq_some_iff.1 hb).1
    omega
  | x :: r, pre, j, hp, H, q, i, a, b, hb, hq, ha, hiq, hc => by
    simp only [ordGo, Bool.and_eq_true] at H
    by_cases e : q = j
    · subst e
      rw [List.getElem?_append_right (by omega)] at hb
      simp [hp] at hb
      subst hb
      rw [List.getElem?_append_left (by omega)] at ha
      have := rowOK_spec pre 0 H.1 i a ha hc
      simpa using this
    · have e2 : pre ++ x :: r = (pre ++ [x]) ++ r := by simp
      rw [e2] at hb ha
      exact ordGo_spec r (pre ++ [x]) (j + 1) (by simp [hp]) H.2 q i a b hb (by omega) ha hiq hc

/-- What the static look gives: a closed set of operations that holds an operation holds all earlier ones that clash with it. -/
theorem ordB_spec {ops : List Oper} {as : List AOp} (H : ordB ops as = true) {L : Nat → Bool} (hL : ∀ j o, ops[j]? = some o → L j = true → ∀ e ∈ afterL o, L e = true) :
    (∀ j o, ops[j]? = some o → ∀ e ∈ afterL o, e < j) ∧
    ∀ (i j : Nat) (oj : Oper) (a b : AOp), ops[j]? = some oj → as[i]? = some a → as[j]? = some b → i < j → clash a b = true → (L j = true ∨ ∀ e ∈ afterL oj, L e = true) → L i = true := by
  unfold ordB at H
  simp only [Bool.and_eq_true] at H
  have hE : ∀ j o, ops[j]? = some o → ∀ e ∈ afterL o, e < j := fun j o hj e he => by
    have := edgesOK_spec _ 0 H.1 j (afterL o) (by simp [hj]) e he
    omega
  refine ⟨hE, ?_⟩
  obtain ⟨_, _, hM⟩ := clo_spec (ops.map afterL) []
  have hM' : ∀ j o, ops[j]? = some o → (clo [] (ops.map afterL)).getD j 0 = maskOf ((clo [] (ops.map afterL)).take j) (afterL o) := fun j o hj => by
    have := hM j (afterL o) (by simp [hj])
    simpa using this
  -- all that a closed set's operation stands behind is in the set
  have key : ∀ (j : Nat) (o : Oper), ops[j]? = some o → (∀ e ∈ afterL o, L e = true) → ∀ i, ((clo [] (ops.map afterL)).getD j 0).testBit i = true → L i = true := by
    intro j
    induction j using Nat.strongRecOn with
    | _ j ih =>
      intro o hj hall i hi
      rw [hM' j o hj] at hi
      obtain ⟨e, he, h1⟩ := testBit_maskOf.1 hi
      have hlt := hE j o hj e he
      rcases h1 with rfl | h1
      · exact hall e he
      · have h2 : ((clo [] (ops.map afterL)).take j).getD e 0 = (clo [] (ops.map afterL)).getD e 0 := by
          simp [List.getD, hlt]
        rw [h2] at h1
        have hle : e < ops.length := by have := (List.getElem?_eq_some_iff.1 hj).1; omega
        have he' := List.getElem?_eq_getElem hle
        exact ih e hlt _ he' (hL e _ he' (hall e he)) i h1
  intro i j oj a b hj ha hb hij hc hor
  have hall : ∀ e ∈ afterL oj, L e = true := by
    rcases hor with h | h
    · exact hL j oj hj h
    · exact h
  exact key j oj hj hall i (ordGo_spec as [] 0 rfl H.2 j i a b (by simpa using hb) (Nat.zero_le _) (by simpa using ha) hij hc)

theorem clash_rds {a b : AOp} {d : Nat} (hd : a.dst = some d) (hr : d ∈ b.rds) : clash a b = true := by
  unfold clash
  rw [hd]
  simp only [Bool.or_eq_true, List.any_eq_true]
  exact .inl (.inr (.inl ⟨d, hr, Nat.beq_refl d⟩))
theorem clash_dst {a b : AOp} {d : Nat} (hd : a.dst = some d) (hb : b.dst = some d) : clash a b = true := by
  unfold clash
  rw [hd, hb]
  simp only [Bool.or_eq_true]
  exact .inl (.inr (.inr (Nat.beq_refl d)))
theorem clash_rds' {a b : AOp} {d : Nat} (hd : b.dst = some d) (hr : d ∈ a.rds) : clash a b = true := by
  unfold clash
  rw [hd]
  simp only [Bool.or_eq_true, List.any_eq_true]
  exact .inr ⟨d, hr, Nat.beq_refl d⟩
theorem clash_rows {a b : AOp} (h : (hwI a.ins = true ∧ (hwI b.ins = true ∨ hrI b.ins = true)) ∨ (hrI a.ins = true ∧ hwI b.ins = true)) : clash a b = true := by
  unfold clash
  rcases h with ⟨h1, h2 | h2⟩ | ⟨h1, h2⟩ <;> simp [h1, h2]

theorem getD_in' {listed : Array Bool} {i : Nat} (hi : i < listed.size) (h : listed.getD i false = false) : listed.getD i true = false := by
  simp [hi] at h ⊢; exact h
theorem getD_both' {listed : Array Bool} {i : Nat} (h : listed.getD i true = false) : listed.getD i false = false := by
  rcases Nat.lt_or_ge i listed.size with h' | h'
  · simp [h'] at h ⊢; exact h
  · simp [Array.getElem?_eq_none h'] at h
theorem getD_rep_false {m j : Nat} : (Array.replicate m false).getD j false = false := by
  rcases Nat.lt_or_ge j m with h | h
  · simp [h]
  · simp [h]

theorem CompL.get [GTab] {P : Program} {N : Nat} {all : Array Oper} : ∀ {os : List Oper} {xs : List AOp}, CompL P N all os xs → os.length = xs.length ∧ ∀ (i : Nat) (o : Oper), os[i]? = some o → ∃ x, xs[i]? = some x ∧ cAOp P N all o = some x
  | _, _, .nil => ⟨rfl, fun i o h => by simp at h⟩
  | _, _, .cons hx hr => by
    obtain ⟨h1, h2⟩ := hr.get
    refine ⟨by simp [h1], fun i o h => ?_⟩
    cases i with
    | zero => simp at h; subst h; exact ⟨_, rfl, hx⟩
    | succ i => simpa using h2 i o (by simpa using h)

def pureA (x : AOp) : AOp := ⟨x.dst, pureI x.ins, x.guard⟩

theorem comp_plain [GTab] {P : Program} {N : Nat} {all : Array Oper} {os : List Oper} {xs : List AOp} (h : cAOps P N all os = some xs) : os.length = xs.length ∧ ∀ (i : Nat) (o : Oper), os[i]? = some o → ∃ x, xs[i]? = some x ∧ cDst N o.dst = some x.dst ∧ cGuard all o.guard = some x.guard ∧ CI P o.op x.ins := by
  obtain ⟨h1, h2⟩ := (compL_of h).get
  refine ⟨h1, fun i o ho => ?_⟩
  obtain ⟨x, k1, k2⟩ := h2 i o ho
  obtain ⟨a, b, c⟩ := cAOp_spec k2
  exact ⟨x, k1, a, b, .inl c⟩
theorem comp_pure [GTab] {P : Program} {N : Nat} {all : Array Oper} {os : List Oper} {xs : List AOp} (h : cAOps P N all os = some xs) : os.length = (xs.map pureA).length ∧ ∀ (i : Nat) (o : Oper), os[i]? = some o → ∃ x, (xs.map pureA)[i]? = some x ∧ cDst N o.dst = some x.dst ∧ cGuard all o.guard = some x.guard ∧ CI P o.op x.ins := by
  obtain ⟨h1, h2⟩ := (compL_of h).get
  refine ⟨by simpa using h1, fun i o ho => ?_⟩
  obtain ⟨x, k1, k2⟩ := h2 i o ho
  obtain ⟨a, b, c⟩ := cAOp_spec k2
  exact ⟨pureA x, by simp [k1], a, b, .inr (.inl ⟨_, c, rfl⟩)⟩

section
variable [GTab] {P : Program} {S : Nat → Prop} {N : Nat}

theorem region_draw {ro : Option Nat} {n id : Nat} {ops : Array Oper} {as : List AOp} {μ : Mu} {h : Heap} {w : World} {s : List (Nat × AV)} {a : Act} {vs : List (AV × Heap)} {Qx : Exit → Act → World → Prop}
    (hm : P.follows .mixedOrders = true) (hcl : ops.toList.length = as.length ∧ ∀ (i : Nat) (o : Oper), ops.toList[i]? = some o → ∃ x, as[i]? = some x ∧ cDst N o.dst = some x.dst ∧ cGuard ops o.guard = some x.guard ∧ CI P o.op x.ins) (hord : ordB ops.toList as = true) (hO : Open S w) (hH : HRep w S μ h) (hT : TRep w S μ h N s a.tmps) (hx : LexOK P as s h vs)
    (hK : ∀ a' w' μ', a'.defers = a.defers → Ext μ w μ' w' → HExt μ h μ' (lastH h vs) → HRep w' S μ' (lastH h vs) → TRep w' S μ' (lastH h vs) N (putAll as s vs) a'.tmps → Qx .normal a' w') :
    (Code.region id ops true).wpIn (Fw ro) n P Qx a w := by
  obtain ⟨hlen, hget⟩ := hcl
  have hvl := hx.length
  refine wpIn_region_any hm ?_
  -- the invariant
  let Inv (listed : Array Bool) (a1 : Act) (w1 : World) : Prop := listed.size = ops.size ∧ (∀ j o, ops.toList[j]? = some o → listed.getD j false = true → ∀ e ∈ afterL o, listed.getD e false = true) ∧
    ∃ μ1, a1.defers = a.defers ∧ Ext μ w μ1 w1 ∧ HExt μ h μ1 (frh (fun j => listed.getD j false) 0 h as vs) ∧ HRep w1 S μ1 (frh (fun j => listed.getD j false) 0 h as vs) ∧ TRep w1 S μ1 (frh (fun j => listed.getD j false) 0 h as vs) N (frm (fun j => listed.getD j false) 0 s as vs) a1.tmps
  have hops : ∀ (j : Nat), ops.toList[j]? = ops[j]? := fun j => by simp
  -- all listed: done
  have done : ∀ (listed : Array Bool) (a1 : Act) (w1 : World), Inv listed a1 w1 → (∀ j, j < ops.size → listed.getD j false = true) → Qx .normal a1 w1 := by
    rintro listed a1 w1 ⟨h1, h2, μ1, k0, k1, k2, k3, k4⟩ hall
    have hL : ∀ j, j < as.length → (fun j => listed.getD j false) (0 + j) = true := fun j hj => by
      rw [Nat.zero_add]; exact hall j (by rw [← hlen] at hj; simpa using hj)
    rw [frh_all as vs 0 s h hx hL] at k2 k3 k4
    rw [frm_all as vs 0 s hvl hL] at k4
    exact hK a1 w1 μ1 k0 k1 k2 k3 k4
  -- nothing ready: all listed
  have nothing : ∀ (listed : Array Bool) (a1 : Act) (w1 : World), Inv listed a1 w1 → Region.ready .any ops listed = [] → ∀ j, j < ops.size → listed.getD j false = true := by
    rintro listed a1 w1 ⟨h1, h2, _⟩ hr j
    induction j using Nat.strongRecOn with
    | _ j ih =>
      intro hj
      cases hlj : listed.getD j false with
      | true => rfl
      | false =>
        exfalso
        have hoj : ops[j]? = some ops[j] := Array.getElem?_eq_getElem hj
        have hmem : j ∈ Region.ready .any ops listed := by
          rw [mem_ready]
          refine ⟨getD_in' (by omega) hlj, ops[j], hoj, fun e he hb => ?_⟩
          have hea : e.on ∈ afterL ops[j] := by
            unfold afterL
            exact List.mem_map.2 ⟨e, List.mem_filter.2 ⟨by simpa using he, hb⟩, rfl⟩
          have hlt := (ordB_spec hord (L := fun _ => true) (fun _ _ _ _ _ _ => rfl)).1 j _ (by rw [hops]; exact hoj) e.on hea
          exact ih e.on hlt (by omega)
        rw [hr] at hmem
        cases hmem
  -- one operation
  have step : ∀ (listed : Array Bool) (a1 : Act) (w1 : World) (i : Nat) (K : Act → World → Prop), Inv listed a1 w1 → i ∈ Region.ready .any ops listed →
      (∀ a2 w2, Inv (listed.setIfInBounds i true) a2 w2 → K a2 w2) → wpOpIn (Fw ro) n P ops Qx i K a1 w1 := by
    rintro listed a1 w1 i K ⟨h1, h2, μ1, k0, k1, k2, k3, k4⟩ hr hK'
    obtain ⟨hun, o, hoi, hall⟩ := mem_ready.1 hr
    have hil : i < ops.size := (Array.getElem?_eq_some_iff.1 hoi).1
    obtain ⟨x, hxi, hd, hg, hi⟩ := hget i o (by rw [hops]; exact hoi)
    obtain ⟨v, hvi, hopv⟩ := lex_at 0 hx i x hxi
    have hafter : ∀ e ∈ afterL o, listed.getD e false = true := by
      intro e he
      unfold afterL at he
      obtain ⟨ed, h3, rfl⟩ := List.mem_map.1 he
      obtain ⟨h4, h5⟩ := List.mem_filter.1 h3
      exact hall ed (by simpa using h4) h5
    have hspec := (ordB_spec hord (L := fun j => listed.getD j false) h2).2
    have huf : listed.getD i false = false := getD_both' hun
    -- the writers of what it reads have been carried out just as in the text's order
    have hwr : ∀ (j : Nat) (y : AOp), as[j]? = some y → (∀ t, y.dst = some t → t ∈ x.rds ∨ x.dst = some t → listed.getD j false = decide (j < i)) := by
      intro j y hj t ht hrd
      rcases Nat.lt_trichotomy j i with hlt | rfl | hgt
      · have hcl : clash y x = true := by
          rcases hrd with hr | hr
          · exact clash_rds ht hr
          · exact clash_dst ht hr
        have := hspec j i o y x (by rw [hops]; exact hoi) hj hxi hlt hcl (.inr hafter)
        rw [this]; simp [hlt]
      · rw [huf]; simp
      · have hjl : j < ops.size := by
          have := (List.getElem?_eq_some_iff.1 hj).1
          rw [← hlen] at this; simpa using this
        have hcl : clash x y = true := by
          rcases hrd with hr | hr
          · exact clash_rds' ht hr
          · exact clash_dst hr ht
        cases hlj : listed.getD j false with
        | false => simp; omega
        | true =>
          exfalso
          have := hspec i j ops[j] x y (by rw [hops]; exact Array.getElem?_eq_getElem hjl) hxi hj hgt hcl (.inl hlj)
          rw [huf] at this; cases this
    -- so have the writers of rows, where it touches any
    have hwh : hwI x.ins = true ∨ hrI x.ins = true → ∀ (j : Nat) (y : AOp), as[j]? = some y → hwI y.ins = true → listed.getD j false = decide (j < i) := by
      intro hxh j y hj hyw
      rcases Nat.lt_trichotomy j i with hlt | rfl | hgt
      · have := hspec j i o y x (by rw [hops]; exact hoi) hj hxi hlt (clash_rows (.inl ⟨hyw, hxh⟩)) (.inr hafter)
        rw [this]; simp [hlt]
      · rw [huf]; simp
      · have hjl : j < ops.size := by
          have := (List.getElem?_eq_some_iff.1 hj).1
          rw [← hlen] at this; simpa using this
        have hcl : clash x y = true := by
          rcases hxh with hr | hr
          · exact clash_rows (.inl ⟨hr, .inl hyw⟩)
          · exact clash_rows (.inr ⟨hr, hyw⟩)
        cases hlj : listed.getD j false with
        | false => simp; omega
        | true =>
          exfalso
          have := hspec i j ops[j] x y (by rw [hops]; exact Array.getElem?_eq_getElem hjl) hxi hj hgt hcl (.inl hlj)
          rw [huf] at this; cases this
    have hop0 : OpOK P (frh (fun j => decide (j < 0 + i)) 0 h as vs) (frm (fun j => listed.getD j false) 0 s as vs) x v := by
      refine hopv.congr (fun t ht => frm_agree as vs 0 s s rfl (fun j y hj hyd => ?_))
      simp only [Nat.zero_add]
      exact (hwr j y hj t hyd (.inl ht)).symm
    have hop1 : OpOK P (frh (fun j => listed.getD j false) 0 h as vs) (frm (fun j => listed.getD j false) 0 s as vs) x (v.1, match hwI x.ins with | true => v.2 | false => frh (fun j => listed.getD j false) 0 h as vs) := by
      by_cases hxh : hwI x.ins = true ∨ hrI x.ins = true
      · have e : frh (fun j => decide (j < 0 + i)) 0 h as vs = frh (fun j => listed.getD j false) 0 h as vs := by
          refine frh_agree as vs 0 h (fun j y hj hyw => ?_)
          simp only [Nat.zero_add]
          exact (hwh hxh j y hj hyw).symm
        rw [e] at hop0
        cases hw : hwI x.ins with
        | true => exact hop0
        | false =>
          have hk := hop0.keep hw
          have e3 : v = (v.1, frh (fun j => listed.getD j false) 0 h as vs) := by rw [← hk]
          rw [e3] at hop0
          exact hop0
      · have hw : hwI x.ins = false := by
          cases h' : hwI x.ins with
          | true => exact absurd (.inl h') hxh
          | false => rfl
        have hr' : hrI x.ins = false := by
          cases h' : hrI x.ins with
          | true => exact absurd (.inr h') hxh
          | false => rfl
        rw [hw]
        unfold OpOK at hop0 ⊢
        cases hgx : x.guard with
        | none => rw [hgx] at hop0; exact blind_rows hr' hop0
        | some p =>
          obtain ⟨dg, want⟩ := p
          rw [hgx] at hop0
          rcases hop0 with ⟨b, q1, q2, q3⟩ | ⟨q1, q3⟩
          · exact .inl ⟨b, q1, fun e => blind_rows hr' (q2 e), fun e => by rw [q3 e]⟩
          · exact .inr ⟨q1, by rw [q3]⟩
    -- the frame behind it
    have hset : ∀ j, (listed.setIfInBounds i true).getD j false = (listed.getD j false || j == i) := by
      intro j
      by_cases e : j = i
      · subst e; simp [h1, hil]
      · have : (listed.setIfInBounds i true).getD j false = listed.getD j false := by
          simp [Array.getElem?_setIfInBounds_ne (fun e' => e e'.symm)]
        rw [this]; simp [e]
    have hfr : ∀ t, getT (putT (frm (fun j => listed.getD j false) 0 s as vs) x.dst v.1) t = getT (frm (fun j => (listed.setIfInBounds i true).getD j false) 0 s as vs) t := by
      intro t
      by_cases hdt : x.dst = some t
      · rw [hdt, putT_same]
        refine (frm_more as vs 0 i s x v hxi hvi hdt (L := fun j => listed.getD j false) (fun j => by rw [Nat.zero_add]; exact hset j) (fun j y hj hyd hl => ?_)).symm
        rw [Nat.zero_add] at hl
        have := hwr j y hj t hyd (.inr hdt)
        rw [hl] at this
        simpa using this.symm
      · rw [putT_other hdt]
        refine frm_agree as vs 0 s s rfl (fun j y hj hyd => ?_)
        rw [Nat.zero_add, hset j]
        have : j ≠ i := by
          intro e; subst e
          rw [hxi] at hj; cases hj
          exact hdt hyd
        simp [this]
    have hfh : (match hwI x.ins with | true => v.2 | false => frh (fun j => listed.getD j false) 0 h as vs) = frh (fun j => (listed.setIfInBounds i true).getD j false) 0 h as vs := by
      cases hw : hwI x.ins with
      | true =>
        refine (frh_more as vs 0 i h x v hxi hvi hw (L := fun j => listed.getD j false) (fun j => by rw [Nat.zero_add]; exact hset j) (fun j y hj hyw hl => ?_)).symm
        rw [Nat.zero_add] at hl
        have := hwh (.inl hw) j y hj hyw
        rw [hl] at this
        simpa using this.symm
      | false =>
        refine frh_agree as vs 0 h (fun j y hj hyw => ?_)
        rw [Nat.zero_add, hset j]
        have : j ≠ i := by
          intro e; subst e
          rw [hxi] at hj; cases hj
          rw [hw] at hyw; cases hyw
        simp [this]
    rw [hfh] at hop1
    have hclosed : ∀ j o', ops.toList[j]? = some o' → (listed.setIfInBounds i true).getD j false = true → ∀ e ∈ afterL o', (listed.setIfInBounds i true).getD e false = true := by
      intro j o' hj hlj e he
      rw [hset] at hlj ⊢
      simp only [Bool.or_eq_true, beq_iff_eq] at hlj ⊢
      rcases hlj with hlj | rfl
      · exact .inl (h2 j o' hj hlj e he)
      · rw [hops, hoi] at hj
        cases hj
        exact .inl (hafter e he)
    have hO1 : Open S w1 := fun b hb => hO b (Nat.le_trans k1.grow hb)
    unfold wpOpIn
    simp only [hoi]
    have carry : RunOK P (frh (fun j => listed.getD j false) 0 h as vs) (frm (fun j => listed.getD j false) 0 s as vs) x.ins (v.1, frh (fun j => (listed.setIfInBounds i true).getD j false) 0 h as vs) → o.wpIn (Fw ro) n P a1 w1 K Qx := by
      intro hrun
      refine instr_wp hO1 k3 k4 hi hrun.1 ?_
      intro u w' μ' av h' he hh hH' hv hq
      cases hq
      refine hK' _ _ ⟨by simp [h1], hclosed, μ', ?_, k1.trans he, k2.trans hh, hH', ((k4.ext he hh).put hd hv).congr (fun t => (hfr t).symm)⟩
      rw [← k0]
      cases o.dst <;> rfl
    have pass : (v.1, frh (fun j => (listed.setIfInBounds i true).getD j false) 0 h as vs) = (AV.tup [], frh (fun j => listed.getD j false) 0 h as vs) → K (a1.put o.dst undef) w1 := by
      intro hv
      have hv1 : v.1 = .tup [] := congrArg Prod.fst hv
      have hv2 := congrArg Prod.snd hv
      simp only at hv2
      rw [hv1] at hfr
      refine hK' _ _ ⟨by simp [h1], hclosed, μ1, ?_, k1, ?_, ?_, ?_⟩
      · rw [← k0]
        cases o.dst <;> rfl
      · rw [hv2]; exact k2
      · rw [hv2]; exact k3
      · rw [hv2]; exact (k4.put hd und_rep).congr (fun t => (hfr t).symm)
    unfold OpOK at hop1
    cases hgx : x.guard with
    | none =>
      rw [hgx] at hop1 hg
      rw [wanted_none hg]
      exact carry hop1
    | some p =>
      obtain ⟨dg, want⟩ := p
      rw [hgx] at hop1 hg
      rcases hop1 with ⟨b, hb, hy, hn⟩ | ⟨hb, hn⟩
      · rw [wanted_of k4 hg hb]
        by_cases hbw : b = want
        · have : (b == want) = true := by simp [hbw]
          rw [this]
          exact carry (hy hbw)
        · have : (b == want) = false := by simp [hbw]
          rw [this]
          exact ⟨about_wide, pass (hn hbw)⟩
      · rw [wanted_und k4 hg hb]
        exact ⟨about_wide, pass hn⟩
  -- count what is left
  have main : ∀ (fuel : Nat) (listed : Array Bool) (a1 : Act) (w1 : World), ((List.range ops.size).filter fun j => !listed.getD j false).length ≤ fuel → Inv listed a1 w1 → wpAnyIn (Fw ro) n P .any ops Qx fuel listed a1 w1 := by
    intro fuel
    induction fuel with
    | zero =>
      intro listed a1 w1 hcnt hInv
      have hall : ∀ j, j < ops.size → listed.getD j false = true := by
        intro j hj
        cases hl : listed.getD j false with
        | true => rfl
        | false =>
          exfalso
          have : j ∈ (List.range ops.size).filter fun j => !listed.getD j false := List.mem_filter.2 ⟨List.mem_range.2 hj, by simp only [hl]; rfl⟩
          have h0 := List.eq_nil_of_length_eq_zero (Nat.le_zero.1 hcnt)
          rw [h0] at this; cases this
      refine ⟨?_, done listed a1 w1 hInv hall⟩
      apply List.eq_nil_iff_forall_not_mem.2
      intro j hj
      obtain ⟨h1, o, h2, _⟩ := mem_ready.1 hj
      have hjl := (Array.getElem?_eq_some_iff.1 h2).1
      have := hall j hjl
      rw [getD_both' h1] at this
      cases this
    | succ fuel ih =>
      intro listed a1 w1 hcnt hInv
      refine ⟨fun h0 => done listed a1 w1 hInv (nothing listed a1 w1 hInv h0), fun i hi => ?_⟩
      refine step listed a1 w1 i _ hInv hi (fun a2 w2 hInv2 => ih _ _ _ ?_ hInv2)
      obtain ⟨hun, o, hoi, _⟩ := mem_ready.1 hi
      have hil : i < ops.size := (Array.getElem?_eq_some_iff.1 hoi).1
      have hmem : i ∈ (List.range ops.size).filter fun j => !listed.getD j false := List.mem_filter.2 ⟨List.mem_range.2 hil, by simp only [getD_both' hun]; rfl⟩
      have hnd : ((List.range ops.size).filter fun j => !listed.getD j false).Nodup := List.nodup_range.sublist List.filter_sublist
      have e1 : ((List.range ops.size).filter fun j => !(listed.setIfInBounds i true).getD j false) = ((List.range ops.size).filter fun j => !listed.getD j false).erase i := by
        rw [hnd.erase_eq_filter, List.filter_filter]
        apply List.filter_congr
        intro j hj
        by_cases e : j = i
        · subst e; simp [hInv.1, hil]
        · have : (listed.setIfInBounds i true).getD j false = listed.getD j false := by
            simp [Array.getElem?_setIfInBounds_ne (fun e' => e e'.symm)]
          rw [this]; simp [e]
      rw [e1, List.length_erase_of_mem hmem]
      omega
  have e : frm (fun j => (Array.replicate ops.size false).getD j false) 0 s as vs = s := by
    have key : ∀ (os : List AOp) (vs : List (AV × Heap)) (k : Nat) (s : List (Nat × AV)), frm (fun j => (Array.replicate ops.size false).getD j false) k s os vs = s := by
      intro os
      induction os with
      | nil => intro vs k s; simp only [frm]
      | cons o os ih =>
        intro vs k s
        cases vs with
        | nil => simp only [frm]
        | cons v vs =>
          have : (Array.replicate ops.size false).getD k false = false := getD_rep_false
          rw [frm]
          rw [this]
          exact ih vs (k + 1) s
    exact key _ _ _ _
  have e2 : frh (fun j => (Array.replicate ops.size false).getD j false) 0 h as vs = h := by
    rw [frh_agree (L' := fun _ => false) as vs 0 h (fun j _ _ _ => getD_rep_false)]
    exact frh_none _ _ _ _
  refine main ops.size _ a _ ?_ ⟨by simp, ?_, μ, rfl, ext_drew μ w, ?_, ?_, ?_⟩
  · refine Nat.le_trans (List.length_filter_le _ _) (by simp)
  · intro j o hj hl
    exfalso
    rw [getD_rep_false] at hl
    cases hl
  · rw [e2]; exact HExt.refl _ _
  · rw [e2]; exact hrep_drew hH
  · rw [e, e2]
    exact hT.ext (ext_drew μ w) (HExt.refl _ _)
/-! ### Operations that touch rows of their own -/
/-- its temporaries alone -/
def tmpA (x : AOp) : AOp := ⟨x.dst, .mkfn 0 (x.ins.reads.map .t) [], x.guard⟩
theorem opdL_map : ∀ (l : List Nat), opdL (l.map .t) = l
  | [] => rfl
  | t :: l => by simp [opdL, opdT, opdL_map l]
theorem tmpA_rds (x : AOp) : (tmpA x).rds = x.rds := by
  unfold AOp.rds tmpA
  simp [Instr.reads, opdL_map, opdL]

theorem clo_listed {ops : List Oper} (H : edgesOK 0 (ops.map afterL) = true) {L : Nat → Bool} (hL : ∀ j o, ops[j]? = some o → L j = true → ∀ e ∈ afterL o, L e = true) :
    ∀ (i j : Nat) (oj : Oper), ops[j]? = some oj → (L j = true ∨ ∀ e ∈ afterL oj, L e = true) → ((clo [] (ops.map afterL)).getD j 0).testBit i = true → L i = true := by
  have hE : ∀ j o, ops[j]? = some o → ∀ e ∈ afterL o, e < j := fun j o hj e he => by
    have := edgesOK_spec _ 0 H j (afterL o) (by simp [hj]) e he
    omega
  obtain ⟨_, _, hM⟩ := clo_spec (ops.map afterL) []
  have hM' : ∀ j o, ops[j]? = some o → (clo [] (ops.map afterL)).getD j 0 = maskOf ((clo [] (ops.map afterL)).take j) (afterL o) := fun j o hj => by
    have := hM j (afterL o) (by simp [hj])
    simpa using this
  have key : ∀ (j : Nat) (o : Oper), ops[j]? = some o → (∀ e ∈ afterL o, L e = true) → ∀ i, ((clo [] (ops.map afterL)).getD j 0).testBit i = true → L i = true := by
    intro j
    induction j using Nat.strongRecOn with
    | _ j ih =>
      intro o hj hall i hi
      rw [hM' j o hj] at hi
      obtain ⟨e, he, h1⟩ := testBit_maskOf.1 hi
      have hlt := hE j o hj e he
      rcases h1 with rfl | h1
      · exact hall e he
      · have h2 : ((clo [] (ops.map afterL)).take j).getD e 0 = (clo [] (ops.map afterL)).getD e 0 := by
          simp [List.getD, hlt]
        rw [h2] at h1
        have hle : e < ops.length := by have := (List.getElem?_eq_some_iff.1 hj).1; omega
        have he' := List.getElem?_eq_getElem hle
        exact ih e hlt _ he' (hL e _ he' (hall e he)) i h1
  intro i j oj hj hor hi
  have hall : ∀ e ∈ afterL oj, L e = true := by
    rcases hor with h | h
    · exact hL j oj hj h
    · exact h
  exact key j oj hj hall i hi

theorem region_foot {ro : Option Nat} {n id : Nat} {ops : Array Oper} {as : List AOp} {μ : Mu} {h : Heap} {w : World} {s : List (Nat × AV)} {a : Act} {vs : List (AV × Heap)} {fs : List Foot} {Qx : Exit → Act → World → Prop}
    (hm : P.follows .mixedOrders = true) (hcl : ops.toList.length = as.length ∧ ∀ (i : Nat) (o : Oper), ops.toList[i]? = some o → ∃ x, as[i]? = some x ∧ cDst N o.dst = some x.dst ∧ cGuard ops o.guard = some x.guard ∧ CI P o.op x.ins) (hordT : ordB ops.toList (as.map tmpA) = true) (hordF : fOrd (clo [] (ops.toList.map afterL)) [] fs) (hO : Open S w) (hH : HRep w S μ h) (hT : TRep w S μ h N s a.tmps) (hxG : LexG P as s h vs fs)
    (hK : ∀ a' w' μ', a'.defers = a.defers → Ext μ w μ' w' → HExt μ h μ' (lastH h vs) → HRep w' S μ' (lastH h vs) → TRep w' S μ' (lastH h vs) N (putAll as s vs) a'.tmps → Qx .normal a' w') :
    (Code.region id ops true).wpIn (Fw ro) n P Qx a w := by
  obtain ⟨hlen, hget⟩ := hcl
  have hx := hxG.lex
  have hvl := hx.length
  obtain ⟨hll, hfl⟩ := hxG.lens
  have hmap : ∀ (i : Nat) (x : AOp), as[i]? = some x → (as.map tmpA)[i]? = some (tmpA x) := fun i x hi => by simp [hi]
  have hedge : edgesOK 0 (ops.toList.map afterL) = true := by unfold ordB at hordT; simp only [Bool.and_eq_true] at hordT; exact hordT.1
  refine wpIn_region_any hm ?_
  -- the invariant
  let Inv (listed : Array Bool) (a1 : Act) (w1 : World) : Prop := listed.size = ops.size ∧ (∀ j o, ops.toList[j]? = some o → listed.getD j false = true → ∀ e ∈ afterL o, listed.getD e false = true) ∧
    ∃ μ1 H1, H1.length = h.length ∧ (∀ r, H1[r]? = frr (fun j => listed.getD j false) r 0 h[r]? vs fs) ∧ a1.defers = a.defers ∧ Ext μ w μ1 w1 ∧ HExt μ h μ1 H1 ∧ HRep w1 S μ1 H1 ∧ TRep w1 S μ1 H1 N (frm (fun j => listed.getD j false) 0 s as vs) a1.tmps
  have hops : ∀ (j : Nat), ops.toList[j]? = ops[j]? := fun j => by simp
  -- all listed: done
  have done : ∀ (listed : Array Bool) (a1 : Act) (w1 : World), Inv listed a1 w1 → (∀ j, j < ops.size → listed.getD j false = true) → Qx .normal a1 w1 := by
    rintro listed a1 w1 ⟨h1, h2, μ1, H1, hH1, hrow, k0, k1, k2, k3, k4⟩ hall
    have hL : ∀ j, j < as.length → (fun j => listed.getD j false) (0 + j) = true := fun j hj => by
      rw [Nat.zero_add]; exact hall j (by rw [← hlen] at hj; simpa using hj)
    have e1 : H1 = lastH h vs := List.ext_getElem? fun r => by rw [hrow r]; exact frr_all r as vs fs 0 s h hxG hL
    rw [e1] at k2 k3 k4
    rw [frm_all as vs 0 s hvl hL] at k4
    exact hK a1 w1 μ1 k0 k1 k2 k3 k4
  -- nothing ready: all listed
  have nothing : ∀ (listed : Array Bool) (a1 : Act) (w1 : World), Inv listed a1 w1 → Region.ready .any ops listed = [] → ∀ j, j < ops.size → listed.getD j false = true := by
    rintro listed a1 w1 ⟨h1, h2, _⟩ hr j
    induction j using Nat.strongRecOn with
    | _ j ih =>
      intro hj
      cases hlj : listed.getD j false with
      | true => rfl
      | false =>
        exfalso
        have hoj : ops[j]? = some ops[j] := Array.getElem?_eq_getElem hj
        have hmem : j ∈ Region.ready .any ops listed := by
          rw [mem_ready]
          refine ⟨getD_in' (by omega) hlj, ops[j], hoj, fun e he hb => ?_⟩
          have hea : e.on ∈ afterL ops[j] := by
            unfold afterL
            exact List.mem_map.2 ⟨e, List.mem_filter.2 ⟨by simpa using he, hb⟩, rfl⟩
          have hlt := (ordB_spec hordT (L := fun _ => true) (fun _ _ _ _ _ _ => rfl)).1 j _ (by rw [hops]; exact hoj) e.on hea
          exact ih e.on hlt (by omega)
        rw [hr] at hmem
        cases hmem
  -- one operation
  have step : ∀ (listed : Array Bool) (a1 : Act) (w1 : World) (i : Nat) (K : Act → World → Prop), Inv listed a1 w1 → i ∈ Region.ready .any ops listed →
      (∀ a2 w2, Inv (listed.setIfInBounds i true) a2 w2 → K a2 w2) → wpOpIn (Fw ro) n P ops Qx i K a1 w1 := by
    rintro listed a1 w1 i K ⟨h1, h2, μ1, H1, hH1, hrow, k0, k1, k2, k3, k4⟩ hr hK'
    obtain ⟨hun, o, hoi, hall⟩ := mem_ready.1 hr
    have hil : i < ops.size := (Array.getElem?_eq_some_iff.1 hoi).1
    obtain ⟨x, hxi, hd, hg, hi⟩ := hget i o (by rw [hops]; exact hoi)
    obtain ⟨v, f, Hi, hvi, hfi, hHil, hHi, hopv, hopf, hvl2⟩ := lexG_at 0 hxG i x hxi
    have hafter : ∀ e ∈ afterL o, listed.getD e false = true := by
      intro e he
      unfold afterL at he
      obtain ⟨ed, h3, rfl⟩ := List.mem_map.1 he
      obtain ⟨h4, h5⟩ := List.mem_filter.1 h3
      exact hall ed (by simpa using h4) h5
    have hspec := (ordB_spec hordT (L := fun j => listed.getD j false) h2).2
    have hclo := clo_listed hedge (L := fun j => listed.getD j false) h2
    have huf : listed.getD i false = false := getD_both' hun
    -- the writers of what it reads have been carried out just as in the text's order
    have hwr : ∀ (j : Nat) (y : AOp), as[j]? = some y → (∀ t, y.dst = some t → t ∈ x.rds ∨ x.dst = some t → listed.getD j false = decide (j < i)) := by
      intro j y hj t ht hrd
      rcases Nat.lt_trichotomy j i with hlt | rfl | hgt
      · have hcl : clash (tmpA y) (tmpA x) = true := by
          rcases hrd with hr | hr
          · exact clash_rds ht (by rw [tmpA_rds]; exact hr)
          · exact clash_dst ht hr
        have := hspec j i o (tmpA y) (tmpA x) (by rw [hops]; exact hoi) (hmap _ _ hj) (hmap _ _ hxi) hlt hcl (.inr hafter)
        rw [this]; simp [hlt]
      · rw [huf]; simp
      · have hjl : j < ops.size := by
          have := (List.getElem?_eq_some_iff.1 hj).1
          rw [← hlen] at this; simpa using this
        have hcl : clash (tmpA x) (tmpA y) = true := by
          rcases hrd with hr | hr
          · exact clash_rds' ht (by rw [tmpA_rds]; exact hr)
          · exact clash_dst hr ht
        cases hlj : listed.getD j false with
        | false => simp; omega
        | true =>
          exfalso
          have := hspec i j ops[j] (tmpA x) (tmpA y) (by rw [hops]; exact Array.getElem?_eq_getElem hjl) (hmap _ _ hxi) (hmap _ _ hj) hgt hcl (.inl hlj)
          rw [huf] at this; cases this
    -- so have the writers of the rows that it touches
    have hwh : ∀ (r : Nat), f.tch r = true ∨ f.wr r = true → ∀ (j : Nat) (g : Foot), fs[j]? = some g → g.wr r = true → listed.getD j false = decide (j < i) := by
      intro r hxh j g hj hyw
      have htw : ∀ {q : Foot}, q.wr r = true → q.tch r = true := fun {q} hq => by
        cases q with
        | all => rfl
        | rw a w => simp only [Foot.wr] at hq; simp only [Foot.tch, hq, Bool.or_true]
      have hft : f.tch r = true := hxh.elim (fun h => h) htw
      rcases Nat.lt_trichotomy j i with hlt | rfl | hgt
      · have hc := hordF j i g f (by simpa using hj) (by simpa using hfi) (Nat.zero_le _) hlt
        rcases hc with hc | hc
        · have := (conf_spec hc r).1 hyw
          rw [hft] at this; cases this
        · have := hclo j i o (by rw [hops]; exact hoi) (.inr hafter) (by simpa using hc)
          rw [this]; simp [hlt]
      · rw [huf]; simp
      · have hjl : j < ops.size := by
          have := (List.getElem?_eq_some_iff.1 hj).1
          rw [← hfl, ← hlen] at this; simpa using this
        cases hlj : listed.getD j false with
        | false => simp; omega
        | true =>
          exfalso
          have hc := hordF i j f g (by simpa using hfi) (by simpa using hj) (Nat.zero_le _) hgt
          rcases hc with hc | hc
          · have := (conf_spec hc r).2 hft
            rw [hyw] at this; cases this
          · have := hclo i j ops[j] (by rw [hops]; exact Array.getElem?_eq_getElem hjl) (.inl hlj) (by simpa using hc)
            rw [huf] at this; cases this
    have hcg : ∀ t ∈ x.rds, getT (frm (fun j => decide (j < 0 + i)) 0 s as vs) t = getT (frm (fun j => listed.getD j false) 0 s as vs) t := fun t ht => frm_agree as vs 0 s s rfl (fun j y hj hyd => by
      simp only [Nat.zero_add]
      exact (hwr j y hj t hyd (.inl ht)).symm)
    obtain ⟨_, H2, hH2, hrow2, hop1⟩ := (hopv.congr hcg).local_ (hopf.congr hcg) hvl2 (h1 := H1) (hH1.trans hHil.symm) (fun r hr' => by
      rw [hrow r, hHi r]
      refine frr_agree vs fs 0 _ (fun j g hj hyw => ?_)
      simp only [Nat.zero_add]
      exact hwh r (.inl hr') j g hj hyw)
    -- the frame behind it
    have hset : ∀ j, (listed.setIfInBounds i true).getD j false = (listed.getD j false || j == i) := by
      intro j
      by_cases e : j = i
      · subst e; simp [h1, hil]
      · have : (listed.setIfInBounds i true).getD j false = listed.getD j false := by
          simp [Array.getElem?_setIfInBounds_ne (fun e' => e e'.symm)]
        rw [this]; simp [e]
    have hfr : ∀ t, getT (putT (frm (fun j => listed.getD j false) 0 s as vs) x.dst v.1) t = getT (frm (fun j => (listed.setIfInBounds i true).getD j false) 0 s as vs) t := by
      intro t
      by_cases hdt : x.dst = some t
      · rw [hdt, putT_same]
        refine (frm_more as vs 0 i s x v hxi hvi hdt (L := fun j => listed.getD j false) (fun j => by rw [Nat.zero_add]; exact hset j) (fun j y hj hyd hl => ?_)).symm
        rw [Nat.zero_add] at hl
        have := hwr j y hj t hyd (.inr hdt)
        rw [hl] at this
        simpa using this.symm
      · rw [putT_other hdt]
        refine frm_agree as vs 0 s s rfl (fun j y hj hyd => ?_)
        rw [Nat.zero_add, hset j]
        have : j ≠ i := by
          intro e; subst e
          rw [hxi] at hj; cases hj
          exact hdt hyd
        simp [this]
    have hfh : ∀ r, H2[r]? = frr (fun j => (listed.setIfInBounds i true).getD j false) r 0 h[r]? vs fs := by
      intro r
      rw [hrow2 r]
      cases hw : f.wr r with
      | true =>
        refine (frr_more vs fs 0 i _ v f hvi hfi hw (L := fun j => listed.getD j false) (fun j => by rw [Nat.zero_add]; exact hset j) (fun j g hj hyw hl => ?_)).symm
        rw [Nat.zero_add] at hl
        have := hwh r (.inr hw) j g hj hyw
        rw [hl] at this
        simpa using this.symm
      | false =>
        simp only
        rw [hrow r]
        refine frr_agree vs fs 0 _ (fun j g hj hyw => ?_)
        rw [Nat.zero_add, hset j]
        have : j ≠ i := by
          intro e; subst e
          rw [hfi] at hj; cases hj
          rw [hw] at hyw; cases hyw
        simp [this]
    have hclosed : ∀ j o', ops.toList[j]? = some o' → (listed.setIfInBounds i true).getD j false = true → ∀ e ∈ afterL o', (listed.setIfInBounds i true).getD e false = true := by
      intro j o' hj hlj e he
      rw [hset] at hlj ⊢
      simp only [Bool.or_eq_true, beq_iff_eq] at hlj ⊢
      rcases hlj with hlj | rfl
      · exact .inl (h2 j o' hj hlj e he)
      · rw [hops, hoi] at hj
        cases hj
        exact .inl (hafter e he)
    have hO1 : Open S w1 := fun b hb => hO b (Nat.le_trans k1.grow hb)
    unfold wpOpIn
    simp only [hoi]
    have carry : RunOK P H1 (frm (fun j => listed.getD j false) 0 s as vs) x.ins (v.1, H2) → o.wpIn (Fw ro) n P a1 w1 K Qx := by
      intro hrun
      refine instr_wp hO1 k3 k4 hi hrun.1 ?_
      intro u w' μ' av h' he hh hH' hv hq
      cases hq
      refine hK' _ _ ⟨by simp [h1], hclosed, μ', H2, hH2.trans hHil, hfh, ?_, k1.trans he, k2.trans hh, hH', ((k4.ext he hh).put hd hv).congr (fun t => (hfr t).symm)⟩
      rw [← k0]
      cases o.dst <;> rfl
    have pass : (v.1, H2) = (AV.tup [], H1) → K (a1.put o.dst undef) w1 := by
      intro hv
      have hv1 : v.1 = .tup [] := congrArg Prod.fst hv
      have hv2 := congrArg Prod.snd hv
      simp only at hv2
      rw [hv1] at hfr
      refine hK' _ _ ⟨by simp [h1], hclosed, μ1, H2, hH2.trans hHil, hfh, ?_, k1, ?_, ?_, ?_⟩
      · rw [← k0]
        cases o.dst <;> rfl
      · rw [hv2]; exact k2
      · rw [hv2]; exact k3
      · rw [hv2]; exact (k4.put hd und_rep).congr (fun t => (hfr t).symm)
    unfold OpOK at hop1
    cases hgx : x.guard with
    | none =>
      rw [hgx] at hop1 hg
      rw [wanted_none hg]
      exact carry hop1
    | some p =>
      obtain ⟨dg, want⟩ := p
      rw [hgx] at hop1 hg
      rcases hop1 with ⟨b, hb, hy, hn⟩ | ⟨hb, hn⟩
      · rw [wanted_of k4 hg hb]
        by_cases hbw : b = want
        · have : (b == want) = true := by simp [hbw]
          rw [this]
          exact carry (hy hbw)
        · have : (b == want) = false := by simp [hbw]
          rw [this]
          exact ⟨about_wide, pass (hn hbw)⟩
      · rw [wanted_und k4 hg hb]
        exact ⟨about_wide, pass hn⟩
  -- count what is left
  have main : ∀ (fuel : Nat) (listed : Array Bool) (a1 : Act) (w1 : World), ((List.range ops.size).filter fun j => !listed.getD j false).length ≤ fuel → Inv listed a1 w1 → wpAnyIn (Fw ro) n P .any ops Qx fuel listed a1 w1 := by
    intro fuel
    induction fuel with
    | zero =>
      intro listed a1 w1 hcnt hInv
      have hall : ∀ j, j < ops.size → listed.getD j false = true := by
        intro j hj
        cases hl : listed.getD j false with
        | true => rfl
        | false =>
          exfalso
          have : j ∈ (List.range ops.size).filter fun j => !listed.getD j false := List.mem_filter.2 ⟨List.mem_range.2 hj, by simp only [hl]; rfl⟩
          have h0 := List.eq_nil_of_length_eq_zero (Nat.le_zero.1 hcnt)
          rw [h0] at this; cases this
      refine ⟨?_, done listed a1 w1 hInv hall⟩
      apply List.eq_nil_iff_forall_not_mem.2
      intro j hj
      obtain ⟨h1, o, h2, _⟩ := mem_ready.1 hj
      have hjl := (Array.getElem?_eq_some_iff.1 h2).1
      have := hall j hjl
      rw [getD_both' h1] at this
      cases this
    | succ fuel ih =>
      intro listed a1 w1 hcnt hInv
      refine ⟨fun h0 => done listed a1 w1 hInv (nothing listed a1 w1 hInv h0), fun i hi => ?_⟩
      refine step listed a1 w1 i _ hInv hi (fun a2 w2 hInv2 => ih _ _ _ ?_ hInv2)
      obtain ⟨hun, o, hoi, _⟩ := mem_ready.1 hi
      have hil : i < ops.size := (Array.getElem?_eq_some_iff.1 hoi).1
      have hmem : i ∈ (List.range ops.size).filter fun j => !listed.getD j false := List.mem_filter.2 ⟨List.mem_range.2 hil, by simp only [getD_both' hun]; rfl⟩
      have hnd : ((List.range ops.size).filter fun j => !listed.getD j false).Nodup := List.nodup_range.sublist List.filter_sublist
      have e1 : ((List.range ops.size).filter fun j => !(listed.setIfInBounds i true).getD j false) = ((List.range ops.size).filter fun j => !listed.getD j false).erase i := by
        rw [hnd.erase_eq_filter, List.filter_filter]
        apply List.filter_congr
        intro j hj
        by_cases e : j = i
        · subst e; simp [hInv.1, hil]
        · have : (listed.setIfInBounds i true).getD j false = listed.getD j false := by
            simp [Array.getElem?_setIfInBounds_ne (fun e' => e e'.symm)]
          rw [this]; simp [e]
      rw [e1, List.length_erase_of_mem hmem]
      omega
  have e : frm (fun j => (Array.replicate ops.size false).getD j false) 0 s as vs = s := by
    have key : ∀ (os : List AOp) (vs : List (AV × Heap)) (k : Nat) (s : List (Nat × AV)), frm (fun j => (Array.replicate ops.size false).getD j false) k s os vs = s := by
      intro os
      induction os with
      | nil => intro vs k s; simp only [frm]
      | cons o os ih =>
        intro vs k s
        cases vs with
        | nil => simp only [frm]
        | cons v vs =>
          have : (Array.replicate ops.size false).getD k false = false := getD_rep_false
          rw [frm]
          rw [this]
          exact ih vs (k + 1) s
    exact key _ _ _ _
  refine main ops.size _ a _ ?_ ⟨by simp, ?_, μ, h, rfl, fun r => ?_, rfl, ext_drew μ w, ?_, ?_, ?_⟩
  · refine Nat.le_trans (List.length_filter_le _ _) (by simp)
  · intro j o hj hl
    exfalso
    rw [getD_rep_false] at hl
    cases hl
  · rw [frr_agree (L' := fun _ => false) vs fs 0 _ (fun j _ _ _ => getD_rep_false)]
    exact (frr_none _ _ _ _).symm
  · exact HExt.refl _ _
  · exact hrep_drew hH
  · rw [e]
    exact hT.ext (ext_drew μ w) (HExt.refl _ _)
/-! ### Rows kept free -/
def needR : Instr → Bool
  | .box _ => true
  | .alloc _ => true
  | .mk _ _ _ _ => true
  | _ => false
def cntR : List AOp → Nat
  | [] => 0
  | o :: r => match needR o.ins with | true => cntR r + 1 | false => cntR r
def genAs : Nat → List AOp → List AOp
  | _, [] => []
  | d, o :: r => ⟨o.dst, genI d o.ins, o.guard⟩ :: genAs (match needR o.ins with | true => d - 1 | false => d) r

theorem genAs_get : ∀ (as : List AOp) (d : Nat), (genAs d as).length = as.length ∧ ∀ (i : Nat) (x : AOp), as[i]? = some x → ∃ d', (genAs d as)[i]? = some ⟨x.dst, genI d' x.ins, x.guard⟩
  | [], _ => ⟨rfl, fun i x h => by simp at h⟩
  | o :: r, d => by
    obtain ⟨h1, h2⟩ := genAs_get r (match needR o.ins with | true => d - 1 | false => d)
    refine ⟨by simp [genAs, h1], fun i x hi => ?_⟩
    cases i with
    | zero => simp at hi; subst hi; exact ⟨d, rfl⟩
    | succ i =>
      obtain ⟨d', e⟩ := h2 i x (by simpa using hi)
      exact ⟨d', by simpa [genAs] using e⟩

theorem comp_gen {os : List Oper} {all : Array Oper} {xs : List AOp} {d : Nat} (h : cAOps P N all os = some xs) : os.length = (genAs d xs).length ∧ ∀ (i : Nat) (o : Oper), os[i]? = some o → ∃ x, (genAs d xs)[i]? = some x ∧ cDst N o.dst = some x.dst ∧ cGuard all o.guard = some x.guard ∧ CI P o.op x.ins := by
  obtain ⟨h1, h2⟩ := (compL_of h).get
  obtain ⟨g1, g2⟩ := genAs_get xs d
  refine ⟨by rw [g1]; exact h1, fun i o ho => ?_⟩
  obtain ⟨x, k1, k2⟩ := h2 i o ho
  obtain ⟨a, b, c⟩ := cAOp_spec k2
  obtain ⟨d', e⟩ := g2 i x k1
  exact ⟨_, e, a, b, .inr (.inr ⟨_, d', c, rfl⟩)⟩

theorem reserve1 {w : World} {μ : Mu} {h : Heap} (hH : HRep w S μ h) : Ext μ w (μ ++ [none]) w ∧ HExt μ h (μ ++ [none]) (h ++ [.res]) ∧ HRep w S (μ ++ [none]) (h ++ [.res]) := by
  have hE : Ext μ w (μ ++ [none]) w := ⟨rfl, rfl, rfl, Nat.le_refl _, fun _ _ _ => rfl, fun b ⟨r, m, hm⟩ => by
    rcases mu_get_append hm with h1 | ⟨_, h1⟩
    · exact .inl ⟨r, m, h1⟩
    · cases h1⟩
  have hX := hext_append hH.len none .res
  refine ⟨hE, hX, ?_⟩
  exact {
    len := by simp [hH.len]
    inj := fun i j b m m' h1 h2 => by
      rcases mu_get_append h1 with a1 | ⟨_, a1⟩ <;> rcases mu_get_append h2 with a2 | ⟨_, a2⟩
      · exact hH.inj i j b m m' a1 a2
      all_goals first | (cases a1; done) | (cases a2; done)
    lt := fun i b m h1 => by
      rcases mu_get_append h1 with a1 | ⟨_, a1⟩
      · exact hH.lt i b m a1
      · cases a1
    own := fun i b m h1 => by
      rcases mu_get_append h1 with a1 | ⟨_, a1⟩
      · exact hH.own i b m a1
      · cases a1
    rows := fun i row h1 hl => by
      rcases Nat.lt_or_ge i h.length with hi | hi
      · rw [List.getElem?_append_left hi] at h1
        obtain ⟨b, m, e, H⟩ := hH.rows i row h1 hl
        refine ⟨b, m, by rw [List.getElem?_append_left (by rw [hH.len]; exact hi)]; exact e, RRep.ext hH ⟨i, e⟩ hE hX rfl ?_ H⟩
        intro d db dm _ hd hd'
        exact ⟨by rw [List.getElem?_append_left (List.getElem?_eq_some_iff.1 hd).1]; exact hd, by rw [List.getElem?_append_left (List.getElem?_eq_some_iff.1 hd').1]; exact hd'⟩
      · rw [List.getElem?_append_right hi] at h1
        cases hd : i - h.length with
        | succ n => simp [hd] at h1
        | zero => simp [hd] at h1; subst h1; cases hl }

theorem reserve {w : World} {μ : Mu} {h : Heap} (hH : HRep w S μ h) : ∀ n, ∃ μ', Ext μ w μ' w ∧ HExt μ h μ' (h ++ List.replicate n .res) ∧ HRep w S μ' (h ++ List.replicate n .res)
  | 0 => ⟨μ, Ext.refl _ _, by simpa using HExt.refl _ _, by simpa using hH⟩
  | n + 1 => by
    obtain ⟨μ1, h1, h2, h3⟩ := reserve hH n
    obtain ⟨k1, k2, k3⟩ := reserve1 h3
    refine ⟨μ1 ++ [none], h1.trans k1, ?_, ?_⟩
    · rw [List.replicate_succ', ← List.append_assoc]; exact h2.trans k2
    · rw [List.replicate_succ', ← List.append_assoc]; exact k3
end
end GoV
