/- Loads, slices, new rows. -/
import Derived.Test.YtligakiolapkkaaDoorV6
set_option linter.unusedSectionVars false
namespace GoV
open Go

section
variable [GTab] {P : Program} {S : Nat → Prop} {μ : Mu} {h : Heap} {w : World} {C : CallSem}

theorem nonagg_size {t : Ty} (ht : t.isAgg = false) : t.size = 1 := by cases t <;> simp [Ty.isAgg] at ht <;> rfl

theorem cellsAt_of_block {b : Nat} {c : Array Value} {e : TypeId} {fz : Nat × Nat} (hb : w.heap[b]? = some (.cells c e fz)) (off n : Nat) : cellsAt w b off ((c.toList.drop off).take n) := by
  intro j hj
  rw [Go.cell_of_row w b (off + j) c e fz hb]
  simp at hj
  rw [List.getElem?_take, if_pos (by omega), List.getElem?_drop]
  simp

theorem run_loadVar_agg {t : TypeId} {sz : Nat} {b off : Nat} {c : List Value} (hz : szOf P t = some (sz, true)) (hc : cellsAt w b off c) (hl : c.length = sz) :
    (loadVar t ⟨b, off, none⟩).run P w = .ok (.agg c.toArray) w := by
  obtain ⟨inf, d, _, _, _, hag, hso⟩ := sz_info (w := w) hz
  unfold loadVar
  have := run_loadCells_list (P := P) w ⟨b, off, none⟩ c (fun j v hj => by rw [Addr.add_lit, hc j (List.getElem?_eq_some_iff.1 hj).1]; exact hj)
  rw [hl] at this
  simp [hag, hso, this]

theorem run_loadVar_one {t : TypeId} {sz : Nat} {b off : Nat} {u : Value} (hz : szOf P t = some (sz, false)) (hc : w.cell? ⟨b, off, none⟩ = some u) :
    (loadVar t ⟨b, off, none⟩).run P w = .ok u w := by
  obtain ⟨inf, d, _, _, _, hag, hso⟩ := sz_info (w := w) hz
  unfold loadVar
  simp [hag, hc]

/-- data at cells, loaded -/
theorem run_loadVar_dat {t : TypeId} {sz : Nat} {ag : Bool} {b off : Nat} {c : List Value} {τ : Ty} {x : τ.den} (hz : szOf P t = some (sz, ag)) (hc : cellsAt w b off c) (hl : c.length = τ.size)
    (hts : τ.size = sz) (hta : τ.isAgg = ag) (hd : DRep w (Sd S μ) τ x c) : ∃ u, (loadVar t ⟨b, off, none⟩).run P w = .ok u w ∧ ARep w S μ h (.dat τ x) u := by
  cases ag with
  | true =>
    refine ⟨_, run_loadVar_agg hz hc (hl.trans hts), ?_⟩
    unfold ARep DVal
    rw [hta]
    exact ⟨c, rfl, hd⟩
  | false =>
    have h1 := nonagg_size hta
    obtain ⟨u, rfl⟩ := List.length_eq_one_iff.1 (hl.trans h1)
    have h0 := hc 0 (by simp)
    refine ⟨u, run_loadVar_one hz (by simpa using h0), ?_⟩
    unfold ARep DVal
    rw [hta]
    exact hd

/-- element i of a row of data -/
theorem seq_elem {τ : Ty} {xs : List τ.den} {c : List Value} {T : Nat → Prop} {i : Nat} (hd : DRep w T (.arr xs.length τ) xs c) (hi : i < xs.length) :
    DRep w T τ xs[i] ((c.drop (i * τ.size)).take τ.size) ∧ ((c.drop (i * τ.size)).take τ.size).length = τ.size := by
  obtain ⟨_, css, hl, e, hdd⟩ := hd
  have hic : i < css.length := by rw [hl]; exact hi
  have hlen : ∀ c ∈ css, c.length = τ.size := by
    intro c hc
    obtain ⟨q, hq', e⟩ := List.getElem_of_mem hc
    have := DRep.len τ _ _ (hdd q (by omega) hq')
    rw [e] at this; exact this
  have key : ∀ (css : List (List Value)) (p : Nat), (∀ c ∈ css, c.length = τ.size) → (hp : p < css.length) → (css.flatten.drop (p * τ.size)).take τ.size = css[p] := by
    intro css
    induction css with
    | nil => intro p _ hp; simp at hp
    | cons c css ih =>
      intro p hall hp
      have hc0 := hall c (by simp)
      cases p with
      | zero => simp [← hc0]
      | succ p =>
        have : (p + 1) * τ.size = c.length + p * τ.size := by rw [hc0, Nat.add_mul]; omega
        rw [List.flatten_cons, this, ← List.drop_drop, List.drop_left]
        simpa using ih p (fun d hd => hall d (List.mem_cons_of_mem _ hd)) (by simpa using hp)
  rw [e, key css i hlen hic]
  exact ⟨hdd i hi hic, hlen _ (List.getElem_mem hic)⟩

theorem snd_load {o : Oper} {t : TypeId} {x : Operand} (ho : o.op = .load t x) : Sound P o := by
  intro S μ h w C hC N s a Q I _ hH hT hc H
  rw [ho] at hc
  simp only [cOp0] at hc
  obtain ⟨x', h1, hc⟩ := bindSome hc
  obtain ⟨⟨sz, ag⟩, hz, rfl⟩ := mapSome hc
  have rx := ev_rep hT h1
  have hexec : ∀ b off, a.eval x = .pointer (some ⟨b, off, none⟩) → (execOp a.eval o).run P w = ((loadVar t ⟨b, off, none⟩).run P w).andThen fun v w' => .ok (.value v) w' := by
    intro b off e; unfold execOp; simp [ho, Instr.loadAt, Instr.sureAddr, e]
  generalize a.eval x = vx at *
  simp only [vop] at H
  generalize ev s x' = X at *
  split at H
  · rename_i τ y
    obtain ⟨⟨hts, hta⟩, hq⟩ := H
    obtain ⟨b, off, c, e, hs, hlt, hcl, hca, hd⟩ := rep_imm rx
    obtain ⟨u, hr, hu⟩ := run_loadVar_dat hz hca hcl hts hta hd
    exact Out.same hH (v := u) (by rw [hexec _ _ e, hr]; rfl) hu hq
  · rename_i r off
    split at H
    · rename_i cs hr
      obtain ⟨av, hs, hq⟩ := Tr.sem_ofOpt H
      obtain ⟨b, m, hm, e⟩ := rep_ptr_box hr rx
      obtain ⟨b', m', hm', c, ty, hb, hcs, hcl, hl, h1c⟩ := hH.row hr rfl
      rw [hm] at hm'; cases hm'
      obtain ⟨u, hu, hagg, hone⟩ := sliceOf_pre hz hl (by simpa using h1c) hs
      refine Out.same hH (v := u) ?_ hu hq
      rw [hexec _ _ e]
      cases ag with
      | true =>
        obtain ⟨l, rfl, rfl, hll⟩ := hagg rfl
        rw [run_loadVar_agg hz (cellsAt_of_block hb off sz) hll]; rfl
      | false =>
        rw [run_loadVar_one hz (u := u)]
        · rfl
        · rw [Go.cell_of_row w b off c ty (0, 0) hb]; simpa using hone rfl
    · exact H.elim
  · rename_i r L i
    split at H
    · rename_i τ xs ex hr
      obtain ⟨⟨⟨hL, hi⟩, hts, hta⟩, hq⟩ := H
      obtain ⟨b, m, hm, e⟩ := rep_eptr hr hL rx
      obtain ⟨b', m', hm', c, ty, hb, hcs, hpos, hle, hex, hd⟩ := hH.row hr rfl
      rw [hm] at hm'; cases hm'
      obtain ⟨hd', hl'⟩ := seq_elem hd hi
      have hx : xs.getD i τ.dflt = xs[i] := by simp [List.getD, hi]
      have e2 : (((c.toList.take (xs.length * τ.size)).drop (i * τ.size)).take τ.size) = ((c.toList.drop (i * τ.size)).take τ.size) := by
        rw [List.drop_take, List.take_take]
        congr 1
        have : (i + 1) * τ.size ≤ xs.length * τ.size := Nat.mul_le_mul_right _ hi
        rw [Nat.add_mul] at this
        omega
      rw [e2] at hd' hl'
      obtain ⟨u, hr', hu⟩ := run_loadVar_dat (h := h) hz (cellsAt_of_block hb (i * τ.size) τ.size) hl' hts hta hd'
      exact Out.same hH (v := u) (by rw [hexec _ _ e, hr']; rfl) (by rw [hx]; exact hu) hq
    · rename_i τ xs hr
      obtain ⟨⟨⟨hL, hi⟩, hts, hta⟩, hq⟩ := H
      obtain ⟨b, m, hm, e⟩ := rep_eptr_lst hr (by omega) hL rx
      obtain ⟨b', m', hm', c, ty, hb, hcs, hpos, hle, hex, hd⟩ := hH.row hr (lst_live (by omega))
      rw [hm] at hm'; cases hm'
      obtain ⟨hd', hl'⟩ := seq_elem hd hi
      have hx : xs.getD i τ.dflt = xs[i] := by simp [List.getD, hi]
      have e2 : (((c.toList.take (xs.length * τ.size)).drop (i * τ.size)).take τ.size) = ((c.toList.drop (i * τ.size)).take τ.size) := by
        rw [List.drop_take, List.take_take]
        congr 1
        have : (i + 1) * τ.size ≤ xs.length * τ.size := Nat.mul_le_mul_right _ hi
        rw [Nat.add_mul] at this
        omega
      rw [e2] at hd' hl'
      obtain ⟨u, hr', hu⟩ := run_loadVar_dat (h := h) hz (cellsAt_of_block hb (i * τ.size) τ.size) hl' hts hta hd'
      exact Out.same hH (v := u) (by rw [hexec _ _ e, hr']; rfl) (by rw [hx]; exact hu) hq
    · exact H.elim
  · exact H.elim

theorem snd_fldA {o : Oper} {t : TypeId} {x : Operand} {f : Nat} (ho : o.op = .fieldAddr t x f) : Sound P o := by
  intro S μ h w C hC N s a Q I _ hH hT hc H
  rw [ho] at hc
  simp only [cOp0] at hc
  obtain ⟨x', h1, hc⟩ := bindSome hc
  split at hc
  · rename_i fs hu
    obtain ⟨fd, hf, hc⟩ := bindSome hc
    split at hc
    case h_2 => cases hc
    rename_i sz ag hz
    cases hc
    have rx := ev_rep hT h1
    have hexec : ∀ b off, a.eval x = .pointer (some ⟨b, off, none⟩) → (execOp a.eval o).run P w = ((fieldPlace ⟨b, off, none⟩ fd).run P w).andThen fun v w' => .ok (.value (.pointer (some v))) w' := by
      intro b off e; unfold execOp
      cases hp : (fieldPlace ⟨b, off, none⟩ fd).run P w <;> simp [ho, Instr.fieldAt, Instr.sureAddr, e, run_underlying hu, hf, hp]
    generalize a.eval x = vx at *
    simp only [vop] at H
    generalize ev s x' = X at *
    split at H
    · rename_i r off
      split at H
      · rename_i cs hr
        obtain ⟨b, m, hm, e⟩ := rep_ptr_box hr rx
        have hfp : (fieldPlace ⟨b, off, none⟩ fd).run P w = .ok ⟨b, off + fd.offset, none⟩ w := by
          obtain ⟨_, _, _, _, _, _, hso⟩ := sz_info (w := w) hz
          unfold fieldPlace
          simp [hso, Addr.add_lit]
        refine Out.same hH (v := .pointer (some ⟨b, off + fd.offset, none⟩)) (by rw [hexec _ _ e, hfp]; rfl) ?_ H
        have e := getR_some hr rfl
        unfold ARep
        exact ⟨rfl, ⟨(List.getElem?_eq_some_iff.1 e).1, genOK_zero (by rw [e]; simp)⟩, fun _ => ⟨b, m, hm, fun _ => rfl⟩⟩
      · exact H.elim
    · exact H.elim
  · cases hc

theorem run_bound {x : Option Operand} {x' : Option Opd} {d : Nat} {N : Nat} {s : List (Nat × AV)} {a : Act} {Q : Nat → Prop} (hT : TRep w S μ h N s a.tmps) (hx : cOpdO x = some x') (H : (bnd s d x').sem C Q) :
    ∃ l : Nat, Q l ∧ (x = none → l = d) ∧ ∀ o, x = some o → ∃ k, a.eval o = .int k (l : Int) := by
  cases x with
  | none => simp [cOpdO] at hx; subst hx; exact ⟨d, H, fun _ => rfl, fun o e => by cases e⟩
  | some o =>
    simp only [cOpdO] at hx
    obtain ⟨y', h1, rfl⟩ := mapSome hx
    have ry := ev_rep hT h1
    unfold bnd at H
    simp only at H
    split at H
    · rename_i k n e
      rw [e, rep_int] at ry
      obtain ⟨h0, hq⟩ := H
      exact ⟨Int.toNat n, hq, (fun e => by cases e), fun o' e => by cases e; exact ⟨k, by rw [ry, Int.toNat_of_nonneg h0]⟩⟩
    · exact H.elim

theorem subL_rep {τ : Ty} {xs : List τ.den} {T : Nat → Prop} {b off len cap l u : Nat} (hl : l ≤ u) (hu : u ≤ xs.length) (hlen : xs.length = len) (hcap : len ≤ cap) 
    (H : DRep w T (.list τ) xs [.slice (some ⟨b, off, none⟩) len cap]) : DRep w T (.list τ) (subL xs l (u - l)) [.slice (if cap = l then some ⟨b, off, none⟩ else some ⟨b, off + l * τ.size, none⟩) (u - l) (cap - l)] := by
  obtain ⟨ad, cap', e, hc, hne⟩ := H
  simp only [List.cons.injEq, Value.slice.injEq, and_true] at e
  obtain ⟨e1, e2, e3⟩ := e
  subst e1; subst e3
  have hll : (subL xs l (u - l)).length = u - l := by simp [subL]; omega
  refine ⟨_, _, by rw [hll], by rw [hll]; omega, fun hne' => ?_⟩
  have hlt : l < u := by
    rcases Nat.lt_or_ge l u with h | h
    · exact h
    · exfalso; apply hne'; apply List.eq_nil_of_length_eq_zero; omega
  obtain ⟨b', off', e, hs, hb, hall⟩ := hne (by intro e; rw [e] at hu; simp at hu; omega)
  cases e
  refine ⟨b, off + l * τ.size, by rw [if_neg (by omega)], hs, hb, fun i hi => ?_⟩
  rw [hll] at hi
  have hil : l + i < xs.length := by omega
  obtain ⟨c, h1, h2, h3⟩ := hall (l + i) hil
  refine ⟨c, h1, by rw [Nat.add_mul] at h2; rw [Nat.add_assoc]; exact h2, ?_⟩
  have : (subL xs l (u - l))[i]'(by omega) = xs[l + i] := by simp [subL]
  rw [this]; exact h3

theorem snd_slice {o : Oper} {t : TypeId} {x : Operand} {lo hi mx : Option Operand} (ho : o.op = .slice t x lo hi mx) : Sound P o := by
  intro S μ h w C hC N s a Q I _ hH hT hc H
  rw [ho] at hc
  cases mx with
  | some m => simp only [cOp0] at hc; cases hc
  | none =>
  simp only [cOp0] at hc
  obtain ⟨x', h1, hc⟩ := bindSome hc
  obtain ⟨lo', h2, hc⟩ := bindSome hc
  obtain ⟨hi', h3, hc⟩ := bindSome hc
  split at hc
  · rename_i e hu
    obtain ⟨⟨sz, ag⟩, hz, rfl⟩ := mapSome hc
    obtain ⟨_, _, _, _, _, _, hso⟩ := sz_info (w := w) hz
    have rx := ev_rep hT h1
    have hexec : (execOp a.eval o).run P w = ((Go.Instr.slice t (a.eval x) (lo.map a.eval) (hi.map a.eval) none).run P w).andThen fun v w' => .ok (.value v) w' := by
      unfold execOp; simp [ho, Instr.sliceAt, run_underlying hu]
    have hrun : ∀ (ad : Option Addr) (len cap l u : Nat), len ≤ cap → (lo = none → l = 0) → (∀ q, lo = some q → ∃ k, a.eval q = .int k (l : Int)) → (hi = none → u = len) → (∀ q, hi = some q → ∃ k, a.eval q = .int k (u : Int)) →
        l ≤ u → u ≤ len → (Go.Instr.slice t (.slice ad len cap) (lo.map a.eval) (hi.map a.eval) none).run P w = .ok (.slice (if cap = l then ad else ad.map (·.add (l * sz))) (u - l) (cap - l)) w := by
      intro ad len cap l u hcap l1 l2 u1 u2 hlu hul
      have hhi : (Instr.sliceBounds true len cap (lo.map a.eval) (hi.map a.eval) none).run P w = .ok (l, u, cap) w := by
        unfold Instr.sliceBounds
        cases hi with
        | none =>
          cases lo with
          | none => simp [l1 rfl, u1 rfl]
          | some q => obtain ⟨k, e⟩ := l2 q rfl; simp [e, u1 rfl, run_sliceBound w k (l : Int) len .sliceB (by omega) (by have := u1 rfl; omega)]
        | some q' =>
          obtain ⟨k', e'⟩ := u2 q' rfl
          have r1 := run_sliceBound (P := P) w k' (u : Int) cap .sliceAcap (by omega) (by omega)
          cases lo with
          | none => simp [e', r1, l1 rfl]
          | some q => obtain ⟨k, e⟩ := l2 q rfl; simp [e, e', r1, run_sliceBound w k (l : Int) u .sliceB (by omega) (by omega)]
      unfold Go.Instr.slice
      simp [run_underlying hu, hhi, hso]
    generalize hvx : a.eval x = vx at *
    simp only [vop] at H
    generalize ev s x' = X at *
    split at H
    · rw [Tr.sem_bind] at H
      obtain ⟨l, H, l1, l2⟩ := run_bound hT h2 H
      rw [Tr.sem_bind] at H
      obtain ⟨u, H, u1, u2⟩ := run_bound hT h3 H
      obtain ⟨⟨hlu, hu0⟩, hq⟩ := H
      unfold ARep at rx
      subst rx
      have e1 : l = 0 := by omega
      have e2 : u = 0 := by omega
      subst e1; subst e2
      refine Out.same hH (v := .slice none 0 0) ?_ (by unfold ARep; rfl) hq
      rw [hexec, hrun none 0 0 0 0 (Nat.le_refl _) l1 l2 u1 u2 (Nat.le_refl _) (Nat.le_refl _)]
      rfl
    · rename_i τ xs
      rw [Tr.sem_bind] at H
      obtain ⟨l, H, l1, l2⟩ := run_bound hT h2 H
      rw [Tr.sem_bind] at H
      obtain ⟨u, H, u1, u2⟩ := run_bound hT h3 H
      obtain ⟨⟨⟨hlu, hul⟩, hts⟩, hq⟩ := H
      rw [rep_list] at rx
      have rx' := rx
      obtain ⟨ad, cap, e, hcap, hne⟩ := rx
      cases e
      have hr := hrun ad xs.length cap l u hcap l1 l2 u1 u2 hlu hul
      refine Out.same hH (v := .slice (if cap = l then ad else ad.map (·.add (l * sz))) (u - l) (cap - l)) (by rw [hexec, hr]; rfl) ?_ hq
      rw [rep_list]
      cases ad with
      | some ad =>
        by_cases hx : xs = []
        · have hll : (subL xs l (u - l)).length = u - l := by simp [subL]; omega
          have hxl : xs.length = 0 := by rw [hx]; rfl
          refine ⟨_, _, by rw [hll], by omega, fun hne' => ?_⟩
          exfalso; apply hne'; apply List.eq_nil_of_length_eq_zero; omega
        · obtain ⟨b, off, e, hs, hb, hall⟩ := hne hx
          cases e
          have := subL_rep hlu hul rfl hcap rx'
          rw [hts] at this
          simpa [Addr.add_lit] using this
      | none =>
        have hx : xs = [] := by
          rcases Classical.em (xs = []) with h | h
          · exact h
          · obtain ⟨b, off, e, _⟩ := hne h; cases e
        have hll : (subL xs l (u - l)).length = u - l := by simp [subL]; omega
        have hxl : xs.length = 0 := by rw [hx]; rfl
        refine ⟨_, _, by rw [hll], by omega, fun hne' => ?_⟩
        exfalso; apply hne'; apply List.eq_nil_of_length_eq_zero; omega
    · rename_i r L off len
      rw [Tr.sem_bind] at H
      obtain ⟨l, H, l1, l2⟩ := run_bound hT h2 H
      rw [Tr.sem_bind] at H
      obtain ⟨u, H, u1, u2⟩ := run_bound hT h3 H
      obtain ⟨⟨hlu, hul⟩, H⟩ := H
      split at H
      · rename_i τ xs ex hr
        obtain ⟨⟨hL, hts⟩, hq⟩ := H
        obtain ⟨b, m, cap, hm, e, hcap, hcm⟩ := rep_slc_seq hr hL rx
        subst e
        have hr' := hrun (some ⟨b, off * τ.size, none⟩) len cap l u hcap l1 l2 u1 u2 hlu hul
        have eg := getR_some hr rfl
        by_cases hlt : l = 0 ∨ l < u
        · have hq := hq.1 (by simpa using hlt)
          have hv : (Go.Instr.slice t (.slice (some ⟨b, off * τ.size, none⟩) len cap) (lo.map a.eval) (hi.map a.eval) none).run P w = .ok (.slice (some ⟨b, (off + l) * τ.size, none⟩) (u - l) (cap - l)) w := by
            rw [hr']
            by_cases hcl : cap = l
            · have : l = 0 := by omega
              subst this; simp [hcl]
            · rw [if_neg hcl]; simp [Addr.add_lit, Nat.add_mul, hts]
          refine Out.same hH (v := .slice (some ⟨b, (off + l) * τ.size, none⟩) (u - l) (cap - l)) (by rw [hexec, hv]; rfl) ?_ hq
          unfold ARep
          refine ⟨rfl, ⟨(List.getElem?_eq_some_iff.1 eg).1, (genOK_seq eg).2 (by omega)⟩, fun _ => ⟨b, m, cap - l, hm, by rw [rowTy_seq eg]; rfl, by omega, ?_⟩, fun hv => absurd hv (virL_not eg (by intro _ _ e; cases e))⟩
          rw [rowTy_seq eg]
          show (off + l + (cap - l)) * τ.size = m
          rw [← hcm]; congr 1; omega
        · have hq := hq.2 (by simpa using hlt)
          refine Out.same hH (by rw [hexec, hr']; rfl) ?_ hq
          rw [rep_list]
          have : u - l = 0 := by omega
          exact ⟨_, _, by rw [this]; rfl, Nat.zero_le _, fun e => absurd rfl e⟩
      · rename_i τ xs hr
        obtain ⟨⟨hL, hts⟩, hq⟩ := H
        rcases rep_slc_lst hr hL rx with ⟨hx, e, hl0⟩ | ⟨h0, b, m, cap, hm, e, hcap, hcm⟩
        · subst e
          subst hl0
          have e1 : l = 0 := by omega
          have e2 : u = 0 := by omega
          subst e1; subst e2
          have hq := hq.1 (by simp)
          refine Out.same hH (v := .slice none 0 0) ?_ ?_ hq
          · rw [hexec, hrun none 0 0 0 0 (Nat.le_refl _) l1 l2 u1 u2 (Nat.le_refl _) (Nat.le_refl _)]
            rfl
          · have eg := getR_lst hr
            unfold ARep at rx ⊢
            refine ⟨rfl, rx.2.1, fun hc => ?_, fun _ _ => ⟨rfl, rfl⟩⟩
            have := ((curL_lst eg).1 hc).1
            rw [hx] at this
            cases this
        subst e
        have hr' := hrun (some ⟨b, off * τ.size, none⟩) len cap l u hcap l1 l2 u1 u2 hlu hul
        have eg := getR_lst hr
        by_cases hlt : l = 0 ∨ l < u
        · have hq := hq.1 (by simpa using hlt)
          have hv : (Go.Instr.slice t (.slice (some ⟨b, off * τ.size, none⟩) len cap) (lo.map a.eval) (hi.map a.eval) none).run P w = .ok (.slice (some ⟨b, (off + l) * τ.size, none⟩) (u - l) (cap - l)) w := by
            rw [hr']
            by_cases hcl : cap = l
            · have : l = 0 := by omega
              subst this; simp [hcl]
            · rw [if_neg hcl]; simp [Addr.add_lit, Nat.add_mul, hts]
          refine Out.same hH (v := .slice (some ⟨b, (off + l) * τ.size, none⟩) (u - l) (cap - l)) (by rw [hexec, hv]; rfl) ?_ hq
          unfold ARep
          refine ⟨rfl, ⟨(List.getElem?_eq_some_iff.1 eg).1, (genOK_lst eg).2 (by omega)⟩, fun _ => ⟨b, m, cap - l, hm, by rw [rowTy_lst eg]; rfl, by omega, ?_⟩, fun hv => by have := (virL_lst eg).1 hv; omega⟩
          rw [rowTy_lst eg]
          show (off + l + (cap - l)) * τ.size = m
          rw [← hcm]; congr 1; omega
        · have hq := hq.2 (by simpa using hlt)
          refine Out.same hH (by rw [hexec, hr']; rfl) ?_ hq
          rw [rep_list]
          have : u - l = 0 := by omega
          exact ⟨_, _, by rw [this]; rfl, Nat.zero_le _, fun e => absurd rfl e⟩
      · rename_i cs' hr
        obtain ⟨hlt, hq⟩ := H
        have eg := getR_some hr rfl
        have rx' := rx
        unfold ARep at rx'
        obtain ⟨b, m, cap, hm, e, hcap, _⟩ := rx'.2.2.1 (curL_box eg)
        rw [rowTy_box eg] at e
        subst e
        have hr' := hrun (some ⟨b, off, none⟩) len cap l u hcap l1 l2 u1 u2 hlu hul
        have hv : (Go.Instr.slice t (.slice (some ⟨b, offIn none off, none⟩) len cap) (lo.map a.eval) (hi.map a.eval) none).run P w = .ok (.slice (some ⟨b, off + l * sz, none⟩) (u - l) (cap - l)) w := by
          show (Go.Instr.slice t (.slice (some ⟨b, off, none⟩) len cap) (lo.map a.eval) (hi.map a.eval) none).run P w = _
          rw [hr']
          by_cases hcl : cap = l
          · have : l = 0 := by omega
            subst this; simp [hcl]
          · rw [if_neg hcl]; simp [Addr.add_lit]
        refine Out.same hH (v := .slice (some ⟨b, off + l * sz, none⟩) (u - l) (cap - l)) (by rw [hexec, hv]; rfl) ?_ hq
        unfold ARep
        refine ⟨rfl, ⟨rx'.2.1.1, genOK_zero (by rw [eg]; simp)⟩, fun _ => ⟨b, m, cap - l, hm, by rw [rowTy_box eg]; rfl, by omega, by rw [rowTy_box eg]; exact .inl rfl⟩, fun hv => absurd hv (virL_not eg (by intro _ _ e; cases e))⟩
      · exact H.elim
    · exact H.elim
  · rename_i n e hu
    obtain ⟨⟨sz, ag⟩, hz, rfl⟩ := mapSome hc
    obtain ⟨_, _, _, _, _, _, hso⟩ := sz_info (w := w) hz
    have rx := ev_rep hT h1
    have hrun : ∀ (b off l u : Nat), a.eval x = .pointer (some ⟨b, off, none⟩) → (lo = none → l = 0) → (∀ q, lo = some q → ∃ k, a.eval q = .int k (l : Int)) → (hi = none → u = n) → (∀ q, hi = some q → ∃ k, a.eval q = .int k (u : Int)) →
        l ≤ u → u ≤ n → (execOp a.eval o).run P w = .ok (.value (.slice (some (if n = l then ⟨b, off, none⟩ else ⟨b, off + l * sz, none⟩)) (u - l) (n - l))) w := by
      intro b off l u ex l1 l2 u1 u2 hlu hul
      have hhi : (Instr.sliceBounds false n n (lo.map a.eval) (hi.map a.eval) none).run P w = .ok (l, u, n) w := by
        unfold Instr.sliceBounds
        cases hi with
        | none =>
          cases lo with
          | none => simp [l1 rfl, u1 rfl]
          | some q => obtain ⟨k, e⟩ := l2 q rfl; simp [e, u1 rfl, run_sliceBound w k (l : Int) n .sliceB (by omega) (by have := u1 rfl; omega)]
        | some q' =>
          obtain ⟨k', e'⟩ := u2 q' rfl
          have r1 := run_sliceBound (P := P) w k' (u : Int) n .sliceAlen (by omega) (by omega)
          cases lo with
          | none => simp [e', r1, l1 rfl]
          | some q => obtain ⟨k, e⟩ := l2 q rfl; simp [e, e', r1, run_sliceBound w k (l : Int) u .sliceB (by omega) (by omega)]
      unfold execOp
      simp [ho, Instr.sliceAt, run_underlying hu, ex, Instr.sureAddr, hhi, hso, Addr.add_lit]
    generalize hvx : a.eval x = vx at *
    simp only [vop] at H
    generalize ev s x' = X at *
    split at H
    · rename_i r off
      split at H
      case h_2 => exact H.elim
      rename_i cs' hr
      rw [Tr.sem_bind] at H
      obtain ⟨l, H, l1, l2⟩ := run_bound hT h2 H
      rw [Tr.sem_bind] at H
      obtain ⟨u, H, u1, u2⟩ := run_bound hT h3 H
      obtain ⟨⟨⟨hlu, hul⟩, hlt⟩, hq⟩ := H
      obtain ⟨b, m, hm, e⟩ := rep_ptr_box hr rx
      have eg := getR_some hr rfl
      have hv := hrun b off l u e l1 l2 u1 u2 hlu hul
      have e2 : (if n = l then (⟨b, off, none⟩ : Addr) else ⟨b, off + l * sz, none⟩) = ⟨b, off + l * sz, none⟩ := by
        by_cases hnl : n = l
        · have : l = 0 := by omega
          subst this; simp
        · rw [if_neg hnl]
      rw [e2] at hv
      refine Out.same hH hv ?_ hq
      unfold ARep
      refine ⟨rfl, ⟨(List.getElem?_eq_some_iff.1 eg).1, genOK_zero (by rw [eg]; simp)⟩, fun _ => ⟨b, m, n - l, hm, by rw [rowTy_box eg]; rfl, by omega, by rw [rowTy_box eg]; exact .inl rfl⟩, fun hv => absurd hv (virL_not eg (by intro _ _ e; cases e))⟩
    · rename_i m t' xs
      rw [Tr.sem_bind] at H
      obtain ⟨l, H, l1, l2⟩ := run_bound hT h2 H
      rw [Tr.sem_bind] at H
      obtain ⟨u, H, u1, u2⟩ := run_bound hT h3 H
      obtain ⟨⟨⟨⟨hlu, hul⟩, hnm⟩, hts, hxl⟩, hq⟩ := H
      unfold ARep at rx
      obtain ⟨b, off, c, e, hs, hlt, hcl, hca, hd⟩ := rx
      have hv := hrun b off l u e l1 l2 u1 u2 hlu hul
      refine Out.same hH hv ?_ hq
      rw [rep_list]
      have hll : (subL xs l (u - l)).length = u - l := by simp [subL]; omega
      refine ⟨_, n - l, by rw [hll], by rw [hll]; omega, fun hne => ?_⟩
      have hlt' : l < u := by
        rcases Nat.lt_or_ge l u with h | h
        · exact h
        · exfalso; apply hne; apply List.eq_nil_of_length_eq_zero; omega
      refine ⟨b, off + l * sz, by rw [if_neg (by omega)], hs, hlt, fun i hi => ?_⟩
      rw [hll] at hi
      have hil : l + i < xs.length := by omega
      have hd' : DRep w (Sd S μ) (.arr xs.length t') xs c := by rw [hxl]; exact hd
      obtain ⟨hd2, hl2⟩ := seq_elem hd' hil
      refine ⟨_, hl2, ?_, ?_⟩
      · intro j hj
        have hj' : j < t'.size := by omega
        rw [List.getElem?_take, if_pos hj', List.getElem?_drop]
        have hjc : (l + i) * t'.size + j < c.length := by
          have e3 : c.length = m * t'.size := by rw [hcl]; rfl
          have : (l + i + 1) * t'.size ≤ m * t'.size := Nat.mul_le_mul_right _ (by omega)
          rw [Nat.add_mul] at this
          omega
        have := hca _ hjc
        rw [← this]
        congr 2
        rw [← hts, Nat.add_mul]
        omega
      · have : (subL xs l (u - l))[i]'(by omega) = xs[l + i] := by simp [subL]
        rw [this]
        exact hd2
    · exact H.elim
  · cases hc
end
end GoV
