/- Append; stores. -/
import Derived.Test.YtligakiolapkkaaDoorV11
import Derived.Laws.StructEq
set_option linter.unusedSectionVars false
namespace GoV
open Go

section
variable [GTab] {P : Program} {S : Nat → Prop} {μ : Mu} {h : Heap} {w : World} {C : CallSem}

/-- A row moves to a new block. -/
theorem hrep_move {row0 row1 : Row} {n1 : Nat} (hO : Open S w) (hH : HRep w S μ h) {r : Nat} {o : Obj} {m : Nat} (hr : h[r]? = some row0) (hnd : row0 ≠ .dfr) (hgl : ∀ L, genOK h r L → L < n1)
    (hcur : ∀ L, curL (h.set r row1) r L → L = n1) (hgen1 : ∀ L, L < n1 → genOK (h.set r row1) r L) (hvir : ¬ virL (h.set r row1) r)
    (hR : RRep (w.alloc o) S (μ.set r (some (w.heap.size, m))) (h.set r row1) row1 w.heap.size m) :
    HRep (w.alloc o) S (μ.set r (some (w.heap.size, m))) (h.set r row1) ∧ Ext μ w (μ.set r (some (w.heap.size, m))) (w.alloc o) ∧ HExt μ h (μ.set r (some (w.heap.size, m))) (h.set r row1) := by
  have hrl : r < h.length := (List.getElem?_eq_some_iff.1 hr).1
  have hE : Ext μ w (μ.set r (some (w.heap.size, m))) (w.alloc o) := {
    os := rfl, tape := rfl, output := rfl, grow := by simp
    same := fun b hb _ => heap_push_lt hb
    fresh := fun b ⟨i, m', hm⟩ => by
      rcases mu_get_set hm with ⟨_, h1⟩ | ⟨_, h1, _⟩
      · exact .inl ⟨i, m', h1⟩
      · cases h1; exact .inr (Nat.le_refl _) }
  have hX : HExt μ h (μ.set r (some (w.heap.size, m))) (h.set r row1) := {
    len := by simp
    gen := fun i L hi hg => by
      by_cases e : i = r
      · subst e
        exact hgen1 L (hgl L hg)
      · exact (genOK_set_other e).2 hg
    keep := fun i L hi hg hc => by
      by_cases e : i = r
      · subst e
        have h1 := hgl L hg
        have h2 := hcur L hc
        omega
      · exact ⟨(curL_set_other e).1 hc, List.getElem?_set_ne (fun e' => e e'.symm), rowTy_set_other e⟩
    vir := fun i hi hv => by
      by_cases e : i = r
      · subst e; exact absurd hv hvir
      · exact (virL_set_other e).1 hv }
  refine ⟨?_, hE, hX⟩
  exact {
    len := by simp [hH.len]
    inj := fun i j b m1 m2 h1 h2 => by
      rcases mu_get_set h1 with ⟨n1, a1⟩ | ⟨n1, a1, _⟩ <;> rcases mu_get_set h2 with ⟨n2, a2⟩ | ⟨n2, a2, _⟩
      · exact hH.inj i j b m1 m2 a1 a2
      · cases a2; have := hH.lt _ _ _ a1; omega
      · cases a1; have := hH.lt _ _ _ a2; omega
      · omega
    lt := fun i b m1 h1 => by
      rcases mu_get_set h1 with ⟨_, a1⟩ | ⟨_, a1, _⟩
      · have := hH.lt i b m1 a1; simp; omega
      · cases a1; simp
    own := fun i b m1 h1 => by
      rcases mu_get_set h1 with ⟨_, a1⟩ | ⟨_, a1, _⟩
      · exact hH.own i b m1 a1
      · cases a1; exact hO _ (Nat.le_refl _)
    rows := fun i row h1 hl => by
      rcases heap_get_set h1 with ⟨hne, h1⟩ | ⟨rfl, h1, _⟩
      · obtain ⟨b, m1, e, H⟩ := hH.rows i row h1 hl
        refine ⟨b, m1, by rw [List.getElem?_set_ne (fun e => hne e.symm)]; exact e, ?_⟩
        refine RRep.ext hH ⟨i, e⟩ hE hX (heap_push_lt (hH.lt _ _ _ e)) ?_ H
        intro d db dm _ hd hd'
        have hdr : d ≠ r := by intro e; subst e; rw [hr] at hd'; cases hd'; exact hnd rfl
        exact ⟨by rw [List.getElem?_set_ne (fun e => hdr e.symm)]; exact hd, by rw [List.getElem?_set_ne (fun e => hdr e.symm)]; exact hd'⟩
      · subst h1
        exact ⟨w.heap.size, m, List.getElem?_set_self (by rw [hH.len]; exact hrl), hR⟩ }

theorem rrep_new {t : Ty} {xs : List t.den} {ex : Bool} {cells spare : List Value} {e : TypeId} {b m : Nat} (hb : w.heap[b]? = some (.cells (cells ++ spare).toArray e (0, 0))) (hm : (cells ++ spare).length = m) (hpos : 0 < t.size)
    (hd : DRep w (Sd S μ) (.arr xs.length t) xs cells) (hex : ex = true → spare = []) : RRep w S μ h (.seq t xs ex) b m := by
  have hcl : cells.length = xs.length * t.size := DRep.len _ _ _ hd
  refine ⟨_, e, hb, by simpa using hm, hpos, by rw [← hm]; simp [← hcl], fun h => by rw [← hm, hex h]; simp [hcl], ?_⟩
  have : ((cells ++ spare).toArray.toList.take (xs.length * t.size)) = cells := by rw [← hcl]; simp
  rw [this]; exact hd

theorem run_append_in {t ty e el : TypeId} {i : TypeInfo} (ht : P.underlying t = some (.slice e)) (hi : P.info? e = some i) {g n cap : Nat} {cur : Array Value} (hg : w.heap[g]? = some (.cells cur el (0, 0)))
    {a : Addr} {m c : Nat} {news : List Value} (hl : news.length = m * i.size) (hnews : ∀ j u, news[j]? = some u → w.cell? (a.add j) = some u) (h1 : ∀ u ∈ news, u.oneCell' = true)
    (hroom : n + m ≤ cap) (hfit : n * i.size + news.length ≤ cur.size) :
    (Builtin.append_ #[t, t] ty #[.slice (some ⟨g, 0, none⟩) n cap, .slice (some a) m c]).run P w =
      .ok (.slice (some ⟨g, 0, none⟩) (n + m) cap) (w.setRow g (cur.toList.take (n * i.size) ++ news ++ cur.toList.drop (n * i.size + news.length)).toArray) := by
  have k1 := run_firstCells_some (P := P) w i.size m a m c news hl hnews
  have k2 := run_storeCells_at P g (n * i.size) el news 0 cur w hg (by simpa using hfit) h1
  rw [Nat.add_zero] at k2
  simp [Builtin.append_, run_underlying ht, Go.sizeOf, typeInfo, hi, Builtin.lenOf, hroom, k1, Addr.add_lit, k2]

theorem getR_live {r : Nat} {row : Row} (hr : h[r]? = some row) : getR h r = row := by
  induction h generalizing r with
  | nil => simp at hr
  | cons x h ih =>
    cases r with
    | zero => simpa [getR] using hr
    | succ r => simp only [getR]; exact ih (by simpa using hr)

theorem getR_dead_of_ge {r : Nat} (hr : h.length ≤ r) : getR h r = .dead := by
  induction h generalizing r with
  | nil => rfl
  | cons x h ih =>
    cases r with
    | zero => simp at hr
    | succ r => simp only [getR]; exact ih (by simpa using hr)

/-! ### Append of references -/
theorem zeroCells_one {z : Value} {k : Nat} (hpos : 0 < z.cells.size) (h1 : ∀ u ∈ z.cells.toList, u.oneCell' = true) : ∀ u ∈ (Builtin.zeroCells z.cells k).toList, u.oneCell' = true := by
  intro u hu
  unfold Builtin.zeroCells at hu
  rw [Array.mem_toList_iff, Array.mem_map] at hu
  obtain ⟨i, _, rfl⟩ := hu
  have hj : i % z.cells.size < z.cells.size := Nat.mod_lt _ hpos
  rw [getElem!_pos z.cells (i % z.cells.size) hj]
  exact h1 _ (by simp)

/-- A row goes to another number; its block may change. -/
theorem hrep_reput (hH : HRep w S μ h) {r b m : Nat} {row row' : Row} {w' : World} (hm : μ[r]? = some (some (b, m))) (hr : h[r]? = some row) (hnd : row ≠ .dfr) (hs : ∀ b', b' ≠ b → w'.heap[b']? = w.heap[b']?) (hsz : w'.heap.size = w.heap.size)
    (hos : w'.os = w.os) (htp : w'.tape = w.tape) (hout : w'.output = w.output)
    (hR : Ext μ w (μ.set r none ++ [some (b, m)]) w' → HExt μ h (μ.set r none ++ [some (b, m)]) (h.set r .dead ++ [row']) → RRep w' S (μ.set r none ++ [some (b, m)]) (h.set r .dead ++ [row']) row' b m) :
    HRep w' S (μ.set r none ++ [some (b, m)]) (h.set r .dead ++ [row']) ∧ Ext μ w (μ.set r none ++ [some (b, m)]) w' ∧ HExt μ h (μ.set r none ++ [some (b, m)]) (h.set r .dead ++ [row']) := by
  have hrl := (List.getElem?_eq_some_iff.1 hr).1
  have hml : (μ.set r none).length = h.length := by rw [List.length_set, hH.len]
  have get : ∀ {i b1 m1}, (μ.set r none ++ [some (b, m)])[i]? = some (some (b1, m1)) → (i < h.length ∧ i ≠ r ∧ μ[i]? = some (some (b1, m1))) ∨ (i = h.length ∧ b1 = b ∧ m1 = m) := by
    intro i b1 m1 e
    rcases Nat.lt_or_ge i h.length with hi | hi
    · rw [List.getElem?_append_left (by rw [hml]; exact hi)] at e
      rcases mu_get_set e with ⟨h1, h2⟩ | ⟨_, h2, _⟩
      · exact .inl ⟨hi, h1, h2⟩
      · cases h2
    · rw [List.getElem?_append_right (by rw [hml]; exact hi), hml] at e
      cases hd : i - h.length with
      | zero => rw [hd] at e; simp at e; exact .inr ⟨by omega, e.1.symm, e.2.symm⟩
      | succ n => rw [hd] at e; simp at e
  have hE : Ext μ w (μ.set r none ++ [some (b, m)]) w' := {
    os := hos, tape := htp, output := hout, grow := by rw [hsz]; exact Nat.le_refl _
    same := fun b' _ hn => hs b' (fun e => hn (by rw [e]; exact ⟨r, m, hm⟩))
    fresh := fun b' ⟨i, m', hi⟩ => by
      rcases get hi with ⟨_, _, h2⟩ | ⟨_, h2, _⟩
      · exact .inl ⟨i, m', h2⟩
      · rw [h2]; exact .inl ⟨r, m, hm⟩ }
  have hX : HExt μ h (μ.set r none ++ [some (b, m)]) (h.set r .dead ++ [row']) := (hext_kill μ h r).trans (hext_append (by rw [hml]; simp) _ _)
  refine ⟨?_, hE, hX⟩
  exact {
    len := by simp [hH.len]
    inj := fun i j b1 m1 m2 h1 h2 => by
      rcases get h1 with ⟨a1, a2, a3⟩ | ⟨a1, a2, a3⟩
      · rcases get h2 with ⟨c1, c2, c3⟩ | ⟨c1, c2, c3⟩
        · exact hH.inj _ _ _ _ _ a3 c3
        · rw [c2] at a3; exact absurd (hH.inj _ _ _ _ _ a3 hm) a2
      · rcases get h2 with ⟨c1, c2, c3⟩ | ⟨c1, c2, c3⟩
        · rw [a2] at c3; exact absurd (hH.inj _ _ _ _ _ c3 hm) c2
        · rw [a1, c1]
    lt := fun i b1 m1 h1 => by
      rw [hsz]
      rcases get h1 with ⟨_, _, a3⟩ | ⟨_, a2, _⟩
      · exact hH.lt _ _ _ a3
      · rw [a2]; exact hH.lt _ _ _ hm
    own := fun i b1 m1 h1 => by
      rcases get h1 with ⟨_, _, a3⟩ | ⟨_, a2, _⟩
      · exact hH.own _ _ _ a3
      · rw [a2]; exact hH.own _ _ _ hm
    rows := fun i row1 h1 hl => by
      rcases Nat.lt_or_ge i h.length with hi | hi
      · rw [List.getElem?_append_left (by simpa using hi)] at h1
        rcases heap_get_set h1 with ⟨hne, h1⟩ | ⟨_, h1, _⟩
        · obtain ⟨b1, m1, e, H⟩ := hH.rows i row1 h1 hl
          refine ⟨b1, m1, by rw [List.getElem?_append_left (by rw [hml]; exact hi), List.getElem?_set_ne (fun e => hne e.symm)]; exact e, RRep.ext hH ⟨i, e⟩ hE hX (hs b1 (fun e1 => hne (hH.inj _ _ _ _ _ e (by rw [e1]; exact hm)))) ?_ H⟩
          intro d db dm _ hd hd'
          have hdl := (List.getElem?_eq_some_iff.1 hd').1
          have hdr : r ≠ d := by intro e; subst e; rw [hr] at hd'; cases hd'; exact hnd rfl
          exact ⟨by rw [List.getElem?_append_left (by rw [hml]; exact hdl), List.getElem?_set_ne hdr]; exact hd, by rw [List.getElem?_append_left (by simpa using hdl), List.getElem?_set_ne hdr]; exact hd'⟩
        · subst h1; cases hl
      · rw [List.getElem?_append_right (by simpa using hi)] at h1
        rw [List.length_set] at h1
        cases hd : i - h.length with
        | succ n => rw [hd] at h1; simp at h1
        | zero =>
          rw [hd] at h1
          simp at h1
          subst h1
          have : i = h.length := by omega
          subst this
          exact ⟨b, m, by rw [List.getElem?_append_right (by rw [hml]; exact Nat.le_refl _), hml, Nat.sub_self]; rfl, hR hE hX⟩ }

theorem rep_slc_boxL {r L off len : Nat} {cs : List AV} {v : Value} (hr : getR h r = .box cs) (H : ARep w S μ h (.slc r L off len) v) :
    ∃ b m cap, μ[r]? = some (some (b, m)) ∧ v = .slice (some ⟨b, off, none⟩) len cap ∧ len ≤ cap ∧ (L = 0 ∨ off + cap * L ≤ m) := by
  have e := getR_some hr rfl
  unfold ARep at H
  obtain ⟨b, m, cap, h1, h2, h3, h4⟩ := H.2.2.1 (curL_box e)
  rw [rowTy_box e] at h2 h4
  exact ⟨b, m, cap, h1, h2, h3, h4⟩
theorem rep_new_boxL {r b m len cap sz : Nat} {cs : List AV} (hm : μ[r]? = some (some (b, m))) (hr : h[r]? = some (.box cs)) (hlc : len ≤ cap) (hc : cap * sz ≤ m) :
    ARep w S μ h (.slc r sz 0 len) (.slice (some ⟨b, 0, none⟩) len cap) := by
  unfold ARep
  refine ⟨rfl, ⟨(List.getElem?_eq_some_iff.1 hr).1, by unfold genOK; rw [hr]; trivial⟩, fun _ => ⟨b, m, cap, hm, ?_, hlc, ?_⟩, fun hv => absurd hv (virL_not hr (by intro _ _ e; cases e))⟩
  · rw [rowTy_box hr]; rfl
  · rw [rowTy_box hr]; exact .inr (by omega)

theorem app_box {C : CallSem} {Q : AV × Heap → Prop} {t ty e : TypeId} {i : TypeInfo} {z : Value} {τ : Ty} {by_ : Nat} {X Y : AV} {vx vy : Value} {ys : List AV} {k : Nat} {R : Result Next} (hu : P.underlying t = some (.slice e)) (hi : P.info? e = some i) (hsz : i.size = τ.size) (hpos : 0 < τ.size) (hz : i.zero = some z) (hby : i.bytes = by_)
    (hzr : ∀ (w : World) (T : Nat → Prop), DRep w T τ τ.dflt z.cells.toList) (hO : Open S w) (hH : HRep w S μ h) (rx : ARep w S μ h X vx) (ry : ARep w S μ h Y vy)
    (hexec : R = ((Builtin.append_ #[t, t] ty #[vx, vy]).run P w).andThen fun v w' => .ok (.value v) w') (hb : boxY h τ.size X Y = some (ys, k)) (H : (appB h τ.size by_ X ys k).sem C Q) : Out S μ w h R Q := by
  have hzs : z.cells.size = τ.size := by simpa using DRep.len _ _ _ (hzr w (Sd S μ))
  have hz0 : ∀ n, (Builtin.zeroCells z.cells n).toList.length = n * τ.size := fun n => by rw [Array.length_toList, size_zeroCells, hzs]
  have hz1 : ∀ n, ∀ u ∈ (Builtin.zeroCells z.cells n).toList, u.oneCell' = true := fun n => zeroCells_one (by omega) (DRep.one _ _ _ (hzr w (Sd S μ)))
  -- the cells that are appended
  obtain ⟨ry', Ly, oy, cy, eY, hry, hys⟩ : ∃ ry' Ly oy cy, Y = .slc ry' Ly oy k ∧ getR h ry' = .box cy ∧ ys = (cy.drop oy).take (k * τ.size) := by
    unfold boxY at hb
    split at hb
    · rename_i r L off k'
      split at hb
      · rename_i cs hr
        split at hb
        · cases hb; exact ⟨_, _, _, _, rfl, hr, rfl⟩
        · split at hb
          · cases hb; exact ⟨_, _, _, _, rfl, hr, rfl⟩
          · cases hb
      · cases hb
    · cases hb
  subst eY
  obtain ⟨b2, m2, cap2, hm2, e2, hc2⟩ := rep_slc_box hry ry
  obtain ⟨b2', m2', hm2', c2, ty2, hb2, hcs2, hcle2, hl2, h1c2⟩ := hH.row hry rfl
  rw [hm2] at hm2'; cases hm2'
  subst e2
  clear hb
  have main : ys.length = k * τ.size → ∃ news : List Value, ARepL w S μ h ys news ∧ news.length = k * τ.size ∧ (∀ u ∈ news, u.oneCell' = true) ∧ (∀ j v, news[j]? = some v → w.cell? ((⟨b2, oy, none⟩ : Addr).add j) = some v) := by
    intro hyl
    have hl := (hl2.drop oy).take (k * τ.size)
    rw [← hys] at hl
    rw [pre_cells (by rw [← hl.length]; exact hyl)] at hl
    refine ⟨_, hl, by rw [← hl.length]; exact hyl, fun u hu => h1c2 u (by simpa using List.mem_of_mem_drop (List.mem_of_mem_take hu)), ?_⟩
    intro j v hj
    rw [Addr.add_lit, cellsAt_of_block hb2 _ _ j (List.getElem?_eq_some_iff.1 hj).1]
    exact hj
  unfold appB at H
  split at H
  · -- onto nil
    obtain ⟨⟨⟨hk, hyl⟩, hb1, hb3⟩, hq⟩ := H
    simp only [two47] at hb1 hb3
    obtain ⟨news, hl, hnl, hn1, hnews⟩ := main hyl
    unfold ARep at rx
    subst rx
    have hr := run_append_nil (P := P) w t ty e i z hu hi hz ⟨b2, oy, none⟩ k cap2 news (by rw [hsz]; exact hnl) hnews hk (by omega) (by rw [hby]; omega)
    have hge := grownCap_ge w k 0 e
    have hcells : (news.toArray ++ Builtin.zeroCells z.cells (grownCap w k 0 e - k)) = (news ++ (Builtin.zeroCells z.cells (grownCap w k 0 e - k)).toList).toArray := by
      apply Array.ext'; simp
    rw [hcells] at hr
    have hlen : (news ++ (Builtin.zeroCells z.cells (grownCap w k 0 e - k)).toList).length = grownCap w k 0 e * τ.size := by
      rw [List.length_append, hnl, hz0, ← Nat.add_mul]; congr 1; omega
    refine Out.after (ext_drew μ w) ?_
    refine Out.alloc (w := w.drew) hO (hrep_drew hH) (.cells (news ++ (Builtin.zeroCells z.cells (grownCap w k 0 e - k)).toList).toArray e) (grownCap w k 0 e * τ.size) (.box ys)
      (v := .slice (some ⟨w.drew.heap.size, 0, none⟩) k (grownCap w k 0 e)) (av := .slc h.length τ.size 0 k) (by rw [hexec, hr]; rfl) ?_ ?_ hq
    · refine ⟨_, e, Go.heap_alloc_new w.drew _, by simpa using hlen, by rw [hyl]; exact Nat.mul_le_mul_right _ hge, ?_, ?_⟩
      · rw [List.toList_toArray, List.take_append_of_le_length (by rw [hnl, hyl]; exact Nat.le_refl _), List.take_of_length_le (by rw [hnl, hyl]; exact Nat.le_refl _)]
        exact ARepL.ext ((ext_drew μ w).trans (ext_alloc μ w.drew _ _)) (hext_append hH.len _ _) _ _ hl
      · intro u hu
        rw [← Array.mem_toList_iff, List.toList_toArray, List.mem_append] at hu
        exact hu.elim (hn1 u) (hz1 _ u)
    · exact rep_new_boxL (cs := ys) (by rw [← hH.len]; simp) (by simp) hge (Nat.le_refl _)
  · rename_i r L off n
    split at H
    case h_2 => exact H.elim
    rename_i cs hr
    obtain ⟨⟨⟨⟨hoff, hL⟩, ⟨hk, hyl⟩, hcn⟩, hb1, hb3⟩, hq⟩ := H
    simp only [two47] at hb1 hb3
    subst hoff
    subst hL
    obtain ⟨news, hl, hnl, hn1, hnews⟩ := main hyl
    obtain ⟨b, m, cap, hm, ev, hlc, hcm⟩ := rep_slc_boxL hr rx
    have hcm : cap * τ.size ≤ m := by rcases hcm with h0 | h0 <;> omega
    subst ev
    obtain ⟨b', m', hm', cur, ety, hbk, hcs, hcle, hlx, h1c⟩ := hH.row hr rfl
    rw [hm] at hm'; cases hm'
    have hg := getR_some hr rfl
    have hlm : n * τ.size ≤ cur.size := by rw [hcs, ← hcn]; exact hcle
    have hol : (cur.toList.take (n * τ.size)).length = n * τ.size := by simp; omega
    have hcl : (cs ++ ys).length = (n + k) * τ.size := by rw [List.length_append, hcn, hyl, ← Nat.add_mul]
    rw [hcn] at hlx
    have hll := hlx.append hl
    by_cases hfit : n + k ≤ cap
    · have hrun := run_append_in (P := P) (ty := ty) hu hi hbk (a := ⟨b2, oy, none⟩) (m := k) (c := cap2) (n := n) (cap := cap) (by rw [hsz]; exact hnl) hnews hn1 hfit (by
        rw [hsz, hnl, ← Nat.add_mul, hcs]; exact Nat.le_trans (Nat.mul_le_mul_right _ hfit) hcm)
      rw [hsz] at hrun
      have hsize : (cur.toList.take (n * τ.size) ++ news ++ cur.toList.drop (n * τ.size + news.length)).length = m := by
        have h9 : n * τ.size + news.length ≤ cur.size := by rw [hnl, ← Nat.add_mul, hcs]; exact Nat.le_trans (Nat.mul_le_mul_right _ hfit) hcm
        simp only [List.length_append, List.length_take, List.length_drop, Array.length_toList]
        omega
      obtain ⟨k1, k2, k3⟩ := hrep_reput (w' := w.setRow b (cur.toList.take (n * τ.size) ++ news ++ cur.toList.drop (n * τ.size + news.length)).toArray) (row' := .box (cs ++ ys)) hH hm hg (by intro e; cases e)
        (fun b' hne => setRow_heap_other hne) (by simp) rfl rfl rfl (fun hE hX => by
          refine ⟨_, ety, setRow_heap w b cur _ ety (0, 0) hbk, by simpa using hsize, by rw [hcl]; exact Nat.le_trans (Nat.mul_le_mul_right _ hfit) hcm, ?_, ?_⟩
          · have e3 : (cs ++ ys).length = (cur.toList.take (n * τ.size) ++ news).length := hll.length
            rw [List.toList_toArray, e3, List.take_append_of_le_length (Nat.le_refl _), List.take_length]
            exact ARepL.ext hE hX _ _ hll
          · intro u hu
            rw [← Array.mem_toList_iff, List.toList_toArray, List.mem_append, List.mem_append] at hu
            rcases hu with (hu | hu) | hu
            · exact h1c u (by simpa using List.mem_of_mem_take hu)
            · exact hn1 u hu
            · exact h1c u (by simpa using List.mem_of_mem_drop hu))
      refine ⟨_, _, _, _, _, .inl (by rw [hexec, hrun]; rfl), k2, k3, k1, ?_, hq⟩
      exact rep_new_boxL (b := b) (m := m) (cs := cs ++ ys) (by rw [List.getElem?_append_right (by simp [hH.len])]; simp [hH.len]) (by rw [List.getElem?_append_right (by simp)]; simp) hfit hcm
    · have hge := grownCap_ge w (n + k) cap e
      have hrun := run_append_grow (P := P) w t ty e i z hu hi hz ⟨b, 0, none⟩ n cap (cur.toList.take (n * τ.size)) (by rw [hol, hsz]) (fun j v hj => by
          have hjl := (List.getElem?_eq_some_iff.1 hj).1
          rw [hol] at hjl
          rw [Addr.add_lit, Go.cell_of_row w b (0 + j) cur ety (0, 0) hbk]
          rw [List.getElem?_take, if_pos hjl] at hj
          simpa using hj) ⟨b2, oy, none⟩ k cap2 news (by rw [hsz]; exact hnl) hnews (by omega) (by omega) (growslice_fits (by omega) (by rw [hby]; exact hb1))
      have hcells : ((cur.toList.take (n * τ.size)).toArray ++ news.toArray ++ Builtin.zeroCells z.cells (grownCap w (n + k) cap e - (n + k))) = (cur.toList.take (n * τ.size) ++ news ++ (Builtin.zeroCells z.cells (grownCap w (n + k) cap e - (n + k))).toList).toArray := by
        apply Array.ext'; simp
      have hlen : (cur.toList.take (n * τ.size) ++ news ++ (Builtin.zeroCells z.cells (grownCap w (n + k) cap e - (n + k))).toList).length = grownCap w (n + k) cap e * τ.size := by
        rw [List.length_append, List.length_append, hol, hnl, hz0, ← Nat.add_mul, ← Nat.add_mul]; congr 1; omega
      rw [hcells] at hrun
      refine Out.after2 (ext_kill μ w r) (hext_kill μ h r) ?_
      refine Out.after (ext_drew _ w) ?_
      have hH2 := hrep_kill hH hg (by intro e; cases e)
      have hll2 := ARepL.ext (ext_kill μ w r) (hext_kill μ h r) _ _ hll
      refine Out.alloc (w := w.drew) hO (hrep_drew hH2) (.cells (cur.toList.take (n * τ.size) ++ news ++ (Builtin.zeroCells z.cells (grownCap w (n + k) cap e - (n + k))).toList).toArray e) (grownCap w (n + k) cap e * τ.size) (.box (cs ++ ys))
        (v := .slice (some ⟨w.drew.heap.size, 0, none⟩) (n + k) (grownCap w (n + k) cap e)) (av := .slc h.length τ.size 0 (n + k)) (by rw [hexec, hrun]; rfl) ?_ ?_ hq
      · refine ⟨_, e, Go.heap_alloc_new w.drew _, by simpa using hlen, by rw [hcl]; exact Nat.mul_le_mul_right _ hge, ?_, ?_⟩
        · have e3 : (cs ++ ys).length = (cur.toList.take (n * τ.size) ++ news).length := hll.length
          rw [List.toList_toArray, e3, List.take_append_of_le_length (Nat.le_refl _), List.take_length]
          exact ARepL.ext ((ext_drew _ w).trans (ext_alloc _ w.drew _ _)) (hext_append hH2.len _ _) _ _ hll2
        · intro u hu
          rw [← Array.mem_toList_iff, List.toList_toArray, List.mem_append, List.mem_append] at hu
          rcases hu with (hu | hu) | hu
          · exact h1c u (by simpa using List.mem_of_mem_take hu)
          · exact hn1 u hu
          · exact hz1 _ u hu
      · exact rep_new_boxL (b := w.drew.heap.size) (m := grownCap w (n + k) cap e * τ.size) (cs := cs ++ ys) (by rw [List.getElem?_append_right (by simp [hH.len])]; simp [hH.len]) (by rw [List.getElem?_append_right (by simp)]; simp) hge (Nat.le_refl _)
  · exact H.elim

theorem snd_app {o : Oper} {c : Call} (ho : o.op = .call c) (hb : c.callee = .builtin .append) : Sound P o := by
  intro S μ h w C hC N s a Q I hO hH hT hc H
  rw [ho] at hc
  simp only [cOp0, hb, cBuiltin] at hc
  unfold cApp at hc
  split at hc
  case h_2 => cases hc
  rename_i x y t u hx hty
  obtain ⟨x', h1, hc1⟩ := bindSome hc
  obtain ⟨y', h2, hc2⟩ := bindSome hc1
  clear hc hc1
  split at hc2
  case h_3 => cases hc2
  case h_2 =>
    rename_i e he htu
    split at hc2
    case h_2 => cases hc2
    rename_i k hui
    obtain ⟨⟨τ, by_⟩, hel, rfl⟩ := mapSome hc2
    clear hc2
    have hu := elemOf_spec he
    obtain ⟨i, z, hi, hsz, hpos, hz, hby, hzr⟩ := elTy_spec hel
    have rx := ev_rep hT h1
    have ry := ev_rep hT h2
    have hexec : (execOp a.eval o).run P w = ((Builtin.append_ #[t, u] o.type #[a.eval x, a.eval y]).run P w).andThen fun v w' => .ok (.value v) w' := by
      rw [exec_builtin ho hb, arr_of_list hx, arr_of_list hty]
      simp [builtin]
    simp only [vop] at H
    split at H
    case h_2 => exact H.elim
    rename_i k' m ex en
    rw [ex] at rx
    rw [en] at ry
    unfold ARep at rx
    rw [rep_int] at ry
    obtain ⟨⟨hm0, hm1, hm2⟩, hq⟩ := H
    obtain ⟨n, rfl⟩ : ∃ n : Nat, m = (n : Int) := ⟨Int.toNat m, (Int.toNat_of_nonneg (Int.le_of_lt hm0)).symm⟩
    simp only [Int.toNat_natCast] at hq
    have hm1 : n * by_ ≤ two47 := by
      have : ((n * by_ : Nat) : Int) ≤ ((two47 : Nat) : Int) := hm1
      omega
    simp only [two47] at hm1 hm2
    have hr := Lib.run_append_nil_zeros (P := P) w t u o.type e i z k' k hu hui hi hz n (by omega) (by rw [hsz]; exact hpos) (by omega) (by rw [hby]; omega)
    have hzs : z.cells.size = τ.size := by simpa using DRep.len _ _ _ (hzr w (Sd S μ))
    have hge := grownCap_ge w n 0 e
    have hcells : (Builtin.zeroCells z.cells n ++ Builtin.zeroCells z.cells (grownCap w n 0 e - n)) = ((Builtin.zeroCells z.cells n).toList ++ (Builtin.zeroCells z.cells (grownCap w n 0 e - n)).toList).toArray := by
      apply Array.ext'; simp
    rw [hcells] at hr
    have hd : DRep w (Sd S μ) (.arr (List.replicate n τ.dflt).length τ) (List.replicate n τ.dflt) (Builtin.zeroCells z.cells n).toList := by
      rw [List.length_replicate]
      exact dflt_rep (hzr w (Sd S μ)) n
    refine Out.after (ext_drew μ w) ?_
    refine Out.alloc (w := w.drew) hO (hrep_drew hH) (.cells ((Builtin.zeroCells z.cells n).toList ++ (Builtin.zeroCells z.cells (grownCap w n 0 e - n)).toList).toArray e) (grownCap w n 0 e * τ.size) (.seq τ (List.replicate n τ.dflt) false)
      (v := .slice (some ⟨w.drew.heap.size, 0, none⟩) n (grownCap w n 0 e)) (av := .slc h.length n 0 n) ?_ ?_ ?_ hq
    · rw [hexec, rx, ry, hr]; rfl
    · refine rrep_new (Go.heap_alloc_new w.drew _) ?_ hpos ((hd.ext (ext_drew μ w)).ext (ext_alloc μ w.drew _ _)) (fun e => by cases e)
      rw [List.length_append, Array.length_toList, Array.length_toList, size_zeroCells, size_zeroCells, hzs, ← Nat.add_mul]; congr 1; omega
    · exact rep_new_slc (xs := List.replicate n τ.dflt) (ex := false) (by rw [← hH.len]; simp) (by simp) (by simp) hge rfl
  rename_i e he htu
  obtain ⟨⟨τ, by_⟩, hel, rfl⟩ := mapSome hc2
  clear hc2
  have htu := Nat.eq_of_beq_eq_true htu
  subst htu
  have hu := elemOf_spec he
  obtain ⟨i, z, hi, hsz, hpos, hz, hby, hzr⟩ := elTy_spec hel
  have rx0 := raw_rep hT h1
  have rx := ev_rep hT h1
  have ry := ev_rep hT h2
  have hexec : (execOp a.eval o).run P w = ((Builtin.append_ #[t, t] o.type #[a.eval x, a.eval y]).run P w).andThen fun v w' => .ok (.value v) w' := by
    rw [exec_builtin ho hb, arr_of_list hx, arr_of_list hty]
    simp [builtin]
  generalize a.eval x = vx at *
  generalize a.eval y = vy at *
  simp only [vop] at H
  generalize ev s x' = X0 at *
  generalize raw s x' = X at *
  generalize ev s y' = Y at *
  split at H
  · rename_i p hp
    exact app_box hu hi hsz hpos hz hby hzr hO hH rx ry hexec hp H
  rename_i hbx
  clear hbx
  clear rx
  have rx := rx0
  clear rx0
  rw [Tr.sem_bind] at H
  have HH := elemsH_rep hH ry H
  clear H
  obtain ⟨μ, h, ys, ad, ycap, news, H, rfl, hH1, he1, hh1, hd, hys⟩ := HH
  refine Out.after2 he1 hh1 ?_
  replace rx := ARep.ext he1 hh1 _ _ rx
  replace hT := hT.ext he1 hh1
  clear ry he1 hh1 hH
  have hH := hH1
  clear hH1
  simp only at H
  have hnl : news.length = ys.length * τ.size := DRep.len _ _ _ hd
  have hn1 : ∀ u ∈ news, u.oneCell' = true := DRep.one _ _ _ hd
  have zero : ∀ (base : Option Addr) (n cap : Nat), n ≤ cap → ys = [] → (Builtin.append_ #[t, t] o.type #[.slice base n cap, .slice ad ys.length ycap]).run P w = .ok (.slice base n cap) w := by
    intro base n cap hn e; rw [e]; exact run_append_zero hu hi base n cap ycap ad hn
  have hnews : ∀ b off, ad = some ⟨b, off, none⟩ → cellsAt w b off news → ∀ j v, news[j]? = some v → w.cell? ((⟨b, off, none⟩ : Addr).add j) = some v := by
    intro b off _ hca j v hj
    rw [Addr.add_lit, hca j (List.getElem?_eq_some_iff.1 hj).1]; exact hj
  have hzs : z.cells.size = τ.size := by simpa using DRep.len _ _ _ (hzr w (Sd S μ))
  have hz0 : ∀ n, (Builtin.zeroCells z.cells n).toList.length = n * τ.size := fun n => by rw [Array.length_toList, size_zeroCells, hzs]
  -- the nil slice, appended to
  have onnil : vx = .slice none 0 0 → ys ≠ [] → ys.length * by_ ≤ two47 → ys.length ≤ two47 → ∃ cells : List Value, (execOp a.eval o).run P w = .ok (.value (.slice (some ⟨w.drew.heap.size, 0, none⟩) ys.length (grownCap w ys.length 0 e))) (w.drew.alloc (.cells (news ++ cells).toArray e)) ∧
      (news ++ cells).length = grownCap w ys.length 0 e * τ.size ∧ ys.length ≤ grownCap w ys.length 0 e := by
    intro ev hye hb1 hb2
    subst ev
    rcases hys with hys | ⟨b, off, rfl, hca⟩
    · exact absurd hys hye
    have hpos' : 0 < ys.length := List.length_pos_iff.2 hye
    simp only [two47] at hb1 hb2
    have hr := run_append_nil (P := P) w t o.type e i z hu hi hz ⟨b, off, none⟩ ys.length ycap news (by rw [hsz]; exact hnl) (hnews b off rfl hca) hpos' (by omega) (by rw [hby]; omega)
    have hge := grownCap_ge w ys.length 0 e
    have hcells : (news.toArray ++ Builtin.zeroCells z.cells (grownCap w ys.length 0 e - ys.length)) = (news ++ (Builtin.zeroCells z.cells (grownCap w ys.length 0 e - ys.length)).toList).toArray := by
      apply Array.ext'; simp
    rw [hcells] at hr
    refine ⟨(Builtin.zeroCells z.cells (grownCap w ys.length 0 e - ys.length)).toList, by rw [hexec, hr]; rfl, ?_, hge⟩
    rw [List.length_append, hnl, hz0, ← Nat.add_mul]; congr 1; omega
  -- onto what is no list of ours
  have key : ∀ (h : Heap) (Q : AV × Heap → Prop), HRep w S μ h → ARep w S μ h X vx → (∀ (r L off len : Nat) (t : Ty) (xs : List t.den), X = .slc r L off len → getR h r ≠ .lst t xs) → (appV h τ by_ X ys).sem C Q → Out S μ w h ((execOp a.eval o).run P w) Q := by
    clear H hT hH rx Q
    intro h Q hH rx hno H
    unfold appV at H
    split at H
    · -- onto nil
      unfold ARep at rx
      subst rx
      by_cases hye : ys = []
      · have hq := H.1 (by rw [hye]; rfl)
        exact Out.same hH (v := .slice none 0 0) (by rw [hexec, zero none 0 0 (Nat.le_refl _) hye]; rfl) (by unfold ARep; rfl) hq
      · obtain ⟨⟨hb1, hb2⟩, hq⟩ := H.2 (by cases ys with | nil => exact absurd rfl hye | cons _ _ => rfl)
        obtain ⟨cells, hr, hm, hge⟩ := onnil rfl hye hb1 hb2
        refine Out.after (ext_drew μ w) ?_
        refine Out.alloc (w := w.drew) hO (hrep_drew hH) (.cells (news ++ cells).toArray e) (grownCap w ys.length 0 e * τ.size) (.seq τ ys false)
          (v := .slice (some ⟨w.drew.heap.size, 0, none⟩) ys.length (grownCap w ys.length 0 e)) (av := .slc h.length ys.length 0 ys.length) hr ?_ ?_ hq
        · exact rrep_new (Go.heap_alloc_new w.drew _) hm hpos ((hd.ext (ext_drew μ w)).ext (ext_alloc μ w.drew _ _)) (fun e => by cases e)
        · exact rep_new_slc (xs := ys) (ex := false) (by rw [← hH.len]; simp) (by simp) rfl hge rfl
    · rename_i r L off len
      split at H
      case h_3 => exact H.elim
      case h_2 hr => exact absurd hr (hno _ _ _ _ _ _ rfl)
      rename_i τ' xs ex hr
      obtain ⟨⟨hL, hle⟩, H⟩ := H
      have HH := Tr.sem_ofOpt H
      clear H
      obtain ⟨xs', ec, H⟩ := HH
      obtain ⟨e1, e2⟩ := castD_some ec
      cases e1
      subst e2
      obtain ⟨⟨hb1, hb2, hoff⟩, H⟩ := H
      subst hoff
      obtain ⟨b, m, cap, hm, ev, hlc, hcm⟩ := rep_slc_seq hr hL rx
      simp only [Nat.zero_mul, Nat.zero_add] at ev hcm hle
      subst ev
      obtain ⟨b', m', hm', cur, ty, hbk, hcs, _, hle', hex, hdx⟩ := hH.row hr rfl
      rw [hm] at hm'; cases hm'
      have hg := getR_some hr rfl
      simp only [two47] at hb1 hb2
      -- in place
      have inplace : len + ys.length ≤ cap → ∃ w', (Builtin.append_ #[t, t] o.type #[.slice (some ⟨b, 0, none⟩) len cap, .slice ad ys.length ycap]).run P w = .ok (.slice (some ⟨b, 0, none⟩) (len + ys.length) cap) w' ∧
          w' = w.setRow b (cur.toList.take (len * τ.size) ++ news ++ cur.toList.drop (len * τ.size + news.length)).toArray := by
        intro hfit
        rcases hys with hys | ⟨b2, off2, rfl, hca⟩
        · refine ⟨w, by rw [zero (some ⟨b, 0, none⟩) len cap hlc hys]; simp [hys], ?_⟩
          have : news = [] := List.eq_nil_of_length_eq_zero (by rw [hnl, hys]; simp)
          subst this
          simp only [List.append_nil, List.length_nil, Nat.add_zero, List.take_append_drop, Array.toArray_toList]
          exact (setRow_self w b cur ty (0, 0) hbk).symm
        · refine ⟨_, ?_, rfl⟩
          have := run_append_in (P := P) (ty := o.type) hu hi hbk (a := ⟨b2, off2, none⟩) (m := ys.length) (c := ycap) (n := len) (cap := cap) (by rw [hsz]; exact hnl) (hnews b2 off2 rfl hca) hn1 hfit (by
            rw [hsz, hnl, ← Nat.add_mul, hcs, ← hcm]; exact Nat.mul_le_mul_right _ hfit)
          rw [hsz] at this
          exact this
      -- to a new block
      have grow : cap < len + ys.length → ∃ spare : List Value, (Builtin.append_ #[t, t] o.type #[.slice (some ⟨b, 0, none⟩) len cap, .slice ad ys.length ycap]).run P w =
          .ok (.slice (some ⟨w.heap.size, 0, none⟩) (len + ys.length) (grownCap w (len + ys.length) cap e)) (w.drew.alloc (.cells (cur.toList.take (len * τ.size) ++ news ++ spare).toArray e)) ∧
          (cur.toList.take (len * τ.size) ++ news ++ spare).length = grownCap w (len + ys.length) cap e * τ.size ∧ len + ys.length ≤ grownCap w (len + ys.length) cap e := by
        intro hlt
        rcases hys with hys | ⟨b2, off2, rfl, hca⟩
        · rw [hys] at hlt; simp at hlt; omega
        have hge := grownCap_ge w (len + ys.length) cap e
        have hlm : len * τ.size ≤ cur.size := by rw [hcs, ← hcm]; exact Nat.mul_le_mul_right _ hlc
        have hol : (cur.toList.take (len * τ.size)).length = len * τ.size := by simp; omega
        have := run_append_grow (P := P) w t o.type e i z hu hi hz ⟨b, 0, none⟩ len cap (cur.toList.take (len * τ.size)) (by rw [hol, hsz]) (fun j v hj => by
            have hjl := (List.getElem?_eq_some_iff.1 hj).1
            rw [hol] at hjl
            rw [Addr.add_lit, Go.cell_of_row w b (0 + j) cur ty (0, 0) hbk]
            rw [List.getElem?_take, if_pos hjl] at hj
            simpa using hj) ⟨b2, off2, none⟩ ys.length ycap news (by rw [hsz]; exact hnl) (hnews b2 off2 rfl hca) hlt (by omega) (growslice_fits hlt (by rw [hby]; exact hb1))
        refine ⟨(Builtin.zeroCells z.cells (grownCap w (len + ys.length) cap e - (len + ys.length))).toList, ?_, ?_, hge⟩
        · rw [this]
          congr 3
          apply Array.ext'; simp
        · rw [List.length_append, List.length_append, hol, hnl, hz0, ← Nat.add_mul, ← Nat.add_mul]; congr 1; omega
      have htake : DRep w (Sd S μ) (.arr len τ) (xs.take len) (cur.toList.take (len * τ.size)) := by
        have h1 := DRep.arr_sub hdx 0 len (by omega)
        simp only [Nat.zero_mul, List.drop_zero, subL] at h1
        rw [List.take_take, Nat.min_eq_left (Nat.mul_le_mul_right _ hle)] at h1
        exact h1
      have hall : ∀ (τ' : Nat), DRep w (Sd S μ) (.arr (len + ys.length) τ) (xs.take len ++ ys) (cur.toList.take (len * τ.size) ++ news) := fun _ => htake.arr_append hd
      have hall := hall 0
      have hlen2 : (xs.take len ++ ys).length = len + ys.length := by simp; omega
      split at H
      · -- no exact row
        by_cases hfr : len = xs.length
        case neg =>
          obtain ⟨hfit, hq⟩ := H.2 (by simpa using hfr)
          have hfit : len + ys.length ≤ xs.length := hfit
          have hxc : xs.length ≤ cap := by
            rw [← hcm] at hle'
            exact Nat.le_of_mul_le_mul_right hle' hpos
          obtain ⟨w', hr', hw'⟩ := inplace (by omega)
          have hE := ext_setRow μ w (cur.toList.take (len * τ.size) ++ news ++ cur.toList.drop (len * τ.size + news.length)).toArray hm
          have hl3 : (xs.take len ++ ys ++ xs.drop (len + ys.length)).length = xs.length := by simp; omega
          have hX := hext_set (ex' := false) (xs' := xs.take len ++ ys ++ xs.drop (len + ys.length)) μ hg (by rw [hl3]; exact Nat.le_refl _)
          have hxm : xs.length * τ.size ≤ cur.size := by rw [hcs]; exact hle'
          have hdrop : DRep w (Sd S μ) (.arr (xs.length - (len + ys.length)) τ) (xs.drop (len + ys.length)) ((cur.toList.drop (len * τ.size + news.length)).take ((xs.length - (len + ys.length)) * τ.size)) := by
            have h1 := DRep.arr_sub hdx (len + ys.length) (xs.length - (len + ys.length)) (by omega)
            have e1 : subL xs (len + ys.length) (xs.length - (len + ys.length)) = xs.drop (len + ys.length) := by unfold subL; apply List.take_of_length_le; simp
            have e2 : ((cur.toList.take (xs.length * τ.size)).drop ((len + ys.length) * τ.size)).take ((xs.length - (len + ys.length)) * τ.size) = (cur.toList.drop (len * τ.size + news.length)).take ((xs.length - (len + ys.length)) * τ.size) := by
              rw [List.drop_take, List.take_take, hnl, ← Nat.add_mul, ← Nat.sub_mul, Nat.min_self]
            rw [e1, e2] at h1
            exact h1
          have hall3 := hall.arr_append hdrop
          have e3 : len + ys.length + (xs.length - (len + ys.length)) = (xs.take len ++ ys ++ xs.drop (len + ys.length)).length := by rw [hl3]; omega
          rw [e3] at hall3
          have esp : cur.toList.take (len * τ.size) ++ news ++ cur.toList.drop (len * τ.size + news.length) = (cur.toList.take (len * τ.size) ++ news ++ (cur.toList.drop (len * τ.size + news.length)).take ((xs.length - (len + ys.length)) * τ.size)) ++ (cur.toList.drop (len * τ.size + news.length)).drop ((xs.length - (len + ys.length)) * τ.size) := by
            rw [List.append_assoc _ _ (List.drop _ (List.drop _ _)), List.take_append_drop]
          have hsize : (cur.toList.take (len * τ.size) ++ news ++ cur.toList.drop (len * τ.size + news.length)).length = m := by
            have h9 : len * τ.size + news.length ≤ cur.size := by rw [hnl, ← Nat.add_mul, hcs, ← hcm]; exact Nat.mul_le_mul_right _ (by omega)
            simp only [List.length_append, List.length_take, List.length_drop, Array.length_toList]
            omega
          have hH' := hrep_setRow (row' := .seq τ (xs.take len ++ ys ++ xs.drop (len + ys.length)) false) (cs := (cur.toList.take (len * τ.size) ++ news ++ cur.toList.drop (len * τ.size + news.length)).toArray) hH hm hg (by intro e; cases e) hX
            (rrep_new (cells := cur.toList.take (len * τ.size) ++ news ++ (cur.toList.drop (len * τ.size + news.length)).take ((xs.length - (len + ys.length)) * τ.size)) (spare := (cur.toList.drop (len * τ.size + news.length)).drop ((xs.length - (len + ys.length)) * τ.size)) (by rw [← esp]; exact setRow_heap w b cur _ ty (0, 0) hbk) (by rw [← esp]; exact hsize) hpos (hall3.ext hE) (fun e => by cases e))
          refine ⟨_, w', μ, _, _, .inl (by rw [hexec, hr']; rfl), by rw [hw']; exact hE, hX, by rw [hw']; exact hH', ?_, hq⟩
          rw [hw', ← hL]
          exact rep_new_slc (xs := xs.take len ++ ys ++ xs.drop (len + ys.length)) (ex := false) hm (List.getElem?_set_self (List.getElem?_eq_some_iff.1 hg).1) hl3 (by omega) hcm
        have hq := H.1 (by simpa using hfr)
        have htx : xs.take len = xs := by rw [hfr]; exact List.take_length
        rw [htx] at hall hlen2
        by_cases hfit : len + ys.length ≤ cap
        · obtain ⟨w', hr', hw'⟩ := inplace hfit
          have hcl : (cur.toList.take (len * τ.size) ++ news).length = (xs ++ ys).length * τ.size := by rw [DRep.len _ _ _ hall, hlen2]; rfl
          have hE := ext_setRow μ w (cur.toList.take (len * τ.size) ++ news ++ cur.toList.drop (len * τ.size + news.length)).toArray hm
          have hX := hext_set (ex' := false) (xs' := xs ++ ys) μ hg (by simp)
          have hsize : ((cur.toList.take (len * τ.size) ++ news) ++ cur.toList.drop (len * τ.size + news.length)).length = m := by
            have h9 : len * τ.size + news.length ≤ cur.size := by rw [hnl, ← Nat.add_mul, hcs, ← hcm]; exact Nat.mul_le_mul_right _ hfit
            simp only [List.length_append, List.length_take, List.length_drop, Array.length_toList]
            omega
          have hH' := hrep_setRow (row' := .seq τ (xs ++ ys) false) (cs := (cur.toList.take (len * τ.size) ++ news ++ cur.toList.drop (len * τ.size + news.length)).toArray) hH hm hg (by intro e; cases e) hX
            (rrep_new (cells := cur.toList.take (len * τ.size) ++ news) (setRow_heap w b cur _ ty (0, 0) hbk) hsize hpos (by rw [hlen2]; exact hall.ext hE) (fun e => by cases e))
          refine ⟨_, w', μ, _, _, .inl (by rw [hexec, hr']; rfl), by rw [hw']; exact hE, hX, by rw [hw']; exact hH', ?_, hq⟩
          rw [hw', hlen2]
          exact rep_new_slc (xs := xs ++ ys) (ex := false) hm (List.getElem?_set_self (List.getElem?_eq_some_iff.1 hg).1) hlen2 hfit hcm
        · obtain ⟨spare, hr', hsl, hge⟩ := grow (by omega)
          have hys' : 0 < ys.length := by omega
          obtain ⟨k1, k2, k3⟩ := hrep_move (w := w.drew) (o := .cells (cur.toList.take (len * τ.size) ++ news ++ spare).toArray e) (m := grownCap w (len + ys.length) cap e * τ.size) (row1 := .seq τ (xs ++ ys) false) (n1 := (xs ++ ys).length) hO (hrep_drew hH) hg (by intro e; cases e)
            (fun L hg' => by have := (genOK_seq hg).1 hg'; rw [List.length_append]; omega) (fun L hc => ((curL_seq (List.getElem?_set_self (List.getElem?_eq_some_iff.1 hg).1)).1 hc).symm)
            (fun L hlt => (genOK_seq (List.getElem?_set_self (List.getElem?_eq_some_iff.1 hg).1)).2 (by omega)) (virL_not (List.getElem?_set_self (List.getElem?_eq_some_iff.1 hg).1) (by intro _ _ e; cases e)) (by
            have hE : Ext μ w.drew (μ.set r (some (w.heap.size, grownCap w (len + ys.length) cap e * τ.size))) (w.drew.alloc (.cells (cur.toList.take (len * τ.size) ++ news ++ spare).toArray e)) := {
              os := rfl, tape := rfl, output := rfl, grow := by simp
              same := fun b hb _ => heap_push_lt hb
              fresh := fun b ⟨i, m', hm⟩ => by
                rcases mu_get_set hm with ⟨_, h1⟩ | ⟨_, h1, _⟩
                · exact .inl ⟨i, m', h1⟩
                · cases h1; exact .inr (Nat.le_refl _) }
            refine rrep_new (Go.heap_alloc_new w.drew _) hsl hpos ?_ (fun e => by cases e)
            rw [hlen2]
            exact (hall.ext (ext_drew μ w)).ext hE)
          refine ⟨_, _, _, _, _, .inl (by rw [hexec, hr']; rfl), (ext_drew μ w).trans k2, k3, k1, ?_, hq⟩
          rw [hlen2]
          exact rep_new_slc (xs := xs ++ ys) (ex := false) (List.getElem?_set_self (by rw [hH.len]; exact (List.getElem?_eq_some_iff.1 hg).1)) (List.getElem?_set_self (List.getElem?_eq_some_iff.1 hg).1) hlen2 hge rfl
      · -- exact row
        have hcap : cap = xs.length := by
          have := hex rfl
          rw [← hcm] at this
          exact (Nat.eq_of_mul_eq_mul_right hpos this).symm
        subst hcap
        by_cases hfit : len + ys.length ≤ xs.length
        · have hq := H.1 (by simpa using hfit)
          obtain ⟨w', hr', hw'⟩ := inplace hfit
          have hE := ext_setRow μ w (cur.toList.take (len * τ.size) ++ news ++ cur.toList.drop (len * τ.size + news.length)).toArray hm
          have hl3 : (xs.take len ++ ys ++ xs.drop (len + ys.length)).length = xs.length := by simp; omega
          have hX := hext_set (ex' := true) (xs' := xs.take len ++ ys ++ xs.drop (len + ys.length)) μ hg (by rw [hl3]; exact Nat.le_refl _)
          have hcs' : cur.size = xs.length * τ.size := by rw [hcs, ← hcm]
          have hdrop : DRep w (Sd S μ) (.arr (xs.length - (len + ys.length)) τ) (xs.drop (len + ys.length)) (cur.toList.drop (len * τ.size + news.length)) := by
            have h1 := DRep.arr_sub hdx (len + ys.length) (xs.length - (len + ys.length)) (by omega)
            have e1 : subL xs (len + ys.length) (xs.length - (len + ys.length)) = xs.drop (len + ys.length) := by unfold subL; apply List.take_of_length_le; simp
            have e2 : ((cur.toList.take (xs.length * τ.size)).drop ((len + ys.length) * τ.size)).take ((xs.length - (len + ys.length)) * τ.size) = cur.toList.drop (len * τ.size + news.length) := by
              rw [← hcs', List.take_of_length_le (l := cur.toList) (by simp), hnl, ← Nat.add_mul, List.take_of_length_le]
              rw [List.length_drop, Array.length_toList, hcs', Nat.sub_mul]
              exact Nat.le_refl _
            rw [e1, e2] at h1
            exact h1
          have hall3 := hall.arr_append hdrop
          have e3 : len + ys.length + (xs.length - (len + ys.length)) = (xs.take len ++ ys ++ xs.drop (len + ys.length)).length := by rw [hl3]; omega
          rw [e3] at hall3
          have hsize : ((cur.toList.take (len * τ.size) ++ news ++ cur.toList.drop (len * τ.size + news.length)) ++ []).length = m := by
            rw [List.append_nil, DRep.len _ _ _ hall3, hl3]; exact hcm
          have hH' := hrep_setRow (row' := .seq τ (xs.take len ++ ys ++ xs.drop (len + ys.length)) true) (cs := (cur.toList.take (len * τ.size) ++ news ++ cur.toList.drop (len * τ.size + news.length)).toArray) hH hm hg (by intro e; cases e) hX
            (rrep_new (cells := cur.toList.take (len * τ.size) ++ news ++ cur.toList.drop (len * τ.size + news.length)) (spare := []) (by rw [List.append_nil]; exact setRow_heap w b cur _ ty (0, 0) hbk) hsize hpos (hall3.ext hE) (fun _ => rfl))
          refine ⟨_, w', μ, _, _, .inl (by rw [hexec, hr']; rfl), by rw [hw']; exact hE, hX, by rw [hw']; exact hH', ?_, hq⟩
          rw [hw', ← hL]
          exact rep_new_slc (xs := xs.take len ++ ys ++ xs.drop (len + ys.length)) (ex := true) hm (List.getElem?_set_self (List.getElem?_eq_some_iff.1 hg).1) hl3 hfit hcm
        · have hq := H.2 (by simpa using hfit)
          obtain ⟨spare, hr', hsl, hge⟩ := grow (by omega)
          refine Out.after (ext_drew μ w) ?_
          refine Out.alloc (w := w.drew) hO (hrep_drew hH) (.cells (cur.toList.take (len * τ.size) ++ news ++ spare).toArray e) (grownCap w (len + ys.length) xs.length e * τ.size) (.seq τ (xs.take len ++ ys) false)
            (v := .slice (some ⟨w.heap.size, 0, none⟩) (len + ys.length) (grownCap w (len + ys.length) xs.length e)) (av := .slc h.length (xs.take len ++ ys).length 0 (xs.take len ++ ys).length) (by rw [hexec, hr']; rfl) ?_ ?_ hq
          · exact rrep_new (Go.heap_alloc_new w.drew _) hsl hpos (by rw [hlen2]; exact (hall.ext (ext_drew μ w)).ext (ext_alloc μ w.drew _ _)) (fun e => by cases e)
          · rw [hlen2]
            exact rep_new_slc (xs := xs.take len ++ ys) (ex := false) (by rw [← hH.len]; simp) (by simp) hlen2 hge rfl
    · -- onto a literal: its capacity is its length
      rename_i τ' xs
      obtain ⟨xs', ec, H⟩ := Tr.sem_ofOpt H
      obtain ⟨e1, e2⟩ := castD_some ec
      cases e1
      subst e2
      obtain ⟨⟨hb1, hb2⟩, hq⟩ := H
      unfold ARep at rx
      obtain ⟨hdv, ad0, rfl⟩ := rx
      have rd0 : ARep w S μ h (.dat (.list τ) xs) (.slice ad0 xs.length xs.length) := by unfold ARep; exact hdv
      obtain ⟨ys0, ad1, cap1, cells1, hq0, e3, hd0, hc0⟩ := elems_rep (C := C) (Q := fun ys => ys = xs) hH rd0 (by
        show ((elems h τ (.dat (.list τ) xs))).sem C _
        simp only [elems, castD_self]
        rfl)
      subst hq0
      cases e3
      have hcl0 : cells1.length = ys0.length * τ.size := DRep.len _ _ _ hd0
      by_cases hye : ys = []
      · refine Out.same hH (v := .slice ad0 ys0.length ys0.length) (by rw [hexec, zero ad0 ys0.length ys0.length (Nat.le_refl _) hye]; rfl) ?_ hq
        rw [hye, List.append_nil]
        exact rd0
      · rcases hys with hys | ⟨b2, off2, rfl, hca⟩
        · exact absurd hys hye
        have hpos' : 0 < ys.length := List.length_pos_iff.2 hye
        simp only [two47] at hb1 hb2
        have hge := grownCap_ge w (ys0.length + ys.length) ys0.length e
        have hrun : ∃ spare : List Value, (execOp a.eval o).run P w = .ok (.value (.slice (some ⟨w.drew.heap.size, 0, none⟩) (ys0.length + ys.length) (grownCap w (ys0.length + ys.length) ys0.length e))) (w.drew.alloc (.cells (cells1 ++ news ++ spare).toArray e)) ∧ (cells1 ++ news ++ spare).length = grownCap w (ys0.length + ys.length) ys0.length e * τ.size := by
          refine ⟨(Builtin.zeroCells z.cells (grownCap w (ys0.length + ys.length) ys0.length e - (ys0.length + ys.length))).toList, ?_, ?_⟩
          · rw [hexec]
            have hrun0 : ∀ (base : Addr), ad0 = some base → (∀ j v, cells1[j]? = some v → w.cell? (base.add j) = some v) → (Builtin.append_ #[t, t] o.type #[.slice ad0 ys0.length ys0.length, .slice (some ⟨b2, off2, none⟩) ys.length ycap]).run P w = .ok (.slice (some ⟨w.heap.size, 0, none⟩) (ys0.length + ys.length) (grownCap w (ys0.length + ys.length) ys0.length e)) (w.drew.alloc (.cells (cells1 ++ news ++ (Builtin.zeroCells z.cells (grownCap w (ys0.length + ys.length) ys0.length e - (ys0.length + ys.length))).toList).toArray e)) := by
              intro base eb hcells
              subst eb
              have := run_append_grow (P := P) w t o.type e i z hu hi hz base ys0.length ys0.length cells1 (by rw [hcl0, hsz]) hcells ⟨b2, off2, none⟩ ys.length ycap news (by rw [hsz]; exact hnl) (hnews b2 off2 rfl hca) (by omega) (by omega) (growslice_fits (by omega) (by rw [hby]; exact hb1))
              rw [this]
              congr 3
              apply Array.ext'; simp
            rcases hc0 with hx0 | ⟨b0, off0, ea, hca0⟩
            · have hcn : cells1 = [] := List.eq_nil_of_length_eq_zero (by rw [hcl0, hx0]; simp)
              cases ad0 with
              | none =>
                subst hx0
                subst hcn
                have hr := run_append_nil (P := P) w t o.type e i z hu hi hz ⟨b2, off2, none⟩ ys.length ycap news (by rw [hsz]; exact hnl) (hnews b2 off2 rfl hca) hpos' (by omega) (by rw [hby]; simp at hb1; omega)
                simp only [List.length_nil, Nat.zero_add, List.nil_append]
                have hcells : (news.toArray ++ Builtin.zeroCells z.cells (grownCap w ys.length 0 e - ys.length)) = (news ++ (Builtin.zeroCells z.cells (grownCap w ys.length 0 e - ys.length)).toList).toArray := by
                  apply Array.ext'; simp
                rw [hr, hcells]; rfl
              | some base =>
                rw [hrun0 base rfl (fun j v hj => by rw [hcn] at hj; simp at hj)]; rfl
            · rw [hrun0 ⟨b0, off0, none⟩ ea (fun j v hj => by rw [Addr.add_lit, hca0 j (List.getElem?_eq_some_iff.1 hj).1]; exact hj)]; rfl
          · rw [List.length_append, List.length_append, hcl0, hnl, hz0, ← Nat.add_mul, ← Nat.add_mul]; congr 1; omega
        obtain ⟨spare, hr, hm⟩ := hrun
        have hEx : Ext μ w μ (w.drew.alloc (.cells (cells1 ++ news ++ spare).toArray e)) := (ext_drew μ w).trans ⟨rfl, rfl, rfl, by simp, fun b hb _ => heap_push_lt hb, fun _ h => .inl h⟩
        refine ⟨_, _, μ, .dat (.list τ) (ys0 ++ ys), h, .inl hr, hEx, HExt.refl _ _, hrep_ext hH hEx (fun b ⟨r, m, hm⟩ => heap_push_lt (w := w.drew) (hH.lt _ _ _ hm)), ?_, hq⟩
        have hd2 : DRep w (Sd S μ) (.arr (ys0 ++ ys).length τ) (ys0 ++ ys) (cells1 ++ news) := by rw [List.length_append]; exact hd0.arr_append hd
        rw [rep_list]
        refine ⟨some ⟨w.heap.size, 0, none⟩, grownCap w (ys0.length + ys.length) ys0.length e, by rw [List.length_append]; rfl, by rw [List.length_append]; exact hge, fun _ => ⟨w.heap.size, 0, rfl, ⟨hO _ (Nat.le_refl _), fun ⟨r, m, hm⟩ => Nat.lt_irrefl _ (hH.lt _ _ _ hm)⟩, by simp, fun j hj => ?_⟩⟩
        obtain ⟨k1, k2⟩ := seq_elem hd2 hj
        refine ⟨_, k2, ?_, k1.ext hEx⟩
        rw [Nat.zero_add]
        have h5 := cellsAt_of_block (w := w.drew.alloc (.cells (cells1 ++ news ++ spare).toArray e)) (b := w.heap.size) (c := (cells1 ++ news ++ spare).toArray) (e := e) (fz := (0, 0)) (Go.heap_alloc_new w.drew _) (j * τ.size) τ.size
        have hcn : (cells1 ++ news).length = (ys0 ++ ys).length * τ.size := by rw [List.length_append, List.length_append, hcl0, hnl, Nat.add_mul]
        have hje : j * τ.size + τ.size ≤ (cells1 ++ news).length := by
          rw [hcn, ← Nat.succ_mul]; exact Nat.mul_le_mul_right _ hj
        have e6 : (((cells1 ++ news ++ spare).toArray.toList).drop (j * τ.size)).take τ.size = ((cells1 ++ news).drop (j * τ.size)).take τ.size := by
          rw [List.drop_append_of_le_length (by omega), List.take_append_of_le_length (by rw [List.length_drop]; omega)]
        rw [e6] at h5
        exact h5
    · exact H.elim
  -- onto a list of ours
  by_cases hlst : ∃ (r L off len : Nat) (t' : Ty) (xs : List t'.den), X = .slc r L off len ∧ getR h r = .lst t' xs
  case neg => exact key h Q hH rx (fun r L off len t' xs e1 e2 => hlst ⟨r, L, off, len, t', xs, e1, e2⟩) H
  obtain ⟨r, L, off, len, t', xs, rfl, hr⟩ := hlst
  simp only [appV, hr] at H
  obtain ⟨⟨hL, hoff, hlen⟩, H⟩ := H
  obtain ⟨xs', ec, H⟩ := Tr.sem_ofOpt H
  obtain ⟨e1, e2⟩ := castD_some ec
  cases e1
  subst e2
  obtain ⟨⟨hb1, hb2⟩, hq⟩ := H
  subst hoff
  have hg := getR_lst hr
  have hgl := (List.getElem?_eq_some_iff.1 hg).1
  rcases Nat.eq_zero_or_pos xs.length with h0 | h0
  · have hx : xs = [] := List.eq_nil_of_length_eq_zero h0
    subst hx
    have rx' := rx
    unfold ARep at rx'
    obtain ⟨ev, _⟩ := rx'.2.2.2 ((virL_lst hg).2 rfl) (by simpa using hL.symm)
    by_cases hye : ys = []
    · subst hye
      have e3 : h.set r (.lst τ ([] ++ [])) = h := set_same hg
      rw [e3] at hq
      refine Out.same hH (v := .slice none 0 0) (by rw [hexec, ev, zero none 0 0 (Nat.le_refl _) rfl]; rfl) ?_ hq
      unfold ARep
      exact ⟨rfl, ⟨hgl, genOK_zero (by rw [hg]; simp)⟩, fun hc => absurd ((curL_lst hg).1 hc).1 (by simp), fun _ _ => ⟨rfl, rfl⟩⟩
    · have hpos' : 0 < ys.length := List.length_pos_iff.2 hye
      simp only [List.length_nil, Nat.zero_add] at hb1 hb2
      obtain ⟨cells, hr', hm, hge⟩ := onnil ev hye hb1 hb2
      have hself : (h.set r (.lst τ ([] ++ ys)))[r]? = some (.lst τ ys) := by rw [List.nil_append]; exact List.getElem?_set_self hgl
      obtain ⟨k1, k2, k3⟩ := hrep_move (w := w.drew) (o := .cells (news ++ cells).toArray e) (m := grownCap w ys.length 0 e * τ.size) (row1 := .lst τ ([] ++ ys)) (n1 := ys.length) hO (hrep_drew hH) hg (by intro e; cases e)
        (fun L hg' => by have := (genOK_lst hg).1 hg'; simp at this; omega) (fun L hc => ((curL_lst hself).1 hc).2.symm) (fun L hlt => (genOK_lst hself).2 (by omega)) (fun hv => by have := (virL_lst hself).1 hv; omega) (by
          have hE : Ext μ w.drew (μ.set r (some (w.heap.size, grownCap w ys.length 0 e * τ.size))) (w.drew.alloc (.cells (news ++ cells).toArray e)) := {
            os := rfl, tape := rfl, output := rfl, grow := by simp
            same := fun b hb _ => heap_push_lt hb
            fresh := fun b ⟨i, m', hm⟩ => by
              rcases mu_get_set hm with ⟨_, h1⟩ | ⟨_, h1, _⟩
              · exact .inl ⟨i, m', h1⟩
              · cases h1; exact .inr (Nat.le_refl _) }
          have hR : RRep (w.drew.alloc (.cells (news ++ cells).toArray e)) S (μ.set r (some (w.heap.size, grownCap w ys.length 0 e * τ.size))) (h.set r (.lst τ ([] ++ ys))) (.seq τ ys false) w.drew.heap.size (grownCap w ys.length 0 e * τ.size) :=
            rrep_new (cells := news) (spare := cells) (Go.heap_alloc_new w.drew _) hm hpos ((hd.ext (ext_drew μ w)).ext hE) (fun e => by cases e)
          exact hR)
      refine ⟨_, _, _, _, _, .inl hr', (ext_drew μ w).trans k2, k3, k1, ?_, hq⟩
      exact rep_new_lst (xs := ys) (List.getElem?_set_self (by rw [hH.len]; exact hgl)) hself hpos' rfl hge rfl
  · refine Out.ofSeq hg h0 ?_
    have hX := hext_toSeq μ hg h0
    refine key (h.set r (.seq τ xs false)) _ (hrep_toSeq hH hg h0) (ARep.ext (Ext.refl _ _) hX _ _ rx) ?_ ?_
    · intro r' L' off' len' t2 xs2 e
      cases e
      rw [getR_live (List.getElem?_set_self hgl)]
      intro e; cases e
    · have e4 : getR (h.set r (.seq τ xs false)) r = .seq τ xs false := getR_live (List.getElem?_set_self hgl)
      simp only [appV, e4]
      refine ⟨⟨hL, by omega⟩, ?_⟩
      rw [castD_self]
      refine ⟨⟨by rw [hlen]; exact hb1, by rw [hlen]; exact hb2, trivial⟩, fun _ => ⟨xs ++ ys, ?_, by simp; omega, ?_⟩, fun hc => by simp [hlen] at hc⟩
      · exact List.getElem?_set_self (by simpa using hgl)
      · have hq : Q (_, _) := hq
        simpa [List.set_set] using hq

theorem DRep.arr_cast {w : World} {T : Nat → Prop} {t : Ty} {n m : Nat} {xs : List t.den} {cs : List Value} (e : n = m) (H : DRep w T (.arr n t) xs cs) : DRep w T (.arr m t) xs cs := by subst e; exact H

theorem splice_take {α : Type} : ∀ (c : List α) (cs : List α) (off n : Nat), off + c.length ≤ n → splice (cs.take n) off c = (splice cs off c).take n
  | [], cs, off, n, _ => rfl
  | x :: c, cs, off, n, h => by
    simp only [List.length_cons] at h
    simp only [splice]
    have e : (cs.take n).set off x = (cs.set off x).take n := by rw [List.take_set]
    rw [e]
    exact splice_take c (cs.set off x) (off + 1) n (by omega)

theorem snd_store {o : Oper} {t : TypeId} {x y : Operand} (ho : o.op = .store t x y) : Sound P o := by
  intro S μ h w C hC N s a Q I hO hH hT hc H
  rw [ho] at hc
  simp only [cOp0] at hc
  obtain ⟨x', h1, hc1⟩ := bindSome hc
  obtain ⟨y', h2, hc2⟩ := bindSome hc1
  obtain ⟨⟨sz, ag⟩, hz, rfl⟩ := mapSome hc2
  clear hc hc1 hc2
  obtain ⟨inf, d, _, _, _, _, hso⟩ := sz_info (w := w) hz
  have rx := ev_rep hT h1
  have ry := ev_rep hT h2
  have hexec : ∀ (b off : Nat) (w' : World), a.eval x = .pointer (some ⟨b, off, none⟩) → (a.eval y).cells.size = sz → (storeCells ⟨b, off, none⟩ (a.eval y).cells.toList).run P w = .ok () w' → (execOp a.eval o).run P w = .ok .skip w' := by
    intro b off w' e hs hr; unfold execOp; simp [ho, Go.Instr.storeAt, Go.Instr.sureAddr, e, storeVar, hso, hs, hr]
  generalize a.eval x = vx at *
  generalize a.eval y = vy at *
  simp only [vop] at H
  generalize ev s x' = X at *
  generalize ev s y' = Y at *
  split at H
  · rename_i r off
    split at H
    case h_2 => exact H.elim
    rename_i cs hr
    obtain ⟨⟨hok, hsz, hle⟩, hq⟩ := H
    obtain ⟨b, m, hm, e⟩ := rep_ptr_box hr rx
    obtain ⟨b', m', hm', cur, ty, hbk, hcs, hcle, hl, h1c⟩ := hH.row hr rfl
    rw [hm] at hm'; cases hm'
    obtain ⟨hyl, hyone⟩ := cellsV_rep ry hok
    have hvs : vy.cells.size = sz := by rw [← hsz, hyl.length]; simp
    have hcl : cs.length ≤ cur.size := by rw [hcs]; exact hcle
    have hfit : off + 0 + vy.cells.toList.length ≤ cur.size := by simp; omega
    have hrun := run_storeCells_at P b off ty vy.cells.toList 0 cur w hbk hfit hyone
    have hg := getR_some hr rfl
    have hnew : (cur.toList.take (off + 0) ++ vy.cells.toList ++ cur.toList.drop (off + 0 + vy.cells.toList.length)).toArray = (splice cur.toList off vy.cells.toList).toArray := by
      rw [splice_eq _ _ _ (by simpa using hfit)]; simp
    rw [hnew] at hrun
    have hE := ext_setRow μ w (splice cur.toList off vy.cells.toList).toArray hm
    have hX := hext_set_box (cs' := splice cs off (cellsV Y)) μ hg
    refine ⟨undef, _, μ, .top, _, .inr ⟨hexec b off _ e hvs hrun, rfl⟩, hE, hX, ?_, by unfold ARep; trivial, hq⟩
    refine hrep_setRow hH hm hg (by intro e; cases e) hX ⟨_, ty, setRow_heap w b cur _ ty (0, 0) hbk, by simp [splice_length, hcs], by rw [splice_length]; exact hcle, ?_, ?_⟩
    · have h9 := ARepL.ext hE hX _ _ (ARepL.splice off hl hyl)
      rw [splice_take _ _ _ _ (by rw [← hyl.length]; omega)] at h9
      rw [splice_length]
      exact h9
    · have := splice_mem (p := fun u => u.oneCell' = true) vy.cells.toList cur.toList off (by simpa using h1c) hyone
      simpa using this
  · rename_i r L i
    split at H
    · rename_i τ xs ex hr
      obtain ⟨⟨⟨hL, hi⟩, hts⟩, H⟩ := H
      rw [Tr.sem_bind] at H
      have HH := cv_rep hH ry H
      clear H
      obtain ⟨⟨μ1, u, h1', hH1, he1, hh1, hd1, hk, H⟩, hsz⟩ := HH
      simp only at H
      obtain ⟨b, m, hm, e⟩ := rep_eptr hr hL rx
      have hg := getR_some hr rfl
      split at H
      · exact H.elim
      · rename_i hnd
        have hrl : r < h1'.length := by
          rcases Nat.lt_or_ge r h1'.length with h | h
          · exact h
          · exact absurd (getR_dead_of_ge h) (by intro e; exact hnd e)
        have hg1 : h1'[r]? = some (.seq τ xs ex) := by
          have e1 := List.getElem?_eq_getElem hrl
          have hlive : h1'[r] ≠ .dead := fun e => hnd ((getR_live e1).trans e)
          have := (hk.same r _ e1 hlive).1
          rw [hg] at this
          rw [e1, ← this]
        have hm1 : μ1[r]? = some (some (b, m)) := by rw [(hk.same r _ hg1 (by intro e; cases e)).2]; exact hm
        obtain ⟨b', m', hm', cur, ty, hbk, hcs, hpos, hle', hex, hdx⟩ := hH1.rows r _ hg1 rfl
        rw [hm1] at hm'; cases hm'
        have hvl : vy.cells.toList.length = τ.size := DRep.len _ _ _ hd1
        have hvone := DRep.one _ _ _ hd1
        have hle3 : i * τ.size + τ.size ≤ xs.length * τ.size := by
          have := Nat.mul_le_mul_right τ.size hi
          rw [Nat.succ_mul] at this; exact this
        have hfit : i * τ.size + 0 + vy.cells.toList.length ≤ cur.size := by rw [hvl, hcs]; omega
        have hrun := run_storeCells_at P b (i * τ.size) ty vy.cells.toList 0 cur w hbk hfit hvone
        have hnew : (cur.toList.take (i * τ.size + 0) ++ vy.cells.toList ++ cur.toList.drop (i * τ.size + 0 + vy.cells.toList.length)).toArray = (splice cur.toList (i * τ.size) vy.cells.toList).toArray := by
          rw [splice_eq _ _ _ (by simpa using hfit)]; simp
        rw [hnew] at hrun
        have hE := ext_setRow μ1 w (splice cur.toList (i * τ.size) vy.cells.toList).toArray hm1
        have hX := hext_set (ex' := ex) (xs' := xs.set i u) μ1 hg1 (by simp)
        refine ⟨undef, _, μ1, .top, _, .inr ⟨hexec b _ _ e (hsz.trans hts) hrun, rfl⟩, he1.trans hE, hh1.trans hX, ?_, by unfold ARep; trivial, H⟩
        refine hrep_setRow hH1 hm1 hg1 (by intro e; cases e) hX ⟨_, ty, setRow_heap w b cur _ ty (0, 0) hbk, by simp [splice_length, hcs], hpos, by simpa using hle', by simpa using hex, ?_⟩
        have hset := (hdx.arr_set hd1 hi)
        have e5 : splice (cur.toList.take (xs.length * τ.size)) (i * τ.size) vy.cells.toList = (splice cur.toList (i * τ.size) vy.cells.toList).take (xs.length * τ.size) := by
          rw [splice_eq _ _ _ (by simp [hvl]; omega), splice_eq _ _ _ (by simpa using hfit)]
          rw [hvl, List.take_take, Nat.min_eq_left (by omega), List.append_assoc, List.append_assoc]
          have a1 : (cur.toList.take (i * τ.size)).length = i * τ.size := by simp; omega
          rw [List.take_append, a1, List.take_append, hvl, List.drop_take, List.take_of_length_le (l := cur.toList.take (i * τ.size)) (by rw [a1]; omega), List.take_of_length_le (l := vy.cells.toList) (by rw [hvl]; omega)]
          congr 3
          omega
        rw [e5] at hset
        have := hset.ext hE
        exact DRep.arr_cast (n := xs.length) (List.length_set).symm (by simpa using this)
    · rename_i τ xs hr
      obtain ⟨⟨⟨hL, hi⟩, hts⟩, H⟩ := H
      rw [Tr.sem_bind] at H
      have HH := cv_rep hH ry H
      clear H
      obtain ⟨⟨μ1, u, h1', hH1, he1, hh1, hd1, hk, H⟩, hsz⟩ := HH
      simp only at H
      obtain ⟨b, m, hm, e⟩ := rep_eptr_lst hr (by omega) hL rx
      have hg := getR_lst hr
      have h0 : 0 < xs.length := by omega
      split at H
      · exact H.elim
      · rename_i hnd
        have hrl : r < h1'.length := by
          rcases Nat.lt_or_ge r h1'.length with h | h
          · exact h
          · exact absurd (getR_dead_of_ge h) (by intro e; exact hnd e)
        have hg1 : h1'[r]? = some (.lst τ xs) := by
          have e1 := List.getElem?_eq_getElem hrl
          have hlive : h1'[r] ≠ .dead := fun e => hnd ((getR_live e1).trans e)
          have := (hk.same r _ e1 hlive).1
          rw [hg] at this
          rw [e1, ← this]
        have hm1 : μ1[r]? = some (some (b, m)) := by rw [(hk.same r _ hg1 (by intro e; cases e)).2]; exact hm
        obtain ⟨b', m', hm', cur, ty, hbk, hcs, hpos, hle', hex, hdx⟩ := hH1.rows r _ hg1 (lst_live h0)
        rw [hm1] at hm'; cases hm'
        have hvl : vy.cells.toList.length = τ.size := DRep.len _ _ _ hd1
        have hvone := DRep.one _ _ _ hd1
        have hle3 : i * τ.size + τ.size ≤ xs.length * τ.size := by
          have := Nat.mul_le_mul_right τ.size hi
          rw [Nat.succ_mul] at this; exact this
        have hfit : i * τ.size + 0 + vy.cells.toList.length ≤ cur.size := by rw [hvl, hcs]; omega
        have hrun := run_storeCells_at P b (i * τ.size) ty vy.cells.toList 0 cur w hbk hfit hvone
        have hnew : (cur.toList.take (i * τ.size + 0) ++ vy.cells.toList ++ cur.toList.drop (i * τ.size + 0 + vy.cells.toList.length)).toArray = (splice cur.toList (i * τ.size) vy.cells.toList).toArray := by
          rw [splice_eq _ _ _ (by simpa using hfit)]; simp
        rw [hnew] at hrun
        have hE := ext_setRow μ1 w (splice cur.toList (i * τ.size) vy.cells.toList).toArray hm1
        have hX := hext_set_lst (xs' := xs.set i u) μ1 hg1 h0 (by simp)
        refine ⟨undef, _, μ1, .top, _, .inr ⟨hexec b _ _ e (hsz.trans hts) hrun, rfl⟩, he1.trans hE, hh1.trans hX, ?_, by unfold ARep; trivial, H⟩
        refine hrep_setRow hH1 hm1 hg1 (by intro e; cases e) hX ⟨_, ty, setRow_heap w b cur _ ty (0, 0) hbk, by simp [splice_length, hcs], hpos, by simpa using hle', (fun e => by cases e), ?_⟩
        have hset := (hdx.arr_set hd1 hi)
        have e5 : splice (cur.toList.take (xs.length * τ.size)) (i * τ.size) vy.cells.toList = (splice cur.toList (i * τ.size) vy.cells.toList).take (xs.length * τ.size) := by
          rw [splice_eq _ _ _ (by simp [hvl]; omega), splice_eq _ _ _ (by simpa using hfit)]
          rw [hvl, List.take_take, Nat.min_eq_left (by omega), List.append_assoc, List.append_assoc]
          have a1 : (cur.toList.take (i * τ.size)).length = i * τ.size := by simp; omega
          rw [List.take_append, a1, List.take_append, hvl, List.drop_take, List.take_of_length_le (l := cur.toList.take (i * τ.size)) (by rw [a1]; omega), List.take_of_length_le (l := vy.cells.toList) (by rw [hvl]; omega)]
          congr 3
          omega
        rw [e5] at hset
        have := hset.ext hE
        exact DRep.arr_cast (n := xs.length) (List.length_set).symm (by simpa using this)
    · exact H.elim
  · exact H.elim
/-! ### Rows that were kept free -/
theorem isRes_get {r : Nat} (hr : isRes (getR h r) = true) : h[r]? = some .res := by
  cases e : getR h r with
  | res => exact getR_some' e (by intro e; cases e)
  | _ => rw [e] at hr; cases hr
theorem res_gen {r L : Nat} (hr : h[r]? = some .res) : ¬ genOK h r L := by
  unfold genOK; rw [hr]; exact id

theorem ext_res (μ : Mu) (w : World) (r m : Nat) (o : Obj) : Ext μ w (μ.set r (some (w.heap.size, m))) (w.alloc o) where
  os := rfl
  tape := rfl
  output := rfl
  grow := by simp
  same := fun b hb _ => heap_push_lt hb
  fresh := fun b ⟨i, m', hm⟩ => by
    rcases mu_get_set hm with ⟨_, h1⟩ | ⟨_, h1, _⟩
    · exact .inl ⟨i, m', h1⟩
    · cases h1; exact .inr (Nat.le_refl _)
theorem hext_res {r : Nat} {row : Row} (μ : Mu) (hr : h[r]? = some .res) (x : Option (Nat × Nat)) (hv : ∀ t xs, row ≠ .lst t xs) : HExt μ h (μ.set r x) (h.set r row) where
  len := by simp
  gen := fun i L hi hg => by
    by_cases e : i = r
    · subst e; exact absurd hg (res_gen hr)
    · exact (genOK_set_other e).2 hg
  keep := fun i L hi hg hc => by
    by_cases e : i = r
    · subst e; exact absurd hg (res_gen hr)
    · exact ⟨(curL_set_other e).1 hc, List.getElem?_set_ne (fun e' => e e'.symm), rowTy_set_other e⟩
  vir := fun i hi hvv => by
    by_cases e : i = r
    · subst e; exact absurd hvv (virL_not (List.getElem?_set_self hi) hv)
    · exact (virL_set_other e).1 hvv
theorem hrep_res {row1 : Row} (hO : Open S w) (hH : HRep w S μ h) {r : Nat} {o : Obj} {m : Nat} (hr : h[r]? = some .res) (hv : ∀ t xs, row1 ≠ .lst t xs)
    (hR : RRep (w.alloc o) S (μ.set r (some (w.heap.size, m))) (h.set r row1) row1 w.heap.size m) : HRep (w.alloc o) S (μ.set r (some (w.heap.size, m))) (h.set r row1) where
  len := by simp [hH.len]
  inj := fun i j b m1 m2 h1 h2 => by
    rcases mu_get_set h1 with ⟨n1, a1⟩ | ⟨n1, a1, _⟩ <;> rcases mu_get_set h2 with ⟨n2, a2⟩ | ⟨n2, a2, _⟩
    · exact hH.inj i j b m1 m2 a1 a2
    · cases a2; have := hH.lt _ _ _ a1; omega
    · cases a1; have := hH.lt _ _ _ a2; omega
    · omega
  lt := fun i b m1 h1 => by
    rcases mu_get_set h1 with ⟨_, a1⟩ | ⟨_, a1, _⟩
    · have := hH.lt i b m1 a1; simp; omega
    · cases a1; simp
  own := fun i b m1 h1 => by
    rcases mu_get_set h1 with ⟨_, a1⟩ | ⟨_, a1, _⟩
    · exact hH.own i b m1 a1
    · cases a1; exact hO _ (Nat.le_refl _)
  rows := fun i row h1 hl => by
    rcases heap_get_set h1 with ⟨hne, h1⟩ | ⟨rfl, h1, _⟩
    · obtain ⟨b, m1, e, H⟩ := hH.rows i row h1 hl
      refine ⟨b, m1, by rw [List.getElem?_set_ne (fun e => hne e.symm)]; exact e, ?_⟩
      refine RRep.ext hH ⟨i, e⟩ (ext_res μ w r m o) (hext_res μ hr _ hv) (heap_push_lt (hH.lt _ _ _ e)) ?_ H
      intro d db dm _ hd hd'
      have hdr : d ≠ r := by intro e; subst e; rw [hr] at hd'; cases hd'
      exact ⟨by rw [List.getElem?_set_ne (fun e => hdr e.symm)]; exact hd, by rw [List.getElem?_set_ne (fun e => hdr e.symm)]; exact hd'⟩
    · subst h1
      exact ⟨w.heap.size, m, List.getElem?_set_self (by rw [hH.len]; exact (List.getElem?_eq_some_iff.1 hr).1), hR⟩

theorem snd_boxR {o : Oper} {t : TypeId} {x : Operand} (ho : o.op = .box t x) {N d : Nat} {s : List (Nat × AV)} {a : Act} {Q : AV × Heap → Prop} {x' : Opd}
    (hO : Open S w) (hH : HRep w S μ h) (hT : TRep w S μ h N s a.tmps) (hc : cOp0 P (.box t x) = some (.box x')) (H : (vop s h (.boxR d x')).sem C Q) : Out S μ w h ((execOp a.eval o).run P w) Q := by
  simp only [cOp0] at hc
  obtain ⟨x'', h1, hc⟩ := mapSome hc
  cases hc
  obtain ⟨⟨hres, hok⟩, hq⟩ := H
  have hr := isRes_get hres
  have rx := ev_rep hT h1
  generalize hX : ev s x' = X at *
  obtain ⟨hl, hone⟩ := cellsV_rep rx hok
  have hv : ∀ t xs, Row.box (cellsV X) ≠ .lst t xs := by intro _ _ e; cases e
  have hrl := (List.getElem?_eq_some_iff.1 hr).1
  refine ⟨.pointer (some ⟨w.heap.size, 0, none⟩), w.alloc (.cells (a.eval x).cells t (0, 0)), μ.set (h.length - d) (some (w.heap.size, (a.eval x).cells.size)), .ptr (h.length - d) 0, _, .inl ?_, ext_res _ _ _ _ _, hext_res μ hr _ hv, hrep_res hO hH hr hv ?_, ?_, hq⟩
  · unfold execOp; simp [ho, Go.Instr.box, newVar, newRow]
  · exact box_new (Go.heap_alloc_new w _) rfl (ARepL.ext (ext_res _ _ _ _ _) (hext_res μ hr _ hv) _ _ hl) (by simpa using hone)
  · unfold ARep
    refine ⟨rfl, ⟨by simpa using hrl, genOK_zero (by rw [List.getElem?_set_self hrl]; simp)⟩, fun _ => ⟨w.heap.size, (a.eval x).cells.size, List.getElem?_set_self (by rw [hH.len]; exact hrl), fun _ => rfl⟩⟩

theorem snd_allocR {o : Oper} {t : TypeId} (ho : o.op = .alloc t) {d : Nat} {s : List (Nat × AV)} {a : Act} {Q : AV × Heap → Prop} {z : List AV}
    (hO : Open S w) (hH : HRep w S μ h) (hc : cOp0 P (.alloc t) = some (.alloc z)) (H : (vop s h (.allocR d z)).sem C Q) : Out S μ w h ((execOp a.eval o).run P w) Q := by
  simp only [cOp0] at hc
  obtain ⟨z', hz, hc⟩ := mapSome hc
  cases hc
  obtain ⟨hres, hq⟩ := H
  have hr := isRes_get hres
  have hv : ∀ t xs, Row.box z ≠ .lst t xs := by intro _ _ e; cases e
  have hrl := (List.getElem?_eq_some_iff.1 hr).1
  unfold zeroOf at hz
  split at hz
  · rename_i i hi
    split at hz
    · rename_i v hv'
      obtain ⟨hl, hone⟩ := cstL_rep (w := w) (S := S) (μ := μ) (h := h) hz
      refine ⟨.pointer (some ⟨w.heap.size, 0, none⟩), w.alloc (.cells v.cells t (0, 0)), μ.set (h.length - d) (some (w.heap.size, v.cells.size)), .ptr (h.length - d) 0, _, .inl ?_, ext_res _ _ _ _ _, hext_res μ hr _ hv, hrep_res hO hH hr hv ?_, ?_, hq⟩
      · unfold execOp; simp [ho, Go.Instr.alloc, zeroValue, typeInfo, hi, hv', newVar, newRow]
      · exact box_new (Go.heap_alloc_new w _) rfl (ARepL.ext (ext_res _ _ _ _ _) (hext_res μ hr _ hv) _ _ hl) (by simpa using hone)
      · unfold ARep
        refine ⟨rfl, ⟨by simpa using hrl, genOK_zero (by rw [List.getElem?_set_self hrl]; simp)⟩, fun _ => ⟨w.heap.size, v.cells.size, List.getElem?_set_self (by rw [hH.len]; exact hrl), fun _ => rfl⟩⟩
    · cases hz
  · cases hz

theorem snd_mkR {o : Oper} {t : TypeId} {l c : Operand} (ho : o.op = .makeSlice t l c) {N d : Nat} {s : List (Nat × AV)} {a : Act} {Q : AV × Heap → Prop} {τ : Ty} {by_ : Nat} {l' c' : Opd}
    (hO : Open S w) (hH : HRep w S μ h) (hT : TRep w S μ h N s a.tmps) (hc : cOp0 P (.makeSlice t l c) = some (.mk τ by_ l' c')) (H : (vop s h (.mkR d τ by_ l' c')).sem C Q) : Out S μ w h ((execOp a.eval o).run P w) Q := by
  simp only [cOp0] at hc
  obtain ⟨l', h1, hc⟩ := bindSome hc
  obtain ⟨c', h2, hc⟩ := bindSome hc
  split at hc
  case h_2 => cases hc
  rename_i e he
  have hu := elemOf_spec he
  obtain ⟨⟨τ', by'⟩, hel, hc⟩ := bindSome hc
  simp only at hc
  split at hc
  case h_2 =>
    obtain ⟨_, _, hc⟩ := mapSome hc
    cases hc
  cases hc
  obtain ⟨i, z, hi, hsz, hpos, hz, hby, hzr⟩ := elTy_spec hel
  have rl := ev_rep hT h1
  have rc := ev_rep hT h2
  simp only [vop] at H
  split at H
  case h_2 => exact H.elim
  rename_i kl L kc M e1 e2
  rw [e1, rep_int] at rl
  rw [e2, rep_int] at rc
  obtain ⟨hres, ⟨⟨hl0, hlm⟩, hb, hm47⟩, hq⟩ := H
  have hr := isRes_get hres
  have hv : ∀ t xs, Row.seq τ (List.replicate (Int.toNat M) τ.dflt) true ≠ .lst t xs := by intro _ _ e; cases e
  have hrl := (List.getElem?_eq_some_iff.1 hr).1
  have hzs : z.cells.size = τ.size := by simpa using DRep.len _ _ _ (hzr w (Sd S μ))
  simp only [two47] at hb hm47
  have hrun := run_make w t e i z hu hi hz kl kc L M hl0 hlm (by rw [hby, Int.mul_comm]; exact Int.le_trans hb (by omega)) (Int.le_trans hm47 (by omega))
  have hdr := dflt_rep (hzr (w.alloc (.cells (madeCells z.cells (Int.toNat M * i.size)) e)) (Sd S (μ.set (h.length - d) (some (w.heap.size, Int.toNat M * i.size))))) (Int.toNat M)
  rw [hzs, ← hsz] at hdr
  refine ⟨.slice (some ⟨w.heap.size, 0, none⟩) (Int.toNat L) (Int.toNat M), w.alloc (.cells (madeCells z.cells (Int.toNat M * i.size)) e), μ.set (h.length - d) (some (w.heap.size, Int.toNat M * i.size)), .slc (h.length - d) (Int.toNat M) 0 (Int.toNat L), _, .inl ?_, ext_res _ _ _ _ _, hext_res μ hr _ hv, hrep_res hO hH hr hv ?_, ?_, hq⟩
  · unfold execOp; simp [ho, rl, rc, hrun]
  · have hts : (madeCells z.cells (Int.toNat M * i.size)).size = Int.toNat M * i.size := by simp [madeCells]
    refine ⟨_, e, Go.heap_alloc_new w _, hts, hpos, by simp [hsz], fun _ => by simp [hsz], ?_⟩
    have : (madeCells z.cells (Int.toNat M * i.size)).toList.take ((List.replicate (Int.toNat M) τ.dflt).length * τ.size) = (madeCells z.cells (Int.toNat M * i.size)).toList := by
      apply List.take_of_length_le; rw [Array.length_toList, hts, List.length_replicate, hsz]; exact Nat.le_refl _
    rw [this, List.length_replicate]
    exact hdr
  · have hlm' : Int.toNat L ≤ Int.toNat M := Int.toNat_le_toNat hlm
    exact rep_new_slc (ex := true) (xs := List.replicate (Int.toNat M) τ.dflt) (m := Int.toNat M * i.size) (List.getElem?_set_self (by rw [hH.len]; exact hrl)) (List.getElem?_set_self hrl) (by simp) hlm' (by rw [hsz])
/-! ### Structs and arrays compared -/
theorem eq_cell {d : Nat} {t : TypeId} {tag : Bool} {ts : List Bool} {a b : AV} {u v : Value} {as bs : List AV} {r : Bool} (ht : scalarT P t = some tag) (ha : ARep w S μ h a u) (hb : ARep w S μ h b v) (hr : eqC (tag :: ts) (a :: as) (b :: bs) = some r) :
    ∃ q r', (Go.Op.equalIn (d + 1) t u v).run P w = .ok q w ∧ eqC ts as bs = some r' ∧ r = (q && r') := by
  unfold eqC at hr
  split at hr
  · rename_i e _ _; cases e
  · rename_i ts' k x as' k' y bs' e0 e1 e2
    cases e0; cases e1; cases e2
    split at hr
    · rename_i hk
      have := kEq_eq hk
      subst this
      rw [rep_int] at ha hb
      subst ha; subst hb
      cases hq : eqC ts as bs with
      | none => rw [hq] at hr; cases hr
      | some r' =>
        rw [hq] at hr
        cases hr
        unfold scalarT at ht
        split at ht
        · rename_i hu _
          exact ⟨x == y, r', run_equalIn_int w d t k _ x y hu, rfl, rfl⟩
        · cases ht
        · cases ht
    · cases hr
  · rename_i ts' x as' y bs' e0 e1 e2
    cases e0; cases e1; cases e2
    rw [rep_bool] at ha hb
    subst ha; subst hb
    cases hq : eqC ts as bs with
    | none => rw [hq] at hr; cases hr
    | some r' =>
      rw [hq] at hr
      cases hr
      unfold scalarT at ht
      split at ht
      · cases ht
      · rename_i hu _
        exact ⟨x == y, r', run_equalIn_bool' w d t x y hu, rfl, rfl⟩
      · cases ht
  · cases hr

theorem scalar_sz {t : TypeId} {tag : Bool} (ht : scalarT P t = some tag) : szOf P t = some (1, false) := by
  unfold scalarT at ht
  split at ht
  · rename_i h; exact h
  · rename_i h; exact h
  · cases ht

theorem part_one {t : TypeId} {tag : Bool} (ht : scalarT P t = some tag) {xs : Array Value} {o : Nat} {u : Value} (hx : xs[o]? = some u) : (part t xs o).run P w = .ok u w := by
  obtain ⟨i, d, hi, hd, hsz, hag, hso⟩ := sz_info (w := w) (scalar_sz ht)
  unfold part
  simp [hag, hx]

theorem eqC_len : ∀ {ts : List Bool} {as bs : List AV} {r : Bool}, eqC ts as bs = some r → as.length = ts.length ∧ bs.length = ts.length
  | ts, as, bs, r, H => by
    unfold eqC at H
    split at H
    · exact ⟨rfl, rfl⟩
    · split at H
      · obtain ⟨r', h, _⟩ := mapSome H
        obtain ⟨h1, h2⟩ := eqC_len h
        exact ⟨by simp [h1], by simp [h2]⟩
      · cases H
    · obtain ⟨r', h, _⟩ := mapSome H
      obtain ⟨h1, h2⟩ := eqC_len h
      exact ⟨by simp [h1], by simp [h2]⟩
    · cases H
termination_by ts => ts.length

/-- the fields of a struct, one by one -/
theorem eq_fields {d : Nat} {xs ys : Array Value} : ∀ (fs : List Field) (k : Nat) (ts : List Bool) (as bs : List AV) (r : Bool), tagsFs P fs k = some ts → eqC ts as bs = some r →
    ARepL w S μ h as (xs.toList.drop k) → ARepL w S μ h bs (ys.toList.drop k) → (Go.Op.eqFields (d + 1) xs ys fs).run P w = .ok r w
  | [], k, ts, as, bs, r, ht, hr, _, _ => by
    cases ht
    obtain ⟨h1, h2⟩ := eqC_len hr
    have h1 := List.eq_nil_of_length_eq_zero h1
    have h2 := List.eq_nil_of_length_eq_zero h2
    subst h1; subst h2
    simp only [eqC, Option.some.injEq] at hr
    subst hr
    simp [Go.Op.eqFields]
  | f :: fs, k, ts, as, bs, r, ht, hr, ha, hb => by
    simp only [tagsFs] at ht
    split at ht
    case h_2 => cases ht
    rename_i hn
    simp only [Bool.and_eq_true, bne_iff_ne, ne_eq] at hn
    obtain ⟨tag, hs, ht⟩ := bindSome ht
    obtain ⟨ts', ht', rfl⟩ := mapSome ht
    have ho := Nat.eq_of_beq_eq_true hn.2
    obtain ⟨h1, h2⟩ := eqC_len hr
    cases as with
    | nil => simp at h1
    | cons a as =>
      cases bs with
      | nil => simp at h2
      | cons b bs =>
        cases hx : xs.toList.drop k with
        | nil => rw [hx] at ha; unfold ARepL at ha; exact ha.elim
        | cons u us =>
          cases hy : ys.toList.drop k with
          | nil => rw [hy] at hb; unfold ARepL at hb; exact hb.elim
          | cons v vs =>
            rw [hx] at ha; rw [hy] at hb
            unfold ARepL at ha hb
            have hxu : xs[k]? = some u := by
              have := congrArg (fun l => l[0]?) hx
              simpa using this
            have hyv : ys[k]? = some v := by
              have := congrArg (fun l => l[0]?) hy
              simpa using this
            obtain ⟨q, r', e1, e2, e3⟩ := eq_cell (d := d) hs ha.1 hb.1 hr
            have hx' : xs.toList.drop (k + 1) = us := by rw [← List.tail_drop, hx]; rfl
            have hy' : ys.toList.drop (k + 1) = vs := by rw [← List.tail_drop, hy]; rfl
            have ih := eq_fields fs (k + 1) ts' as bs r' ht' e2 (by rw [hx']; exact ha.2) (by rw [hy']; exact hb.2) (d := d) (xs := xs) (ys := ys)
            subst e3
            have p1 := part_one (w := w) hs (ho ▸ hxu)
            have p2 := part_one (w := w) hs (ho ▸ hyv)
            cases q with
            | true => simp [Go.Op.eqFields, hn.1, p1, p2, e1, ih]
            | false => simp [Go.Op.eqFields, hn.1, p1, p2, e1]
theorem eq_loop {d : Nat} {e : TypeId} {tag : Bool} {xs ys : Array Value} (hs : scalarT P e = some tag) : ∀ (m k : Nat) (as bs : List AV) (r : Bool), eqC (List.replicate m tag) as bs = some r →
    ARepL w S μ h as (xs.toList.drop k) → ARepL w S μ h bs (ys.toList.drop k) →
    (forIn (List.range' k m 1) ((none : Option Bool), ()) fun i (_ : Option Bool × Unit) => do
      let a ← part e xs (i * 1)
      let b ← part e ys (i * 1)
      let q ← Go.Op.equalIn (d + 1) e a b
      if (!q) = true then pure (ForInStep.done (some false, ())) else pure (ForInStep.yield ((none : Option Bool), ()))).run P w = .ok ((match r with | true => none | false => some false), ()) w
  | 0, k, as, bs, r, hr, _, _ => by
    obtain ⟨h1, h2⟩ := eqC_len hr
    have h1 := List.eq_nil_of_length_eq_zero h1
    have h2 := List.eq_nil_of_length_eq_zero h2
    subst h1; subst h2
    simp only [List.replicate, eqC, Option.some.injEq] at hr
    subst hr
    simp
  | m + 1, k, as, bs, r, hr, ha, hb => by
    rw [List.replicate_succ] at hr
    obtain ⟨h1, h2⟩ := eqC_len hr
    cases as with
    | nil => simp at h1
    | cons a as =>
      cases bs with
      | nil => simp at h2
      | cons b bs =>
        cases hx : xs.toList.drop k with
        | nil => rw [hx] at ha; unfold ARepL at ha; exact ha.elim
        | cons u us =>
          cases hy : ys.toList.drop k with
          | nil => rw [hy] at hb; unfold ARepL at hb; exact hb.elim
          | cons v vs =>
            rw [hx] at ha; rw [hy] at hb
            unfold ARepL at ha hb
            have hxu : xs[k * 1]? = some u := by
              have := congrArg (fun l => l[0]?) hx
              simpa using this
            have hyv : ys[k * 1]? = some v := by
              have := congrArg (fun l => l[0]?) hy
              simpa using this
            obtain ⟨q, r', e1, e2, e3⟩ := eq_cell (d := d) hs ha.1 hb.1 hr
            have hx' : xs.toList.drop (k + 1) = us := by rw [← List.tail_drop, hx]; rfl
            have hy' : ys.toList.drop (k + 1) = vs := by rw [← List.tail_drop, hy]; rfl
            have ih := eq_loop hs m (k + 1) as bs r' e2 (by rw [hx']; exact ha.2) (by rw [hy']; exact hb.2) (d := d) (xs := xs) (ys := ys)
            subst e3
            have p1 := part_one (w := w) hs hxu
            have p2 := part_one (w := w) hs hyv
            simp only [List.range'_succ, List.forIn_cons, Sem.run_bind, p1, p2, Result.andThen_ok, e1]
            cases q with
            | true =>
              simp only [Bool.not_true, Bool.false_eq_true, if_false, Sem.run_pure, Result.andThen_ok, Bool.true_and]
              exact ih
            | false => simp

theorem eq_array {d len : Nat} {t e : TypeId} {tag : Bool} {xs ys : Array Value} {as bs : List AV} {r : Bool} (ht : P.underlying t = some (.array len e)) (hs : scalarT P e = some tag)
    (hr : eqC (List.replicate len tag) as bs = some r) (ha : ARepL w S μ h as xs.toList) (hb : ARepL w S μ h bs ys.toList) : (Go.Op.equalIn (d + 2) t (.agg xs) (.agg ys)).run P w = .ok r w := by
  obtain ⟨i, ds, hi, hd, hsz, hag, hso⟩ := sz_info (w := w) (scalar_sz hs)
  unfold Go.Op.equalIn
  simp only [Sem.run_bind, run_underlying ht, Result.andThen_ok, hso]
  rw [Std.Legacy.Range.forIn_eq_forIn_range']
  have hsize : (Std.Legacy.Range.mk 0 len 1 (by omega)).size = len := by simp [Std.Legacy.Range.size]
  have := eq_loop (d := d) hs len 0 as bs r hr (by simpa using ha) (by simpa using hb)
  simp only [hsize]
  rw [this]
  cases r <;> simp
theorem agg_cells {X : AV} {v : Value} (H : ARep w S μ h X v) (hX : isAggV X = true) : ∃ xs : Array Value, v = .agg xs ∧ ARepL w S μ h (cellsV X) xs.toList := by
  cases X with
  | agg cs =>
    unfold ARep at H
    obtain ⟨vs, e, h1, _⟩ := H
    exact ⟨vs.toArray, e, by simpa [cellsV] using h1⟩
  | dat t x =>
    have hX : t.isAgg = true := hX
    unfold ARep DVal at H
    rw [hX] at H
    obtain ⟨cs, e, h1⟩ := H
    exact ⟨cs.toArray, e, by simpa [cellsV] using cellsD_rep t x cs h1⟩
  | _ => cases hX

theorem eq_agg {t : TypeId} {ts : List Bool} {as bs : List AV} {r : Bool} {xs ys : Array Value} (hts : tagsOf P t = some ts) (hr : eqC ts as bs = some r) (ha : ARepL w S μ h as xs.toList) (hb : ARepL w S μ h bs ys.toList) :
    P.eqGuardType P.depth t = false ∧ (Go.Op.equalIn 10000 t (.agg xs) (.agg ys)).run P w = .ok r w := by
  unfold tagsOf at hts
  split at hts
  · cases hts
  · rename_i hg
    refine ⟨hg, ?_⟩
    split at hts
    · rename_i fs hu
      split at hts
      · cases hts
      · rename_i hp
        have hf : P.fieldsOf t = fs := by unfold Program.fieldsOf; rw [hu]
        rw [run_equalIn_struct w 9999 t xs ys (by rw [hf]; exact hu) hp, hf]
        exact eq_fields fs.toList 0 ts as bs r hts hr (by simpa using ha) (by simpa using hb)
    · rename_i n e hu
      obtain ⟨tag, hs, rfl⟩ := mapSome hts
      exact eq_array hu hs hr ha hb
    · cases hts

theorem snd_bin {o : Oper} {op : BinOp} {t ty : TypeId} {x y : Operand} (ho : o.op = .binOp op t x y ty) : Sound P o := by
  intro S μ h w C hC N s a Q I _ hH hT hc H
  rw [ho] at hc
  simp only [cOp0] at hc
  obtain ⟨x', h1, hc⟩ := bindSome hc
  obtain ⟨y', h2, hc⟩ := bindSome hc
  have rx := ev_rep hT h1
  have ry := ev_rep hT h2
  have fin : (∃ av v, (binOp op t (a.eval x) (a.eval y)).run P w = .ok v w ∧ ARep w S μ h av v ∧ Q (av, h)) → (eqGuard op t x y (a.eval x) (a.eval y)).run P w = .ok () w →
      Out S μ w h ((execOp a.eval o).run P w) Q := by
    rintro ⟨av, v, hr, hv, hq⟩ hg
    refine Out.same hH (v := v) (av := av) ?_ hv hq
    unfold execOp
    simp [ho, hg, hr]
  split at hc
  · cases hc
    simp only [vop, Tr.sem_bind, Tr.sem] at H
    generalize ev s x' = X at *
    generalize ev s y' = Y at *
    unfold binV at H
    split at H
    · rename_i k m k' n
      rw [rep_int] at rx ry
      rw [rx, ry] at fin
      refine fin ?_ eqGuard_plain
      split at H
      · exact run_shiftI H
      · exact run_shiftI H
      · split at H
        · rename_i hk
          have := kEq_eq hk
          subst this
          exact run_binI (by constructor <;> assumption) H
        · exact H.elim
    · exact H.elim
  · rename_i hu
    cases hc
    simp only [vop, Tr.sem_bind, Tr.sem] at H
    generalize ev s x' = X at *
    generalize ev s y' = Y at *
    unfold binB at H
    split at H
    · rename_i b c
      rw [rep_bool] at rx ry
      rw [rx, ry] at fin
      refine fin ?_ eqGuard_bool
      split at H
      · exact ⟨_, _, run_eql_bool w t b c hu, rep_bool.2 rfl, H⟩
      · exact ⟨_, _, run_neq_bool w t b c hu, rep_bool.2 rfl, H⟩
      · exact H.elim
    · exact H.elim
  · rename_i e hu
    have key : ∀ eq : Bool, op = (if eq then .eql else .neq) → y' = .c .nils → some (Instr.isnil eq x') = some I → Out S μ w h ((execOp a.eval o).run P w) Q := by
      intro eq hop hy he
      cases he
      subst hy
      have ry : ARep w S μ h .nils (a.eval y) := ry
      unfold ARep at ry
      obtain ⟨ad, l, c, ev_, hq⟩ := run_isnil hC rx H
      rw [ry, ev_, hop] at fin
      refine fin ⟨_, _, run_nil_of hu, rep_bool.2 rfl, hq⟩ ?_
      cases eq <;> rfl
    split at hc
    · exact key true rfl rfl hc
    · exact key false rfl rfl hc
    · cases hc
  · rename_i ms hu
    have key : ∀ eq : Bool, op = (if eq then .eql else .neq) → y' = .c .nili → some (Instr.isnili eq x') = some I → Out S μ w h ((execOp a.eval o).run P w) Q := by
      intro eq hop hy he
      cases he
      subst hy
      obtain ⟨ey, hyc⟩ : a.eval y = .nilIface ∧ ∃ v, y = .const v := by
        have ry : ARep w S μ h .nili (a.eval y) := ry
        unfold ARep at ry
        refine ⟨ry, ?_⟩
        cases y with
        | const v => exact ⟨v, rfl⟩
        | tmp t => simp [cOpd] at h2
        | global g => simp only [cOpd] at h2; split at h2 <;> cases h2
        | func f => simp [cOpd] at h2
      obtain ⟨vy, rfl⟩ := hyc
      rw [ey] at fin
      simp only [vop] at H
      split at H
      · rename_i hX
        rw [hX] at rx
        unfold ARep at rx
        rw [rx, hop] at fin
        refine fin ⟨_, .bool eq, ?_, rep_bool.2 rfl, H⟩ ?_
        · have h1 : (Go.Op.equal t .nilIface .nilIface).run P w = .ok true w := by
            have : ∀ d, (Go.Op.equalIn (d + 1) t .nilIface .nilIface).run P w = .ok true w := fun d => by
              simp [Go.Op.equalIn, run_underlying hu]
            exact this 9999
          cases eq <;> simp [binOp, h1]
        · cases eq <;> simp [eqGuard]
      · rename_i T u hX
        rw [hX] at rx
        unfold ARep at rx
        obtain ⟨u', e, _⟩ := rx
        rw [e, hop] at fin
        refine fin ⟨_, .bool (!eq), ?_, rep_bool.2 rfl, H⟩ ?_
        · have h1 : (Go.Op.equal t (.iface T u') .nilIface).run P w = .ok false w := by
            have : ∀ d, (Go.Op.equalIn (d + 1) t (.iface T u') .nilIface).run P w = .ok false w := fun d => by
              simp [Go.Op.equalIn, run_underlying hu]
            exact this 9999
          cases eq <;> simp [binOp, h1]
        · cases eq <;> simp [eqGuard]
      · exact H.elim
    split at hc
    · exact key true rfl rfl hc
    · exact key false rfl rfl hc
    · cases hc
  · have key : ∀ (eq : Bool) (ts : List Bool), op = (if eq then .eql else .neq) → tagsOf P t = some ts → some (Instr.eqv eq ts x' y') = some I → Out S μ w h ((execOp a.eval o).run P w) Q := by
      intro eq ts hop hts he
      cases he
      obtain ⟨⟨hx, hy⟩, H⟩ := H
      obtain ⟨r, hr, hq⟩ := Tr.sem_ofOpt H
      obtain ⟨xs, exs, hxs⟩ := agg_cells rx hx
      obtain ⟨ys, eys, hys⟩ := agg_cells ry hy
      obtain ⟨hg, heq⟩ := eq_agg hts hr hxs hys
      rw [exs, eys, hop] at fin
      refine fin ⟨_, _, ?_, rep_bool.2 rfl, hq⟩ (run_eqGuard_agg w _ t x y xs ys hg)
      cases eq with
      | true => rw [if_pos rfl, run_eql_struct, heq]; rfl
      | false => rw [if_neg (by simp), run_neq_struct, heq]; rfl
    unfold cEqv at hc
    split at hc
    · obtain ⟨ts, h1', h2'⟩ := mapSome hc
      exact key true ts rfl h1' (congrArg some h2')
    · obtain ⟨ts, h1', h2'⟩ := mapSome hc
      exact key false ts rfl h1' (congrArg some h2')
    · cases hc

/-- the capacity, where it is known -/
theorem snd_cap {o : Oper} {c : Call} (ho : o.op = .call c) (hb : c.callee = .builtin .cap) : Sound P o := by
  intro S μ h w C hC N s a Q I _ hH hT hc H
  rw [ho] at hc
  simp only [cOp0, hb, cBuiltin] at hc
  unfold cCap at hc
  split at hc
  case h_2 => cases hc
  rename_i x t hx ht
  obtain ⟨x', h1, hc⟩ := bindSome hc
  split at hc
  case h_2 => cases hc
  rename_i e hu
  cases hc
  have rx := ev_rep hT h1
  have hexec : (execOp a.eval o).run P w = ((Builtin.cap_ #[t] o.type #[a.eval x]).run P w).andThen fun v w' => .ok (.value v) w' := by
    rw [exec_builtin ho hb, arr_of_list hx, arr_of_list ht]
    simp [builtin]
  generalize a.eval x = vx at *
  have hcap : ∀ b n cp, (Builtin.cap_ #[t] o.type #[.slice b n cp]).run P w = .ok (goInt cp) w := by intro b n cp; simp [Builtin.cap_, run_underlying hu]
  simp only [vop, Tr.sem_bind, Tr.sem] at H
  generalize ev s x' = X at *
  unfold capV at H
  split at H
  · unfold ARep at rx
    subst rx
    exact Out.same hH (v := goInt 0) (by rw [hexec, hcap]; rfl) (rep_int.2 rfl) H
  · rename_i r L off len
    split at H
    case h_2 => exact H.elim
    rename_i τ xs ex hr
    obtain ⟨⟨hL, hex⟩, hq⟩ := H
    obtain ⟨b, m, cap, hm, ev, hlc, hcm⟩ := rep_slc_seq hr hL rx
    obtain ⟨b', m', hm', cur, ty, hbk, hcs, hpos, hle', hexm, hdx⟩ := hH.row hr rfl
    rw [hm] at hm'; cases hm'
    subst ev
    have e1 : xs.length = off + cap := by
      have := hexm hex
      rw [← hcm] at this
      exact Nat.eq_of_mul_eq_mul_right hpos this
    refine Out.same hH (v := goInt cap) (by rw [hexec, hcap]; rfl) (rep_int.2 ?_) hq
    have e2 : xs.length - off = cap := by omega
    rw [e2]
    rfl
  · exact H.elim
end
end GoV
