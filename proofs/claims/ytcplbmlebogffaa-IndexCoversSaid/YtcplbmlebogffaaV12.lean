/- Append; stores. -/
import Derived.Test.YtcplbmlebogffaaV11
set_option linter.unusedSectionVars false
namespace GoV
open Go

section
variable [GTab] {P : Program} {S : Nat → Prop} {μ : Mu} {h : Heap} {w : World} {C : CallSem}

/-- A row moves to a new block. -/
theorem hrep_move {row0 row1 : Row} {n1 : Nat} (hO : Open S w) (hH : HRep w S μ h) {r : Nat} {o : Obj} {m : Nat} (hr : h[r]? = some row0) (hnd : row0 ≠ .dfr) (hgl : ∀ L, genOK h r L → L < n1)
    (hcur : ∀ L, curL (h.set r row1) r L → L = n1) (hgen1 : ∀ L, L < n1 → genOK (h.set r row1) r L) (hvir : ¬ virL (h.set r row1) r)
    (hR : RRep (w.alloc o) S (μ.set r (some (w.heap.size, m))) (h.set r row1) row1 w.heap.size m) :
    HRep (w.alloc o) S (μ.set r (some (w.heap.size, m))) (h.set r row1) ∧ Ext μ w (μ.set r (some (w.heap.size, m))) (w.alloc o) ∧ HExt μ h (μ.set r (some (w.heap.size, m))) (h.set r row1) := by
  have hrl : r < h.length := (List.getElem?_eq_some_iff.1 hr).1
  have hE : Ext μ w (μ.set r (some (w.heap.size, m))) (w.alloc o) := {
    os := rfl, tape := rfl, output := rfl, grow := by simp
    same := fun b hb _ => heap_push_lt hb
    fresh := fun b ⟨i, m', hm⟩ => by
      rcases mu_get_set hm with ⟨_, h1⟩ | ⟨_, h1, _⟩
      · exact .inl ⟨i, m', h1⟩
      · cases h1; exact .inr (Nat.le_refl _) }
  have hX : HExt μ h (μ.set r (some (w.heap.size, m))) (h.set r row1) := {
    len := by simp
    gen := fun i L hi hg => by
      by_cases e : i = r
      · subst e
        exact hgen1 L (hgl L hg)
      · exact (genOK_set_other e).2 hg
    keep := fun i L hi hg hc => by
      by_cases e : i = r
      · subst e
        have h1 := hgl L hg
        have h2 := hcur L hc
        omega
      · exact ⟨(curL_set_other e).1 hc, List.getElem?_set_ne (fun e' => e e'.symm), rowTy_set_other e⟩
    vir := fun i hi hv => by
      by_cases e : i = r
      · subst e; exact absurd hv hvir
      · exact (virL_set_other e).1 hv }
  refine ⟨?_, hE, hX⟩
  exact {
    len := by simp [hH.len]
    inj := fun i j b m1 m2 h1 h2 => by
      rcases mu_get_set h1 with ⟨n1, a1⟩ | ⟨n1, a1, _⟩ <;> rcases mu_get_set h2 with ⟨n2, a2⟩ | ⟨n2, a2, _⟩
      · exact hH.inj i j b m1 m2 a1 a2
      · cases a2; have := hH.lt _ _ _ a1; omega
      · cases a1; have := hH.lt _ _ _ a2; omega
      · omega
    lt := fun i b m1 h1 => by
      rcases mu_get_set h1 with ⟨_, a1⟩ | ⟨_, a1, _⟩
      · have := hH.lt i b m1 a1; simp; omega
      · cases a1; simp
    own := fun i b m1 h1 => by
      rcases mu_get_set h1 with ⟨_, a1⟩ | ⟨_, a1, _⟩
      · exact hH.own i b m1 a1
      · cases a1; exact hO _ (Nat.le_refl _)
    rows := fun i row h1 hl => by
      rcases heap_get_set h1 with ⟨hne, h1⟩ | ⟨rfl, h1, _⟩
      · obtain ⟨b, m1, e, H⟩ := hH.rows i row h1 hl
        refine ⟨b, m1, by rw [List.getElem?_set_ne (fun e => hne e.symm)]; exact e, ?_⟩
        refine RRep.ext hH ⟨i, e⟩ hE hX (heap_push_lt (hH.lt _ _ _ e)) ?_ H
        intro d db dm _ hd hd'
        have hdr : d ≠ r := by intro e; subst e; rw [hr] at hd'; cases hd'; exact hnd rfl
        exact ⟨by rw [List.getElem?_set_ne (fun e => hdr e.symm)]; exact hd, by rw [List.getElem?_set_ne (fun e => hdr e.symm)]; exact hd'⟩
      · subst h1
        exact ⟨w.heap.size, m, List.getElem?_set_self (by rw [hH.len]; exact hrl), hR⟩ }

theorem rrep_new {t : Ty} {xs : List t.den} {ex : Bool} {cells spare : List Value} {e : TypeId} {b m : Nat} (hb : w.heap[b]? = some (.cells (cells ++ spare).toArray e (0, 0))) (hm : (cells ++ spare).length = m) (hpos : 0 < t.size)
    (hd : DRep w (Sd S μ) (.arr xs.length t) xs cells) (hex : ex = true → spare = []) : RRep w S μ h (.seq t xs ex) b m := by
  have hcl : cells.length = xs.length * t.size := DRep.len _ _ _ hd
  refine ⟨_, e, hb, by simpa using hm, hpos, by rw [← hm]; simp [← hcl], fun h => by rw [← hm, hex h]; simp [hcl], ?_⟩
  have : ((cells ++ spare).toArray.toList.take (xs.length * t.size)) = cells := by rw [← hcl]; simp
  rw [this]; exact hd

theorem run_append_in {t ty e el : TypeId} {i : TypeInfo} (ht : P.underlying t = some (.slice e)) (hi : P.info? e = some i) {g n cap : Nat} {cur : Array Value} (hg : w.heap[g]? = some (.cells cur el (0, 0)))
    {a : Addr} {m c : Nat} {news : List Value} (hl : news.length = m * i.size) (hnews : ∀ j u, news[j]? = some u → w.cell? (a.add j) = some u) (h1 : ∀ u ∈ news, u.oneCell' = true)
    (hroom : n + m ≤ cap) (hfit : n * i.size + news.length ≤ cur.size) :
    (Builtin.append_ #[t, t] ty #[.slice (some ⟨g, 0, none⟩) n cap, .slice (some a) m c]).run P w =
      .ok (.slice (some ⟨g, 0, none⟩) (n + m) cap) (w.setRow g (cur.toList.take (n * i.size) ++ news ++ cur.toList.drop (n * i.size + news.length)).toArray) := by
  have k1 := run_firstCells_some (P := P) w i.size m a m c news hl hnews
  have k2 := run_storeCells_at P g (n * i.size) el news 0 cur w hg (by simpa using hfit) h1
  rw [Nat.add_zero] at k2
  simp [Builtin.append_, run_underlying ht, Go.sizeOf, typeInfo, hi, Builtin.lenOf, hroom, k1, Addr.add_lit, k2]

theorem getR_live {r : Nat} {row : Row} (hr : h[r]? = some row) : getR h r = row := by
  induction h generalizing r with
  | nil => simp at hr
  | cons x h ih =>
    cases r with
    | zero => simpa [getR] using hr
    | succ r => simp only [getR]; exact ih (by simpa using hr)

theorem getR_dead_of_ge {r : Nat} (hr : h.length ≤ r) : getR h r = .dead := by
  induction h generalizing r with
  | nil => rfl
  | cons x h ih =>
    cases r with
    | zero => simp at hr
    | succ r => simp only [getR]; exact ih (by simpa using hr)

theorem snd_app {o : Oper} {c : Call} (ho : o.op = .call c) (hb : c.callee = .builtin .append) : Sound P o := by
  intro S μ h w C hC N s a Q I hO hH hT hc H
  rw [ho] at hc
  simp only [cOp0, hb, cBuiltin] at hc
  unfold cApp at hc
  split at hc
  case h_2 => cases hc
  rename_i x y t u hx hty
  obtain ⟨x', h1, hc1⟩ := bindSome hc
  obtain ⟨y', h2, hc2⟩ := bindSome hc1
  clear hc hc1
  split at hc2
  case h_2 => cases hc2
  rename_i e he htu
  obtain ⟨⟨τ, by_⟩, hel, rfl⟩ := mapSome hc2
  clear hc2
  have htu := Nat.eq_of_beq_eq_true htu
  subst htu
  have hu := elemOf_spec he
  obtain ⟨i, z, hi, hsz, hpos, hz, hby, hzr⟩ := elTy_spec hel
  have rx := ev_rep hT h1
  have ry := ev_rep hT h2
  have hexec : (execOp a.eval o).run P w = ((Builtin.append_ #[t, t] o.type #[a.eval x, a.eval y]).run P w).andThen fun v w' => .ok (.value v) w' := by
    rw [exec_builtin ho hb, arr_of_list hx, arr_of_list hty]
    simp [builtin]
  generalize a.eval x = vx at *
  generalize a.eval y = vy at *
  simp only [vop, Tr.sem_bind] at H
  generalize ev s x' = X at *
  generalize ev s y' = Y at *
  have HH := elems_rep hH ry H
  clear H
  obtain ⟨ys, ad, ycap, news, H, rfl, hd, hys⟩ := HH
  have hnl : news.length = ys.length * τ.size := DRep.len _ _ _ hd
  have hn1 : ∀ u ∈ news, u.oneCell' = true := DRep.one _ _ _ hd
  have zero : ∀ (base : Option Addr) (n cap : Nat), n ≤ cap → ys = [] → (Builtin.append_ #[t, t] o.type #[.slice base n cap, .slice ad ys.length ycap]).run P w = .ok (.slice base n cap) w := by
    intro base n cap hn e; rw [e]; exact run_append_zero hu hi base n cap ycap ad hn
  have hnews : ∀ b off, ad = some ⟨b, off, none⟩ → cellsAt w b off news → ∀ j v, news[j]? = some v → w.cell? ((⟨b, off, none⟩ : Addr).add j) = some v := by
    intro b off _ hca j v hj
    rw [Addr.add_lit, hca j (List.getElem?_eq_some_iff.1 hj).1]; exact hj
  have hzs : z.cells.size = τ.size := by simpa using DRep.len _ _ _ (hzr w (Sd S μ))
  have hz0 : ∀ n, (Builtin.zeroCells z.cells n).toList.length = n * τ.size := fun n => by rw [Array.length_toList, size_zeroCells, hzs]
  -- the nil slice, appended to
  have onnil : vx = .slice none 0 0 → ys ≠ [] → ys.length * by_ ≤ two47 → ys.length ≤ two47 → ∃ cells : List Value, (execOp a.eval o).run P w = .ok (.value (.slice (some ⟨w.drew.heap.size, 0, none⟩) ys.length (grownCap w ys.length 0 e))) (w.drew.alloc (.cells (news ++ cells).toArray e)) ∧
      (news ++ cells).length = grownCap w ys.length 0 e * τ.size ∧ ys.length ≤ grownCap w ys.length 0 e := by
    intro ev hye hb1 hb2
    subst ev
    rcases hys with hys | ⟨b, off, rfl, hca⟩
    · exact absurd hys hye
    have hpos' : 0 < ys.length := List.length_pos_iff.2 hye
    simp only [two47] at hb1 hb2
    have hr := run_append_nil (P := P) w t o.type e i z hu hi hz ⟨b, off, none⟩ ys.length ycap news (by rw [hsz]; exact hnl) (hnews b off rfl hca) hpos' (by omega) (by rw [hby]; omega)
    have hge := grownCap_ge w ys.length 0 e
    have hcells : (news.toArray ++ Builtin.zeroCells z.cells (grownCap w ys.length 0 e - ys.length)) = (news ++ (Builtin.zeroCells z.cells (grownCap w ys.length 0 e - ys.length)).toList).toArray := by
      apply Array.ext'; simp
    rw [hcells] at hr
    refine ⟨(Builtin.zeroCells z.cells (grownCap w ys.length 0 e - ys.length)).toList, by rw [hexec, hr]; rfl, ?_, hge⟩
    rw [List.length_append, hnl, hz0, ← Nat.add_mul]; congr 1; omega
  -- onto what is no list of ours
  have key : ∀ (h : Heap) (Q : AV × Heap → Prop), HRep w S μ h → ARep w S μ h X vx → (∀ (r L off len : Nat) (t : Ty) (xs : List t.den), X = .slc r L off len → getR h r ≠ .lst t xs) → (appV h τ by_ X ys).sem C Q → Out S μ w h ((execOp a.eval o).run P w) Q := by
    clear H hT hH rx Q ry
    intro h Q hH rx hno H
    unfold appV at H
    split at H
    · -- onto nil
      unfold ARep at rx
      subst rx
      by_cases hye : ys = []
      · have hq := H.1 (by rw [hye]; rfl)
        exact Out.same hH (v := .slice none 0 0) (by rw [hexec, zero none 0 0 (Nat.le_refl _) hye]; rfl) (by unfold ARep; rfl) hq
      · obtain ⟨⟨hb1, hb2⟩, hq⟩ := H.2 (by cases ys with | nil => exact absurd rfl hye | cons _ _ => rfl)
        obtain ⟨cells, hr, hm, hge⟩ := onnil rfl hye hb1 hb2
        refine Out.after (ext_drew μ w) ?_
        refine Out.alloc (w := w.drew) hO (hrep_drew hH) (.cells (news ++ cells).toArray e) (grownCap w ys.length 0 e * τ.size) (.seq τ ys false)
          (v := .slice (some ⟨w.drew.heap.size, 0, none⟩) ys.length (grownCap w ys.length 0 e)) (av := .slc h.length ys.length 0 ys.length) hr ?_ ?_ hq
        · exact rrep_new (Go.heap_alloc_new w.drew _) hm hpos ((hd.ext (ext_drew μ w)).ext (ext_alloc μ w.drew _ _)) (fun e => by cases e)
        · exact rep_new_slc (xs := ys) (ex := false) (by rw [← hH.len]; simp) (by simp) rfl hge rfl
    · rename_i r L off len
      split at H
      case h_3 => exact H.elim
      case h_2 hr => exact absurd hr (hno _ _ _ _ _ _ rfl)
      rename_i τ' xs ex hr
      obtain ⟨⟨hL, hle⟩, H⟩ := H
      have HH := Tr.sem_ofOpt H
      clear H
      obtain ⟨xs', ec, H⟩ := HH
      obtain ⟨e1, e2⟩ := castD_some ec
      cases e1
      subst e2
      obtain ⟨⟨hb1, hb2, hoff⟩, H⟩ := H
      subst hoff
      obtain ⟨b, m, cap, hm, ev, hlc, hcm⟩ := rep_slc_seq hr hL rx
      simp only [Nat.zero_mul, Nat.zero_add] at ev hcm hle
      subst ev
      obtain ⟨b', m', hm', cur, ty, hbk, hcs, _, hle', hex, hdx⟩ := hH.row hr rfl
      rw [hm] at hm'; cases hm'
      have hg := getR_some hr rfl
      simp only [two47] at hb1 hb2
      -- in place
      have inplace : len + ys.length ≤ cap → ∃ w', (Builtin.append_ #[t, t] o.type #[.slice (some ⟨b, 0, none⟩) len cap, .slice ad ys.length ycap]).run P w = .ok (.slice (some ⟨b, 0, none⟩) (len + ys.length) cap) w' ∧
          w' = w.setRow b (cur.toList.take (len * τ.size) ++ news ++ cur.toList.drop (len * τ.size + news.length)).toArray := by
        intro hfit
        rcases hys with hys | ⟨b2, off2, rfl, hca⟩
        · refine ⟨w, by rw [zero (some ⟨b, 0, none⟩) len cap hlc hys]; simp [hys], ?_⟩
          have : news = [] := List.eq_nil_of_length_eq_zero (by rw [hnl, hys]; simp)
          subst this
          simp only [List.append_nil, List.length_nil, Nat.add_zero, List.take_append_drop, Array.toArray_toList]
          exact (setRow_self w b cur ty (0, 0) hbk).symm
        · refine ⟨_, ?_, rfl⟩
          have := run_append_in (P := P) (ty := o.type) hu hi hbk (a := ⟨b2, off2, none⟩) (m := ys.length) (c := ycap) (n := len) (cap := cap) (by rw [hsz]; exact hnl) (hnews b2 off2 rfl hca) hn1 hfit (by
            rw [hsz, hnl, ← Nat.add_mul, hcs, ← hcm]; exact Nat.mul_le_mul_right _ hfit)
          rw [hsz] at this
          exact this
      -- to a new block
      have grow : cap < len + ys.length → ∃ spare : List Value, (Builtin.append_ #[t, t] o.type #[.slice (some ⟨b, 0, none⟩) len cap, .slice ad ys.length ycap]).run P w =
          .ok (.slice (some ⟨w.heap.size, 0, none⟩) (len + ys.length) (grownCap w (len + ys.length) cap e)) (w.drew.alloc (.cells (cur.toList.take (len * τ.size) ++ news ++ spare).toArray e)) ∧
          (cur.toList.take (len * τ.size) ++ news ++ spare).length = grownCap w (len + ys.length) cap e * τ.size ∧ len + ys.length ≤ grownCap w (len + ys.length) cap e := by
        intro hlt
        rcases hys with hys | ⟨b2, off2, rfl, hca⟩
        · rw [hys] at hlt; simp at hlt; omega
        have hge := grownCap_ge w (len + ys.length) cap e
        have hlm : len * τ.size ≤ cur.size := by rw [hcs, ← hcm]; exact Nat.mul_le_mul_right _ hlc
        have hol : (cur.toList.take (len * τ.size)).length = len * τ.size := by simp; omega
        have := run_append_grow (P := P) w t o.type e i z hu hi hz ⟨b, 0, none⟩ len cap (cur.toList.take (len * τ.size)) (by rw [hol, hsz]) (fun j v hj => by
            have hjl := (List.getElem?_eq_some_iff.1 hj).1
            rw [hol] at hjl
            rw [Addr.add_lit, Go.cell_of_row w b (0 + j) cur ty (0, 0) hbk]
            rw [List.getElem?_take, if_pos hjl] at hj
            simpa using hj) ⟨b2, off2, none⟩ ys.length ycap news (by rw [hsz]; exact hnl) (hnews b2 off2 rfl hca) hlt (by omega) (growslice_fits hlt (by rw [hby]; exact hb1))
        refine ⟨(Builtin.zeroCells z.cells (grownCap w (len + ys.length) cap e - (len + ys.length))).toList, ?_, ?_, hge⟩
        · rw [this]
          congr 3
          apply Array.ext'; simp
        · rw [List.length_append, List.length_append, hol, hnl, hz0, ← Nat.add_mul, ← Nat.add_mul]; congr 1; omega
      have htake : DRep w (Sd S μ) (.arr len τ) (xs.take len) (cur.toList.take (len * τ.size)) := by
        have h1 := DRep.arr_sub hdx 0 len (by omega)
        simp only [Nat.zero_mul, List.drop_zero, subL] at h1
        rw [List.take_take, Nat.min_eq_left (Nat.mul_le_mul_right _ hle)] at h1
        exact h1
      have hall : ∀ (τ' : Nat), DRep w (Sd S μ) (.arr (len + ys.length) τ) (xs.take len ++ ys) (cur.toList.take (len * τ.size) ++ news) := fun _ => htake.arr_append hd
      have hall := hall 0
      have hlen2 : (xs.take len ++ ys).length = len + ys.length := by simp; omega
      split at H
      · -- no exact row
        obtain ⟨hfr, hq⟩ := H
        have htx : xs.take len = xs := by rw [hfr]; exact List.take_length
        rw [htx] at hall hlen2
        by_cases hfit : len + ys.length ≤ cap
        · obtain ⟨w', hr', hw'⟩ := inplace hfit
          have hcl : (cur.toList.take (len * τ.size) ++ news).length = (xs ++ ys).length * τ.size := by rw [DRep.len _ _ _ hall, hlen2]; rfl
          have hE := ext_setRow μ w (cur.toList.take (len * τ.size) ++ news ++ cur.toList.drop (len * τ.size + news.length)).toArray hm
          have hX := hext_set (ex' := false) (xs' := xs ++ ys) μ hg (by simp)
          have hsize : ((cur.toList.take (len * τ.size) ++ news) ++ cur.toList.drop (len * τ.size + news.length)).length = m := by
            have h9 : len * τ.size + news.length ≤ cur.size := by rw [hnl, ← Nat.add_mul, hcs, ← hcm]; exact Nat.mul_le_mul_right _ hfit
            simp only [List.length_append, List.length_take, List.length_drop, Array.length_toList]
            omega
          have hH' := hrep_setRow (row' := .seq τ (xs ++ ys) false) (cs := (cur.toList.take (len * τ.size) ++ news ++ cur.toList.drop (len * τ.size + news.length)).toArray) hH hm hg (by intro e; cases e) hX
            (rrep_new (cells := cur.toList.take (len * τ.size) ++ news) (setRow_heap w b cur _ ty (0, 0) hbk) hsize hpos (by rw [hlen2]; exact hall.ext hE) (fun e => by cases e))
          refine ⟨_, w', μ, _, _, .inl (by rw [hexec, hr']; rfl), by rw [hw']; exact hE, hX, by rw [hw']; exact hH', ?_, hq⟩
          rw [hw', hlen2]
          exact rep_new_slc (xs := xs ++ ys) (ex := false) hm (List.getElem?_set_self (List.getElem?_eq_some_iff.1 hg).1) hlen2 hfit hcm
        · obtain ⟨spare, hr', hsl, hge⟩ := grow (by omega)
          have hys' : 0 < ys.length := by omega
          obtain ⟨k1, k2, k3⟩ := hrep_move (w := w.drew) (o := .cells (cur.toList.take (len * τ.size) ++ news ++ spare).toArray e) (m := grownCap w (len + ys.length) cap e * τ.size) (row1 := .seq τ (xs ++ ys) false) (n1 := (xs ++ ys).length) hO (hrep_drew hH) hg (by intro e; cases e)
            (fun L hg' => by have := (genOK_seq hg).1 hg'; rw [List.length_append]; omega) (fun L hc => ((curL_seq (List.getElem?_set_self (List.getElem?_eq_some_iff.1 hg).1)).1 hc).symm)
            (fun L hlt => (genOK_seq (List.getElem?_set_self (List.getElem?_eq_some_iff.1 hg).1)).2 (by omega)) (virL_not (List.getElem?_set_self (List.getElem?_eq_some_iff.1 hg).1) (by intro _ _ e; cases e)) (by
            have hE : Ext μ w.drew (μ.set r (some (w.heap.size, grownCap w (len + ys.length) cap e * τ.size))) (w.drew.alloc (.cells (cur.toList.take (len * τ.size) ++ news ++ spare).toArray e)) := {
              os := rfl, tape := rfl, output := rfl, grow := by simp
              same := fun b hb _ => heap_push_lt hb
              fresh := fun b ⟨i, m', hm⟩ => by
                rcases mu_get_set hm with ⟨_, h1⟩ | ⟨_, h1, _⟩
                · exact .inl ⟨i, m', h1⟩
                · cases h1; exact .inr (Nat.le_refl _) }
            refine rrep_new (Go.heap_alloc_new w.drew _) hsl hpos ?_ (fun e => by cases e)
            rw [hlen2]
            exact (hall.ext (ext_drew μ w)).ext hE)
          refine ⟨_, _, _, _, _, .inl (by rw [hexec, hr']; rfl), (ext_drew μ w).trans k2, k3, k1, ?_, hq⟩
          rw [hlen2]
          exact rep_new_slc (xs := xs ++ ys) (ex := false) (List.getElem?_set_self (by rw [hH.len]; exact (List.getElem?_eq_some_iff.1 hg).1)) (List.getElem?_set_self (List.getElem?_eq_some_iff.1 hg).1) hlen2 hge rfl
      · -- exact row
        have hcap : cap = xs.length := by
          have := hex rfl
          rw [← hcm] at this
          exact (Nat.eq_of_mul_eq_mul_right hpos this).symm
        subst hcap
        by_cases hfit : len + ys.length ≤ xs.length
        · have hq := H.1 (by simpa using hfit)
          obtain ⟨w', hr', hw'⟩ := inplace hfit
          have hE := ext_setRow μ w (cur.toList.take (len * τ.size) ++ news ++ cur.toList.drop (len * τ.size + news.length)).toArray hm
          have hl3 : (xs.take len ++ ys ++ xs.drop (len + ys.length)).length = xs.length := by simp; omega
          have hX := hext_set (ex' := true) (xs' := xs.take len ++ ys ++ xs.drop (len + ys.length)) μ hg (by rw [hl3]; exact Nat.le_refl _)
          have hcs' : cur.size = xs.length * τ.size := by rw [hcs, ← hcm]
          have hdrop : DRep w (Sd S μ) (.arr (xs.length - (len + ys.length)) τ) (xs.drop (len + ys.length)) (cur.toList.drop (len * τ.size + news.length)) := by
            have h1 := DRep.arr_sub hdx (len + ys.length) (xs.length - (len + ys.length)) (by omega)
            have e1 : subL xs (len + ys.length) (xs.length - (len + ys.length)) = xs.drop (len + ys.length) := by unfold subL; apply List.take_of_length_le; simp
            have e2 : ((cur.toList.take (xs.length * τ.size)).drop ((len + ys.length) * τ.size)).take ((xs.length - (len + ys.length)) * τ.size) = cur.toList.drop (len * τ.size + news.length) := by
              rw [← hcs', List.take_of_length_le (l := cur.toList) (by simp), hnl, ← Nat.add_mul, List.take_of_length_le]
              rw [List.length_drop, Array.length_toList, hcs', Nat.sub_mul]
              exact Nat.le_refl _
            rw [e1, e2] at h1
            exact h1
          have hall3 := hall.arr_append hdrop
          have e3 : len + ys.length + (xs.length - (len + ys.length)) = (xs.take len ++ ys ++ xs.drop (len + ys.length)).length := by rw [hl3]; omega
          rw [e3] at hall3
          have hsize : ((cur.toList.take (len * τ.size) ++ news ++ cur.toList.drop (len * τ.size + news.length)) ++ []).length = m := by
            rw [List.append_nil, DRep.len _ _ _ hall3, hl3]; exact hcm
          have hH' := hrep_setRow (row' := .seq τ (xs.take len ++ ys ++ xs.drop (len + ys.length)) true) (cs := (cur.toList.take (len * τ.size) ++ news ++ cur.toList.drop (len * τ.size + news.length)).toArray) hH hm hg (by intro e; cases e) hX
            (rrep_new (cells := cur.toList.take (len * τ.size) ++ news ++ cur.toList.drop (len * τ.size + news.length)) (spare := []) (by rw [List.append_nil]; exact setRow_heap w b cur _ ty (0, 0) hbk) hsize hpos (hall3.ext hE) (fun _ => rfl))
          refine ⟨_, w', μ, _, _, .inl (by rw [hexec, hr']; rfl), by rw [hw']; exact hE, hX, by rw [hw']; exact hH', ?_, hq⟩
          rw [hw', ← hL]
          exact rep_new_slc (xs := xs.take len ++ ys ++ xs.drop (len + ys.length)) (ex := true) hm (List.getElem?_set_self (List.getElem?_eq_some_iff.1 hg).1) hl3 hfit hcm
        · have hq := H.2 (by simpa using hfit)
          obtain ⟨spare, hr', hsl, hge⟩ := grow (by omega)
          refine Out.after (ext_drew μ w) ?_
          refine Out.alloc (w := w.drew) hO (hrep_drew hH) (.cells (cur.toList.take (len * τ.size) ++ news ++ spare).toArray e) (grownCap w (len + ys.length) xs.length e * τ.size) (.seq τ (xs.take len ++ ys) false)
            (v := .slice (some ⟨w.heap.size, 0, none⟩) (len + ys.length) (grownCap w (len + ys.length) xs.length e)) (av := .slc h.length (xs.take len ++ ys).length 0 (xs.take len ++ ys).length) (by rw [hexec, hr']; rfl) ?_ ?_ hq
          · exact rrep_new (Go.heap_alloc_new w.drew _) hsl hpos (by rw [hlen2]; exact (hall.ext (ext_drew μ w)).ext (ext_alloc μ w.drew _ _)) (fun e => by cases e)
          · rw [hlen2]
            exact rep_new_slc (xs := xs.take len ++ ys) (ex := false) (by rw [← hH.len]; simp) (by simp) hlen2 hge rfl
    · exact H.elim
  -- onto a list of ours
  by_cases hlst : ∃ (r L off len : Nat) (t' : Ty) (xs : List t'.den), X = .slc r L off len ∧ getR h r = .lst t' xs
  case neg => exact key h Q hH rx (fun r L off len t' xs e1 e2 => hlst ⟨r, L, off, len, t', xs, e1, e2⟩) H
  obtain ⟨r, L, off, len, t', xs, rfl, hr⟩ := hlst
  simp only [appV, hr] at H
  obtain ⟨⟨hL, hoff, hlen⟩, H⟩ := H
  obtain ⟨xs', ec, H⟩ := Tr.sem_ofOpt H
  obtain ⟨e1, e2⟩ := castD_some ec
  cases e1
  subst e2
  obtain ⟨⟨hb1, hb2⟩, hq⟩ := H
  subst hoff
  have hg := getR_lst hr
  have hgl := (List.getElem?_eq_some_iff.1 hg).1
  rcases Nat.eq_zero_or_pos xs.length with h0 | h0
  · have hx : xs = [] := List.eq_nil_of_length_eq_zero h0
    subst hx
    have rx' := rx
    unfold ARep at rx'
    obtain ⟨ev, _⟩ := rx'.2.2.2 ((virL_lst hg).2 rfl) (by simpa using hL.symm)
    by_cases hye : ys = []
    · subst hye
      have e3 : h.set r (.lst τ ([] ++ [])) = h := set_same hg
      rw [e3] at hq
      refine Out.same hH (v := .slice none 0 0) (by rw [hexec, ev, zero none 0 0 (Nat.le_refl _) rfl]; rfl) ?_ hq
      unfold ARep
      exact ⟨rfl, ⟨hgl, genOK_zero (by rw [hg]; simp)⟩, fun hc => absurd ((curL_lst hg).1 hc).1 (by simp), fun _ _ => ⟨rfl, rfl⟩⟩
    · have hpos' : 0 < ys.length := List.length_pos_iff.2 hye
      simp only [List.length_nil, Nat.zero_add] at hb1 hb2
      obtain ⟨cells, hr', hm, hge⟩ := onnil ev hye hb1 hb2
      have hself : (h.set r (.lst τ ([] ++ ys)))[r]? = some (.lst τ ys) := by rw [List.nil_append]; exact List.getElem?_set_self hgl
      obtain ⟨k1, k2, k3⟩ := hrep_move (w := w.drew) (o := .cells (news ++ cells).toArray e) (m := grownCap w ys.length 0 e * τ.size) (row1 := .lst τ ([] ++ ys)) (n1 := ys.length) hO (hrep_drew hH) hg (by intro e; cases e)
        (fun L hg' => by have := (genOK_lst hg).1 hg'; simp at this; omega) (fun L hc => ((curL_lst hself).1 hc).2.symm) (fun L hlt => (genOK_lst hself).2 (by omega)) (fun hv => by have := (virL_lst hself).1 hv; omega) (by
          have hE : Ext μ w.drew (μ.set r (some (w.heap.size, grownCap w ys.length 0 e * τ.size))) (w.drew.alloc (.cells (news ++ cells).toArray e)) := {
            os := rfl, tape := rfl, output := rfl, grow := by simp
            same := fun b hb _ => heap_push_lt hb
            fresh := fun b ⟨i, m', hm⟩ => by
              rcases mu_get_set hm with ⟨_, h1⟩ | ⟨_, h1, _⟩
              · exact .inl ⟨i, m', h1⟩
              · cases h1; exact .inr (Nat.le_refl _) }
          have hR : RRep (w.drew.alloc (.cells (news ++ cells).toArray e)) S (μ.set r (some (w.heap.size, grownCap w ys.length 0 e * τ.size))) (h.set r (.lst τ ([] ++ ys))) (.seq τ ys false) w.drew.heap.size (grownCap w ys.length 0 e * τ.size) :=
            rrep_new (cells := news) (spare := cells) (Go.heap_alloc_new w.drew _) hm hpos ((hd.ext (ext_drew μ w)).ext hE) (fun e => by cases e)
          exact hR)
      refine ⟨_, _, _, _, _, .inl hr', (ext_drew μ w).trans k2, k3, k1, ?_, hq⟩
      exact rep_new_lst (xs := ys) (List.getElem?_set_self (by rw [hH.len]; exact hgl)) hself hpos' rfl hge rfl
  · refine Out.ofSeq hg h0 ?_
    have hX := hext_toSeq μ hg h0
    refine key (h.set r (.seq τ xs false)) _ (hrep_toSeq hH hg h0) (ARep.ext (Ext.refl _ _) hX _ _ rx) ?_ ?_
    · intro r' L' off' len' t2 xs2 e
      cases e
      rw [getR_live (List.getElem?_set_self hgl)]
      intro e; cases e
    · have e4 : getR (h.set r (.seq τ xs false)) r = .seq τ xs false := getR_live (List.getElem?_set_self hgl)
      simp only [appV, e4]
      refine ⟨⟨hL, by omega⟩, ?_⟩
      rw [castD_self]
      refine ⟨⟨by rw [hlen]; exact hb1, by rw [hlen]; exact hb2, trivial⟩, hlen, xs ++ ys, ?_, by simp; omega, ?_⟩
      · exact List.getElem?_set_self (by simpa using hgl)
      · have hq : Q (_, _) := hq
        simpa [List.set_set] using hq

theorem DRep.arr_cast {w : World} {T : Nat → Prop} {t : Ty} {n m : Nat} {xs : List t.den} {cs : List Value} (e : n = m) (H : DRep w T (.arr n t) xs cs) : DRep w T (.arr m t) xs cs := by subst e; exact H

theorem snd_store {o : Oper} {t : TypeId} {x y : Operand} (ho : o.op = .store t x y) : Sound P o := by
  intro S μ h w C hC N s a Q I hO hH hT hc H
  rw [ho] at hc
  simp only [cOp0] at hc
  obtain ⟨x', h1, hc1⟩ := bindSome hc
  obtain ⟨y', h2, hc2⟩ := bindSome hc1
  obtain ⟨⟨sz, ag⟩, hz, rfl⟩ := mapSome hc2
  clear hc hc1 hc2
  obtain ⟨inf, d, _, _, _, _, hso⟩ := sz_info (w := w) hz
  have rx := ev_rep hT h1
  have ry := ev_rep hT h2
  have hexec : ∀ (b off : Nat) (w' : World), a.eval x = .pointer (some ⟨b, off, none⟩) → (a.eval y).cells.size = sz → (storeCells ⟨b, off, none⟩ (a.eval y).cells.toList).run P w = .ok () w' → (execOp a.eval o).run P w = .ok .skip w' := by
    intro b off w' e hs hr; unfold execOp; simp [ho, Go.Instr.storeAt, Go.Instr.sureAddr, e, storeVar, hso, hs, hr]
  generalize a.eval x = vx at *
  generalize a.eval y = vy at *
  simp only [vop] at H
  generalize ev s x' = X at *
  generalize ev s y' = Y at *
  split at H
  · rename_i r off
    split at H
    case h_2 => exact H.elim
    rename_i cs hr
    obtain ⟨⟨hok, hsz, hle⟩, hq⟩ := H
    obtain ⟨b, m, hm, e⟩ := rep_ptr_box hr rx
    obtain ⟨b', m', hm', cur, ty, hbk, hcs, hl, h1c⟩ := hH.row hr rfl
    rw [hm] at hm'; cases hm'
    obtain ⟨hyl, hyone⟩ := cellsV_rep ry hok
    have hvs : vy.cells.size = sz := by rw [← hsz, hyl.length]; simp
    have hcl : cur.size = cs.length := by have := hl.length; simpa using this.symm
    have hfit : off + 0 + vy.cells.toList.length ≤ cur.size := by simp; omega
    have hrun := run_storeCells_at P b off ty vy.cells.toList 0 cur w hbk hfit hyone
    have hg := getR_some hr rfl
    have hnew : (cur.toList.take (off + 0) ++ vy.cells.toList ++ cur.toList.drop (off + 0 + vy.cells.toList.length)).toArray = (splice cur.toList off vy.cells.toList).toArray := by
      rw [splice_eq _ _ _ (by simpa using hfit)]; simp
    rw [hnew] at hrun
    have hE := ext_setRow μ w (splice cur.toList off vy.cells.toList).toArray hm
    have hX := hext_set_box (cs' := splice cs off (cellsV Y)) μ hg
    refine ⟨undef, _, μ, .top, _, .inr ⟨hexec b off _ e hvs hrun, rfl⟩, hE, hX, ?_, by unfold ARep; trivial, hq⟩
    refine hrep_setRow hH hm hg (by intro e; cases e) hX ⟨_, ty, setRow_heap w b cur _ ty (0, 0) hbk, by simp [splice_length, hcs], ?_, ?_⟩
    · exact ARepL.ext hE hX _ _ (ARepL.splice off hl hyl)
    · have := splice_mem (p := fun u => u.oneCell' = true) vy.cells.toList cur.toList off (by simpa using h1c) hyone
      simpa using this
  · rename_i r L i
    split at H
    · rename_i τ xs ex hr
      obtain ⟨⟨⟨hL, hi⟩, hts⟩, H⟩ := H
      rw [Tr.sem_bind] at H
      have HH := cv_rep hH ry H
      clear H
      obtain ⟨⟨μ1, u, h1', hH1, he1, hh1, hd1, hk, H⟩, hsz⟩ := HH
      simp only at H
      obtain ⟨b, m, hm, e⟩ := rep_eptr hr hL rx
      have hg := getR_some hr rfl
      split at H
      · exact H.elim
      · rename_i hnd
        have hrl : r < h1'.length := by
          rcases Nat.lt_or_ge r h1'.length with h | h
          · exact h
          · exact absurd (getR_dead_of_ge h) (by intro e; exact hnd e)
        have hg1 : h1'[r]? = some (.seq τ xs ex) := by
          have e1 := List.getElem?_eq_getElem hrl
          have hlive : h1'[r] ≠ .dead := fun e => hnd ((getR_live e1).trans e)
          have := (hk.same r _ e1 hlive).1
          rw [hg] at this
          rw [e1, ← this]
        have hm1 : μ1[r]? = some (some (b, m)) := by rw [(hk.same r _ hg1 (by intro e; cases e)).2]; exact hm
        obtain ⟨b', m', hm', cur, ty, hbk, hcs, hpos, hle', hex, hdx⟩ := hH1.rows r _ hg1 rfl
        rw [hm1] at hm'; cases hm'
        have hvl : vy.cells.toList.length = τ.size := DRep.len _ _ _ hd1
        have hvone := DRep.one _ _ _ hd1
        have hle3 : i * τ.size + τ.size ≤ xs.length * τ.size := by
          have := Nat.mul_le_mul_right τ.size hi
          rw [Nat.succ_mul] at this; exact this
        have hfit : i * τ.size + 0 + vy.cells.toList.length ≤ cur.size := by rw [hvl, hcs]; omega
        have hrun := run_storeCells_at P b (i * τ.size) ty vy.cells.toList 0 cur w hbk hfit hvone
        have hnew : (cur.toList.take (i * τ.size + 0) ++ vy.cells.toList ++ cur.toList.drop (i * τ.size + 0 + vy.cells.toList.length)).toArray = (splice cur.toList (i * τ.size) vy.cells.toList).toArray := by
          rw [splice_eq _ _ _ (by simpa using hfit)]; simp
        rw [hnew] at hrun
        have hE := ext_setRow μ1 w (splice cur.toList (i * τ.size) vy.cells.toList).toArray hm1
        have hX := hext_set (ex' := ex) (xs' := xs.set i u) μ1 hg1 (by simp)
        refine ⟨undef, _, μ1, .top, _, .inr ⟨hexec b _ _ e (hsz.trans hts) hrun, rfl⟩, he1.trans hE, hh1.trans hX, ?_, by unfold ARep; trivial, H⟩
        refine hrep_setRow hH1 hm1 hg1 (by intro e; cases e) hX ⟨_, ty, setRow_heap w b cur _ ty (0, 0) hbk, by simp [splice_length, hcs], hpos, by simpa using hle', by simpa using hex, ?_⟩
        have hset := (hdx.arr_set hd1 hi)
        have e5 : splice (cur.toList.take (xs.length * τ.size)) (i * τ.size) vy.cells.toList = (splice cur.toList (i * τ.size) vy.cells.toList).take (xs.length * τ.size) := by
          rw [splice_eq _ _ _ (by simp [hvl]; omega), splice_eq _ _ _ (by simpa using hfit)]
          rw [hvl, List.take_take, Nat.min_eq_left (by omega), List.append_assoc, List.append_assoc]
          have a1 : (cur.toList.take (i * τ.size)).length = i * τ.size := by simp; omega
          rw [List.take_append, a1, List.take_append, hvl, List.drop_take, List.take_of_length_le (l := cur.toList.take (i * τ.size)) (by rw [a1]; omega), List.take_of_length_le (l := vy.cells.toList) (by rw [hvl]; omega)]
          congr 3
          omega
        rw [e5] at hset
        have := hset.ext hE
        exact DRep.arr_cast (n := xs.length) (List.length_set).symm (by simpa using this)
    · rename_i τ xs hr
      obtain ⟨⟨⟨hL, hi⟩, hts⟩, H⟩ := H
      rw [Tr.sem_bind] at H
      have HH := cv_rep hH ry H
      clear H
      obtain ⟨⟨μ1, u, h1', hH1, he1, hh1, hd1, hk, H⟩, hsz⟩ := HH
      simp only at H
      obtain ⟨b, m, hm, e⟩ := rep_eptr_lst hr (by omega) hL rx
      have hg := getR_lst hr
      have h0 : 0 < xs.length := by omega
      split at H
      · exact H.elim
      · rename_i hnd
        have hrl : r < h1'.length := by
          rcases Nat.lt_or_ge r h1'.length with h | h
          · exact h
          · exact absurd (getR_dead_of_ge h) (by intro e; exact hnd e)
        have hg1 : h1'[r]? = some (.lst τ xs) := by
          have e1 := List.getElem?_eq_getElem hrl
          have hlive : h1'[r] ≠ .dead := fun e => hnd ((getR_live e1).trans e)
          have := (hk.same r _ e1 hlive).1
          rw [hg] at this
          rw [e1, ← this]
        have hm1 : μ1[r]? = some (some (b, m)) := by rw [(hk.same r _ hg1 (by intro e; cases e)).2]; exact hm
        obtain ⟨b', m', hm', cur, ty, hbk, hcs, hpos, hle', hex, hdx⟩ := hH1.rows r _ hg1 (lst_live h0)
        rw [hm1] at hm'; cases hm'
        have hvl : vy.cells.toList.length = τ.size := DRep.len _ _ _ hd1
        have hvone := DRep.one _ _ _ hd1
        have hle3 : i * τ.size + τ.size ≤ xs.length * τ.size := by
          have := Nat.mul_le_mul_right τ.size hi
          rw [Nat.succ_mul] at this; exact this
        have hfit : i * τ.size + 0 + vy.cells.toList.length ≤ cur.size := by rw [hvl, hcs]; omega
        have hrun := run_storeCells_at P b (i * τ.size) ty vy.cells.toList 0 cur w hbk hfit hvone
        have hnew : (cur.toList.take (i * τ.size + 0) ++ vy.cells.toList ++ cur.toList.drop (i * τ.size + 0 + vy.cells.toList.length)).toArray = (splice cur.toList (i * τ.size) vy.cells.toList).toArray := by
          rw [splice_eq _ _ _ (by simpa using hfit)]; simp
        rw [hnew] at hrun
        have hE := ext_setRow μ1 w (splice cur.toList (i * τ.size) vy.cells.toList).toArray hm1
        have hX := hext_set_lst (xs' := xs.set i u) μ1 hg1 h0 (by simp)
        refine ⟨undef, _, μ1, .top, _, .inr ⟨hexec b _ _ e (hsz.trans hts) hrun, rfl⟩, he1.trans hE, hh1.trans hX, ?_, by unfold ARep; trivial, H⟩
        refine hrep_setRow hH1 hm1 hg1 (by intro e; cases e) hX ⟨_, ty, setRow_heap w b cur _ ty (0, 0) hbk, by simp [splice_length, hcs], hpos, by simpa using hle', (fun e => by cases e), ?_⟩
        have hset := (hdx.arr_set hd1 hi)
        have e5 : splice (cur.toList.take (xs.length * τ.size)) (i * τ.size) vy.cells.toList = (splice cur.toList (i * τ.size) vy.cells.toList).take (xs.length * τ.size) := by
          rw [splice_eq _ _ _ (by simp [hvl]; omega), splice_eq _ _ _ (by simpa using hfit)]
          rw [hvl, List.take_take, Nat.min_eq_left (by omega), List.append_assoc, List.append_assoc]
          have a1 : (cur.toList.take (i * τ.size)).length = i * τ.size := by simp; omega
          rw [List.take_append, a1, List.take_append, hvl, List.drop_take, List.take_of_length_le (l := cur.toList.take (i * τ.size)) (by rw [a1]; omega), List.take_of_length_le (l := vy.cells.toList) (by rw [hvl]; omega)]
          congr 3
          omega
        rw [e5] at hset
        have := hset.ext hE
        exact DRep.arr_cast (n := xs.length) (List.length_set).symm (by simpa using this)
    · exact H.elim
  · exact H.elim
/-! ### Rows that were kept free -/
theorem isRes_get {r : Nat} (hr : isRes (getR h r) = true) : h[r]? = some .res := by
  cases e : getR h r with
  | res => exact getR_some' e (by intro e; cases e)
  | _ => rw [e] at hr; cases hr
theorem res_gen {r L : Nat} (hr : h[r]? = some .res) : ¬ genOK h r L := by
  unfold genOK; rw [hr]; exact id

theorem ext_res (μ : Mu) (w : World) (r m : Nat) (o : Obj) : Ext μ w (μ.set r (some (w.heap.size, m))) (w.alloc o) where
  os := rfl
  tape := rfl
  output := rfl
  grow := by simp
  same := fun b hb _ => heap_push_lt hb
  fresh := fun b ⟨i, m', hm⟩ => by
    rcases mu_get_set hm with ⟨_, h1⟩ | ⟨_, h1, _⟩
    · exact .inl ⟨i, m', h1⟩
    · cases h1; exact .inr (Nat.le_refl _)
theorem hext_res {r : Nat} {row : Row} (μ : Mu) (hr : h[r]? = some .res) (x : Option (Nat × Nat)) (hv : ∀ t xs, row ≠ .lst t xs) : HExt μ h (μ.set r x) (h.set r row) where
  len := by simp
  gen := fun i L hi hg => by
    by_cases e : i = r
    · subst e; exact absurd hg (res_gen hr)
    · exact (genOK_set_other e).2 hg
  keep := fun i L hi hg hc => by
    by_cases e : i = r
    · subst e; exact absurd hg (res_gen hr)
    · exact ⟨(curL_set_other e).1 hc, List.getElem?_set_ne (fun e' => e e'.symm), rowTy_set_other e⟩
  vir := fun i hi hvv => by
    by_cases e : i = r
    · subst e; exact absurd hvv (virL_not (List.getElem?_set_self hi) hv)
    · exact (virL_set_other e).1 hvv
theorem hrep_res {row1 : Row} (hO : Open S w) (hH : HRep w S μ h) {r : Nat} {o : Obj} {m : Nat} (hr : h[r]? = some .res) (hv : ∀ t xs, row1 ≠ .lst t xs)
    (hR : RRep (w.alloc o) S (μ.set r (some (w.heap.size, m))) (h.set r row1) row1 w.heap.size m) : HRep (w.alloc o) S (μ.set r (some (w.heap.size, m))) (h.set r row1) where
  len := by simp [hH.len]
  inj := fun i j b m1 m2 h1 h2 => by
    rcases mu_get_set h1 with ⟨n1, a1⟩ | ⟨n1, a1, _⟩ <;> rcases mu_get_set h2 with ⟨n2, a2⟩ | ⟨n2, a2, _⟩
    · exact hH.inj i j b m1 m2 a1 a2
    · cases a2; have := hH.lt _ _ _ a1; omega
    · cases a1; have := hH.lt _ _ _ a2; omega
    · omega
  lt := fun i b m1 h1 => by
    rcases mu_get_set h1 with ⟨_, a1⟩ | ⟨_, a1, _⟩
    · have := hH.lt i b m1 a1; simp; omega
    · cases a1; simp
  own := fun i b m1 h1 => by
    rcases mu_get_set h1 with ⟨_, a1⟩ | ⟨_, a1, _⟩
    · exact hH.own i b m1 a1
    · cases a1; exact hO _ (Nat.le_refl _)
  rows := fun i row h1 hl => by
    rcases heap_get_set h1 with ⟨hne, h1⟩ | ⟨rfl, h1, _⟩
    · obtain ⟨b, m1, e, H⟩ := hH.rows i row h1 hl
      refine ⟨b, m1, by rw [List.getElem?_set_ne (fun e => hne e.symm)]; exact e, ?_⟩
      refine RRep.ext hH ⟨i, e⟩ (ext_res μ w r m o) (hext_res μ hr _ hv) (heap_push_lt (hH.lt _ _ _ e)) ?_ H
      intro d db dm _ hd hd'
      have hdr : d ≠ r := by intro e; subst e; rw [hr] at hd'; cases hd'
      exact ⟨by rw [List.getElem?_set_ne (fun e => hdr e.symm)]; exact hd, by rw [List.getElem?_set_ne (fun e => hdr e.symm)]; exact hd'⟩
    · subst h1
      exact ⟨w.heap.size, m, List.getElem?_set_self (by rw [hH.len]; exact (List.getElem?_eq_some_iff.1 hr).1), hR⟩

theorem snd_boxR {o : Oper} {t : TypeId} {x : Operand} (ho : o.op = .box t x) {N d : Nat} {s : List (Nat × AV)} {a : Act} {Q : AV × Heap → Prop} {x' : Opd}
    (hO : Open S w) (hH : HRep w S μ h) (hT : TRep w S μ h N s a.tmps) (hc : cOp0 P (.box t x) = some (.box x')) (H : (vop s h (.boxR d x')).sem C Q) : Out S μ w h ((execOp a.eval o).run P w) Q := by
  simp only [cOp0] at hc
  obtain ⟨x'', h1, hc⟩ := mapSome hc
  cases hc
  obtain ⟨⟨hres, hok⟩, hq⟩ := H
  have hr := isRes_get hres
  have rx := ev_rep hT h1
  generalize hX : ev s x' = X at *
  obtain ⟨hl, hone⟩ := cellsV_rep rx hok
  have hv : ∀ t xs, Row.box (cellsV X) ≠ .lst t xs := by intro _ _ e; cases e
  have hrl := (List.getElem?_eq_some_iff.1 hr).1
  refine ⟨.pointer (some ⟨w.heap.size, 0, none⟩), w.alloc (.cells (a.eval x).cells t (0, 0)), μ.set (h.length - d) (some (w.heap.size, (a.eval x).cells.size)), .ptr (h.length - d) 0, _, .inl ?_, ext_res _ _ _ _ _, hext_res μ hr _ hv, hrep_res hO hH hr hv ?_, ?_, hq⟩
  · unfold execOp; simp [ho, Go.Instr.box, newVar, newRow]
  · exact ⟨_, t, Go.heap_alloc_new w _, rfl, ARepL.ext (ext_res _ _ _ _ _) (hext_res μ hr _ hv) _ _ hl, by simpa using hone⟩
  · unfold ARep
    refine ⟨rfl, ⟨by simpa using hrl, genOK_zero (by rw [List.getElem?_set_self hrl]; simp)⟩, fun _ => ⟨w.heap.size, (a.eval x).cells.size, List.getElem?_set_self (by rw [hH.len]; exact hrl), fun _ => rfl⟩⟩

theorem snd_allocR {o : Oper} {t : TypeId} (ho : o.op = .alloc t) {d : Nat} {s : List (Nat × AV)} {a : Act} {Q : AV × Heap → Prop} {z : List AV}
    (hO : Open S w) (hH : HRep w S μ h) (hc : cOp0 P (.alloc t) = some (.alloc z)) (H : (vop s h (.allocR d z)).sem C Q) : Out S μ w h ((execOp a.eval o).run P w) Q := by
  simp only [cOp0] at hc
  obtain ⟨z', hz, hc⟩ := mapSome hc
  cases hc
  obtain ⟨hres, hq⟩ := H
  have hr := isRes_get hres
  have hv : ∀ t xs, Row.box z ≠ .lst t xs := by intro _ _ e; cases e
  have hrl := (List.getElem?_eq_some_iff.1 hr).1
  unfold zeroOf at hz
  split at hz
  · rename_i i hi
    split at hz
    · rename_i v hv'
      obtain ⟨hl, hone⟩ := cstL_rep (w := w) (S := S) (μ := μ) (h := h) hz
      refine ⟨.pointer (some ⟨w.heap.size, 0, none⟩), w.alloc (.cells v.cells t (0, 0)), μ.set (h.length - d) (some (w.heap.size, v.cells.size)), .ptr (h.length - d) 0, _, .inl ?_, ext_res _ _ _ _ _, hext_res μ hr _ hv, hrep_res hO hH hr hv ?_, ?_, hq⟩
      · unfold execOp; simp [ho, Go.Instr.alloc, zeroValue, typeInfo, hi, hv', newVar, newRow]
      · exact ⟨_, t, Go.heap_alloc_new w _, rfl, ARepL.ext (ext_res _ _ _ _ _) (hext_res μ hr _ hv) _ _ hl, by simpa using hone⟩
      · unfold ARep
        refine ⟨rfl, ⟨by simpa using hrl, genOK_zero (by rw [List.getElem?_set_self hrl]; simp)⟩, fun _ => ⟨w.heap.size, v.cells.size, List.getElem?_set_self (by rw [hH.len]; exact hrl), fun _ => rfl⟩⟩
    · cases hz
  · cases hz

theorem snd_mkR {o : Oper} {t : TypeId} {l c : Operand} (ho : o.op = .makeSlice t l c) {N d : Nat} {s : List (Nat × AV)} {a : Act} {Q : AV × Heap → Prop} {τ : Ty} {by_ : Nat} {l' c' : Opd}
    (hO : Open S w) (hH : HRep w S μ h) (hT : TRep w S μ h N s a.tmps) (hc : cOp0 P (.makeSlice t l c) = some (.mk τ by_ l' c')) (H : (vop s h (.mkR d τ by_ l' c')).sem C Q) : Out S μ w h ((execOp a.eval o).run P w) Q := by
  simp only [cOp0] at hc
  obtain ⟨l', h1, hc⟩ := bindSome hc
  obtain ⟨c', h2, hc⟩ := bindSome hc
  split at hc
  case h_2 => cases hc
  rename_i e he
  have hu := elemOf_spec he
  obtain ⟨⟨τ', by'⟩, hel, hc⟩ := mapSome hc
  cases hc
  obtain ⟨i, z, hi, hsz, hpos, hz, hby, hzr⟩ := elTy_spec hel
  have rl := ev_rep hT h1
  have rc := ev_rep hT h2
  simp only [vop] at H
  split at H
  case h_2 => exact H.elim
  rename_i kl L kc M e1 e2
  rw [e1, rep_int] at rl
  rw [e2, rep_int] at rc
  obtain ⟨hres, ⟨⟨hl0, hlm⟩, hb, hm47⟩, hq⟩ := H
  have hr := isRes_get hres
  have hv : ∀ t xs, Row.seq τ' (List.replicate (Int.toNat M) τ'.dflt) true ≠ .lst t xs := by intro _ _ e; cases e
  have hrl := (List.getElem?_eq_some_iff.1 hr).1
  have hzs : z.cells.size = τ'.size := by simpa using DRep.len _ _ _ (hzr w (Sd S μ))
  simp only [two47] at hb hm47
  have hrun := run_make w t e i z hu hi hz kl kc L M hl0 hlm (by rw [hby, Int.mul_comm]; exact Int.le_trans hb (by omega)) (Int.le_trans hm47 (by omega))
  have hdr := dflt_rep (hzr (w.alloc (.cells (madeCells z.cells (Int.toNat M * i.size)) e)) (Sd S (μ.set (h.length - d) (some (w.heap.size, Int.toNat M * i.size))))) (Int.toNat M)
  rw [hzs, ← hsz] at hdr
  refine ⟨.slice (some ⟨w.heap.size, 0, none⟩) (Int.toNat L) (Int.toNat M), w.alloc (.cells (madeCells z.cells (Int.toNat M * i.size)) e), μ.set (h.length - d) (some (w.heap.size, Int.toNat M * i.size)), .slc (h.length - d) (Int.toNat M) 0 (Int.toNat L), _, .inl ?_, ext_res _ _ _ _ _, hext_res μ hr _ hv, hrep_res hO hH hr hv ?_, ?_, hq⟩
  · unfold execOp; simp [ho, rl, rc, hrun]
  · have hts : (madeCells z.cells (Int.toNat M * i.size)).size = Int.toNat M * i.size := by simp [madeCells]
    refine ⟨_, e, Go.heap_alloc_new w _, hts, hpos, by simp [hsz], fun _ => by simp [hsz], ?_⟩
    have : (madeCells z.cells (Int.toNat M * i.size)).toList.take ((List.replicate (Int.toNat M) τ'.dflt).length * τ'.size) = (madeCells z.cells (Int.toNat M * i.size)).toList := by
      apply List.take_of_length_le; rw [Array.length_toList, hts, List.length_replicate, hsz]; exact Nat.le_refl _
    rw [this, List.length_replicate]
    exact hdr
  · have hlm' : Int.toNat L ≤ Int.toNat M := Int.toNat_le_toNat hlm
    exact rep_new_slc (ex := true) (xs := List.replicate (Int.toNat M) τ'.dflt) (m := Int.toNat M * i.size) (List.getElem?_set_self (by rw [hH.len]; exact hrl)) (List.getElem?_set_self hrl) (by simp) hlm' (by rw [hsz])
end
end GoV
