/-
  A part of a verified evaluator of the model's code, or of its use at this seat; see the text YtkibpfkengpimaaGreatDoorEvCard.
-/
import Derived.Test.YtkibpfkengpimaaGreatDoorEvOps8
namespace Go.Ev
section
variable {P : Program} {C : Ctx} {ρ : Val} {ι : Inj} {s : St} {w : World}

theorem Keep.ofSub {s0 s' : St} {ι' : Inj} {w' : World} (hsub : ∀ b k, s0.heap.get b = some k → s.heap.get b = some k) (hlo : s0.lo = s.lo) (hnx : s0.nx = s.nx) (hgr : s0.grps = s.grps) (h : Keep s0 ι w s' ι' w') : Keep s ι w s' ι' w' where
  le := h.le
  size := h.size
  lo := h.lo.trans hlo
  nx := hnx ▸ h.nx
  old := fun b hb => h.old b (hnx.symm ▸ hb)
  kept := fun B hB hn => h.kept B hB fun b k g hb hk hg => hn b k g (hlo ▸ hb) (hsub b k hk) hg
  writes := fun b k g hb hk hg hB => by
    obtain ⟨b0, k0, g0, h1, h2, h3, h4⟩ := h.writes b k g (hlo.symm ▸ hb) hk hg hB
    exact ⟨b0, k0, g0, hlo ▸ h1, hsub _ _ h2, h3, h4⟩
  new := fun b g hb hg => by
    rcases h.new b g (hnx.symm ▸ hb) hg with h1 | ⟨b0, g0, h1, h2, h3⟩
    · exact .inl h1
    · exact .inr ⟨b0, g0, hnx ▸ h1, h2, h3⟩
  dead := fun b hb hd => h.dead b (hnx.symm ▸ hb) (by
    cases h0 : s0.heap.get b with
    | none => rfl
    | some k => rw [hsub b k h0] at hd; cases hd)
  grps := fun x l hx hl => h.grps x l (hnx.symm ▸ hx) (hgr ▸ hl)
  io := h.io

/-- What is appended or copied. -/
structure SrcOk (P : Program) (w : World) (size : Nat) (x : Value) (n : Nat) (news : List Value) : Prop where
  len : ∀ w' : World, (Builtin.lenOf x).run P w' = .ok n w'
  cells : ∀ m, m ≤ n → (Builtin.firstCells size m x).run P w = .ok (news.take (m * size)).toArray w
  cellsD : (Builtin.firstCells size n x).run P w.drew = .ok news.toArray w.drew
  newsLen : news.length = n * size
  one : ∀ u ∈ news, u.oneCell' = true

theorem srcA_rel (H : HRel ρ ι s w) {size : Nat} {x : AV} {x' : Value} {xs : List (List AV)} (h : srcA size x s = some xs) (hx : VRel ρ ι x x') :
    ∃ news n, SrcOk P w size x' n news ∧ n = xs.length ∧ VRels ρ ι xs.flatten news ∧ Rows size xs := by
  unfold srcA at h
  split at h
  · cases h; cases hx
    exact ⟨[], 0, ⟨fun _ => rfl, fun m hm => by simp [Builtin.firstCells], by simp [Builtin.firstCells], by simp, by simp⟩, rfl, .nil, ⟨by simp, by simp⟩⟩
  · rename_i b o n k
    have mk : ∀ (xs : List (List AV)) (a : Addr) (cap : Nat) (cs : List Value), xs.length = n → Rows size xs → VRels ρ ι xs.flatten cs → (∀ (j : Nat) (v : Value), cs[j]? = some v → w.cell? (a.add j) = some v) →
        SrcOk P w size (.slice (some a) n cap) n cs := by
      intro xs a cap cs hl hr hc hcell
      have hlen : cs.length = n * size := by rw [← hc.length, flatten_length hr.len, hl]
      refine ⟨fun _ => rfl, fun m hm => ?_, run_firstCells_some w.drew size n a n cap cs hlen (by simpa using hcell), hlen, hc.oneCell fun v hv => ?_⟩
      · have hle : m * size ≤ n * size := Nat.mul_le_mul_right _ hm
        refine run_firstCells_some w size m a n cap _ (by rw [List.length_take, hlen]; omega) fun j v hv => hcell j v ?_
        rw [List.getElem?_take] at hv
        split at hv
        · exact hv
        · cases hv
      · obtain ⟨r, hr1, hr2⟩ := List.mem_flatten.1 hv
        exact hr.flat r hr1 v hr2
    cases hn : Nat.beq n 0 with
    | true =>
      simp only [hn, cond_true, Option.some.injEq] at h
      subst h
      have := Nat.eq_of_beq_eq_true hn
      subst this
      cases hx with
      | @slice _ g _ _ _ cap a hg hlen ha hroom =>
        exact ⟨[], 0, mk [] a cap [] rfl ⟨by simp, by simp⟩ .nil (by simp), rfl, .nil, ⟨by simp, by simp⟩⟩
    | false =>
      simp only [hn, cond_false] at h
      have hx0 := hx
      cases hx with
      | @slice _ g _ _ _ cap a hg hlen ha hroom =>
        obtain ⟨h1, h2, cs, h3, h4⟩ := slice_cells H hx0 h
        exact ⟨cs, n, mk xs a cap cs h1 h2 h3 h4, h1.symm, h3, h2⟩
  · rename_i l
    cases hb : (known l && Nat.beq size 1) with
    | false => simp [hb] at h
    | true =>
      simp only [hb, cond_true, Option.some.injEq] at h
      subst h
      simp only [Bool.and_eq_true] at hb
      have := Nat.eq_of_beq_eq_true hb.2
      subst this
      cases hx with
      | str _ sb hs =>
        obtain ⟨p1, p2⟩ := bytes_of_known hb.1 hs
        obtain ⟨r1, r2⟩ := byteCells_rows l
        have hfull : ∀ m, m ≤ sb.size → ∀ w' : World, (Builtin.firstCells 1 m (.string sb)).run P w' = .ok ((byteVals l).take (m * 1)).toArray w' := by
          intro m hm w'
          simp only [Builtin.firstCells, Sem.run_pure]
          congr 1
          apply Array.ext'
          rw [← p2]
          simp only [Array.toList_map, Nat.mul_one]
          rw [← List.map_take]
          congr 1
          simp
        refine ⟨byteVals l, sb.size, ⟨fun _ => rfl, fun m hm => hfull m hm w, ?_, by rw [p1]; simp [byteVals], ?_⟩, by rw [p1, r2], byteCells_rel l, r1⟩
        · have := hfull sb.size (Nat.le_refl _) w.drew
          rw [this]
          congr 2
          rw [List.take_of_length_le]
          simp [byteVals, p1]
        · intro u hu
          obtain ⟨c, _, rfl⟩ := List.mem_map.1 hu
          rfl
  · cases h

theorem SrcOk.src {size : Nat} {x : Value} {n : Nat} {news : List Value} (h : SrcOk P w size x n news) {tx : TypeId} (hk : (∃ e', P.underlying tx = some (.slice e')) ∨ P.underlying tx = some .string) : Src P size tx x n news w :=
  ⟨hk, h.len, by have := h.cells n (Nat.le_refl _); rwa [List.take_of_length_le (by rw [h.newsLen]; exact Nat.le_refl _)] at this, h.cellsD, h.newsLen, h.one⟩

theorem appendTo_rel (T : TabOk P C) (H : HRel ρ ι s w) {t tx e : TypeId} {ei : TI} (he : C.elemT t = some (e, ei)) (hk : (∃ e', P.underlying tx = some (.slice e')) ∨ P.underlying tx = some .string)
    {b o len k : Nat} {xs : List (List AV)} {v : AV} {s' : St} (h : appendTo s e ei b o len k xs = some (v, s')) {d' x' : Value} (hd : VRel ρ ι (.slice b o len k) d') {news : List Value} {n : Nat} (hs : SrcOk P w ei.size x' n news) (hn : n = xs.length)
    (hx0 : 0 < xs.length) (hv : VRels ρ ι xs.flatten news) (hr : Rows ei.size xs) (ty : TypeId) :
    ∃ v' w' ι', (Builtin.append_ #[t, tx] ty #[d', x']).run P w = .ok v' w' ∧ VRel ρ ι' v v' ∧ HRel ρ ι' s' w' ∧ Keep s ι w s' ι' w' := by
  unfold appendTo at h
  split at h
  case h_2 => cases h
  rename_i e0 sz gr pos rows hb
  cases hc : (Nat.beq sz ei.size && Nat.beq k ei.size && Nat.ble ((len + xs.length) * ei.bytes) maxBytes && Nat.ble (len + xs.length) maxBytes && Nat.ble s.lo b) with
  | false => simp [hc] at h
  | true =>
  simp only [hc, cond_true] at h
  simp only [Bool.and_eq_true] at hc
  obtain ⟨⟨⟨⟨c1, c2⟩, c3⟩, c4⟩, c5⟩ := hc
  have c1 := Nat.eq_of_beq_eq_true c1
  have c2 := Nat.eq_of_beq_eq_true c2
  subst c1 c2
  have c3 := Nat.le_of_ble_eq_true c3
  have c4 := Nat.le_of_ble_eq_true c4
  have c5 := Nat.le_of_ble_eq_true c5
  simp only [maxBytes] at c3 c4
  split at h
  case h_2 => cases h
  rename_i old hp hold hkill
  simp only [Option.some.injEq, Prod.mk.injEq] at h
  obtain ⟨rfl, rfl⟩ := h
  subst hn
  obtain ⟨ti, i, d, z, S, rfl, hei, hpos⟩ := elemT_spec T he
  obtain ⟨j0, d2, z2, S2⟩ := T.spec hei
  have hisz : j0.size = ei.size := S2.size.symm
  have hd0 := hd
  cases hd with
  | @slice _ g _ _ _ cap a hg hlen ha hroom =>
  obtain ⟨g1, hg1, hkk⟩ := H.blk _ _ hb
  rw [hg] at hg1; cases hg1
  have hrow : g.row = true := by cases hkk with | cells _ _ hrow => exact hrow
  have hroom := hroom hrow
  obtain ⟨q1, q2, olds, q3, q4⟩ := slice_cells H hd0 hold
  have hS : Src P j0.size tx x' xs.length news w := by rw [hisz]; exact hs.src hk
  by_cases hfit : len + xs.length ≤ cap
  · have hadr : a = ⟨g.blk, g.base + o, none⟩ := by
      rcases ha with ha | ha
      · omega
      · exact ha
    subst hadr
    obtain ⟨t1, t2, t3⟩ := H.appendIn (e2 := e) hb hg c5 hold hkill hroom hfit hr hv
    refine ⟨.slice (some ⟨g.blk, g.base + o, none⟩) (len + xs.length) cap, _, _, ?_, ?_, t2, t3⟩
    · exact run_append_room_src w t tx ty e j0 S.und S2.info g.blk (g.base + o) len cap x' xs.length news hS hfit (fun j hj => by rw [hisz]; exact (t1 j hj).1) (fun j hj => by rw [hisz]; exact (t1 j hj).2)
      |>.trans (by rw [hisz])
    · exact VRel.slice (g := { blk := g.blk, base := g.base + o, room := g.room - o, esz := ei.size, row := true, grp := gr, pos := pos + o }) (Inj.add_same _ _ _) hfit (.inr rfl) (fun _ => by show 0 + cap * ei.size ≤ g.room - o; omega)
  · -- a new row
    have hgc : cap < len + xs.length := by omega
    have hol : (Builtin.firstCells j0.size len (.slice (some a) len cap)).run P w.drew = .ok olds.toArray w.drew :=
      run_firstCells_some w.drew j0.size len a len cap olds (by rw [← q3.length, flatten_length q2.len, q1, hisz]) (by simpa using q4)
    have hrun := run_append_grow_src (P := P) w t tx ty e j0 z2 S.und S2.info S2.zero (some a) len cap olds hol x' xs.length news hS hgc (by omega) (growslice_fits hgc (by rw [← S2.bytes]; exact c3))
    have hge := grownCap_ge w (len + xs.length) cap e
    obtain ⟨arr, harr⟩ : ∃ arr : Array Value, arr = (olds ++ news).toArray ++ Builtin.zeroCells z2.cells (grownCap w (len + xs.length) cap e - (len + xs.length)) := ⟨_, rfl⟩
    rw [← harr] at hrun
    have hzs : z2.cells.size = ei.size := by
      have := (S2.zeroRel (ρ := ρ) (ι := ι)).length
      rw [S2.zlen, ← S2.size] at this; simpa using this.symm
    have hol2 : (olds ++ news).length = (len + xs.length) * ei.size := by
      rw [List.length_append, ← q3.length, ← hv.length, flatten_length q2.len, flatten_length hr.len, q1, Nat.add_mul]
    have hsz : arr.size = grownCap w (len + xs.length) cap e * ei.size := by
      rw [harr, Array.size_append, size_zeroCells, List.size_toArray, hol2, hzs, ← Nat.add_mul]
      congr 1; omega
    obtain ⟨k1, k2⟩ := killOver_spec _ _ _ _ _ _ _ hkill
    let s0 : St := { s with heap := hp }
    have hsub : ∀ b k, s0.heap.get b = some k → s.heap.get b = some k := by
      intro b k hb
      rcases k1 b with h1 | h1
      · exact h1 ▸ hb
      · rw [show s0.heap.get b = none from h1.1] at hb; cases hb
    have H0 : HRel ρ ι s0 w := H.sub hsub rfl (Nat.le_refl _)
    obtain ⟨hl0, l, hl1, hl2⟩ := H.grp _ _ _ _ _ _ _ hb
    let g' : Tgt := { blk := w.heap.size, base := 0, room := arr.size, esz := ei.size, row := true, grp := gr, pos := pos + o }
    let s' : St := { s with heap := hp.put s.nx (some (.cells e ei.size gr (pos + o) true (old ++ xs))), grps := s.grps.put gr (some (s.nx :: (s.grps.get gr).getD [])), nx := s.nx + 1 }
    have hle : ι.le (ι.add s.nx g') := Inj.le_add (H.fresh _ (Nat.le_refl _))
    obtain ⟨r1, r2⟩ := H0.new (k := .cells e ei.size gr (pos + o) true (old ++ xs)) (g := g') (s' := s') (w' := w.drew.alloc (.cells arr e)) (o := .cells arr e) rfl rfl rfl (fun x lx hx hlx => by
        show ∃ l', (s.grps.put gr _).get x = some l' ∧ _
        by_cases hgx : gr = x
        · subst hgx
          refine ⟨_, Tr.get_put_same _ _ _, fun z hz => ?_⟩
          have hlx : s.grps.get gr = some lx := hlx
          rw [hlx]; simp [hz]
        · exact ⟨lx, by rw [Tr.get_put_other _ _ hgx]; exact hlx, fun z hz => hz⟩) rfl rfl
      (.cells (c := arr) (e' := e) (fz := (0, 0)) (by show (w.heap.push _)[w.heap.size]? = _; exact push_new _ _) rfl rfl rfl rfl hpos (by show 0 + arr.size ≤ arr.size; omega)
        (by
          show (old ++ xs).length * ei.size ≤ arr.size
          rw [List.length_append, q1, hsz]
          exact Nat.mul_le_mul_right _ hge) (fun o _ => by omega)
        (Cells.le hle (Cells.of_range (cs := olds ++ news) (q2.append hr) (by rw [List.flatten_append]; exact q3.append hv) fun j v hj => by
          show arr[0 + j]? = some v
          rw [Nat.zero_add, harr, Array.getElem?_append_left (by simpa using (List.getElem?_eq_some_iff.1 hj).1)]
          simpa using hj)))
      (by
        rintro _ _ _ _ _ _ ⟨⟩
        exact ⟨by show gr < s.nx + 1; omega, _, Tr.get_put_same _ _ _, List.mem_cons_self⟩)
    refine ⟨_, _, _, hrun, ?_, r1, r2.ofSub hsub rfl rfl rfl⟩
    exact VRel.slice (g := g') (Inj.add_same _ _ _) hge (.inr rfl) (fun _ => by show 0 + grownCap w (len + xs.length) cap e * ei.size ≤ arr.size; omega)

theorem appendA_rel (T : TabOk P C) (H : HRel ρ ι s w) {t tx : TypeId} (hk : (∃ e', P.underlying tx = some (.slice e')) ∨ P.underlying tx = some .string)
    {d x v : AV} {s' : St} (h : appendA C t d x s = some (v, s')) {d' x' : Value} (hd : VRel ρ ι d d') (hx : VRel ρ ι x x') (ty : TypeId) :
    ∃ v' w' ι', (Builtin.append_ #[t, tx] ty #[d', x']).run P w = .ok v' w' ∧ VRel ρ ι' v v' ∧ HRel ρ ι' s' w' ∧ Keep s ι w s' ι' w' := by
  unfold appendA at h
  split at h
  case h_2 => cases h
  rename_i e ei he
  split at h
  case h_2 => cases h
  rename_i xs hsrc
  obtain ⟨news, n, hs, hn, hv, hr⟩ := srcA_rel (P := P) H hsrc hx
  obtain ⟨ti, i, dd, z, S, rfl, hei, hpos⟩ := elemT_spec T he
  obtain ⟨j0, d2, z2, S2⟩ := T.spec hei
  have hisz : j0.size = ei.size := S2.size.symm
  have nothing : ∀ (base : Option Addr) (sl sc : Nat), sl ≤ sc → xs = [] → (Builtin.append_ #[t, tx] ty #[.slice base sl sc, x']).run P w = .ok (.slice base sl sc) w := by
    intro base sl sc hle h0
    subst h0
    have := VRels.nil_iff (by simpa using hv)
    subst this
    have hn0 : n = 0 := by simpa using hn
    subst hn0
    refine run_append_nothing w t tx ty e j0 S.und S2.info base sl sc hle x' ?_
    rw [hisz]; exact hs.src hk
  split at h
  · cases h; cases hd
    exact ⟨_, w, ι, nothing none 0 0 (Nat.le_refl _) rfl, .nilSlice, H, .refl _ _ _ H.fresh⟩
  · cases h
    cases hd with
    | slice hg hlen ha hroom => exact ⟨_, w, ι, nothing _ _ _ hlen rfl, .slice hg hlen ha hroom, H, .refl _ _ _ H.fresh⟩
  · rename_i hne
    cases hd
    cases hc : (Nat.ble (xs.length * ei.bytes) maxBytes && Nat.ble xs.length maxBytes) with
    | false => simp [hc] at h
    | true =>
      simp only [hc, cond_true, Option.some.injEq, Prod.mk.injEq] at h
      obtain ⟨rfl, rfl⟩ := h
      simp only [Bool.and_eq_true] at hc
      have c3 := Nat.le_of_ble_eq_true hc.1
      have c4 := Nat.le_of_ble_eq_true hc.2
      simp only [maxBytes] at c3 c4
      have hx0 : 0 < xs.length := by
        cases xs with
        | nil => exact (hne rfl).elim
        | cons => simp
      subst hn
      have hol : (Builtin.firstCells j0.size 0 (.slice none 0 0)).run P w.drew = .ok ([] : List Value).toArray w.drew := run_firstCells_none w.drew _ 0 0 0
      have hrun := run_append_grow_src (P := P) w t tx ty e j0 z2 S.und S2.info S2.zero none 0 0 [] hol x' xs.length news (by rw [hisz]; exact hs.src hk) (by omega) (by omega) (growslice_fits (by omega) (by rw [← S2.bytes, Nat.zero_add]; exact c3))
      rw [Nat.zero_add] at hrun
      have hge := grownCap_ge w xs.length 0 e
      obtain ⟨arr, harr⟩ : ∃ arr : Array Value, arr = ([] ++ news).toArray ++ Builtin.zeroCells z2.cells (grownCap w xs.length 0 e - xs.length) := ⟨_, rfl⟩
      rw [← harr] at hrun
      have hzs : z2.cells.size = ei.size := by
        have := (S2.zeroRel (ρ := ρ) (ι := ι)).length
        rw [S2.zlen, ← S2.size] at this; simpa using this.symm
      have hsz : arr.size = grownCap w xs.length 0 e * ei.size := by
        rw [harr, Array.size_append, size_zeroCells, List.size_toArray, List.nil_append, hs.newsLen, hzs, ← Nat.add_mul]
        congr 1; omega
      obtain ⟨ι', n1, n2, n3⟩ := newSlice_rel (e := e) (e' := e) (cap := grownCap w xs.length 0 e) (n := xs.length) (c := arr) (fz := (0, 0)) (w' := w.drew.alloc (.cells arr e)) H rfl hpos hr hv (fun j v hj => by
        rw [harr, List.nil_append, Array.getElem?_append_left (by simpa using (List.getElem?_eq_some_iff.1 hj).1)]
        simpa using hj) rfl hge (by omega) (by intro o _; omega)
      exact ⟨_, _, ι', hrun, n1, n2, n3⟩
  · rename_i b o len k hne
    have hx0 : 0 < xs.length := by
      cases xs with
      | nil => exact (hne rfl).elim
      | cons => simp
    exact appendTo_rel T H he hk h hd hs hn hx0 hv hr ty
  · cases h

/-! ### rows written over -/
theorem setCells_append (b : Nat) : ∀ (vs us : List Value) (o : Nat) (w : World), w.setCells b o (vs ++ us) = (w.setCells b o vs).setCells b (o + vs.length) us := by
  intro vs
  induction vs with
  | nil => intro us o w; rfl
  | cons v vs ih => intro us o w; simp only [List.cons_append, World.setCells, ih, List.length_cons]; congr 1; omega

theorem wrElems_rel : ∀ {ys : List (List AV)} {size b o : Nat} {s s' : St} {w : World} {cs : List Value} {g : Tgt}, HRel ρ ι s w → wrElems size b o ys s = some s' → Rows size ys → VRels ρ ι ys.flatten cs → ι b = some g →
    w.there g.blk (g.base + o) cs.length ∧ HRel ρ ι s' (w.setCells g.blk (g.base + o) cs) ∧ Keep s ι w s' ι (w.setCells g.blk (g.base + o) cs) := by
  intro ys
  induction ys with
  | nil =>
    intro size b o s s' w cs g H h hr hv hg
    simp [wrElems] at h
    subst h
    have := VRels.nil_iff (by simpa using hv)
    subst this
    exact ⟨fun j hj => by simp at hj, H, .refl _ _ _ H.fresh⟩
  | cons y ys ih =>
    intro size b o s s' w cs g H h hr hv hg
    simp only [wrElems] at h
    split at h
    · rename_i s1 hs1
      rw [List.flatten_cons] at hv
      have hyl := hr.len y (by simp)
      have hv1 := hv.take y.length
      have hv2 := hv.drop y.length
      rw [List.take_left'  rfl] at hv1
      rw [List.drop_left' rfl] at hv2
      obtain ⟨g1, hg1, t1, H1, K1⟩ := H.wr hs1 hv1 (hr.flat y (by simp))
      rw [hg] at hg1; cases hg1
      have hl1 := hv1.length
      obtain ⟨t2, H2, K2⟩ := ih H1 h ⟨fun r hr' => hr.len r (by simp [hr']), fun r hr' => hr.flat r (by simp [hr'])⟩ hv2 hg
      have hsplit : cs.take y.length ++ cs.drop y.length = cs := List.take_append_drop _ _
      have hset : (w.setCells g.blk (g.base + o) (cs.take y.length)).setCells g.blk (g.base + (o + size)) (cs.drop y.length) = w.setCells g.blk (g.base + o) cs := by
        have := setCells_append g.blk (cs.take y.length) (cs.drop y.length) (g.base + o) w
        rw [hsplit] at this
        rw [this, ← hl1, hyl, Nat.add_assoc]
      rw [hset] at H2 K2
      refine ⟨?_, H2, K1.trans K2⟩
      intro j hj
      by_cases hjy : j < (cs.take y.length).length
      · exact t1 j hjy
      · have hlt : j - y.length < (cs.drop y.length).length := by rw [List.length_drop]; omega
        have := t2 (j - y.length) hlt
        rw [← hl1] at hjy
        rw [show g.base + (o + size) + (j - y.length) = g.base + o + j from by omega] at this
        refine ⟨?_, ?_⟩
        · have h1 := this.1
          by_cases hs : (w.cell? ⟨g.blk, g.base + o + j, none⟩).isSome = true
          · exact hs
          · exfalso
            -- the block is a row of cells, of the same size behind
            unfold St.wr at hs1
            split at hs1
            case h_2 => cases hs1
            rename_i e0 sz gr pos r rows hb
            obtain ⟨g2, hg2, hk⟩ := H.blk _ _ hb
            rw [hg] at hg2; cases hg2
            cases hk with
            | cells hh =>
              obtain ⟨c', a1, a2, _⟩ := setCells_same g.blk (cs.take y.length) (g.base + o) w _ _ _ hh
              rw [cell_of_heap a1] at h1
              rw [cell_of_heap hh] at hs
              simp at h1 hs
              omega
        · have h2 := this.2
          rw [World.frozen?_setCells] at h2
          exact h2
    · cases h

theorem copyA_rel (T : TabOk P C) (H : HRel ρ ι s w) {t : TypeId} {d x v : AV} {s' : St} (h : copyA C t d x s = some (v, s')) {d' x' : Value} (hd : VRel ρ ι d d') (hx : VRel ρ ι x x') (ty : TypeId) (ts : List TypeId) :
    ∃ v' w', (Builtin.copy_ (t :: ts).toArray ty #[d', x']).run P w = .ok v' w' ∧ VRel ρ ι v v' ∧ HRel ρ ι s' w' ∧ Keep s ι w s' ι w' := by
  unfold copyA at h
  split at h
  case h_2 => cases h
  rename_i e ei he
  obtain ⟨ti, i, dd, z, S, rfl, hei, hpos⟩ := elemT_spec T he
  obtain ⟨j0, d2, z2, S2⟩ := T.spec hei
  split at h
  · rename_i xs hsrc
    cases h; cases hd
    obtain ⟨news, n, hs, hn, hv, hr⟩ := srcA_rel (P := P) H hsrc hx
    have := hs.cells 0 (Nat.zero_le _)
    refine ⟨goInt 0, w, ?_, .int _ _, H, .refl _ _ _ H.fresh⟩
    simp only [Nat.zero_mul, List.take_zero] at this
    simp [Builtin.copy_, S.run_underlying, hs.len, S2.run_sizeOf, this]
  · rename_i b o len k xs hsrc
    obtain ⟨news, n, hs, hn, hv, hr⟩ := srcA_rel (P := P) H hsrc hx
    split at h
    · rename_i ys hys
      split at h
      · rename_i s2 hw
        cases h
        obtain ⟨rfl, hle⟩ := takeR_eq _ _ _ hys
        cases hd with
        | @slice _ g _ _ _ cap a hg hlen ha hroom =>
          have hmin : Nat.min n len = min xs.length len := by rw [hn]
          have hcells := hs.cells (Nat.min n len) (Nat.min_le_left _ _)
          have hyr : Rows ei.size (List.take (min xs.length len) xs) := ⟨fun r hr' => hr.len r (List.mem_of_mem_take hr'), fun r hr' => hr.flat r (List.mem_of_mem_take hr')⟩
          have hfl : (List.take (min xs.length len) xs).flatten = xs.flatten.take (min xs.length len * ei.size) := by
            have h1 : (List.take (min xs.length len) xs).flatten ++ (List.drop (min xs.length len) xs).flatten = xs.flatten := by rw [← List.flatten_append, List.take_append_drop]
            rw [← h1, List.take_left']
            rw [flatten_length hyr.len, List.length_take]
            congr 1; omega
          have hvt : VRels ρ ι (List.take (min xs.length len) xs).flatten (news.take (min xs.length len * ei.size)) := by rw [hfl]; exact hv.take _
          obtain ⟨t1, t2, t3⟩ := wrElems_rel H hw hyr hvt hg
          rw [hmin] at hcells
          have hl : (List.take (min xs.length len) xs).length = min xs.length len := by rw [List.length_take]; omega
          refine ⟨goInt ((min xs.length len : Nat) : Int), _, ?_, by rw [hl]; exact .int _ _, t2, t3⟩
          have hone : ∀ u ∈ news.take (min xs.length len * ei.size), u.oneCell' = true := fun u hu => hs.one u (List.mem_of_mem_take hu)
          have hst : (storeCells a (news.take (min xs.length len * ei.size))).run P w = .ok () (w.setCells g.blk (g.base + o) (news.take (min xs.length len * ei.size))) := by
            rcases ha with ha | ha
            · have : min xs.length len = 0 := by omega
              rw [this]
              simp [storeCells, World.setCells]
            · subst ha
              have := run_storeCells_cells (P := P) g.blk (g.base + o) (news.take (min xs.length len * ei.size)) 0 w (fun j hj => by simpa using (t1 j hj).1) (fun j hj => by simpa using (t1 j hj).2) hone
              simpa using this
          have harr : (t :: ts).toArray[0]? = some t := by simp
          unfold Builtin.copy_
          simp only [harr, show (#[Value.slice (some a) len cap, x'] : Array Value)[0]? = some (.slice (some a) len cap) from rfl, show (#[Value.slice (some a) len cap, x'] : Array Value)[1]? = some x' from rfl]
          simp only [Sem.run_bind, S.run_underlying, Result.andThen_ok, hs.len, S2.run_sizeOf, hmin, hcells, hst, Sem.run_pure]
      · cases h
    · cases h
  · cases h

theorem clearA_rel (T : TabOk P C) (H : HRel ρ ι s w) {t : TypeId} {x v : AV} {s' : St} (h : clearA C t x s = some (v, s')) {x' : Value} (hx : VRel ρ ι x x') (ty : TypeId) (ts : List TypeId) :
    ∃ w', (Builtin.clear_ (t :: ts).toArray ty #[x']).run P w = .ok (.tuple #[]) w' ∧ VRel ρ ι v (.tuple #[]) ∧ HRel ρ ι s' w' ∧ Keep s ι w s' ι w' := by
  unfold clearA at h
  split at h
  · cases hc : isMapT C t with
    | false => simp [hc] at h
    | true =>
      simp only [hc, cond_true, Option.some.injEq, Prod.mk.injEq] at h
      obtain ⟨rfl, rfl⟩ := h
      obtain ⟨e, e2, hu⟩ := isMapT_spec T hc
      cases hx
      exact ⟨w, by simp [Builtin.clear_, run_underlying hu], .tuple .nil, H, .refl _ _ _ H.fresh⟩
  · cases hc : isSliceT C t with
    | false => simp [hc] at h
    | true =>
      simp only [hc, cond_true, Option.some.injEq, Prod.mk.injEq] at h
      obtain ⟨rfl, rfl⟩ := h
      obtain ⟨e, hu⟩ := isSliceT_spec T hc
      cases hx
      exact ⟨w, by simp [Builtin.clear_, run_underlying hu], .tuple .nil, H, .refl _ _ _ H.fresh⟩
  · rename_i r
    cases hc : isMapT C t with
    | false => simp [hc] at h
    | true =>
      simp only [hc, cond_true] at h
      obtain ⟨e, e2, hu⟩ := isMapT_spec T hc
      split at h
      · rename_i es clock hb
        split at h
        · rename_i s2 hset
          cases h
          obtain ⟨g, hg, hk⟩ := H.blk _ _ hb
          cases hk with
          | map hh hmr =>
            cases hx with
            | map hg' =>
              rw [hg] at hg'; cases hg'
              obtain ⟨w', q1, q2, q3⟩ := setMap_rel (P := P) (es2' := #[]) H hb hg hh hset .nil
              exact ⟨w', by simp [Builtin.clear_, run_underlying hu, MapKept.run_getObj_map hh, q1], .tuple .nil, q2, q3⟩
        · cases h
      · cases h
  · rename_i b o n k
    split at h
    · rename_i e ei he
      split at h
      · rename_i s2 hw
        cases h
        obtain ⟨ti, i, dd, z, S, rfl, hei, hpos⟩ := elemT_spec T he
        obtain ⟨j0, d2, z2, S2⟩ := T.spec hei
        have hzs : z2.cells.size = ei.size := by
          have := (S2.zeroRel (ρ := ρ) (ι := ι)).length
          rw [S2.zlen, ← S2.size] at this; simpa using this.symm
        cases hx with
        | @slice _ g _ _ _ cap a hg hlen ha hroom =>
          obtain ⟨q1, q2⟩ := zeros_rel (S2.zeroRel (ρ := ρ) (ι := ι)) S2.zeroFlat n
          rw [S2.zlen, ← S2.size] at q1
          obtain ⟨t1, t2, t3⟩ := wrElems_rel H hw q1 q2 hg
          by_cases hn : n = 0
          · subst hn
            refine ⟨w, by simp [Builtin.clear_, S.run_underlying], .tuple .nil, ?_, ?_⟩
            · simpa [World.setCells] using t2
            · simpa [World.setCells] using t3
          · have hz : (Builtin.zeroCells z2.cells n).toList = (List.replicate n z2.cells.toList).flatten := zero_range _ _ (by omega)
            have hadr : a = ⟨g.blk, g.base + o, none⟩ := by
              rcases ha with ha | ha
              · omega
              · exact ha
            subst hadr
            have hone : ∀ u ∈ (List.replicate n z2.cells.toList).flatten, u.oneCell' = true := VRels.oneCell q2 (fun v hv => by
              obtain ⟨r, hr1, hr2⟩ := List.mem_flatten.1 hv
              exact q1.flat r hr1 v hr2)
            have hst := run_storeCells_cells (P := P) g.blk (g.base + o) (List.replicate n z2.cells.toList).flatten 0 w (fun j hj => by simpa using (t1 j hj).1) (fun j hj => by simpa using (t1 j hj).2) hone
            rw [Nat.add_zero] at hst
            refine ⟨_, ?_, .tuple .nil, t2, t3⟩
            have hn' : ∀ {α : Type} (x y : α), (match n with | 0 => x | _ => y) = y := by
              intro α x y
              cases n with
              | zero => exact absurd rfl hn
              | succ n => rfl
            cases n with
            | zero => exact absurd rfl hn
            | succ n => simp [Builtin.clear_, S.run_underlying, S2.run_zeroValue, hz, hst]
      · cases h
    · cases h
  · cases h
end
end Go.Ev
