/-
  A part of a verified evaluator of the model's code, or of its use at this seat; see the text YtkibpfkengpimaaGreatDoorEvCard.
-/
import Derived.Test.YtkibpfkengpimaaGreatDoorEvMem
import Derived.Laws.Sem
namespace Go.Ev

structure TabOk (P : Program) (C : Ctx) : Prop where
  types : ∀ t i, C.types.get t = some i → mkTI P t = some i
  funcs : ∀ f fn, C.funcs.get f = some fn → P.funcs[f]? = some fn ∧ fn.name ≠ "runtime.NumGoroutine" ∧ ∀ c, fn.body = some c → okC c = true
  deep : 50 ≤ P.depth
  mixed : P.follows .mixedOrders = true
  ext : ∀ g e, C.ext g = some e → ∀ (ρ : Val) (ι : Inj) (s : St) (w : World) (args : List AV) (v : AV) (args' : Array Value), e args s = some v → HRel ρ ι s w → VRels ρ ι args args'.toList →
    ∃ v', (callFunc g args').run P w = .ok (.value v') w ∧ VRel ρ ι v v'

structure TSpec (P : Program) (t : TypeId) (ti : TI) (i : TypeInfo) (d : TypeDesc) (z : Value) : Prop where
  info : P.info? t = some i
  und : P.underlying t = some d
  zero : i.zero = some z
  cells : mapA (constA 8) z.cells.toList = some ti.zero
  flat : ti.zero.all AV.flat = true
  zlen : ti.zero.length = i.size
  kind : ti.kind = mkTK d
  size : ti.size = i.size
  bytes : ti.bytes = i.bytes
  flats : ti.flat = flatT P 50 t
  known : knownT P d = true
  fits : zeroFits d z = true

section
variable {P : Program} {C : Ctx} {ρ : Val} {ι : Inj} {s : St} {w : World}

theorem TabOk.spec (T : TabOk P C) {t : TypeId} {ti : TI} (h : C.types.get t = some ti) : ∃ i d z, TSpec P t ti i d z := by
  have h := T.types _ _ h
  unfold mkTI at h
  split at h
  · rename_i i d hi hd
    split at h
    · rename_i z hz
      split at h
      · rename_i zs hzs
        cases hc : (zs.all AV.flat && Nat.beq zs.length i.size && knownT P d && zeroFits d z) with
        | false => simp [hc] at h
        | true =>
          simp only [hc, cond_true, Option.some.injEq] at h
          subst h
          simp only [Bool.and_eq_true] at hc
          exact ⟨i, d, z, hi, hd, hz, hzs, hc.1.1.1, Nat.eq_of_beq_eq_true hc.1.1.2, rfl, rfl, rfl, rfl, hc.1.2, hc.2⟩
      · cases h
    · cases h
  · cases h

theorem TSpec.run_underlying {t : TypeId} {ti : TI} {i : TypeInfo} {d : TypeDesc} {z : Value} (h : TSpec P t ti i d z) (w : World) : (underlying t).run P w = .ok d w := Go.run_underlying h.und w
theorem TSpec.run_typeInfo {t : TypeId} {ti : TI} {i : TypeInfo} {d : TypeDesc} {z : Value} (h : TSpec P t ti i d z) (w : World) : (typeInfo t).run P w = .ok i w := by simp [typeInfo, h.info]
theorem TSpec.run_sizeOf {t : TypeId} {ti : TI} {i : TypeInfo} {d : TypeDesc} {z : Value} (h : TSpec P t ti i d z) (w : World) : (sizeOf t).run P w = .ok ti.size w := by simp [sizeOf, h.run_typeInfo, h.size]
theorem TSpec.run_zeroValue {t : TypeId} {ti : TI} {i : TypeInfo} {d : TypeDesc} {z : Value} (h : TSpec P t ti i d z) (w : World) : (zeroValue t).run P w = .ok z w := by simp [zeroValue, h.run_typeInfo, h.zero]
theorem TSpec.run_isAgg {t : TypeId} {ti : TI} {i : TypeInfo} {d : TypeDesc} {z : Value} (h : TSpec P t ti i d z) (w : World) : (isAgg t).run P w = .ok ti.isAgg w := by
  unfold isAgg
  rw [Sem.run_bind, h.run_underlying]
  unfold TI.isAgg
  rw [h.kind]
  cases d <;> simp [mkTK]
theorem TSpec.zeroRel {t : TypeId} {ti : TI} {i : TypeInfo} {d : TypeDesc} {z : Value} (h : TSpec P t ti i d z) : VRels ρ ι ti.zero z.cells.toList := mapA_rel (fun _ _ hv => constA_rel ρ ι hv) h.cells
theorem TSpec.zeroFlat {t : TypeId} {ti : TI} {i : TypeInfo} {d : TypeDesc} {z : Value} (h : TSpec P t ti i d z) : ∀ v ∈ ti.zero, v.flat = true := fun v hv => List.all_eq_true.1 h.flat v hv
theorem TSpec.cellsOf {t : TypeId} {ti : TI} {i : TypeInfo} {d : TypeDesc} {z : Value} (h : TSpec P t ti i d z) : P.cellsOf t = ti.size := by simp [Program.cellsOf, h.info, h.size]

/-- A value out of its cells. -/
theorem aggOf_rel {ti : TI} {cs : List AV} {v : AV} {cs' : List Value} (h : aggOf ti cs = some v) (hc : VRels ρ ι cs cs') (hf : ∀ x ∈ cs, x.flat = true) :
    (ti.isAgg = true ∧ v = .agg cs ∧ VRel ρ ι v (.agg cs'.toArray)) ∨ (ti.isAgg = false ∧ cs = [v] ∧ ∃ v', cs' = [v'] ∧ VRel ρ ι v v') := by
  unfold aggOf at h
  cases hi : ti.isAgg with
  | true =>
    simp only [hi, cond_true, Option.some.injEq] at h
    subst h
    exact .inl ⟨rfl, rfl, .agg (by simpa using hc) hf⟩
  | false =>
    simp only [hi, cond_false] at h
    split at h
    · rename_i x
      cases h
      cases hc with
      | cons h hs => cases hs; exact .inr ⟨rfl, rfl, _, rfl, h⟩
    · cases h

/-- The cells of a value. -/
theorem AV.cells_rel {v : AV} {cs : List AV} {v' : Value} (h : v.cells = some cs) (hv : VRel ρ ι v v') : VRels ρ ι cs v'.cells.toList ∧ (∀ x ∈ cs, x.flat = true) := by
  cases hv <;> simp only [AV.cells, Option.some.injEq, reduceCtorEq] at h
  case agg cs' h1 h2 => subst h; exact ⟨h1, h2⟩
  all_goals subst h
  all_goals refine ⟨?_, by simp [AV.flat]⟩
  all_goals simp only [Value.cells]
  case bool => exact .cons (.bool _) .nil
  case int => exact .cons (.int _ _) .nil
  case str h => exact .cons (.str _ _ h) .nil
  case ptr h => exact .cons (.ptr _ h) .nil
  case nilPtr => exact .cons .nilPtr .nil
  case slice h h1 h2 h3 => exact .cons (.slice h h1 h2 h3) .nil
  case nilSlice => exact .cons .nilSlice .nil
  case map h => exact .cons (.map h) .nil
  case nilMap => exact .cons .nilMap .nil
  case func h h1 h2 => exact .cons (.func h h1 h2) .nil
  case nilFunc => exact .cons .nilFunc .nil
  case iface h => exact .cons (.iface _ h) .nil
  case nilIface => exact .cons .nilIface .nil
  case oneOf h => exact .cons (.oneOf _ _ _ h) .nil

theorem VRels.oneCell {cs : List AV} {cs' : List Value} (h : VRels ρ ι cs cs') (hf : ∀ x ∈ cs, x.flat = true) : ∀ v ∈ cs', v.oneCell' = true := by
  induction cs generalizing cs' with
  | nil => cases h; simp
  | cons x cs ih =>
    cases h with
    | cons h hs =>
      intro v hv
      rcases List.mem_cons.1 hv with rfl | hv
      · exact h.oneCell (hf _ (by simp))
      · exact ih hs (fun y hy => hf y (by simp [hy])) v hv

theorem TSpec.zeroVal {t : TypeId} {ti : TI} {i : TypeInfo} {d : TypeDesc} {z : Value} (S : TSpec P t ti i d z) {v : AV} (h : aggOf ti ti.zero = some v) : VRel ρ ι v z := by
  have hf := S.fits
  rcases aggOf_rel h (S.zeroRel (ρ := ρ) (ι := ι)) S.zeroFlat with ⟨h1, _, h3⟩ | ⟨h1, _, v', h2, h3⟩
  · unfold TI.isAgg at h1
    rw [S.kind] at h1
    have : ∃ cs, z = .agg cs := by
      cases d <;> simp [mkTK] at h1 <;> cases z <;> simp [zeroFits] at hf <;> exact ⟨_, rfl⟩
    obtain ⟨cs, rfl⟩ := this
    simpa [Value.cells] using h3
  · unfold TI.isAgg at h1
    rw [S.kind] at h1
    have : z.cells = #[z] := by
      cases d <;> simp [mkTK] at h1 <;> cases z <;> simp [zeroFits] at hf <;> rfl
    rw [this] at h2
    simp at h2
    subst h2
    exact h3

/-! ### load, store -/
theorem TSpec.loadVar {t : TypeId} {ti : TI} {i : TypeInfo} {d : TypeDesc} {z : Value} (T : TSpec P t ti i d z) {b o : Nat} {cs : List AV} {cs' : List Value} {v : AV}
    (hv : aggOf ti cs = some v) (hl : cs.length = ti.size) (hc : VRels ρ ι cs cs') (hf : ∀ x ∈ cs, x.flat = true) (hr : w.rangeAt b o cs') :
    ∃ v', (loadVar t ⟨b, o, none⟩).run P w = .ok v' w ∧ VRel ρ ι v v' := by
  rcases aggOf_rel hv hc hf with ⟨h1, _, h3⟩ | ⟨h1, rfl, v', rfl, h3⟩
  · refine ⟨_, run_loadVar_mid w b o t cs' d hr T.und ?_ ?_, h3⟩
    · have := h1; unfold TI.isAgg at this; rw [T.kind] at this
      cases d <;> simp [mkTK] at this <;> rfl
    · rw [T.info]; simp [← hc.length, hl, T.size]
  · refine ⟨v', ?_, h3⟩
    have hcell := hr 0 v' rfl
    rw [Go.loadVar, Sem.run_bind, T.run_isAgg, h1]
    simp [load, Sem.run]
    simp at hcell
    simp [hcell]

theorem loadA_rel (T : TabOk P C) (H : HRel ρ ι s w) {t : TypeId} {a v : AV} {a' : Value} (h : loadA C s t (some a) = some v) (ha : VRel ρ ι a a') :
    ∃ v', (Instr.loadAt t a').run P w = .ok v' w ∧ VRel ρ ι v v' := by
  unfold loadA at h
  split at h
  · rename_i b o i hx hi
    cases hx
    split at h
    · rename_i cs hcs
      obtain ⟨i0, d, z, S⟩ := T.spec hi
      obtain ⟨g, hg, hl, hf, cs', hc, hr⟩ := H.rd hcs
      cases ha with
      | ptr o hg' =>
        rw [hg] at hg'; cases hg'
        obtain ⟨v', h1, h2⟩ := S.loadVar h hl hc hf hr
        exact ⟨v', by simp [Instr.loadAt, Instr.sureAddr, h1], h2⟩
    · cases h
  · cases h

theorem TSpec.storeVar {t : TypeId} {ti : TI} {i : TypeInfo} {d : TypeDesc} {z : Value} (T : TSpec P t ti i d z) {b o : Nat} {v' : Value} (hl : v'.cells.size = ti.size) (h1 : ∀ x ∈ v'.cells.toList, x.oneCell' = true)
    (ht : w.there b o v'.cells.size) : (storeVar t ⟨b, o, none⟩ v').run P w = .ok () (w.setCells b o v'.cells.toList) := by
  have := run_storeCells_cells (P := P) b o v'.cells.toList 0 w (fun j hj => by simpa using (ht j (by simpa using hj)).1) (fun j hj => by simpa using (ht j (by simpa using hj)).2) h1
  simp only [Nat.add_zero] at this
  simp [Go.storeVar, T.run_sizeOf, hl, this]

theorem storeA_rel (T : TabOk P C) (H : HRel ρ ι s w) {t : TypeId} {a v : AV} {a' v' : Value} {s' : St} (h : storeA C s t (some a) (some v) = some s') (ha : VRel ρ ι a a') (hv : VRel ρ ι v v') :
    ∃ w', (Instr.storeAt t a' v').run P w = .ok () w' ∧ HRel ρ ι s' w' ∧ Keep s ι w s' ι w' := by
  unfold storeA at h
  split at h
  · rename_i b o v0 i hx hv0 hi
    cases hx; cases hv0
    split at h
    · rename_i cs hcs
      cases hl : Nat.beq cs.length i.size with
      | false => simp [hl] at h
      | true =>
        simp only [hl, cond_true] at h
        obtain ⟨i0, d, z, S⟩ := T.spec hi
        obtain ⟨hc, hf⟩ := AV.cells_rel hcs hv
        obtain ⟨g, hg, hthere, h1, h2⟩ := H.wr h hc hf
        have hlen : v'.cells.toList.length = cs.length := hc.length.symm
        cases ha with
        | ptr o hg' =>
          rw [hg] at hg'; cases hg'
          refine ⟨_, ?_, h1, h2⟩
          have hs : v'.cells.size = i.size := by
            have := Nat.eq_of_beq_eq_true hl
            simp at hlen; omega
          have := S.storeVar (w := w) (b := g.blk) (o := g.base + o) hs (hc.oneCell hf) (by simpa using hthere)
          simp [Instr.storeAt, Instr.sureAddr, this]
    · cases h
  · cases h

/-! ### new variables -/
theorem newRow_run (e : TypeId) (c : Array Value) (w : World) : (Go.newRow e c).run P w = .ok ⟨w.heap.size, 0, none⟩ { w with heap := w.heap.push (.cells c e) } := by
  simp [Go.newRow, newObj, Sem.run]

theorem one_row {cs : List AV} {cs' : List Value} (hc : VRels ρ ι cs cs') (hf : ∀ x ∈ cs, x.flat = true) : Cells ρ ι cs'.toArray 0 cs.length [cs] := by
  refine Cells.of_range (cs := cs') ⟨by simp, by simpa using hf⟩ (by simpa using hc) fun j v hj => ?_
  simpa using hj

theorem newVar_rel (H : HRel ρ ι s w) {e : TypeId} {sz : Nat} {cs : List AV} {v' : Value} (hs0 : 0 < sz) (hc : VRels ρ ι cs v'.cells.toList) (hl : cs.length = sz) (hf : ∀ x ∈ cs, x.flat = true) :
    ∃ w' ι', (newVar e v').run P w = .ok ⟨w.heap.size, 0, none⟩ w' ∧ VRel ρ ι' (.ptr s.nx 0) (.pointer (some ⟨w.heap.size, 0, none⟩)) ∧
      HRel ρ ι' (s.newRow e sz false [cs]) w' ∧ Keep s ι w (s.newRow e sz false [cs]) ι' w' := by
  subst hl
  have hlen := hc.length
  obtain ⟨h1, h2⟩ := H.newRow (e := e) (e' := e) (row := false) (rows := [cs]) (c := v'.cells) (fz := (0, 0)) (w' := { w with heap := w.heap.push (.cells v'.cells e) }) rfl hs0 (by simp at hlen; simp; omega) (by intro o _; omega)
    (by have := one_row hc hf; simpa using this)
  refine ⟨_, _, newRow_run e v'.cells w, ?_, h1, h2⟩
  exact VRel.ptr (g := { blk := w.heap.size, base := 0, room := v'.cells.size, esz := cs.length, row := false, grp := s.nx, pos := 0 }) 0 (Inj.add_same _ _ _)

theorem allocA_rel (T : TabOk P C) (H : HRel ρ ι s w) {e : TypeId} {v : AV} {s' : St} (h : allocA C s e = some (v, s')) :
    ∃ v' w' ι', (Instr.alloc e true (.tuple #[])).run P w = .ok v' w' ∧ VRel ρ ι' v v' ∧ HRel ρ ι' s' w' ∧ Keep s ι w s' ι' w' := by
  unfold allocA at h
  split at h
  · rename_i i hi
    cases h0 : Nat.beq i.size 0 with
    | true => simp [h0] at h
    | false =>
      simp only [h0, cond_false, Option.some.injEq, Prod.mk.injEq] at h
      obtain ⟨rfl, rfl⟩ := h
      obtain ⟨i0, d, z, S⟩ := T.spec hi
      have hpos : 0 < i.size := Nat.pos_of_ne_zero (by intro h; rw [h] at h0; cases h0)
      obtain ⟨w', ι', h1, h2, h3, h4⟩ := newVar_rel (P := P) H (e := e) hpos (S.zeroRel (ρ := ρ) (ι := ι)) (by rw [S.zlen, S.size]) S.zeroFlat
      exact ⟨_, w', ι', by simp [Instr.alloc, S.run_zeroValue, h1], h2, h3, h4⟩
  · cases h

theorem boxA_rel (T : TabOk P C) (H : HRel ρ ι s w) {e : TypeId} {x v : AV} {x' : Value} {s' : St} (h : boxA C s e (some x) = some (v, s')) (hx : VRel ρ ι x x') :
    ∃ v' w' ι', (Instr.box e x').run P w = .ok v' w' ∧ VRel ρ ι' v v' ∧ HRel ρ ι' s' w' ∧ Keep s ι w s' ι' w' := by
  unfold boxA at h
  split at h
  · rename_i i x0 hi hx0
    cases hx0
    split at h
    · rename_i cs hcs
      cases h0 : Nat.beq i.size 0 with
      | true => simp [h0] at h
      | false =>
        simp only [h0, cond_false] at h
        cases hl : Nat.beq cs.length i.size with
        | false => simp [hl] at h
        | true =>
          simp only [hl, cond_true, Option.some.injEq, Prod.mk.injEq] at h
          obtain ⟨rfl, rfl⟩ := h
          have hpos : 0 < i.size := Nat.pos_of_ne_zero (by intro h; rw [h] at h0; cases h0)
          obtain ⟨hc, hf⟩ := AV.cells_rel hcs hx
          obtain ⟨w', ι', h1, h2, h3, h4⟩ := newVar_rel (P := P) H (e := e) hpos hc (Nat.eq_of_beq_eq_true hl) hf
          exact ⟨_, w', ι', by simp [Instr.box, h1], h2, h3, h4⟩
    · cases h
  · cases h
end
end Go.Ev
