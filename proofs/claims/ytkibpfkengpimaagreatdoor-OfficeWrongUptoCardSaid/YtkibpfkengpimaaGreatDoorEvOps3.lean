/-
  A part of a verified evaluator of the model's code, or of its use at this seat; see the text YtkibpfkengpimaaGreatDoorEvCard.
-/
import Derived.Test.YtkibpfkengpimaaGreatDoorEvOps2
namespace Go.Ev
section
variable {P : Program} {C : Ctx} {ρ : Val} {ι : Inj} {s : St} {w : World}

theorem addr_add (b o n : Nat) : (⟨b, o, none⟩ : Addr).add n = ⟨b, o + n, none⟩ := Addr.add_mid b o n

theorem elemT_spec (T : TabOk P C) {t e : TypeId} {ei : TI} (h : C.elemT t = some (e, ei)) : ∃ ti i d z, TSpec P t ti i d z ∧ d = .slice e ∧ C.types.get e = some ei ∧ 0 < ei.size := by
  unfold Ctx.elemT at h
  split at h
  · rename_i e0 size bytes zero flat ht
    split at h
    · rename_i ei0 he
      cases h0 : Nat.beq ei0.size 0 with
      | true => simp [h0] at h
      | false =>
        simp only [h0, cond_false, Option.some.injEq, Prod.mk.injEq] at h
        obtain ⟨rfl, rfl⟩ := h
        obtain ⟨i, d, z, S⟩ := T.spec ht
        have hk := S.kind
        cases d <;> simp only [mkTK, reduceCtorEq, TK.slice.injEq] at hk
        subst hk
        exact ⟨_, i, _, z, S, rfl, he, Nat.pos_of_ne_zero (by intro h; rw [h] at h0; cases h0)⟩
    · cases h
  · cases h

theorem isSliceT_spec (T : TabOk P C) {t : TypeId} (h : isSliceT C t = true) : ∃ e, P.underlying t = some (.slice e) := by
  unfold isSliceT at h
  split at h
  · rename_i e0 size bytes zero flat ht
    obtain ⟨i, d, z, S⟩ := T.spec ht
    have hk := S.kind
    cases d <;> simp only [mkTK, reduceCtorEq, TK.slice.injEq] at hk
    exact ⟨_, S.und⟩
  · cases h
theorem isStrT_spec (T : TabOk P C) {t : TypeId} (h : isStrT C t = true) : P.underlying t = some .string := by
  unfold isStrT at h
  split at h
  · rename_i size bytes zero flat ht
    obtain ⟨i, d, z, S⟩ := T.spec ht
    have hk := S.kind
    cases d <;> simp only [mkTK, reduceCtorEq] at hk
    exact S.und
  · cases h
theorem isMapT_spec (T : TabOk P C) {t : TypeId} (h : isMapT C t = true) : ∃ k e, P.underlying t = some (.map k e) := by
  unfold isMapT at h
  split at h
  · rename_i k0 e0 size bytes zero flat ht
    obtain ⟨i, d, z, S⟩ := T.spec ht
    have hk := S.kind
    cases d <;> simp only [mkTK, reduceCtorEq] at hk
    exact ⟨_, _, S.und⟩
  · cases h

/-! ### addresses -/
theorem fieldAddrA_rel (T : TabOk P C) {t f : Nat} {x v : AV} {x' : Value} (h : fieldAddrA C t (some x) f = some v) (hx : VRel ρ ι x x') (w : World) :
    ∃ v', (Instr.fieldAt t x' f).run P w = .ok v' w ∧ VRel ρ ι v v' := by
  unfold fieldAddrA at h
  split at h
  · rename_i fs size bytes zero flat b o hi hx0
    cases hx0
    rw [nth_eq] at h
    split at h
    · rename_i fo ft hf
      split at h
      · rename_i fi hfi
        cases h0 : Nat.beq fi.size 0 with
        | true => simp [h0] at h
        | false =>
          simp only [h0, cond_false, Option.some.injEq] at h
          subst h
          obtain ⟨i0, d, z, S⟩ := T.spec hi
          obtain ⟨j0, d2, z2, S2⟩ := T.spec hfi
          have hk := S.kind
          cases d <;> simp only [mkTK, reduceCtorEq, TK.struct.injEq] at hk
          rename_i fields
          subst hk
          rw [List.getElem?_map] at hf
          cases hfl : fields.toList[f]? with
          | none => simp [hfl] at hf
          | some fld =>
            simp [hfl] at hf
            obtain ⟨rfl, rfl⟩ := hf
            cases hx with
            | @ptr _ g _ hg =>
              refine ⟨_, ?_, VRel.ptr (o + fld.offset) hg⟩
              have hfa : fields[f]? = some fld := by simpa using hfl
              have hne : fi.size ≠ 0 := by intro h; rw [h] at h0; cases h0
              simp [Instr.fieldAt, S.run_underlying, hfa, Instr.sureAddr, fieldPlace, S2.run_sizeOf, hne, addr_add, Nat.add_assoc]
      · cases h
    · cases h
  · cases h

theorem indexAddrA_rel (T : TabOk P C) {t : TypeId} {x ix v : AV} {x' ix' : Value} (h : indexAddrA C t (some x) (some ix) = some v) (hx : VRel ρ ι x x') (hix : VRel ρ ι ix ix') (w : World) :
    ∃ v', (Instr.indexAt t x' ix').run P w = .ok v' w ∧ VRel ρ ι v v' := by
  unfold indexAddrA at h
  split at h
  · rename_i len e size bytes zero flat b o k n hi hx0 hn
    cases hx0; cases hn
    cases hix
    split at h
    · rename_i ei hei
      cases hb : Nat.blt n len with
      | false => simp [hb] at h
      | true =>
        simp only [hb, cond_true, Option.some.injEq] at h
        subst h
        have hn : n < len := by simpa [Nat.blt_eq] using hb
        obtain ⟨i0, d, z, S⟩ := T.spec hi
        obtain ⟨j0, d2, z2, S2⟩ := T.spec hei
        have hk := S.kind
        cases d <;> simp only [mkTK, reduceCtorEq, TK.arr.injEq] at hk
        obtain ⟨rfl, rfl⟩ := hk
        cases hx with
        | @ptr _ g _ hg =>
          refine ⟨_, ?_, VRel.ptr (o + n * ei.size) hg⟩
          have : (0 : Int) ≤ Int.ofNat n ∧ Int.ofNat n < (len : Int) := ⟨Int.natCast_nonneg n, Int.ofNat_lt.2 hn⟩
          simp only [Instr.indexAt, asIntOf, Instr.sureAddr, Sem.run_bind, Sem.run_pure, Result.andThen_ok, S.run_underlying, this, and_self, if_true, S2.run_sizeOf, toNat_lit, addr_add, Nat.add_assoc]
    · cases h
  · rename_i e size bytes zero flat b o len kz k n hi hx0 hn
    cases hx0; cases hn
    cases hix
    split at h
    · rename_i ei hei
      cases hb : Nat.blt n len with
      | false => simp [hb] at h
      | true =>
        simp only [hb, cond_true, Option.some.injEq] at h
        subst h
        have hn : n < len := by simpa [Nat.blt_eq] using hb
        obtain ⟨i0, d, z, S⟩ := T.spec hi
        obtain ⟨j0, d2, z2, S2⟩ := T.spec hei
        have hk := S.kind
        cases d <;> simp only [mkTK, reduceCtorEq, TK.slice.injEq] at hk
        subst hk
        cases hx with
        | @slice _ g _ _ _ cap a hg hlen ha hroom =>
          have ha' : a = ⟨g.blk, g.base + o, none⟩ := by rcases ha with h0 | h0
                                                         · omega
                                                         · exact h0
          subst ha'
          refine ⟨_, ?_, VRel.ptr (o + n * ei.size) hg⟩
          have : (0 : Int) ≤ Int.ofNat n ∧ Int.ofNat n < (len : Int) := ⟨Int.natCast_nonneg n, Int.ofNat_lt.2 hn⟩
          simp only [Instr.indexAt, asIntOf, Instr.sureAddr, Sem.run_bind, Sem.run_pure, Result.andThen_ok, S.run_underlying, this, and_self, if_true, S2.run_sizeOf, toNat_lit, addr_add, Nat.add_assoc]
    · cases h
  · cases h

/-! ### slice expressions -/
theorem boundA_rel {x : AV} {x' : Value} {y dflt n : Nat} (h : boundA (some x) y dflt = some n) (hx : VRel ρ ι x x') (code : BoundsCode) (w : World) : (Instr.sliceBound x' y code).run P w = .ok n w ∧ n ≤ y := by
  unfold boundA at h
  split at h
  · rename_i hc; cases hc
  · rename_i k m hc
    cases hc
    cases hb : Nat.ble m y with
    | false => simp [hb] at h
    | true =>
      simp only [hb, cond_true, Option.some.injEq] at h
      subst h
      have hle := Nat.le_of_ble_eq_true hb
      cases hx
      have : (0 : Int) ≤ Int.ofNat m ∧ Int.ofNat m ≤ (y : Int) := ⟨Int.natCast_nonneg m, Int.ofNat_le.2 hle⟩
      exact ⟨by simp only [Instr.sliceBound, asIntOf, Sem.run_bind, Sem.run_pure, Result.andThen_ok, this, and_self, if_true, toNat_lit], hle⟩
  · cases h

/-- An operand that may be missing. -/
inductive ORel (ρ : Val) (ι : Inj) : Option AV → Option Value → Prop
  | none : ORel ρ ι none none
  | some {v : AV} {v' : Value} (h : VRel ρ ι v v') : ORel ρ ι (some v) (some v')

/-- What the three bounds come to, where the length is within the capacity. -/
theorem boundsA_rel {lo hi mx : Option AV} {lo' hi' mx' : Option Value} {len cap l h : Nat} (hb : boundsA lo hi mx len len = some (l, h)) (hlo : ORel ρ ι lo lo') (hhi : ORel ρ ι hi hi') (hmx : ORel ρ ι mx mx') (isSlice : Bool)
    (hcap : len ≤ cap) (w : World) : ∃ m, (Instr.sliceBounds isSlice len cap lo' hi' mx').run P w = .ok (l, h, m) w ∧ l ≤ h ∧ h ≤ m ∧ m ≤ cap ∧ h ≤ len := by
  unfold boundsA at hb
  cases hnm : (mx.isSome && !hi.isSome) with
  | true => rw [hnm] at hb; cases hb
  | false =>
  rw [hnm, cond_false] at hb
  have hnoMax : mx' = none ∨ hi' ≠ none := by
    cases hmx with
    | none => exact .inl rfl
    | some _ => cases hhi with
      | none => cases hnm
      | some _ => exact .inr (by simp)
  split at hb
  · rename_i m hm
    split at hb
    · rename_i h0 hh
      split at hb
      · rename_i l0 hl
        cases hb
        have hlow : ∀ code1, ∃ r, r = l ∧ l ≤ h ∧ (match lo' with | some v => Instr.sliceBound v h code1 | none => pure 0).run P w = .ok r w := by
          intro code1
          cases hlo with
          | none => simp [boundA] at hl; exact ⟨0, hl, by omega, by simp⟩
          | some hv => obtain ⟨h1, h2⟩ := boundA_rel (P := P) hl hv code1 w; exact ⟨l, rfl, h2, h1⟩
        cases hmx with
        | none =>
          simp [boundA] at hm
          subst hm
          cases hhi with
          | none =>
            simp [boundA] at hh
            subst hh
            obtain ⟨r, rfl, h1, h2⟩ := hlow .sliceB
            refine ⟨cap, ?_, h1, hcap, Nat.le_refl _, Nat.le_refl _⟩
            cases hlo with
            | none => simp at h2; simp [Instr.sliceBounds, h2]
            | some _ => simp at h2; simp [Instr.sliceBounds, h2]
          | @some hiv hiv' hv =>
            obtain ⟨r, rfl, h1, h2⟩ := hlow .sliceB
            obtain ⟨_, a2⟩ := boundA_rel (P := P) hh hv .index w
            have hh' : boundA (some hiv) cap len = some h := by
              unfold boundA at hh ⊢
              split at hh
              · rename_i hc; cases hc
              · rename_i k m hc
                cases hc
                cases hb : Nat.ble m len with
                | false => simp [hb] at hh
                | true =>
                  simp only [hb, cond_true, Option.some.injEq] at hh
                  subst hh
                  have : Nat.ble m cap = true := Nat.ble_eq_true_of_le (by have := Nat.le_of_ble_eq_true hb; omega)
                  simp [this]
              · cases hh
            obtain ⟨a3, _⟩ := boundA_rel (P := P) hh' hv (if isSlice then .sliceAcap else .sliceAlen) w
            refine ⟨cap, ?_, h1, by omega, Nat.le_refl _, a2⟩
            cases hlo with
            | none => simp at h2; simp [Instr.sliceBounds, h2, a3]
            | some _ => simp at h2; simp [Instr.sliceBounds, h2, a3]
        | @some mxv mxv' hvm =>
          obtain ⟨m1, m2⟩ := boundA_rel (P := P) hm hvm .index w
          have hm' : boundA (some mxv) cap len = some m := by
            unfold boundA at hm ⊢
            split at hm
            · rename_i hc; cases hc
            · rename_i k m hc
              cases hc
              cases hb : Nat.ble m len with
              | false => simp [hb] at hm
              | true =>
                simp only [hb, cond_true, Option.some.injEq] at hm
                subst hm
                have : Nat.ble m cap = true := Nat.ble_eq_true_of_le (by have := Nat.le_of_ble_eq_true hb; omega)
                simp [this]
            · cases hm
          obtain ⟨a5, _⟩ := boundA_rel (P := P) hm' hvm (if isSlice then .slice3Acap else .slice3Alen) w
          cases hhi with
          | none => rcases hnoMax with h1 | h1 <;> simp at h1
          | some hv =>
            obtain ⟨r, rfl, h1, h2⟩ := hlow .slice3C
            obtain ⟨a3, a4⟩ := boundA_rel (P := P) hh hv .slice3B w
            refine ⟨m, ?_, h1, a4, by omega, by omega⟩
            cases hlo with
            | none => simp at h2; simp [Instr.sliceBounds, h2, a3, a5]
            | some _ => simp at h2; simp [Instr.sliceBounds, h2, a3, a5]
      · cases hb
    · cases hb
  · cases hb

theorem strSlice_rel {l : List Nat} {sb : ByteArray} (hk : known l = true) (hs : sb.data.toList = bytesOf ρ l) (a b : Nat) : VRel ρ ι (.str (strSlice l a b)) (.string (sb.extract a b)) := by
  refine .str _ _ ?_
  have hk2 : known (strSlice l a b) = true := by
    have : ∀ l : List Nat, (∀ c ∈ l, c < 256) → known l = true := by
      intro l
      induction l with
      | nil => intro _; rfl
      | cons x l ih => intro h; simp only [known]; rw [Nat.ble_eq_true_of_le (by have := h x (by simp); omega)]; exact ih fun c hc => h c (by simp [hc])
    refine this _ fun c hc => known_lt hk ?_
    exact List.mem_of_mem_drop (List.mem_of_mem_take hc)
  rw [known_bytes ρ hk2]
  rw [known_bytes ρ hk] at hs
  rw [ByteArray.data_extract]
  simp [strSlice, hs, List.map_take, List.map_drop]

theorem isVar_row (H : HRel ρ ι s w) {b : Nat} {g : Tgt} (h : s.isVar b = true) (hg : ι b = some g) : g.row = false := by
  unfold St.isVar at h
  split at h
  · rename_i hb
    obtain ⟨g', hg', hk⟩ := H.blk _ _ hb
    rw [hg] at hg'; cases hg'
    cases hk with | cells _ _ hrow => exact hrow
  · cases h

theorem arrT_spec (T : TabOk P C) {t : TypeId} {n : Nat} {e : TypeId} (h : arrT C t = some (n, e)) : P.underlying t = some (.array n e) ∨ ∃ a, P.underlying t = some (.pointer a) ∧ P.underlying a = some (.array n e) := by
  unfold arrT at h
  split at h
  · rename_i n0 e0 size bytes zero flat ht
    cases h
    obtain ⟨i, d, z, S⟩ := T.spec ht
    have hk := S.kind
    cases d <;> simp only [mkTK, reduceCtorEq, TK.arr.injEq] at hk
    obtain ⟨rfl, rfl⟩ := hk
    exact .inl S.und
  · rename_i a size bytes zero flat ht
    split at h
    · rename_i n0 e0 size bytes zero flat ha
      cases h
      obtain ⟨i, d, z, S⟩ := T.spec ht
      obtain ⟨i2, d2, z2, S2⟩ := T.spec ha
      have hk := S.kind
      have hk2 := S2.kind
      cases d <;> simp only [mkTK, reduceCtorEq, TK.ptr.injEq] at hk
      cases d2 <;> simp only [mkTK, reduceCtorEq, TK.arr.injEq] at hk2
      obtain ⟨rfl, rfl⟩ := hk2
      subst hk
      exact .inr ⟨_, S.und, S2.und⟩
    · cases h
  · cases h

theorem sliceA_rel (T : TabOk P C) (H : HRel ρ ι s w) {t : TypeId} {x v : AV} {x' : Value} {lo hi mx : Option AV} {lo' hi' mx' : Option Value} (h : sliceA C s t x lo hi mx = some v) (hx : VRel ρ ι x x')
    (hlo : ORel ρ ι lo lo') (hhi : ORel ρ ι hi hi') (hmx : ORel ρ ι mx mx') : ∃ v', (Instr.sliceAt t x' lo' hi' mx').run P w = .ok v' w ∧ VRel ρ ι v v' := by
  unfold sliceA at h
  split at h
  · rename_i l
    split at h
    · cases h
    · cases hmx
      cases hc : (known l && isStrT C t) with
      | false => simp [hc] at h
      | true =>
        simp only [hc, cond_true] at h
        simp only [Bool.and_eq_true] at hc
        split at h
        · rename_i a b hb
          cases h
          have hu := isStrT_spec T hc.2
          cases hx with
          | str _ sb hs =>
            have hlen : l.length = sb.size := by
              have := congrArg List.length hs
              rw [known_bytes ρ hc.1] at this
              simpa using this.symm
            rw [hlen] at hb
            obtain ⟨m, h1, h2, h3, h4, h5⟩ := boundsA_rel (P := P) hb hlo hhi .none false (Nat.le_refl _) w
            refine ⟨_, ?_, strSlice_rel hc.1 hs a b⟩
            simp [Instr.sliceAt, Go.run_underlying hu, Instr.slice, h1]
        · cases h
  · split at h
    · rename_i ee he
      obtain ⟨e, ei⟩ := ee
      split at h
      · rename_i r hb
        cases h
        obtain ⟨a, b⟩ := r
        obtain ⟨ti, i, d, z, S, rfl, hei, hpos⟩ := elemT_spec T he
        obtain ⟨j0, d2, z2, S2⟩ := T.spec hei
        cases hx
        obtain ⟨m, h1, h2, h3, h4, h5⟩ := boundsA_rel (P := P) hb hlo hhi hmx true (Nat.le_refl _) w
        have hm : m = 0 := by omega
        have ha : a = 0 := by omega
        have hb0 : b = 0 := by omega
        subst hm ha hb0
        refine ⟨_, ?_, .nilSlice⟩
        simp [Instr.sliceAt, S.run_underlying, Instr.slice, h1, S2.run_sizeOf]
      · cases h
    · cases h
  · rename_i b o len k
    split at h
    · rename_i e ei he
      split at h
      · rename_i l0 h0 hb
        cases hke : Nat.beq k ei.size with
        | false => simp [hke] at h
        | true =>
        simp only [hke, cond_true, Option.some.injEq] at h
        subst h
        have hke := Nat.eq_of_beq_eq_true hke
        subst hke
        obtain ⟨ti, i, d, z, S, rfl, hei, hpos⟩ := elemT_spec T he
        obtain ⟨j0, d2, z2, S2⟩ := T.spec hei
        cases hx with
        | @slice _ g _ _ _ cap a hg hlen ha hroom =>
          obtain ⟨m, h1, h2, h3, h4, h5⟩ := boundsA_rel (P := P) hb hlo hhi hmx true hlen w
          refine ⟨.slice (some (if m = l0 then a else a.add (l0 * ei.size))) (h0 - l0) (m - l0), ?_, ?_⟩
          · simp only [Instr.sliceAt, Sem.run_bind, S.run_underlying, Result.andThen_ok, Instr.slice, h1, S2.run_sizeOf, Sem.run_pure, Option.map_some]
            congr 2
            split <;> rfl
          · refine VRel.slice hg (by omega) ?_ fun hr => ?_
            · by_cases hml : m = l0
              · exact .inl (by omega)
              · rw [if_neg hml]
                rcases ha with h0 | rfl
                · omega
                · exact .inr (by rw [addr_add, Nat.add_assoc])
            · have h6 := hroom hr
              have h7 : l0 * ei.size + (m - l0) * ei.size = m * ei.size := by rw [← Nat.add_mul]; congr 1; omega
              have h8 : m * ei.size ≤ cap * ei.size := Nat.mul_le_mul_right _ h4
              omega
      · cases h
    · cases h
  · rename_i b o
    split at h
    · rename_i n e he
      split at h
      · rename_i ei l0 h0 hei hb
        cases hz : (Nat.beq ei.size 0 || !s.isVar b) with
        | true => simp [hz] at h
        | false =>
          simp only [hz, cond_false, Option.some.injEq] at h
          subst h
          simp only [Bool.or_eq_false_iff, Bool.not_eq_false'] at hz
          obtain ⟨j0, d2, z2, S2⟩ := T.spec hei
          cases hx with
          | @ptr _ g _ hg =>
            have hrow := isVar_row H hz.2 hg
            obtain ⟨m, h1, h2, h3, h4, h5⟩ := boundsA_rel (P := P) hb hlo hhi hmx false (Nat.le_refl _) w
            refine ⟨.slice (some (if m = l0 then ⟨g.blk, g.base + o, none⟩ else (⟨g.blk, g.base + o, none⟩ : Addr).add (l0 * ei.size))) (h0 - l0) (m - l0), ?_, ?_⟩
            · rcases arrT_spec T he with hu | ⟨a, hu, hu2⟩
              · simp [Instr.sliceAt, Go.run_underlying hu, Instr.sureAddr, h1, S2.run_sizeOf]
              · simp [Instr.sliceAt, Go.run_underlying hu, Go.run_underlying hu2, Instr.slice, asAddr, h1, S2.run_sizeOf]
            · refine VRel.slice hg (by omega) ?_ fun hr => ?_
              · by_cases hml : m = l0
                · exact .inl (by omega)
                · rw [if_neg hml]
                  exact .inr (by rw [addr_add, Nat.add_assoc])
              · rw [hrow] at hr; cases hr
      · cases h
    · cases h
  · cases h
end
end Go.Ev
