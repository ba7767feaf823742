/-
  A part of a verified evaluator of the model's code, or of its use at this seat; see the text YtkibpfkengpimaaGreatDoorEvCard.
-/
import Derived.Test.YtkibpfkengpimaaGreatDoorEvOps7
namespace Go.Ev
section
variable {P : Program} {C : Ctx} {ρ : Val} {ι : Inj} {s : St} {w : World}

/-! ### keys -/
theorem eqCells_true {l1 l2 : List CK} {xs ys : List AV} (h : eqCells (l1 ++ l2) xs ys = some true) :
    eqCells l1 (xs.take l1.length) (ys.take l1.length) = some true ∧ eqCells l2 (xs.drop l1.length) (ys.drop l1.length) = some true := by
  rcases eqCells_append h with ⟨_, h2⟩ | h2
  · cases h2
  · exact h2

theorem checkFlat (em : Bool) : ∀ (d : Nat) (t : TypeId) (ks : List CK), flatT P d t = some ks → ∀ (xs : List AV) (xs' : List Value), eqCells ks xs xs = some true → VRels ρ ι xs xs' →
    ∀ D, d ≤ D → ∀ w, (Instr.checkKey em D t (ofCells P t xs')).run P w = .ok () w := by
  intro d
  induction d with
  | zero => intro t ks h; simp [flatT] at h
  | succ d ih =>
    intro t ks h xs xs' he hx D hD w
    obtain ⟨D, rfl⟩ : ∃ E, D = E + 1 := ⟨D - 1, by omega⟩
    have hpart : ∀ (ft : TypeId) (l : List CK), flatT P d ft = some l → ∀ (o : Nat), eqCells l ((xs.drop o).take l.length) ((xs.drop o).take l.length) = some true →
        ∀ w, (part ft xs'.toArray o).run P w = .ok (ofCells P ft ((xs'.drop o).take l.length)) w ∧ (Instr.checkKey em D ft (ofCells P ft ((xs'.drop o).take l.length))).run P w = .ok () w := by
      intro ft l hl o hq w
      obtain ⟨ds, hu, hcells⟩ := flatT_known hl
      refine ⟨?_, ih ft l hl _ _ hq ((hx.drop o).take _) D (by omega) w⟩
      have := run_part (P := P) hu (cs := xs'.toArray) (o := o) hcells (fun h1 h2 => by
        obtain ⟨hl1, a, b, ha, hb, _⟩ := eqCells_there hl hu h1 h2 hq
        rw [List.getElem?_drop, Nat.add_zero] at ha
        obtain ⟨a', ha', _⟩ := hx.get ha
        exact ⟨a', by simpa using ha', hl1⟩) w
      simpa using this
    simp only [flatT] at h
    unfold Instr.checkKey
    split at h
    · rename_i hu; simp [run_underlying hu]
    · rename_i k hu; simp [run_underlying hu]
    · rename_i hu; simp [run_underlying hu]
    · rename_i fs hu
      cases hs : P.stoodInHeld t with
      | true => simp [hs] at h
      | false =>
        simp only [hs, cond_false] at h
        split at h
        · rename_i l hl
          obtain ⟨rfl, _⟩ := fitT_spec h
          have h1 : ofCells P t xs' = .agg xs'.toArray := by simp [ofCells, hu]
          rw [h1]
          simp only [Sem.run_bind, run_underlying hu, Result.andThen_ok]
          rw [← Array.forIn_toList]
          have key : ∀ (fl : List Field) (o : Nat) (l : List CK), flatFs (flatT P d) fl o = some l → eqCells l (xs.drop o) (xs.drop o) = some true → ∀ w,
              (forIn fl PUnit.unit fun f _ => do
                if f.name ≠ "_" then
                  let p ← part f.type xs'.toArray f.offset
                  Instr.checkKey em D f.type p
                  pure (ForInStep.yield PUnit.unit)
                else pure (ForInStep.yield PUnit.unit) : Sem PUnit).run P w = .ok PUnit.unit w := by
            intro fl
            induction fl with
            | nil => intro o l _ _ w; simp
            | cons f fl ihf =>
              intro o l hl he w
              simp only [flatFs] at hl
              cases hc : (Nat.beq f.offset o && f.name != "_") with
              | false => simp [hc] at hl
              | true =>
                simp only [hc, cond_true] at hl
                simp only [Bool.and_eq_true] at hc
                have ho := Nat.eq_of_beq_eq_true hc.1
                have hn : f.name ≠ "_" := by simpa using hc.2
                split at hl
                · rename_i l1 hl1
                  split at hl
                  · rename_i m hm
                    cases hl
                    obtain ⟨q1, q2⟩ := eqCells_true he
                    obtain ⟨p1, p2⟩ := hpart _ _ hl1 o q1 w
                    rw [List.drop_drop] at q2
                    have := ihf _ _ hm q2 w
                    rw [List.forIn_cons]
                    simp only [hn, ne_eq, not_false_eq_true, if_true, ho, Sem.run_bind, p1, p2, Result.andThen_ok, Sem.run_pure]
                    exact this
                  · cases hl
                · cases hl
          have := key _ 0 _ hl (by simpa using he) w
          rw [this]; rfl
        · cases h
    · rename_i n e hu
      split at h
      · rename_i l hl
        obtain ⟨rfl, _⟩ := fitT_spec h
        have h1 : ofCells P t xs' = .agg xs'.toArray := by simp [ofCells, hu]
        obtain ⟨ds, hue, hcells⟩ := flatT_known hl
        obtain ⟨ie, hie⟩ := info_of_underlying hue
        have hsz : ∀ w, (sizeOf e).run P w = .ok l.length w := by
          intro w
          have : ie.size = l.length := by rw [← hcells]; simp [Program.cellsOf, hie]
          simp [sizeOf, typeInfo, hie, this]
        rw [h1]
        simp only [Sem.run_bind, run_underlying hu, Result.andThen_ok, range_forIn]
        have key : ∀ (m i : Nat), eqCells (repL l m) (xs.drop (i * l.length)) (xs.drop (i * l.length)) = some true →
            ∀ w, (forIn (List.range' i m) PUnit.unit fun i _ => do
                let n ← sizeOf e
                let p ← part e xs'.toArray (i * n)
                Instr.checkKey em D e p
                pure (ForInStep.yield PUnit.unit) : Sem PUnit).run P w = .ok PUnit.unit w := by
          intro m
          induction m with
          | zero => intro i _ w; simp
          | succ m ihm =>
            intro i he w
            simp only [repL] at he
            obtain ⟨q1, q2⟩ := eqCells_true he
            obtain ⟨p1, p2⟩ := hpart _ _ hl _ q1 w
            rw [List.drop_drop, show i * l.length + l.length = (i + 1) * l.length from by rw [Nat.add_mul]; omega] at q2
            have := ihm (i + 1) q2 w
            rw [List.range'_succ, List.forIn_cons]
            simp only [Sem.run_bind, hsz, p1, p2, Result.andThen_ok, Sem.run_pure]
            exact this
        have := key n 0 (by simpa using he) w
        rw [this]; rfl
      · cases h
    · cases h

theorem selfOk_spec {ki : TI} {k : AV} (h : selfOk ki k = true) : eqP ki k k = some true := by
  unfold selfOk at h
  split at h
  · rename_i b hb; subst h; exact hb
  · cases h

theorem run_checkKey_ev (T : TabOk P C) {kt : TypeId} {ki : TI} {k : AV} {k' : Value} (hi : C.types.get kt = some ki) (h : selfOk ki k = true) (hk : VRel ρ ι k k') (em : Bool) (w : World) : (Instr.checkKey em 10000 kt k').run P w = .ok () w := by
  obtain ⟨i0, d, z, S⟩ := T.spec hi
  replace h := selfOk_spec h
  unfold eqP at h
  split at h
  · cases h
  · rename_i ks hks
    rw [S.flats] at hks
    have key := fun xs xs' he hx => checkFlat (P := P) (ρ := ρ) (ι := ι) em 50 kt ks hks xs xs' he hx 10000 (by decide) w
    cases hg : ki.isAgg with
    | true =>
      simp only [hg, cond_true] at h
      split at h
      · rename_i x y h1
        cases hk with
        | agg h3 _ =>
          have := key _ _ h h3
          rwa [S.ofCells_agg hg] at this
      · cases h
    | false =>
      simp only [hg, cond_false] at h
      have := key _ _ h (.cons hk .nil)
      rwa [S.ofCells_one hg] at this

theorem eqCell_same {k : CK} {a b : AV} {a' b' : Value} (h : eqCell k a b = some true) (ha : VRel ρ ι a a') (hb : VRel ρ ι b b') (n : Nat) : Instr.sameBits n a' b' = true := by
  unfold eqCell at h
  split at h
  · cases ha; cases hb; cases n <;> simpa [Instr.sameBits] using h
  · rename_i k i a j b
    cases hc : (k == i && k == j) with
    | false => simp [hc] at h
    | true =>
      simp only [hc, cond_true, Option.some.injEq] at h
      simp only [Bool.and_eq_true, beq_iff_eq] at hc
      obtain ⟨rfl, rfl⟩ := hc
      cases ha; cases hb
      rw [ieq_eq] at h
      cases n <;> simpa [Instr.sameBits] using h
  · rename_i a b
    cases hc : (known a && known b) with
    | false => simp [hc] at h
    | true =>
      simp only [hc, cond_true, Option.some.injEq] at h
      simp only [Bool.and_eq_true] at hc
      cases ha with
      | str _ x hx => cases hb with
        | str _ y hy =>
          have h1 := bytes_beq hc.1 hc.2 hx hy
          rw [strEq_eq] at h
          rw [h, ← beq_toListBytes] at h1
          cases n <;> simpa [Instr.sameBits] using h1
  · cases h

theorem eqCells_same {ks : List CK} : ∀ {xs ys : List AV} {xs' ys' : List Value}, eqCells ks xs ys = some true → VRels ρ ι xs xs' → VRels ρ ι ys ys' → ∀ n, xs'.length = ys'.length ∧ (xs'.zip ys').all (fun p => Instr.sameBits n p.1 p.2) = true := by
  induction ks with
  | nil =>
    intro xs ys xs' ys' h hx hy n
    cases xs <;> cases ys <;> simp [eqCells] at h
    cases hx; cases hy
    simp
  | cons k ks ih =>
    intro xs ys xs' ys' h hx hy n
    cases xs with
    | nil => cases ys <;> simp [eqCells] at h
    | cons x xs =>
      cases ys with
      | nil => simp [eqCells] at h
      | cons y ys =>
        simp only [eqCells] at h
        cases hk : eqCell k x y with
        | none => simp [hk] at h
        | some b =>
          cases b with
          | false => simp [hk] at h
          | true =>
            simp only [hk] at h
            cases hx with
            | cons h1 hx => cases hy with
              | cons h2 hy =>
                obtain ⟨q1, q2⟩ := ih h hx hy n
                exact ⟨by simp [q1], by simp only [List.zip_cons_cons, List.all_cons, eqCell_same hk h1 h2, q2, Bool.and_self]⟩

theorem eqP_same {ki : TI} {a b : AV} {a' b' : Value} (h : eqP ki a b = some true) (ha : VRel ρ ι a a') (hb : VRel ρ ι b b') (n : Nat) : Instr.sameBits (n + 1) a' b' = true := by
  unfold eqP at h
  split at h
  · cases h
  · rename_i ks hks
    cases hg : ki.isAgg with
    | true =>
      simp only [hg, cond_true] at h
      split at h
      · cases ha with
        | agg h1 _ =>
          cases hb with
          | agg h2 _ =>
            obtain ⟨q1, q2⟩ := eqCells_same h h1 h2 n
            simp only [Instr.sameBits, Bool.and_eq_true, beq_iff_eq]
            refine ⟨by simpa using q1, ?_⟩
            exact q2
      · cases h
    | false =>
      simp only [hg, cond_false] at h
      obtain ⟨q1, q2⟩ := eqCells_same h (.cons ha .nil) (.cons hb .nil) (n + 1)
      simpa using q2

theorem sameNow_equal {kt : TypeId} {d : TypeDesc} {a b : Value} {r : Bool} (hu : P.underlying kt = some d) (h : Instr.sameNow d a b = some r) (w : World) : (Op.equal kt a b).run P w = .ok r w := by
  rw [run_equal]
  unfold Instr.sameNow at h
  split at h
  · rename_i k j x j' y
    split at h
    · rename_i e; subst e; cases h; exact run_equalIn_int w _ kt _ _ _ _ hu
    · cases h
  · cases h; rw [run_equalIn_string w _ kt _ _ hu, beq_toListBytes]
  · cases h; exact run_equalIn_bool' w _ kt _ _ hu
  · cases h

theorem findNow_asks {kt : TypeId} {d : TypeDesc} {k : Value} (hu : P.underlying kt = some d) (w : World) : ∀ (es : List MapEntry) (i : Nat) (r : Option (Nat × Value)), Instr.findNow d k es i = some r → (Instr.findAsking kt k es i).run P w = .ok r w := by
  intro es
  induction es with
  | nil => intro i r h; simp [Instr.findNow] at h; subst h; rfl
  | cons e es ih =>
    intro i r h
    simp only [Instr.findNow] at h
    split at h
    · rename_i hs; cases h
      simp [Instr.findAsking, sameNow_equal hu hs]
    · rename_i hs
      simp [Instr.findAsking, sameNow_equal hu hs, ih _ _ h]
    · cases h

theorem run_findKey_asks {kt : TypeId} {d : TypeDesc} {k : Value} (hu : P.underlying kt = some d) {es : List MapEntry} {r : Option (Nat × Value)} (h : (Instr.findAsking kt k es 0).run P w = .ok r w) : (Instr.findKey kt k es).run P w = .ok r w := by
  unfold Instr.findKey
  rw [Sem.run_bind, run_underlying hu, Result.andThen_ok]
  cases hn : Instr.findNow d k es 0 with
  | none => exact h
  | some r' =>
    have := findNow_asks (P := P) hu w es 0 r' hn
    rw [h] at this
    simp at this
    subst this
    rfl

theorem findK_rel (T : TabOk P C) {kt : TypeId} {ki : TI} (hi : C.types.get kt = some ki) {k : AV} {k' : Value} (hk : VRel ρ ι k k') (w : World) : ∀ {es : List (AV × AV × Nat)} {es' : List MapEntry} {i : Nat} {r : Option (Nat × AV × Nat)},
    findK ki k es i = some r → MRel ρ ι es es' →
      (r = none ∧ (Instr.findAsking kt k' es' i).run P w = .ok none w) ∨
      ∃ j v b k0 e, r = some (i + j, v, b) ∧ es[j]? = some (k0, v, b) ∧ es'[j]? = some e ∧ (Instr.findAsking kt k' es' i).run P w = .ok (some (i + j, e.val)) w ∧ eqP ki k k0 = some true ∧ VRel ρ ι k0 e.key ∧ VRel ρ ι v e.val ∧ e.born = b := by
  intro es
  induction es with
  | nil =>
    intro es' i r h hm
    cases hm
    simp [findK] at h
    exact .inl ⟨h.symm, rfl⟩
  | cons p es ih =>
    intro es' i r h hm
    cases hm with
    | @cons k0 v b e _ l' hk0 hv hb hm =>
      simp only [findK] at h
      split at h
      · rename_i he
        cases h
        exact .inr ⟨0, v, b, k0, e, rfl, rfl, rfl, by simp [Instr.findAsking, eqP_rel T hi he hk hk0], he, hk0, hv, hb⟩
      · rename_i he
        have hq := eqP_rel T hi he hk hk0 w
        rcases ih h hm with ⟨h1, h2⟩ | ⟨j, v2, b2, k2, e2, h1, h2, h3, h4, h5⟩
        · exact .inl ⟨h1, by simp [Instr.findAsking, hq, h2]⟩
        · refine .inr ⟨j + 1, v2, b2, k2, e2, by rw [h1]; simp; omega, h2, h3, ?_, h5⟩
          simp [Instr.findAsking, hq, h4]
          omega
      · cases h

/-! ### map operations -/
theorem lookA_rel (T : TabOk P C) (H : HRel ρ ι s w) {mt : TypeId} {m k v : AV} {m' k' : Value} {ok : Bool} (h : lookA C mt m k ok s = some v) (hm : VRel ρ ι m m') (hk : VRel ρ ι k k') :
    ∃ v', (Instr.lookup mt m' k' ok).run P w = .ok v' w ∧ VRel ρ ι v v' := by
  unfold lookA at h
  split at h
  · rename_i ki ei hko
    obtain ⟨kt, et, hu, hki, hei⟩ := keyOk_spec T hko
    obtain ⟨i1, d1, z1, S1⟩ := T.spec hki
    obtain ⟨i2, d2, z2, S2⟩ := T.spec hei
    cases hself : selfOk ki k with
    | false => simp [hself] at h
    | true =>
      simp only [hself, cond_true] at h
      have hck := fun em => run_checkKey_ev T hki hself hk em w
      -- what is looked through
      have key : ∀ (es : List (AV × AV × Nat)) (es' : Array MapEntry), MRel ρ ι es es'.toList →
          (match findK ki k es 0 with
            | some (some (_, v, _)) => some (bif ok then .tuple [v, .bool true] else v)
            | some none => match aggOf ei ei.zero with
              | some z => some (bif ok then .tuple [z, .bool false] else z)
              | none => none
            | none => none) = some v →
          ∃ r v', (Instr.findKey kt k' es'.toList).run P w = .ok r w ∧ VRel ρ ι v v' ∧ ((∃ i x, r = some (i, x) ∧ v' = if ok then .tuple #[x, .bool true] else x) ∨ (r = none ∧ v' = if ok then .tuple #[z2, .bool false] else z2)) := by
        intro es es' hmr h
        split at h
        · rename_i i0 v0 b0 hf
          rcases findK_rel T hki hk w hf hmr with ⟨h1, _⟩ | ⟨j, v2, b2, k2, e2, h1, h2, h3, h4, h5, h6, h7, h8⟩
          · cases h1
          · cases h1
            have hfk := run_findKey_asks S1.und h4
            cases h
            cases ok
            · exact ⟨_, _, hfk, h7, .inl ⟨_, _, rfl, rfl⟩⟩
            · exact ⟨_, _, hfk, .tuple (.cons h7 (.cons (.bool _) .nil)), .inl ⟨_, _, rfl, rfl⟩⟩
        · rename_i hf
          rcases findK_rel T hki hk w hf hmr with ⟨_, h4⟩ | ⟨j, v2, b2, k2, e2, h1, _⟩
          · have hfk := run_findKey_asks S1.und h4
            split at h
            · rename_i z0 hz0
              have hz := S2.zeroVal (ρ := ρ) (ι := ι) hz0
              cases h
              cases ok
              · exact ⟨_, _, hfk, hz, .inr ⟨rfl, rfl⟩⟩
              · exact ⟨_, _, hfk, .tuple (.cons hz (.cons (.bool _) .nil)), .inr ⟨rfl, rfl⟩⟩
            · cases h
          · cases h1
        · cases h
      have fin : ∀ (es' : Array MapEntry) (m' : Value), ((m' = .map none ∧ es' = #[]) ∨ ∃ r clock, m' = .map (some r) ∧ w.heap[r]? = some (.map es' clock)) → ∀ r v', (Instr.findKey kt k' es'.toList).run P w = .ok r w →
          ((∃ i x, r = some (i, x) ∧ v' = if ok then .tuple #[x, .bool true] else x) ∨ (r = none ∧ v' = if ok then .tuple #[z2, .bool false] else z2)) → (Instr.lookup mt m' k' ok).run P w = .ok v' w := by
        intro es' m' hm' r v' hfk hv
        unfold Instr.lookup
        rcases hm' with ⟨rfl, rfl⟩ | ⟨r0, clock, rfl, hh⟩
        · rcases hv with ⟨i, x, rfl, rfl⟩ | ⟨rfl, rfl⟩
          · simp only [Sem.run_bind, run_underlying hu, Result.andThen_ok, Sem.run_pure, hck, hfk]
          · simp only [Sem.run_bind, run_underlying hu, Result.andThen_ok, Sem.run_pure, hck, hfk, S2.run_zeroValue]
        · rcases hv with ⟨i, x, rfl, rfl⟩ | ⟨rfl, rfl⟩
          · simp only [Sem.run_bind, run_underlying hu, Result.andThen_ok, MapKept.run_getObj_map hh, Sem.run_pure, hck, hfk]
          · simp only [Sem.run_bind, run_underlying hu, Result.andThen_ok, MapKept.run_getObj_map hh, Sem.run_pure, hck, hfk, S2.run_zeroValue]
      have hm1 : ∀ r, lookIn ki k m s = some r → ∃ es es', MRel ρ ι es es'.toList ∧ findK ki k es 0 = some r ∧ ((m' = .map none ∧ es' = #[]) ∨ ∃ r clock, m' = .map (some r) ∧ w.heap[r]? = some (.map es' clock)) := by
        intro r hl
        unfold lookIn at hl
        split at hl
        · cases hm; cases hl
          exact ⟨[], #[], .nil, rfl, .inl ⟨rfl, rfl⟩⟩
        · rename_i r0
          split at hl
          · rename_i es clock hb
            obtain ⟨g, hg, hkk⟩ := H.blk _ _ hb
            cases hkk with
            | @map _ _ es' hh hmr =>
              cases hm with
              | map hg' =>
                rw [hg] at hg'; cases hg'
                exact ⟨es, es', hmr, hl, .inr ⟨_, _, rfl, hh⟩⟩
          · cases hl
        · cases hl
      cases hl : lookIn ki k m s with
      | none => simp [hl] at h
      | some r =>
        obtain ⟨es, es', q1, q2, q3⟩ := hm1 r hl
        obtain ⟨r', v', p1, p2, p3⟩ := key es es' q1 (by rw [q2]; rw [hl] at h; exact h)
        exact ⟨v', fin es' m' q3 r' v' p1 p3, p2⟩
  · cases h

/-- A map whose entries are set anew. -/
theorem setMap_rel (H : HRel ρ ι s w) {r : Nat} {es es2 : List (AV × AV × Nat)} {clock c2 : Nat} {g : Tgt} {es' es2' : Array MapEntry} {s' : St} (hb : s.heap.get r = some (.map es clock)) (hg : ι r = some g) (hh : w.heap[g.blk]? = some (.map es' clock))
    (hset : s.setObj r (.map es2 c2) = some s') (hm : MRel ρ ι es2 es2'.toList) :
    ∃ w', (setObj g.blk (.map es2' c2)).run P w = .ok () w' ∧ HRel ρ ι s' w' ∧ Keep s ι w s' ι w' := by
  have hsize : g.blk < w.heap.size := H.tgt _ _ hg
  obtain ⟨h1, h2⟩ := H.setObj hb rfl rfl hset hg (w' := { w with heap := w.heap.setIfInBounds g.blk (.map es2' c2) }) (by simp) (fun B hB => by simp [Ne.symm hB]) (.map (by simp [hsize]) hm)
  exact ⟨_, MapKept.run_setObj_map _ hh, h1, h2⟩

theorem MRel.modify {es : List (AV × AV × Nat)} {es' : List MapEntry} (h : MRel ρ ι es es') {k v : AV} {b : Nat} {f : MapEntry → MapEntry} : ∀ {i : Nat}, (∀ e, es'[i]? = some e → VRel ρ ι k (f e).key ∧ VRel ρ ι v (f e).val ∧ (f e).born = b) → MRel ρ ι (es.set i (k, v, b)) (es'.modify i f) := by
  induction h with
  | nil => intro i _; simpa using MRel.nil
  | @cons k0 v0 n e l l' hk hv hb h ih =>
    intro i hf
    cases i with
    | zero =>
      obtain ⟨q1, q2, q3⟩ := hf e rfl
      exact .cons q1 q2 q3 h
    | succ i => exact .cons hk hv hb (ih fun e he => hf e (by simpa using he))
theorem MRel.push {es : List (AV × AV × Nat)} {es' : List MapEntry} (h : MRel ρ ι es es') {k v : AV} {b : Nat} {e : MapEntry} (hk : VRel ρ ι k e.key) (hv : VRel ρ ι v e.val) (hb : e.born = b) : MRel ρ ι (es ++ [(k, v, b)]) (es' ++ [e]) := by
  induction h with
  | nil => exact .cons hk hv hb .nil
  | cons hk hv hb _ ih => exact .cons hk hv hb ih
theorem MRel.erase {es : List (AV × AV × Nat)} {es' : List MapEntry} (h : MRel ρ ι es es') : ∀ i, MRel ρ ι (es.eraseIdx i) (es'.eraseIdx i) := by
  induction h with
  | nil => intro i; simpa using MRel.nil
  | cons hk hv hb h ih =>
    intro i
    cases i with
    | zero => exact h
    | succ i => exact .cons hk hv hb (ih i)
theorem modify_list {α : Type} (a : Array α) (i : Nat) (f : α → α) : (a.modify i f).toList = a.toList.modify i f := by
  apply List.ext_getElem?
  intro j
  rw [Array.getElem?_toList, Array.getElem?_modify, List.getElem?_modify, Array.getElem?_toList]
  by_cases h : i = j
  · simp [h]
  · simp [h]

theorem map?_spec (H : HRel ρ ι s w) {m : AV} {m' : Value} {r : Nat} {es : List (AV × AV × Nat)} {clock : Nat} (h : s.map? m = some (r, es, clock)) (hm : VRel ρ ι m m') :
    ∃ g es', s.heap.get r = some (.map es clock) ∧ ι r = some g ∧ m' = .map (some g.blk) ∧ w.heap[g.blk]? = some (.map es' clock) ∧ MRel ρ ι es es'.toList := by
  unfold St.map? at h
  split at h
  · rename_i r0
    split at h
    · rename_i es0 c0 hb
      cases h
      obtain ⟨g, hg, hk⟩ := H.blk _ _ hb
      cases hk with
      | map hh hmr =>
        cases hm with
        | map hg' =>
          rw [hg] at hg'; cases hg'
          exact ⟨g, _, hb, hg, rfl, hh, hmr⟩
    · cases h
  · cases h

theorem run_stays {old new : Value} (h : Instr.sameBits 10000 old new = true) (w : World) : (Instr.keyThatStays old new).run P w = .ok new w := by
  unfold Instr.keyThatStays
  rw [if_pos h]; rfl
theorem eqCell_symm {k : CK} {x y : AV} (h : eqCell k x y = some true) : eqCell k y x = some true := by
  unfold eqCell at h
  split at h
  · simp only [Option.some.injEq, beq_iff_eq] at h; subst h; simp [eqCell]
  · rename_i k i a j b
    cases hc : (k == i && k == j) with
    | false => simp [hc] at h
    | true =>
      simp only [hc, cond_true, Option.some.injEq] at h
      rw [ieq_eq, beq_iff_eq] at h
      subst h
      simp only [Bool.and_eq_true] at hc
      simp [eqCell, hc.1, hc.2, ieq_eq]
  · rename_i a b
    cases hc : (known a && known b) with
    | false => simp [hc] at h
    | true =>
      simp only [hc, cond_true, Option.some.injEq] at h
      rw [strEq_eq, beq_iff_eq] at h
      subst h
      simp only [Bool.and_eq_true] at hc
      simp [eqCell, hc.1, strEq_eq]
  · cases h
theorem sameBits_symm_of {ki : TI} {a b : AV} {a' b' : Value} (h : eqP ki a b = some true) (ha : VRel ρ ι a a') (hb : VRel ρ ι b b') : Instr.sameBits 10000 b' a' = true := by
  have key : ∀ (ks : List CK) (xs ys : List AV), eqCells ks xs ys = some true → eqCells ks ys xs = some true := by
    intro ks
    induction ks with
    | nil => intro xs ys h; cases xs <;> cases ys <;> simp [eqCells] at h ⊢
    | cons k ks ih =>
      intro xs ys h
      cases xs with
      | nil => cases ys <;> simp [eqCells] at h
      | cons x xs =>
        cases ys with
        | nil => simp [eqCells] at h
        | cons y ys =>
          simp only [eqCells] at h ⊢
          cases hk : eqCell k x y with
          | none => simp [hk] at h
          | some b =>
            cases b with
            | false => simp [hk] at h
            | true =>
              simp only [hk] at h
              rw [eqCell_symm hk]
              exact ih _ _ h
  refine eqP_same (ki := ki) ?_ hb ha 9999
  unfold eqP at h ⊢
  split at h
  · cases h
  · rename_i ks hks
    cases hg : ki.isAgg with
    | true =>
      simp only [hg, cond_true] at h ⊢
      split at h
      · exact key _ _ _ h
      · cases h
    | false =>
      simp only [hg, cond_false] at h ⊢
      exact key _ _ _ h

theorem updA_rel (T : TabOk P C) (H : HRel ρ ι s w) {mt : TypeId} {m k v : AV} {m' k' v' : Value} {s' : St} (h : updA C mt m k v s = some s') (hm : VRel ρ ι m m') (hk : VRel ρ ι k k') (hv : VRel ρ ι v v') :
    ∃ w', (Instr.mapUpdate mt m' k' v').run P w = .ok () w' ∧ HRel ρ ι s' w' ∧ Keep s ι w s' ι w' := by
  unfold updA at h
  split at h
  · rename_i ki ei r es clock hko hmap
    obtain ⟨kt, et, hu, hki, hei⟩ := keyOk_spec T hko
    obtain ⟨i1, d1, z1, S1⟩ := T.spec hki
    obtain ⟨g, es', hb, hg, rfl, hh, hmr⟩ := map?_spec H hmap hm
    cases hself : selfOk ki k with
    | false => simp [hself] at h
    | true =>
      simp only [hself, cond_true] at h
      have hck := run_checkKey_ev T hki hself hk false w
      unfold Instr.mapUpdate
      simp only [Sem.run_bind, run_underlying hu, Result.andThen_ok, MapKept.run_getObj_map hh, hck]
      split at h
      · rename_i i0 v0 b0 hf
        rcases findK_rel T hki hk w hf hmr with ⟨h1, _⟩ | ⟨j, v2, b2, k2, e2, h1, h2, h3, h4, h5, h6, h7, h8⟩
        · cases h1
        · cases h1
          rw [Nat.zero_add] at h4 h
          split at h
          · rename_i es2 hset
            obtain ⟨hlt, rfl⟩ := setNth_eq _ _ _ _ hset
            have h3' : es'[j]? = some e2 := by simpa using h3
            have hst := run_stays (P := P) (sameBits_symm_of h5 hk h6) w
            obtain ⟨w', q1, q2⟩ := setMap_rel (P := P) (es2' := es'.modify j fun e => { e with key := k', val := v' }) H hb hg hh h (by
              rw [modify_list]
              exact hmr.modify fun e he => by
                rw [h3] at he; cases he
                exact ⟨hk, hv, h8⟩)
            refine ⟨w', ?_, q2⟩
            simp only [run_findKey_asks S1.und h4, Result.andThen_ok, Sem.run_bind, h3', Option.map_some, Option.getD_some, hst, q1]
          · cases h
      · rename_i hf
        rcases findK_rel T hki hk w hf hmr with ⟨_, h4⟩ | ⟨j, v2, b2, k2, e2, h1, _⟩
        · obtain ⟨w', q1, q2⟩ := setMap_rel (P := P) (es2' := es'.push { key := k', val := v', born := clock }) H hb hg hh h (by
            rw [Array.toList_push]; exact hmr.push hk hv rfl)
          refine ⟨w', ?_, q2⟩
          simp only [run_findKey_asks S1.und h4, Result.andThen_ok, q1]
        · cases h1
      · cases h
  · cases h

theorem entryA_rel (T : TabOk P C) (H : HRel ρ ι s w) {mt : TypeId} {m k v : AV} {m' k' : Value} {s' : St} (h : entryA C mt m k s = some (v, s')) (hm : VRel ρ ι m m') (hk : VRel ρ ι k k') :
    ∃ v' w', (Instr.mapEntry mt m' k').run P w = .ok v' w' ∧ VRel ρ ι v v' ∧ HRel ρ ι s' w' ∧ Keep s ι w s' ι w' := by
  unfold entryA at h
  split at h
  · rename_i ki ei r es clock hko hmap
    obtain ⟨kt, et, hu, hki, hei⟩ := keyOk_spec T hko
    obtain ⟨i1, d1, z1, S1⟩ := T.spec hki
    obtain ⟨i2, d2, z2, S2⟩ := T.spec hei
    obtain ⟨g, es', hb, hg, rfl, hh, hmr⟩ := map?_spec H hmap hm
    cases hself : selfOk ki k with
    | false => simp [hself] at h
    | true =>
      simp only [hself, cond_true] at h
      have hck := run_checkKey_ev T hki hself hk false w
      unfold Instr.mapEntry
      simp only [Sem.run_bind, run_underlying hu, Result.andThen_ok, MapKept.run_getObj_map hh, hck]
      split at h
      · rename_i i0 v0 b0 hf
        rcases findK_rel T hki hk w hf hmr with ⟨h1, _⟩ | ⟨j, v2, b2, k2, e2, h1, h2, h3, h4, h5, h6, h7, h8⟩
        · cases h1
        · cases h1
          rw [Nat.zero_add] at h4 h
          split at h
          · rename_i es2 hset
            obtain ⟨hlt, rfl⟩ := setNth_eq _ _ _ _ hset
            split at h
            · rename_i s2 hs2
              cases h
              have h3' : es'[j]? = some e2 := by simpa using h3
              have hst := run_stays (P := P) (sameBits_symm_of h5 hk h6) w
              obtain ⟨w', q1, q2⟩ := setMap_rel (P := P) (es2' := es'.modify j fun e => { e with key := k' }) H hb hg hh hs2 (by
                rw [modify_list]
                exact hmr.modify fun e he => by
                  rw [h3] at he; cases he
                  exact ⟨hk, h7, h8⟩)
              refine ⟨.tuple #[e2.val, goInt e2.born], w', ?_, .tuple (.cons h7 (.cons (by rw [h8]; exact .int _ _) .nil)), q2⟩
              simp only [run_findKey_asks S1.und h4, Result.andThen_ok, Sem.run_bind, h3', Option.map_some, Option.getD_some, hst, q1, Sem.run_pure]
            · cases h
          · cases h
      · rename_i hf
        rcases findK_rel T hki hk w hf hmr with ⟨_, h4⟩ | ⟨j, v2, b2, k2, e2, h1, _⟩
        · split at h
          · rename_i z0 s2 hz0 hs2
            cases h
            have hz := S2.zeroVal (ρ := ρ) (ι := ι) hz0
            obtain ⟨w', q1, q2⟩ := setMap_rel (P := P) (es2' := es'.push { key := k', val := z2, born := clock }) H hb hg hh hs2 (by
              rw [Array.toList_push, hz0]; exact hmr.push hk hz rfl)
            refine ⟨.tuple #[z2, goInt clock], w', ?_, .tuple (.cons hz (.cons (.int _ _) .nil)), q2⟩
            simp only [run_findKey_asks S1.und h4, Result.andThen_ok, Sem.run_bind, S2.run_zeroValue, q1, Sem.run_pure]
          · cases h
        · cases h1
      · cases h
  · cases h

theorem findB_spec (b : Nat) : ∀ {es : List (AV × AV × Nat)} {es' : List MapEntry} {i0 i : Nat}, findB b es i0 = some i → MRel ρ ι es es' → ∃ j, i = i0 + j ∧ es'.findIdx? (fun e => (e.born : Int) == (b : Int)) = some j := by
  intro es
  induction es with
  | nil => intro es' i0 i h hm; simp [findB] at h
  | cons p es ih =>
    intro es' i0 i h hm
    cases hm with
    | @cons k0 v n e _ l' hk hv hb hm =>
      simp only [findB] at h
      cases hq : Nat.beq b n with
      | true =>
        simp only [hq, cond_true, Option.some.injEq] at h
        have := Nat.eq_of_beq_eq_true hq
        refine ⟨0, h.symm, ?_⟩
        simp [List.findIdx?_cons, hb, this]
      | false =>
        simp only [hq, cond_false] at h
        obtain ⟨j, h1, h2⟩ := ih h hm
        refine ⟨j + 1, by omega, ?_⟩
        have hne : ¬ ((n : Int) = (b : Int)) := by
          intro e
          have : b = n := by omega
          rw [this, Nat.beq_refl] at hq
          cases hq
        rw [List.findIdx?_cons, hb]
        have : ((n : Int) == (b : Int)) = false := by rw [beq_eq_false_iff_ne]; exact hne
        simp only [this, Bool.false_eq_true, if_false, h2, Option.map_some]

theorem estoreA_rel (H : HRel ρ ι s w) {mt : TypeId} {m st v : AV} {m' st' v' : Value} {s' : St} (h : estoreA m st v s = some s') (hm : VRel ρ ι m m') (hst : VRel ρ ι st st') (hv : VRel ρ ι v v') :
    ∃ w', (Instr.entryStore mt m' st' v').run P w = .ok () w' ∧ HRel ρ ι s' w' ∧ Keep s ι w s' ι w' := by
  unfold estoreA at h
  split at h
  · rename_i r es clock k b hmap
    obtain ⟨g, es', hb, hg, rfl, hh, hmr⟩ := map?_spec H hmap hm
    cases hst
    split at h
    · rename_i i hi
      obtain ⟨j, rfl, hj⟩ := findB_spec b hi hmr
      rw [Nat.zero_add] at h
      split at h
      · rename_i k0 v0 b0 hn
        rw [nth_eq] at hn
        split at h
        · rename_i es2 hset
          obtain ⟨hlt, rfl⟩ := setNth_eq _ _ _ _ hset
          have hent : ∀ {es : List (AV × AV × Nat)} {es' : List MapEntry}, MRel ρ ι es es' → ∀ {j : Nat} {p : AV × AV × Nat}, es[j]? = some p → ∃ e, es'[j]? = some e ∧ VRel ρ ι p.1 e.key ∧ e.born = p.2.2 := by
            intro es es' hm
            induction hm with
            | nil => intro j p hp; simp at hp
            | cons hk hv hb _ ih =>
              intro j p hp
              cases j with
              | zero => simp at hp; subst hp; exact ⟨_, rfl, hk, hb⟩
              | succ j => simpa using ih (by simpa using hp)
          obtain ⟨e, he, hke, hbe⟩ := hent hmr hn
          obtain ⟨w', q1, q2⟩ := setMap_rel (P := P) (es2' := es'.modify j fun e => { e with val := v' }) H hb hg hh h (by
            rw [modify_list]
            exact hmr.modify fun e' he' => by
              rw [he] at he'; cases he'
              exact ⟨hke, hv, hbe⟩)
          refine ⟨w', ?_, q2⟩
          have hj2 : es'.findIdx? (fun e => (e.born : Int) == (Int.ofNat b)) = some j := by
            rw [show es' = es'.toList.toArray from by simp, List.findIdx?_toArray]; exact hj
          unfold Instr.entryStore
          simp only [Sem.run_bind, MapKept.run_getObj_map hh, Result.andThen_ok, asInt, asIntOf, Sem.run_pure, hj2, q1]
        · cases h
      · cases h
    · cases h
  · cases h

theorem delA_rel (T : TabOk P C) (H : HRel ρ ι s w) {mt : TypeId} {m k : AV} {m' k' : Value} {s' : St} (h : delA C mt m k s = some s') (hm : VRel ρ ι m m') (hk : VRel ρ ι k k') (ty : TypeId) (ts : List TypeId) :
    ∃ w', (Builtin.delete_ (mt :: ts).toArray ty #[m', k']).run P w = .ok (.tuple #[]) w' ∧ HRel ρ ι s' w' ∧ Keep s ι w s' ι w' := by
  unfold delA at h
  split at h
  · rename_i ki ei hko
    obtain ⟨kt, et, hu, hki, hei⟩ := keyOk_spec T hko
    obtain ⟨i1, d1, z1, S1⟩ := T.spec hki
    cases hself : selfOk ki k with
    | false => simp [hself] at h
    | true =>
      simp only [hself, cond_true] at h
      have hck := fun em => run_checkKey_ev T hki hself hk em w
      split at h
      · cases hm; cases h
        exact ⟨w, by simp [Builtin.delete_, run_underlying hu, hck], H, .refl _ _ _ H.fresh⟩
      · split at h
        · rename_i r es clock hmap
          obtain ⟨g, es', hb, hg, rfl, hh, hmr⟩ := map?_spec H hmap hm
          split at h
          · rename_i i0 v0 b0 hf
            rcases findK_rel T hki hk w hf hmr with ⟨h1, _⟩ | ⟨j, v2, b2, k2, e2, h1, h2, h3, h4, h5, h6, h7, h8⟩
            · cases h1
            · cases h1
              rw [Nat.zero_add] at h4 h
              obtain ⟨w', q1, q2⟩ := setMap_rel (P := P) (es2' := es'.eraseIdxIfInBounds j) H hb hg hh h (by
                rw [Array.toList_eraseIdxIfInBounds]; exact hmr.erase j)
              exact ⟨w', by simp [Builtin.delete_, run_underlying hu, MapKept.run_getObj_map hh, hck, run_findKey_asks S1.und h4, q1], q2⟩
          · rename_i hf
            rcases findK_rel T hki hk w hf hmr with ⟨_, h4⟩ | ⟨j, v2, b2, k2, e2, h1, _⟩
            · obtain ⟨w', q1, q2⟩ := setMap_rel (P := P) (es2' := es') H hb hg hh h hmr
              exact ⟨w', by simp [Builtin.delete_, run_underlying hu, MapKept.run_getObj_map hh, hck, run_findKey_asks S1.und h4, q1], q2⟩
            · cases h1
          · cases h
        · cases h
  · cases h
end
end Go.Ev
