/-
  A part of a verified evaluator of the model's code, or of its use at this seat; see the text YtkibpfkengpimaaGreatDoorEvCard.
-/
import Derived.Test.YtkibpfkengpimaaGreatDoorEvOps5
namespace Go.Ev
section
variable {P : Program} {C : Ctx} {ρ : Val} {ι : Inj} {s : St} {w : World}

theorem boolT_spec (T : TabOk P C) {t : TypeId} (h : boolT C t = true) : P.underlying t = some .bool := by
  unfold boolT at h
  split at h
  · rename_i size bytes zero flat ht
    obtain ⟨i, d, z, S⟩ := T.spec ht
    have hk := S.kind
    cases d <;> simp only [mkTK, reduceCtorEq] at hk
    exact S.und
  · cases h
theorem funcT_spec (T : TabOk P C) {t : TypeId} (h : funcT C t = true) : ∃ a b c, P.underlying t = some (.func a b c) := by
  unfold funcT at h
  split at h
  · rename_i size bytes zero flat ht
    obtain ⟨i, d, z, S⟩ := T.spec ht
    have hk := S.kind
    cases d <;> simp only [mkTK, reduceCtorEq] at hk
    exact ⟨_, _, _, S.und⟩
  · cases h
theorem ifaceT_spec (T : TabOk P C) {t : TypeId} (h : ifaceT C t = true) : ∃ a, P.underlying t = some (.interface a) := by
  unfold ifaceT at h
  split at h
  · rename_i size bytes zero flat ht
    obtain ⟨i, d, z, S⟩ := T.spec ht
    have hk := S.kind
    cases d <;> simp only [mkTK, reduceCtorEq] at hk
    exact ⟨_, S.und⟩
  · cases h
theorem ptrT_spec (T : TabOk P C) {t : TypeId} (h : ptrT C t = true) : ∃ e n, P.underlying t = some (.pointer e) ∧ n ≠ 0 ∧ ∀ w, (sizeOf e).run P w = .ok n w := by
  unfold ptrT at h
  split at h
  · rename_i e size bytes zero flat ht
    obtain ⟨i, d, z, S⟩ := T.spec ht
    have hk := S.kind
    cases d <;> simp only [mkTK, reduceCtorEq, TK.ptr.injEq] at hk
    subst hk
    split at h
    · rename_i ei hei
      obtain ⟨j, d2, z2, S2⟩ := T.spec hei
      refine ⟨_, ei.size, S.und, ?_, S2.run_sizeOf⟩
      intro h0; rw [h0] at h; cases h
    · cases h
  · cases h

/-- Whether values of a type are aggregates. -/
theorem TSpec.ofCells_agg {t : TypeId} {ti : TI} {i : TypeInfo} {d : TypeDesc} {z : Value} (S : TSpec P t ti i d z) (h : ti.isAgg = true) (cs : Array Value) : ofCells P t cs.toList = .agg cs := by
  unfold TI.isAgg at h
  rw [S.kind] at h
  unfold ofCells
  rw [S.und]
  cases d <;> simp [mkTK] at h <;> simp
theorem TSpec.ofCells_one {t : TypeId} {ti : TI} {i : TypeInfo} {d : TypeDesc} {z : Value} (S : TSpec P t ti i d z) (h : ti.isAgg = false) (v : Value) : ofCells P t [v] = v := by
  unfold TI.isAgg at h
  rw [S.kind] at h
  unfold ofCells
  rw [S.und]
  cases d <;> simp [mkTK] at h <;> rfl

theorem eqP_rel (T : TabOk P C) {t : TypeId} {i : TI} {a b : AV} {r : Bool} {a' b' : Value} (hi : C.types.get t = some i) (h : eqP i a b = some r) (ha : VRel ρ ι a a') (hb : VRel ρ ι b b') (w : World) :
    (Op.equal t a' b').run P w = .ok r w := by
  obtain ⟨i0, d, z, S⟩ := T.spec hi
  unfold eqP at h
  split at h
  · cases h
  · rename_i ks hks
    rw [S.flats] at hks
    have key := fun xs ys r xs' ys' he hx hy => eqFlat (P := P) (ρ := ρ) (ι := ι) 50 t ks hks xs ys r xs' ys' he hx hy Op.maxDepth (by decide) w
    cases hg : i.isAgg with
    | true =>
      simp only [hg, cond_true] at h
      split at h
      · rename_i x y
        cases ha with
        | agg h1 _ =>
          cases hb with
          | agg h2 _ =>
            have := key _ _ _ _ _ h h1 h2
            rwa [S.ofCells_agg hg, S.ofCells_agg hg] at this
      · cases h
    | false =>
      simp only [hg, cond_false] at h
      have := key _ _ _ _ _ h (.cons ha .nil) (.cons hb .nil)
      rwa [S.ofCells_one hg, S.ofCells_one hg] at this

theorem flatT_guard : ∀ (d : Nat) (t : TypeId) (ks : List CK), flatT P d t = some ks → ∀ D, d ≤ D → P.eqGuardType D t = false := by
  intro d
  induction d with
  | zero => intro t ks h; simp [flatT] at h
  | succ d ih =>
    intro t ks h D hD
    obtain ⟨D, rfl⟩ : ∃ E, D = E + 1 := ⟨D - 1, by omega⟩
    simp only [flatT] at h
    unfold Program.eqGuardType
    split at h
    · rename_i hu; simp [hu]
    · rename_i hu; simp [hu]
    · rename_i hu; simp [hu]
    · rename_i fs hu
      simp only [hu]
      cases hs : P.stoodInHeld t with
      | true => simp [hs] at h
      | false =>
        simp only [hs, cond_false] at h
        split at h
        · rename_i l hl
          have : ∀ (l : List Field) (o : Nat) (m : List CK), flatFs (flatT P d) l o = some m → ∀ f ∈ l, P.eqGuardType D f.type = false := by
            intro l
            induction l with
            | nil => intro o m _ f hf; cases hf
            | cons x l ihl =>
              intro o m hm f hf
              simp only [flatFs] at hm
              cases hc : (Nat.beq x.offset o && x.name != "_") with
              | false => simp [hc] at hm
              | true =>
                simp only [hc, cond_true] at hm
                split at hm
                · rename_i l1 hl1
                  split at hm
                  · rename_i m1 hm1
                    rcases List.mem_cons.1 hf with rfl | hf
                    · exact ih _ _ hl1 D (by omega)
                    · exact ihl _ _ hm1 f hf
                  · cases hm
                · cases hm
          have := this _ _ _ hl
          rw [Array.any_eq_false]
          intro i hi
          have := this fs[i] (by simp)
          simp [this]
        · cases h
    · rename_i n e hu
      simp only [hu]
      split at h
      · rename_i l hl
        exact ih _ _ hl D (by omega)
      · cases h
    · cases h

theorem eqP_guard (T : TabOk P C) {t : TypeId} {i : TI} {a b : AV} {r : Bool} (hi : C.types.get t = some i) (h : eqP i a b = some r) : P.eqGuardType P.depth t = false := by
  obtain ⟨i0, d, z, S⟩ := T.spec hi
  unfold eqP at h
  split at h
  · cases h
  · rename_i ks hks
    rw [S.flats] at hks
    exact flatT_guard 50 t ks hks _ T.deep

theorem run_equal (t : TypeId) (a b : Value) : Op.equal t a b = Op.equalIn (9999 + 1) t a b := rfl
section
variable (d : Nat) {t : TypeId} (w : World)
theorem eqi_pp {e : TypeId} (hu : P.underlying t = some (.pointer e)) (b : Option Addr) : (Op.equalIn (d + 1) t (.pointer none) (.pointer b)).run P w = .ok b.isNone w := by
  unfold Op.equalIn; rw [Sem.run_bind, run_underlying hu]; rfl
theorem eqi_pn {e : TypeId} (hu : P.underlying t = some (.pointer e)) (b : Addr) : (Op.equalIn (d + 1) t (.pointer (some b)) (.pointer none)).run P w = .ok false w := by
  unfold Op.equalIn; rw [Sem.run_bind, run_underlying hu]; rfl
theorem eqi_ps {e n : Nat} (hu : P.underlying t = some (.pointer e)) (hsz : ∀ w, (sizeOf e).run P w = .ok n w) (hn : n ≠ 0) (b o1 o2 : Nat) : (Op.equalIn (d + 1) t (.pointer (some ⟨b, o1, none⟩)) (.pointer (some ⟨b, o2, none⟩))).run P w = .ok (Nat.beq o1 o2) w := by
  unfold Op.equalIn; rw [Sem.run_bind, run_underlying hu]
  have : ((⟨b, o1, none⟩ : Addr) == ⟨b, o2, none⟩) = Nat.beq o1 o2 := by
    rw [nbeq, Bool.eq_iff_iff, beq_iff_eq, decide_eq_true_iff]
    simp
  simp [hsz, hn, sameAddr, this]
theorem eqi_sn {e : TypeId} (hu : P.underlying t = some (.slice e)) (l c : Nat) (b : Option Addr) (n k : Nat) : (Op.equalIn (d + 1) t (.slice none l c) (.slice b n k)).run P w = .ok b.isNone w := by
  unfold Op.equalIn; rw [Sem.run_bind, run_underlying hu]; rfl
theorem eqi_ss {e : TypeId} (hu : P.underlying t = some (.slice e)) (l c : Nat) (b : Addr) (n k : Nat) : (Op.equalIn (d + 1) t (.slice (some b) n k) (.slice none l c)).run P w = .ok false w := by
  unfold Op.equalIn; rw [Sem.run_bind, run_underlying hu]; rfl
theorem eqi_mn {e k : TypeId} (hu : P.underlying t = some (.map k e)) (b : Option Nat) : (Op.equalIn (d + 1) t (.map none) (.map b)).run P w = .ok b.isNone w := by
  unfold Op.equalIn; rw [Sem.run_bind, run_underlying hu]; rfl
theorem eqi_ms {e k : TypeId} (hu : P.underlying t = some (.map k e)) (b : Nat) : (Op.equalIn (d + 1) t (.map (some b)) (.map none)).run P w = .ok false w := by
  unfold Op.equalIn; rw [Sem.run_bind, run_underlying hu]; rfl
theorem eqi_fn {a : Array TypeId} {b : Array TypeId} {c : Bool} (hu : P.underlying t = some (.func a b c)) : (Op.equalIn (d + 1) t .nilFunc .nilFunc).run P w = .ok true w := by
  unfold Op.equalIn; rw [Sem.run_bind, run_underlying hu]; rfl
theorem eqi_fs {a : Array TypeId} {b : Array TypeId} {c : Bool} (hu : P.underlying t = some (.func a b c)) (f : Fn) (x y : Array Value) : (Op.equalIn (d + 1) t (.func f x y) .nilFunc).run P w = .ok false w := by
  unfold Op.equalIn; rw [Sem.run_bind, run_underlying hu]; rfl
theorem eqi_ft {a : Array TypeId} {b : Array TypeId} {c : Bool} (hu : P.underlying t = some (.func a b c)) (f : Fn) (x y : Array Value) : (Op.equalIn (d + 1) t .nilFunc (.func f x y)).run P w = .ok false w := by
  unfold Op.equalIn; rw [Sem.run_bind, run_underlying hu]; rfl
theorem eqi_in {ms : Array (String × TypeId)} (hu : P.underlying t = some (.interface ms)) : (Op.equalIn (d + 1) t .nilIface .nilIface).run P w = .ok true w := by
  unfold Op.equalIn; rw [Sem.run_bind, run_underlying hu]; rfl
theorem eqi_is {ms : Array (String × TypeId)} (hu : P.underlying t = some (.interface ms)) (u : TypeId) (v : Value) : (Op.equalIn (d + 1) t (.iface u v) .nilIface).run P w = .ok false w := by
  unfold Op.equalIn; rw [Sem.run_bind, run_underlying hu]; rfl
theorem eqi_it {ms : Array (String × TypeId)} (hu : P.underlying t = some (.interface ms)) (u : TypeId) (v : Value) : (Op.equalIn (d + 1) t .nilIface (.iface u v)).run P w = .ok false w := by
  unfold Op.equalIn; rw [Sem.run_bind, run_underlying hu]; rfl
end

/-- What is to be shown of an equality. -/
def EqRun (P : Program) (t : TypeId) (op : BinOp) (x y : Operand) (a b : Value) (r : Bool) (w : World) : Prop :=
  (eqGuard op t x y a b).run P w = .ok () w ∧ (Op.equal t a b).run P w = .ok r w ∧ binOp .eql t a b = (do pure (.bool (← Op.equal t a b))) ∧ binOp .neq t a b = (do pure (.bool (!(← Op.equal t a b))))

theorem eqA_rel (T : TabOk P C) {t : TypeId} {op : BinOp} {x y : Operand} {a b : AV} {r : Bool} {a' b' : Value} (h : eqA C t (isConst x || isConst y) a b = some r) (ha : VRel ρ ι a a') (hb : VRel ρ ι b b') (w : World) :
    EqRun P t op x y a' b' r w := by
  unfold eqA at h
  split at h
  · cases ha; cases hb
    cases hc : boolT C t with
    | false => simp [hc] at h
    | true =>
      simp only [hc, cond_true, Option.some.injEq] at h
      subst h
      exact ⟨run_eqGuard_other _ _ _ _ _ _ (by simp) (by simp) w, (run_equal _ _ _).symm ▸ run_equalIn_bool' w _ t _ _ (boolT_spec T hc), rfl, rfl⟩
  · cases ha; cases hb
    cases hc : ptrT C t with
    | false => simp [hc] at h
    | true =>
      simp only [hc, cond_true, Option.some.injEq] at h
      subst h
      obtain ⟨e, n, hu, hn, hsz⟩ := ptrT_spec T hc
      exact ⟨run_eqGuard_other _ _ _ _ _ _ (by simp) (by simp) w, (run_equal _ _ _).symm ▸ eqi_pp _ w hu none, rfl, rfl⟩
  · cases ha; cases hb
    cases hc : ptrT C t with
    | false => simp [hc] at h
    | true =>
      simp only [hc, cond_true, Option.some.injEq] at h
      subst h
      obtain ⟨e, n, hu, hn, hsz⟩ := ptrT_spec T hc
      exact ⟨run_eqGuard_other _ _ _ _ _ _ (by simp) (by simp) w, (run_equal _ _ _).symm ▸ eqi_pp _ w hu (some _), rfl, rfl⟩
  · cases ha; cases hb
    cases hc : ptrT C t with
    | false => simp [hc] at h
    | true =>
      simp only [hc, cond_true, Option.some.injEq] at h
      subst h
      obtain ⟨e, n, hu, hn, hsz⟩ := ptrT_spec T hc
      exact ⟨run_eqGuard_other _ _ _ _ _ _ (by simp) (by simp) w, (run_equal _ _ _).symm ▸ eqi_pn _ w hu _, rfl, rfl⟩
  · rename_i b1 o1 b2 o2
    cases hc : (ptrT C t && Nat.beq b1 b2) with
    | false => simp [hc] at h
    | true =>
      simp only [hc, cond_true, Option.some.injEq] at h
      subst h
      simp only [Bool.and_eq_true] at hc
      obtain ⟨e, n, hu, hn, hsz⟩ := ptrT_spec T hc.1
      have hbb := Nat.eq_of_beq_eq_true hc.2
      subst hbb
      cases ha with
      | @ptr _ g1 _ h1 =>
        cases hb with
        | ptr _ h2 =>
          rw [h1] at h2; cases h2
          refine ⟨run_eqGuard_other _ _ _ _ _ _ (by simp) (by simp) w, ?_, rfl, rfl⟩
          rw [run_equal, eqi_ps _ w hu hsz hn]
          have : Nat.beq (g1.base + o1) (g1.base + o2) = Nat.beq o1 o2 := by rw [nbeq, nbeq, Bool.eq_iff_iff]; simp
          rw [this]
  · cases ha; cases hb
    cases hc : isSliceT C t with
    | false => simp [hc] at h
    | true =>
      simp only [hc, cond_true, Option.some.injEq] at h
      subst h
      obtain ⟨e, hu⟩ := isSliceT_spec T hc
      exact ⟨run_eqGuard_other _ _ _ _ _ _ (by simp) (by simp) w, (run_equal _ _ _).symm ▸ eqi_sn _ w hu _ _ none _ _, rfl, rfl⟩
  · cases ha; cases hb
    cases hc : isSliceT C t with
    | false => simp [hc] at h
    | true =>
      simp only [hc, cond_true, Option.some.injEq] at h
      subst h
      obtain ⟨e, hu⟩ := isSliceT_spec T hc
      exact ⟨run_eqGuard_other _ _ _ _ _ _ (by simp) (by simp) w, (run_equal _ _ _).symm ▸ eqi_sn _ w hu _ _ (some _) _ _, rfl, rfl⟩
  · cases ha; cases hb
    cases hc : isSliceT C t with
    | false => simp [hc] at h
    | true =>
      simp only [hc, cond_true, Option.some.injEq] at h
      subst h
      obtain ⟨e, hu⟩ := isSliceT_spec T hc
      exact ⟨run_eqGuard_other _ _ _ _ _ _ (by simp) (by simp) w, (run_equal _ _ _).symm ▸ eqi_ss _ w hu _ _ _ _ _, rfl, rfl⟩
  · cases ha; cases hb
    cases hc : isMapT C t with
    | false => simp [hc] at h
    | true =>
      simp only [hc, cond_true, Option.some.injEq] at h
      subst h
      obtain ⟨e, e2, hu⟩ := isMapT_spec T hc
      exact ⟨run_eqGuard_other _ _ _ _ _ _ (by simp) (by simp) w, (run_equal _ _ _).symm ▸ eqi_mn _ w hu none, rfl, rfl⟩
  · cases ha; cases hb
    cases hc : isMapT C t with
    | false => simp [hc] at h
    | true =>
      simp only [hc, cond_true, Option.some.injEq] at h
      subst h
      obtain ⟨e, e2, hu⟩ := isMapT_spec T hc
      exact ⟨run_eqGuard_other _ _ _ _ _ _ (by simp) (by simp) w, (run_equal _ _ _).symm ▸ eqi_mn _ w hu (some _), rfl, rfl⟩
  · cases ha; cases hb
    cases hc : isMapT C t with
    | false => simp [hc] at h
    | true =>
      simp only [hc, cond_true, Option.some.injEq] at h
      subst h
      obtain ⟨e, e2, hu⟩ := isMapT_spec T hc
      exact ⟨run_eqGuard_other _ _ _ _ _ _ (by simp) (by simp) w, (run_equal _ _ _).symm ▸ eqi_ms _ w hu _, rfl, rfl⟩
  · cases ha; cases hb
    cases hc : funcT C t with
    | false => simp [hc] at h
    | true =>
      simp only [hc, cond_true, Option.some.injEq] at h
      subst h
      obtain ⟨e, e2, e3, hu⟩ := funcT_spec T hc
      exact ⟨run_eqGuard_other _ _ _ _ _ _ (by simp) (by simp) w, (run_equal _ _ _).symm ▸ eqi_fn _ w hu, rfl, rfl⟩
  · cases ha; cases hb
    cases hc : funcT C t with
    | false => simp [hc] at h
    | true =>
      simp only [hc, cond_true, Option.some.injEq] at h
      subst h
      obtain ⟨e, e2, e3, hu⟩ := funcT_spec T hc
      exact ⟨run_eqGuard_other _ _ _ _ _ _ (by simp) (by simp) w, (run_equal _ _ _).symm ▸ eqi_ft _ w hu _ _ _, rfl, rfl⟩
  · cases ha; cases hb
    cases hc : funcT C t with
    | false => simp [hc] at h
    | true =>
      simp only [hc, cond_true, Option.some.injEq] at h
      subst h
      obtain ⟨e, e2, e3, hu⟩ := funcT_spec T hc
      exact ⟨run_eqGuard_other _ _ _ _ _ _ (by simp) (by simp) w, (run_equal _ _ _).symm ▸ eqi_fs _ w hu _ _ _, rfl, rfl⟩
  · cases ha; cases hb
    cases hc : (ifaceT C t && (isConst x || isConst y)) with
    | false => simp [hc] at h
    | true =>
      simp only [hc, cond_true, Option.some.injEq] at h
      subst h
      simp only [Bool.and_eq_true, Bool.or_eq_true] at hc
      obtain ⟨ms, hu⟩ := ifaceT_spec T hc.1
      refine ⟨?_, (run_equal _ _ _).symm ▸ eqi_in _ w hu, rfl, rfl⟩
      have h2 := hc.2
      cases x <;> cases y <;> simp only [isConst, Bool.false_eq_true, or_self, or_true, true_or] at h2 <;> cases op <;> rfl
  · cases ha; cases hb
    cases hc : ifaceT C t with
    | false => simp [hc] at h
    | true =>
      simp only [hc, cond_true, Option.some.injEq] at h
      subst h
      obtain ⟨ms, hu⟩ := ifaceT_spec T hc
      exact ⟨run_eqGuard_other _ _ _ _ _ _ (by simp) (by simp) w, (run_equal _ _ _).symm ▸ eqi_it _ w hu _ _, rfl, rfl⟩
  · cases ha; cases hb
    cases hc : ifaceT C t with
    | false => simp [hc] at h
    | true =>
      simp only [hc, cond_true, Option.some.injEq] at h
      subst h
      obtain ⟨ms, hu⟩ := ifaceT_spec T hc
      exact ⟨run_eqGuard_other _ _ _ _ _ _ (by simp) (by simp) w, (run_equal _ _ _).symm ▸ eqi_is _ w hu _ _, rfl, rfl⟩
  · split at h
    · rename_i i hi
      have h1 := eqP_rel T hi h ha hb w
      have h2 := eqP_guard T hi h
      cases ha; cases hb
      exact ⟨run_eqGuard_agg w op t x y _ _ h2, h1, rfl, rfl⟩
    · cases h
  · cases h

theorem eqOpA_rel (T : TabOk P C) {t : TypeId} {op : BinOp} {x y : Operand} {a b v : AV} {a' b' : Value} (h : eqOpA C op t (isConst x || isConst y) a b = some v) (ha : VRel ρ ι a a') (hb : VRel ρ ι b b') (w : World) :
    ∃ v', (do eqGuard op t x y a' b'; binOp op t a' b').run P w = .ok v' w ∧ VRel ρ ι v v' := by
  unfold eqOpA at h
  split at h
  · rename_i r hr
    cases h
    obtain ⟨h1, h2, h3, h4⟩ := eqA_rel (op := .eql) T hr ha hb w
    exact ⟨.bool r, by simp [h1, h2, h3], .bool _⟩
  · rename_i r hr
    cases h
    obtain ⟨h1, h2, h3, h4⟩ := eqA_rel (op := .neq) T hr ha hb w
    exact ⟨.bool (!r), by simp [h1, h2, h4], .bool _⟩
  · cases h

/-- What all numbers of a list come to. -/
theorem allBool_mem {b : Bool} : ∀ {L : List (Option AV)}, allBool b L = true → ∀ x ∈ L, x = some (.bool b) := by
  intro L
  induction L with
  | nil => intro _ x hx; cases hx
  | cons y L ih =>
    intro h x hx
    simp only [allBool] at h
    split at h
    · rename_i c
      cases hc : (c == b) with
      | false => rw [hc] at h; cases h
      | true =>
        rw [hc] at h
        have hcb : c = b := by simpa using hc
        rcases List.mem_cons.1 hx with rfl | hx
        · rw [hcb]
        · exact ih h x hx
    · cases h
theorem allInts_mem {k : IntKind} : ∀ {L : List (Option AV)} {l : List Int}, allInts k L = some l → ∀ x ∈ L, ∃ n ∈ l, x = some (.int k n) := by
  intro L
  induction L with
  | nil => intro l _ x hx; cases hx
  | cons y L ih =>
    intro l h x hx
    simp only [allInts] at h
    split at h
    · rename_i j n
      cases hc : (j == k) with
      | false => rw [hc] at h; cases h
      | true =>
        rw [hc] at h
        have hjk : j = k := by simpa using hc
        simp only [cond_true] at h
        split at h
        · rename_i l' hl'
          cases h
          rcases List.mem_cons.1 hx with rfl | hx
          · exact ⟨n, by simp, by rw [hjk]⟩
          · obtain ⟨m, h1, h2⟩ := ih hl' x hx
            exact ⟨m, by simp [h1], h2⟩
        · cases h
    · cases h
theorem allSame_mem {n : Int} : ∀ {l : List Int}, allSame n l = true → ∀ m ∈ l, m = n := by
  intro l
  induction l with
  | nil => intro _ m hm; cases hm
  | cons y l ih =>
    intro h m hm
    simp only [allSame] at h
    cases hc : ieq y n with
    | false => rw [hc] at h; cases h
    | true =>
      rw [hc] at h
      rw [ieq_eq] at hc
      rcases List.mem_cons.1 hm with rfl | hm
      · simpa using hc
      · exact ih h m hm
theorem joinA_mem {L : List (Option AV)} {v : AV} (h : joinA L = some v) {x : Option AV} (hx : x ∈ L) : ∃ r, x = some r ∧ ∀ v', VRel ρ ι r v' → VRel ρ ι v v' := by
  unfold joinA at h
  split at h
  · cases h
  · rename_i y L
    split at h
    · rename_i b
      cases hb : allBool b L with
      | false => rw [hb] at h; cases h
      | true =>
        rw [hb] at h
        simp only [cond_true, Option.some.injEq] at h
        subst h
        refine ⟨.bool b, ?_, fun _ h => h⟩
        rcases List.mem_cons.1 hx with rfl | hx
        · rfl
        · exact allBool_mem hb x hx
    · rename_i k n
      split at h
      · rename_i l hl
        simp only [Option.some.injEq] at h
        have key : ∃ m ∈ n :: l, x = some (.int k m) := by
          rcases List.mem_cons.1 hx with rfl | hx
          · exact ⟨n, by simp, rfl⟩
          · obtain ⟨m, h1, h2⟩ := allInts_mem hl x hx
            exact ⟨m, by simp [h1], h2⟩
        obtain ⟨m, hm, rfl⟩ := key
        refine ⟨.int k m, rfl, fun v' hv => ?_⟩
        cases hs : allSame n l with
        | true =>
          rw [hs] at h
          simp only [cond_true] at h
          subst h
          have : m = n := by
            rcases List.mem_cons.1 hm with rfl | hm
            · rfl
            · exact allSame_mem hs m hm
          rw [← this]; exact hv
        | false =>
          rw [hs] at h
          simp only [cond_false] at h
          subst h
          cases hv
          exact .oneOf k _ m hm
      · cases h
    · cases h

theorem binA_rel (T : TabOk P C) (hρ : Short ρ) {t : TypeId} {op : BinOp} {x y : Operand} {a b v : AV} {a' b' : Value} (h : binA C op t (isConst x) (isConst y) a b = some v) (ha : VRel ρ ι a a') (hb : VRel ρ ι b b') (w : World) :
    ∃ v', (do eqGuard op t x y a' b'; binOp op t a' b').run P w = .ok v' w ∧ VRel ρ ι v v' := by
  unfold binA at h
  split at h
  · cases ha; cases hb
    obtain ⟨v', h1, h2⟩ := intOpA_rel (P := P) (ρ := ρ) (ι := ι) h t w
    exact ⟨v', by simp only [Sem.run_bind, run_eqGuard_other op t x y (.int _ _) (.int _ _) (by simp) (by simp) w, Result.andThen_ok, h1], h2⟩
  · cases ha with
    | oneOf j l n hn =>
      cases hb
      obtain ⟨r, h3, h4⟩ := joinA_mem (ρ := ρ) (ι := ι) h (List.mem_map_of_mem hn)
      obtain ⟨v', h1, h2⟩ := intOpA_rel (P := P) (ρ := ρ) (ι := ι) h3 t w
      exact ⟨v', by simp only [Sem.run_bind, run_eqGuard_other op t x y (.int _ _) (.int _ _) (by simp) (by simp) w, Result.andThen_ok, h1], h4 _ h2⟩
  · cases hb with
    | oneOf j l n hn =>
      cases ha
      obtain ⟨r, h3, h4⟩ := joinA_mem (ρ := ρ) (ι := ι) h (List.mem_map_of_mem hn)
      obtain ⟨v', h1, h2⟩ := intOpA_rel (P := P) (ρ := ρ) (ι := ι) h3 t w
      exact ⟨v', by simp only [Sem.run_bind, run_eqGuard_other op t x y (.int _ _) (.int _ _) (by simp) (by simp) w, Result.andThen_ok, h1], h4 _ h2⟩
  · cases ha with
    | str _ a' ha => cases hb with
      | str _ b' hb =>
        obtain ⟨v', h1, h2⟩ := strOp_rel (P := P) (ι := ι) hρ h ha hb w
        refine ⟨v', ?_, h2⟩
        have : binOp op t (.string a') (.string b') = Op.stringOp op a' b' := by cases op <;> rfl
        simp only [Sem.run_bind, run_eqGuard_other op t x y (.string _) (.string _) (by simp) (by simp) w, Result.andThen_ok, this, h1]
  · exact eqOpA_rel T h ha hb w

/-! ### the smaller ones -/
theorem unA_rel {op : UnOp} {x v : AV} {x' : Value} (h : unA op x = some v) (hx : VRel ρ ι x x') (w : World) : ∃ v', (Op.unary op x').run P w = .ok v' w ∧ VRel ρ ι v v' := by
  unfold unA at h
  split at h
  · cases hx; cases h; rw [wrapI_eq]; exact ⟨_, rfl, .int _ _⟩
  · cases hx; cases h; exact ⟨_, rfl, .int _ _⟩
  · cases hx; cases h; exact ⟨_, rfl, .bool _⟩
  · cases h

theorem pickA_rel {env : Env} {a : Act} (hE : EnvRel ρ ι env a.tmps) (hg : Globs C ι) {c x y : Operand} {v : AV} (h : pickA C env c x y = some v) (w : World) :
    ∃ v', (do pure (if ← asBool (a.eval c) then a.eval x else a.eval y) : Sem Value).run P w = .ok v' w ∧ VRel ρ ι v v' := by
  unfold pickA at h
  split at h
  · rename_i hc
    have := ev_rel hE hg hc
    cases hv : a.eval c <;> rw [hv] at this <;> cases this
    exact ⟨_, by simp [asBool], ev_rel hE hg h⟩
  · rename_i hc
    have := ev_rel hE hg hc
    cases hv : a.eval c <;> rw [hv] at this <;> cases this
    exact ⟨_, by simp [asBool], ev_rel hE hg h⟩
  · cases h

theorem makeIfaceA_rel (T : TabOk P C) {t : TypeId} {x v : AV} {x' : Value} (h : makeIfaceA C t (some x) = some v) (hx : VRel ρ ι x x') (w : World) : ∃ v', (Instr.makeInterface t x').run P w = .ok v' w ∧ VRel ρ ι v v' := by
  unfold makeIfaceA at h
  split at h
  · cases h
  · rename_i i x0 hnot hi hx0
    cases hx0; cases h
    obtain ⟨j, d, z, S⟩ := T.spec hi
    refine ⟨_, ?_, .iface t hx⟩
    unfold Instr.makeInterface
    rw [Sem.run_bind, S.run_underlying, Result.andThen_ok]
    cases d
    case interface ms =>
      exfalso
      have hk := S.kind
      simp only [mkTK] at hk
      obtain ⟨k, s1, s2, s3, s4⟩ := i
      simp only at hk
      subst hk
      exact hnot _ _ _ _ rfl
    all_goals rfl
  · cases h

theorem makeFuncA_rel {fn : Fn} {a b : List AV} {v : AV} {a' b' : Array Value} (h : makeFuncA fn (some a) (some b) = some v) (ha : VRels ρ ι a a'.toList) (hb : VRels ρ ι b b'.toList) (w : World) : ∃ v', (Instr.makeFunc fn a' b').run P w = .ok v' w ∧ VRel ρ ι v v' := by
  unfold makeFuncA at h
  split at h
  · rename_i f a0 b0 h1 h2
    cases h1; cases h2; cases h
    exact ⟨_, rfl, .func (.func f) ha hb⟩
  · cases h

theorem extractA_rel {x v : AV} {x' : Value} {i : Nat} (h : extractA (some x) i = some v) (hx : VRel ρ ι x x') (w : World) : ∃ v', (Instr.extract x' i).run P w = .ok v' w ∧ VRel ρ ι v v' := by
  unfold extractA at h
  split at h
  · rename_i vs h1
    cases h1
    cases hx with
    | tuple hv =>
      rw [nth_eq] at h
      obtain ⟨v', h1, h2⟩ := hv.get h
      refine ⟨v', ?_, h2⟩
      have h3 : ∀ (vs : Array Value), vs[i]? = some v' → (Instr.extract (.tuple vs) i).run P w = .ok v' w := by
        intro vs hvs
        simp [Instr.extract, hvs]
      exact h3 _ (by simpa using h1)
  · cases h

theorem assertA_rel (T : TabOk P C) {t xt : TypeId} {ok : Bool} {x v : AV} {x' : Value} (h : assertA C t ok (some x) = some v) (hx : VRel ρ ι x x') (w : World) : ∃ v', (Instr.typeAssert x' xt t ok).run P w = .ok v' w ∧ VRel ρ ι v v' := by
  unfold assertA at h
  have pair : ∀ {a : AV} {a' : Value} {b : Bool}, VRel ρ ι a a' → VRel ρ ι (.tuple [a, .bool b]) (.tuple #[a', .bool b]) := fun h => .tuple (.cons h (.cons (.bool _) .nil))
  split at h
  · cases h
  · rename_i i t1 v1 hnot hi hx0
    cases hx0
    obtain ⟨j, d, z, S⟩ := T.spec hi
    have hd : ∀ ms, d ≠ .interface ms := by
      rintro ms rfl
      have hk := S.kind
      simp only [mkTK] at hk
      obtain ⟨k, s1, s2, s3, s4⟩ := i
      simp only at hk
      subst hk
      exact hnot _ _ _ _ rfl
    cases hx with
    | iface _ hv =>
      cases hb : Nat.beq t1 t with
      | true =>
        have := Nat.eq_of_beq_eq_true hb
        subst this
        simp only [hb, cond_true, Option.some.injEq] at h
        subst h
        unfold Instr.typeAssert
        simp only [Sem.run_bind, S.run_underlying, Result.andThen_ok]
        cases ok
        · refine ⟨_, ?_, hv⟩
          cases d <;> first | exact absurd rfl (hd _) | simp
        · refine ⟨_, ?_, pair hv⟩
          cases d <;> first | exact absurd rfl (hd _) | simp
      | false =>
        have hne : t1 ≠ t := fun e => by rw [e, Nat.beq_refl] at hb; cases hb
        simp only [hb, cond_false] at h
        cases ok with
        | false => simp at h
        | true =>
          simp only [cond_true] at h
          split at h
          · rename_i z0 hz0
            cases h
            refine ⟨_, ?_, pair (S.zeroVal hz0)⟩
            unfold Instr.typeAssert
            simp only [Sem.run_bind, S.run_underlying, Result.andThen_ok]
            cases d <;> first | exact absurd rfl (hd _) | simp [hne, S.run_zeroValue]
          · cases h
  · rename_i i hnot hi hx0
    cases hx0
    obtain ⟨j, d, z, S⟩ := T.spec hi
    have hd : ∀ ms, d ≠ .interface ms := by
      rintro ms rfl
      have hk := S.kind
      simp only [mkTK] at hk
      obtain ⟨k, s1, s2, s3, s4⟩ := i
      simp only at hk
      subst hk
      exact hnot _ _ _ _ rfl
    cases hx
    cases ok with
    | false => simp at h
    | true =>
      simp only [cond_true] at h
      split at h
      · rename_i z0 hz0
        cases h
        refine ⟨_, ?_, pair (S.zeroVal hz0)⟩
        unfold Instr.typeAssert
        simp only [Sem.run_bind, S.run_underlying, Result.andThen_ok]
        cases d <;> first | exact absurd rfl (hd _) | simp [S.run_zeroValue]
      · cases h
  · cases h

theorem minMax_rel (mx : Bool) : ∀ {r : List AV} {a v : AV} {a' : Value} {r' : List Value}, minMax mx a r = some v → VRel ρ ι a a' → VRels ρ ι r r' → ∀ w, ∃ v', (r'.foldlM (if mx then Builtin.max2 else Builtin.min2) a').run P w = .ok v' w ∧ VRel ρ ι v v' := by
  intro r
  induction r with
  | nil =>
    intro a v a' r' h ha hr w
    cases hr
    simp [minMax] at h
    subst h
    exact ⟨a', rfl, ha⟩
  | cons y r ih =>
    intro a v a' r' h ha hr w
    unfold minMax at h
    split at h
    · rename_i h0; cases h0
    · rename_i k x j y r0 h0
      cases h0
      cases hr with
      | cons hy hr =>
        cases ha; cases hy
        obtain ⟨v', h1, h2⟩ := ih h (.int _ _) hr w
        refine ⟨v', ?_, h2⟩
        rw [List.foldlM_cons]
        simp only [ilt_eq] at h1
        cases mx
        · simp only [Bool.false_eq_true, if_false, cond_false, Builtin.min2, Sem.run_bind, Sem.run_pure, Result.andThen_ok] at h1 ⊢
          rw [← h1]
          by_cases hlt : y < x <;> simp [hlt]
        · simp only [if_true, cond_true, Builtin.max2, Sem.run_bind, Sem.run_pure, Result.andThen_ok] at h1 ⊢
          rw [← h1]
          by_cases hlt : x < y <;> simp [hlt]
    · cases h
end
end Go.Ev
