/-
  A part of a verified evaluator of the model's code, or of its use at this seat; see the text YtkibpfkengpimaaGreatDoorEvCard.
-/
import Derived.Test.YtkibpfkengpimaaGreatDoorEvOps9
namespace Go.Ev
section
variable {P : Program} {C : Ctx} {ρ : Val} {ι : Inj} {s : St} {w : World}

theorem oneVal_some {v : Option AV} {s : St} {nx : Nx} (h : oneVal v s = some nx) : ∃ x, v = some x ∧ nx = .val x s := by
  cases v with
  | none => cases h
  | some x => cases h; exact ⟨x, rfl, rfl⟩
theorem valSt_some {r : Option (AV × St)} {nx : Nx} (h : valSt r = some nx) : ∃ v s', r = some (v, s') ∧ nx = .val v s' := by
  cases r with
  | none => cases h
  | some p => cases h; exact ⟨p.1, p.2, rfl, rfl⟩
theorem skipSt_some {r : Option St} {nx : Nx} (h : skipSt r = some nx) : ∃ s', r = some s' ∧ nx = .skip s' := by
  cases r with
  | none => cases h
  | some p => cases h; exact ⟨p, rfl, rfl⟩
theorem withSt_some {r : Option AV} {v : AV} {s' : St} (h : withSt r s = some (v, s')) : r = some v ∧ s' = s := by
  cases r with
  | none => cases h
  | some p => cases h; exact ⟨rfl, rfl⟩
theorem two_some {α : Type} {f : AV → AV → Option α} {a b : Option AV} {r : α} (h : two f a b = some r) : ∃ x y, a = some x ∧ b = some y ∧ f x y = some r := by
  cases a <;> cases b <;> first | cases h | exact ⟨_, _, rfl, rfl, h⟩
theorem three_some {α : Type} {f : AV → AV → AV → Option α} {a b c : Option AV} {r : α} (h : three f a b c = some r) : ∃ x y z, a = some x ∧ b = some y ∧ c = some z ∧ f x y z = some r := by
  cases a <;> cases b <;> cases c <;> first | cases h | exact ⟨_, _, _, rfl, rfl, rfl, h⟩

theorem evO_rel {env : Env} {a : Act} (hE : EnvRel ρ ι env a.tmps) (hg : Globs C ι) {x : Option Operand} {r : Option AV} (h : evO C env x = some r) : ORel ρ ι r (x.map a.eval) := by
  cases x with
  | none => cases h; exact .none
  | some x =>
    simp only [evO] at h
    split at h
    · rename_i v hv; cases h; exact .some (ev_rel hE hg hv)
    · cases h

/-- What is known of an operation that has gone through. -/
def OpVal (P : Program) (ρ : Val) (ι : Inj) (s : St) (w : World) (r : Result Next) : Nx → Prop
  | .val v s' => ∃ v' w' ι', r = .ok (.value v') w' ∧ VRel ρ ι' v v' ∧ HRel ρ ι' s' w' ∧ Keep s ι w s' ι' w'
  | .skip s' => ∃ w' ι', r = .ok .skip w' ∧ HRel ρ ι' s' w' ∧ Keep s ι w s' ι' w'
  | .call _ _ => False

theorem run_v {m : Sem Value} {v : Value} {w' : World} (h : m.run P w = .ok v w') : (do pure (Next.value (← m)) : Sem Next).run P w = .ok (.value v) w' := by
  rw [Sem.run_bind, h]; rfl
theorem run_u {m : Sem Unit} {w' : World} (h : m.run P w = .ok () w') : (do m; pure Next.skip : Sem Next).run P w = .ok .skip w' := by
  rw [Sem.run_bind, h]; rfl

theorem OpVal.still {m : Sem Value} {v : AV} (H : HRel ρ ι s w) (h : ∃ v', m.run P w = .ok v' w ∧ VRel ρ ι v v') : OpVal P ρ ι s w ((do pure (Next.value (← m)) : Sem Next).run P w) (.val v s) :=
  let ⟨v', h1, h2⟩ := h
  ⟨v', w, ι, run_v h1, h2, H, .refl _ _ _ H.fresh⟩
theorem OpVal.same {m : Sem Value} {v : AV} {s' : St} (h : ∃ v' w', m.run P w = .ok v' w' ∧ VRel ρ ι v v' ∧ HRel ρ ι s' w' ∧ Keep s ι w s' ι w') : OpVal P ρ ι s w ((do pure (Next.value (← m)) : Sem Next).run P w) (.val v s') :=
  let ⟨v', w', h1, h2, h3, h4⟩ := h
  ⟨v', w', ι, run_v h1, h2, h3, h4⟩
theorem OpVal.more {m : Sem Value} {v : AV} {s' : St} (h : ∃ v' w' ι', m.run P w = .ok v' w' ∧ VRel ρ ι' v v' ∧ HRel ρ ι' s' w' ∧ Keep s ι w s' ι' w') : OpVal P ρ ι s w ((do pure (Next.value (← m)) : Sem Next).run P w) (.val v s') :=
  let ⟨v', w', ι', h1, h2, h3, h4⟩ := h
  ⟨v', w', ι', run_v h1, h2, h3, h4⟩
theorem OpVal.unit {m : Sem Unit} {s' : St} (h : ∃ w', m.run P w = .ok () w' ∧ HRel ρ ι s' w' ∧ Keep s ι w s' ι w') : OpVal P ρ ι s w ((do m; pure Next.skip : Sem Next).run P w) (.skip s') :=
  let ⟨w', h1, h3, h4⟩ := h
  ⟨w', ι, run_u h1, h3, h4⟩

theorem list_two {α : Type} {l : List α} {a b : α} (h : l = [a, b]) : l.length = 2 := by rw [h]; rfl

theorem VRels.inv1 {a : AV} {l : List Value} (h : VRels ρ ι [a] l) : ∃ x, l = [x] ∧ VRel ρ ι a x := by
  cases h with
  | cons h hs => cases hs; exact ⟨_, rfl, h⟩
theorem VRels.inv2 {a b : AV} {l : List Value} (h : VRels ρ ι [a, b] l) : ∃ x y, l = [x, y] ∧ VRel ρ ι a x ∧ VRel ρ ι b y := by
  cases h with
  | cons h hs => obtain ⟨y, rfl, hy⟩ := hs.inv1; exact ⟨_, _, rfl, h, hy⟩

theorem builtinA_rel (T : TabOk P C) (H : HRel ρ ι s w) {b : Builtin} {ts : Array TypeId} {args : List AV} {args' : Array Value} {v : AV} {s' : St} (h : builtinA C b ts.toList args s = some (v, s')) (ha : VRels ρ ι args args'.toList) (ty : TypeId) (cs : Array Bool) :
    OpVal P ρ ι s w ((builtin b ts ty cs args').run P w) (.val v s') := by
  unfold builtinA at h
  split at h
  · rename_i t tr x hts
    obtain ⟨h1, rfl⟩ := withSt_some h
    obtain ⟨x', hx', hx⟩ := ha.inv1
    have e1 : args' = #[x'] := Array.ext' hx'
    have e2 : ts = (t :: tr).toArray := Array.ext' hts
    rw [e1, e2]
    exact OpVal.still H (ilen_rel T H h1 hx ty tr)
  · rename_i t tx d x hts
    obtain ⟨d', x', hdx, hd, hx⟩ := ha.inv2
    have e1 : args' = #[d', x'] := Array.ext' hdx
    have e2 : ts = #[t, tx] := Array.ext' hts
    rw [e1, e2]
    cases hc : (isSliceT C tx || isStrT C tx) with
    | false => simp [hc] at h
    | true =>
      simp only [hc, cond_true] at h
      have hk : (∃ e', P.underlying tx = some (.slice e')) ∨ P.underlying tx = some .string := by
        rw [Bool.or_eq_true] at hc
        rcases hc with h | h
        · exact .inl (isSliceT_spec T h)
        · exact .inr (isStrT_spec T h)
      exact OpVal.more (appendA_rel T H hk h hd hx ty)
  · rename_i t tr d x hts
    obtain ⟨d', x', hdx, hd, hx⟩ := ha.inv2
    have e1 : args' = #[d', x'] := Array.ext' hdx
    have e2 : ts = (t :: tr).toArray := Array.ext' hts
    rw [e1, e2]
    exact OpVal.same (copyA_rel T H h hd hx ty tr)
  · rename_i ts0 a r
    obtain ⟨h1, rfl⟩ := withSt_some h
    obtain ⟨l⟩ := args'
    cases ha with
    | @cons _ a' _ r' ha hr =>
      refine OpVal.still H ?_
      obtain ⟨v', q1, q2⟩ := minMax_rel (P := P) true h1 ha hr w
      exact ⟨v', q1, q2⟩
  · rename_i ts0 a r
    obtain ⟨h1, rfl⟩ := withSt_some h
    obtain ⟨l⟩ := args'
    cases ha with
    | @cons _ a' _ r' ha hr =>
      refine OpVal.still H ?_
      obtain ⟨v', q1, q2⟩ := minMax_rel (P := P) false h1 ha hr w
      exact ⟨v', q1, q2⟩
  · rename_i t tr m k hts
    obtain ⟨m', k', hmk, hm, hk⟩ := ha.inv2
    have e1 : args' = #[m', k'] := Array.ext' hmk
    have e2 : ts = (t :: tr).toArray := Array.ext' hts
    rw [e1, e2]
    split at h
    · rename_i s2 hs2
      cases h
      obtain ⟨w', q1, q2, q3⟩ := delA_rel T H hs2 hm hk ty tr
      exact OpVal.same ⟨_, w', q1, .tuple .nil, q2, q3⟩
    · cases h
  · rename_i t tr x hts
    obtain ⟨x', hx', hx⟩ := ha.inv1
    have e1 : args' = #[x'] := Array.ext' hx'
    have e2 : ts = (t :: tr).toArray := Array.ext' hts
    rw [e1, e2]
    obtain ⟨w', q1, q2, q3, q4⟩ := clearA_rel T H h hx ty tr
    exact OpVal.same ⟨_, w', q1, q2, q3, q4⟩
  · cases h

/-- A call, as it is asked for. -/
structure OpCall (C : Ctx) (env : Env) (o : Oper) (f : AV) (args : List AV) : Prop where
  is : ∃ c x, o.op = .call c ∧ c.callee = .value x ∧ ev C env x = some f ∧ evs C env c.args.toList = some args

theorem op_box (T : TabOk P C) (H : HRel ρ ι s w) (hg : Globs C ι) {env : Env} {a : Act} (hE : EnvRel ρ ι env a.tmps) {e : TypeId} {x : Operand} {nx : Nx} (h : valSt (boxA C s e (ev C env x)) = some nx) :
    OpVal P ρ ι s w ((do pure (Next.value (← Instr.box e (a.eval x))) : Sem Next).run P w) nx := by
  obtain ⟨v, s', h1, rfl⟩ := valSt_some h
  cases hx : ev C env x with
  | none => rw [hx] at h1; simp [boxA] at h1
  | some xv => rw [hx] at h1; exact OpVal.more (boxA_rel T H h1 (ev_rel hE hg hx))
theorem op_load (T : TabOk P C) (H : HRel ρ ι s w) (hg : Globs C ι) {env : Env} {a : Act} (hE : EnvRel ρ ι env a.tmps) {t : TypeId} {x : Operand} {nx : Nx} (h : oneVal (loadA C s t (ev C env x)) s = some nx) :
    OpVal P ρ ι s w ((do pure (Next.value (← Instr.loadAt t (a.eval x))) : Sem Next).run P w) nx := by
  obtain ⟨v, h1, rfl⟩ := oneVal_some h
  cases hx : ev C env x with
  | none => rw [hx] at h1; simp [loadA] at h1
  | some xv => rw [hx] at h1; exact OpVal.still H (loadA_rel T H h1 (ev_rel hE hg hx))
theorem op_store (T : TabOk P C) (H : HRel ρ ι s w) (hg : Globs C ι) {env : Env} {a : Act} (hE : EnvRel ρ ι env a.tmps) {t : TypeId} {x y : Operand} {nx : Nx} (h : skipSt (storeA C s t (ev C env x) (ev C env y)) = some nx) :
    OpVal P ρ ι s w ((do Instr.storeAt t (a.eval x) (a.eval y); pure Next.skip : Sem Next).run P w) nx := by
  obtain ⟨s', h1, rfl⟩ := skipSt_some h
  cases hx : ev C env x with
  | none => rw [hx] at h1; simp [storeA] at h1
  | some xv =>
    cases hy : ev C env y with
    | none => rw [hx, hy] at h1; simp [storeA] at h1
    | some yv => rw [hx, hy] at h1; exact OpVal.unit (storeA_rel T H h1 (ev_rel hE hg hx) (ev_rel hE hg hy))
theorem op_unOp (H : HRel ρ ι s w) (hg : Globs C ι) {env : Env} {a : Act} (hE : EnvRel ρ ι env a.tmps) {op : UnOp} {x : Operand} {nx : Nx} (h : oneVal (unOpA op (ev C env x)) s = some nx) :
    OpVal P ρ ι s w ((do pure (Next.value (← Op.unary op (a.eval x))) : Sem Next).run P w) nx := by
  obtain ⟨v, h1, rfl⟩ := oneVal_some h
  cases hx : ev C env x with
  | none => rw [hx] at h1; simp [unOpA] at h1
  | some xv => rw [hx] at h1; exact OpVal.still H (unA_rel h1 (ev_rel hE hg hx) w)
theorem op_convert (T : TabOk P C) (H : HRel ρ ι s w) (hg : Globs C ι) {env : Env} {a : Act} (hE : EnvRel ρ ι env a.tmps) {src dst : TypeId} {x : Operand} {nx : Nx} (h : valSt (convOp C src dst (ev C env x) s) = some nx) :
    OpVal P ρ ι s w ((do pure (Next.value (← convert src dst (a.eval x))) : Sem Next).run P w) nx := by
  obtain ⟨v, s', h1, rfl⟩ := valSt_some h
  cases hx : ev C env x with
  | none => rw [hx] at h1; simp [convOp] at h1
  | some xv => rw [hx] at h1; exact OpVal.more (convA_rel T H h1 (ev_rel hE hg hx))
theorem op_makeInterface (T : TabOk P C) (H : HRel ρ ι s w) (hg : Globs C ι) {env : Env} {a : Act} (hE : EnvRel ρ ι env a.tmps) {t : TypeId} {x : Operand} {nx : Nx} (h : oneVal (makeIfaceA C t (ev C env x)) s = some nx) :
    OpVal P ρ ι s w ((do pure (Next.value (← Instr.makeInterface t (a.eval x))) : Sem Next).run P w) nx := by
  obtain ⟨v, h1, rfl⟩ := oneVal_some h
  cases hx : ev C env x with
  | none => rw [hx] at h1; unfold makeIfaceA at h1; split at h1 <;> first | contradiction | cases h1
  | some xv => rw [hx] at h1; exact OpVal.still H (makeIfaceA_rel T h1 (ev_rel hE hg hx) w)
theorem op_makeSlice (T : TabOk P C) (H : HRel ρ ι s w) (hg : Globs C ι) {env : Env} {a : Act} (hE : EnvRel ρ ι env a.tmps) {t : TypeId} {x y : Operand} {nx : Nx} (h : valSt (makeSliceA C s t (ev C env x) (ev C env y)) = some nx) :
    OpVal P ρ ι s w ((do pure (Next.value (← Instr.makeSlice t (a.eval x) (a.eval y))) : Sem Next).run P w) nx := by
  obtain ⟨v, s', h1, rfl⟩ := valSt_some h
  cases hx : ev C env x with
  | none => rw [hx] at h1; simp [makeSliceA] at h1
  | some xv =>
    cases hy : ev C env y with
    | none => rw [hx, hy] at h1; simp [makeSliceA] at h1
    | some yv => rw [hx, hy] at h1; exact OpVal.more (makeSliceA_rel T H h1 (ev_rel hE hg hx) (ev_rel hE hg hy))
theorem op_fieldAddr (T : TabOk P C) (H : HRel ρ ι s w) (hg : Globs C ι) {env : Env} {a : Act} (hE : EnvRel ρ ι env a.tmps) {t : TypeId} {x : Operand} {f : Nat} {nx : Nx} (h : oneVal (fieldAddrA C t (ev C env x) f) s = some nx) :
    OpVal P ρ ι s w ((do pure (Next.value (← Instr.fieldAt t (a.eval x) f)) : Sem Next).run P w) nx := by
  obtain ⟨v, h1, rfl⟩ := oneVal_some h
  cases hx : ev C env x with
  | none => rw [hx] at h1; simp [fieldAddrA] at h1
  | some xv => rw [hx] at h1; exact OpVal.still H (fieldAddrA_rel T h1 (ev_rel hE hg hx) w)
theorem op_field (T : TabOk P C) (H : HRel ρ ι s w) (hg : Globs C ι) {env : Env} {a : Act} (hE : EnvRel ρ ι env a.tmps) {t : TypeId} {x : Operand} {f : Nat} {nx : Nx} (h : oneVal (fieldA C t (ev C env x) f) s = some nx) :
    OpVal P ρ ι s w ((do pure (Next.value (← Instr.field t (a.eval x) f)) : Sem Next).run P w) nx := by
  obtain ⟨v, h1, rfl⟩ := oneVal_some h
  cases hx : ev C env x with
  | none => rw [hx] at h1; simp [fieldA] at h1
  | some xv => rw [hx] at h1; exact OpVal.still H (fieldA_rel T h1 (ev_rel hE hg hx) w)
theorem op_indexAddr (T : TabOk P C) (H : HRel ρ ι s w) (hg : Globs C ι) {env : Env} {a : Act} (hE : EnvRel ρ ι env a.tmps) {t : TypeId} {x y : Operand} {nx : Nx} (h : oneVal (indexAddrA C t (ev C env x) (ev C env y)) s = some nx) :
    OpVal P ρ ι s w ((do pure (Next.value (← Instr.indexAt t (a.eval x) (a.eval y))) : Sem Next).run P w) nx := by
  obtain ⟨v, h1, rfl⟩ := oneVal_some h
  cases hx : ev C env x with
  | none => rw [hx] at h1; simp [indexAddrA] at h1
  | some xv =>
    cases hy : ev C env y with
    | none => rw [hx, hy] at h1; simp [indexAddrA] at h1
    | some yv => rw [hx, hy] at h1; exact OpVal.still H (indexAddrA_rel T h1 (ev_rel hE hg hx) (ev_rel hE hg hy) w)
theorem op_index (T : TabOk P C) (H : HRel ρ ι s w) (hg : Globs C ι) {env : Env} {a : Act} (hE : EnvRel ρ ι env a.tmps) {t : TypeId} {x y : Operand} {nx : Nx} (h : oneVal (indexA C t (ev C env x) (ev C env y)) s = some nx) :
    OpVal P ρ ι s w ((do pure (Next.value (← Instr.index t (a.eval x) (a.eval y))) : Sem Next).run P w) nx := by
  obtain ⟨v, h1, rfl⟩ := oneVal_some h
  cases hx : ev C env x with
  | none => rw [hx] at h1; simp [indexA] at h1
  | some xv =>
    cases hy : ev C env y with
    | none => rw [hx, hy] at h1; cases xv <;> simp [indexA] at h1
    | some yv => rw [hx, hy] at h1; exact OpVal.still H (indexA_rel T h1 (ev_rel hE hg hx) (ev_rel hE hg hy) w)
theorem op_lookup (T : TabOk P C) (H : HRel ρ ι s w) (hg : Globs C ι) {env : Env} {a : Act} (hE : EnvRel ρ ι env a.tmps) {t : TypeId} {x y : Operand} {ok : Bool} {nx : Nx} (h : oneVal (two (fun m k => lookA C t m k ok s) (ev C env x) (ev C env y)) s = some nx) :
    OpVal P ρ ι s w ((do pure (Next.value (← Instr.lookup t (a.eval x) (a.eval y) ok)) : Sem Next).run P w) nx := by
  obtain ⟨v, h1, rfl⟩ := oneVal_some h
  obtain ⟨m, k, hm, hk, h2⟩ := two_some h1
  exact OpVal.still H (lookA_rel T H h2 (ev_rel hE hg hm) (ev_rel hE hg hk))
theorem op_update (T : TabOk P C) (H : HRel ρ ι s w) (hg : Globs C ι) {env : Env} {a : Act} (hE : EnvRel ρ ι env a.tmps) {t : TypeId} {x y z : Operand} {nx : Nx} (h : skipSt (three (fun m k v => updA C t m k v s) (ev C env x) (ev C env y) (ev C env z)) = some nx) :
    OpVal P ρ ι s w ((do Instr.mapUpdate t (a.eval x) (a.eval y) (a.eval z); pure Next.skip : Sem Next).run P w) nx := by
  obtain ⟨s', h1, rfl⟩ := skipSt_some h
  obtain ⟨m, k, v, hm, hk, hv, h2⟩ := three_some h1
  exact OpVal.unit (updA_rel T H h2 (ev_rel hE hg hm) (ev_rel hE hg hk) (ev_rel hE hg hv))
theorem op_entry (T : TabOk P C) (H : HRel ρ ι s w) (hg : Globs C ι) {env : Env} {a : Act} (hE : EnvRel ρ ι env a.tmps) {t : TypeId} {x y : Operand} {nx : Nx} (h : valSt (two (fun m k => entryA C t m k s) (ev C env x) (ev C env y)) = some nx) :
    OpVal P ρ ι s w ((do pure (Next.value (← Instr.mapEntry t (a.eval x) (a.eval y))) : Sem Next).run P w) nx := by
  obtain ⟨v, s', h1, rfl⟩ := valSt_some h
  obtain ⟨m, k, hm, hk, h2⟩ := two_some h1
  exact OpVal.same (entryA_rel T H h2 (ev_rel hE hg hm) (ev_rel hE hg hk))
theorem op_estore (H : HRel ρ ι s w) (hg : Globs C ι) {env : Env} {a : Act} (hE : EnvRel ρ ι env a.tmps) {t : TypeId} {x y z : Operand} {nx : Nx} (h : skipSt (three (fun m st v => estoreA m st v s) (ev C env x) (ev C env y) (ev C env z)) = some nx) :
    OpVal P ρ ι s w ((do Instr.entryStore t (a.eval x) (a.eval y) (a.eval z); pure Next.skip : Sem Next).run P w) nx := by
  obtain ⟨s', h1, rfl⟩ := skipSt_some h
  obtain ⟨m, k, v, hm, hk, hv, h2⟩ := three_some h1
  exact OpVal.unit (estoreA_rel H h2 (ev_rel hE hg hm) (ev_rel hE hg hk) (ev_rel hE hg hv))
theorem op_range (T : TabOk P C) (H : HRel ρ ι s w) (hg : Globs C ι) {env : Env} {a : Act} (hE : EnvRel ρ ι env a.tmps) {t : TypeId} {x : Operand} {nx : Nx} (h : valSt (rangeA C s t (ev C env x)) = some nx) :
    OpVal P ρ ι s w ((do pure (Next.value (← Instr.range t (a.eval x))) : Sem Next).run P w) nx := by
  obtain ⟨v, s', h1, rfl⟩ := valSt_some h
  cases hx : ev C env x with
  | none => rw [hx] at h1; simp [rangeA] at h1
  | some xv => rw [hx] at h1; exact OpVal.more (rangeA_rel T H h1 (ev_rel hE hg hx))
theorem op_next (H : HRel ρ ι s w) (hg : Globs C ι) {env : Env} {a : Act} (hE : EnvRel ρ ι env a.tmps) {ty : TypeId} {x : Operand} {nx : Nx} (h : valSt (nextA s (ev C env x)) = some nx) :
    OpVal P ρ ι s w ((do pure (Next.value (← Instr.next (a.eval x) true ty)) : Sem Next).run P w) nx := by
  obtain ⟨v, s', h1, rfl⟩ := valSt_some h
  cases hx : ev C env x with
  | none => rw [hx] at h1; simp [nextA] at h1
  | some xv => rw [hx] at h1; exact OpVal.same (nextA_rel H h1 (ev_rel hE hg hx) ty)
theorem op_typeAssert (T : TabOk P C) (H : HRel ρ ι s w) (hg : Globs C ι) {env : Env} {a : Act} (hE : EnvRel ρ ι env a.tmps) {t xt : TypeId} {ok : Bool} {x : Operand} {nx : Nx} (h : oneVal (assertA C t ok (ev C env x)) s = some nx) :
    OpVal P ρ ι s w ((do pure (Next.value (← Instr.typeAssert (a.eval x) xt t ok)) : Sem Next).run P w) nx := by
  obtain ⟨v, h1, rfl⟩ := oneVal_some h
  cases hx : ev C env x with
  | none => rw [hx] at h1; unfold assertA at h1; split at h1 <;> first | contradiction | cases h1
  | some xv => rw [hx] at h1; exact OpVal.still H (assertA_rel T h1 (ev_rel hE hg hx) w)
theorem op_extract (H : HRel ρ ι s w) (hg : Globs C ι) {env : Env} {a : Act} (hE : EnvRel ρ ι env a.tmps) {x : Operand} {i : Nat} {nx : Nx} (h : oneVal (extractA (ev C env x) i) s = some nx) :
    OpVal P ρ ι s w ((do pure (Next.value (← Instr.extract (a.eval x) i)) : Sem Next).run P w) nx := by
  obtain ⟨v, h1, rfl⟩ := oneVal_some h
  cases hx : ev C env x with
  | none => rw [hx] at h1; simp [extractA] at h1
  | some xv => rw [hx] at h1; exact OpVal.still H (extractA_rel h1 (ev_rel hE hg hx) w)
theorem op_pick (H : HRel ρ ι s w) (hg : Globs C ι) {env : Env} {a : Act} (hE : EnvRel ρ ι env a.tmps) {c x y : Operand} {nx : Nx} (h : oneVal (pickA C env c x y) s = some nx) :
    OpVal P ρ ι s w ((do pure (Next.value (if ← asBool (a.eval c) then a.eval x else a.eval y)) : Sem Next).run P w) nx := by
  obtain ⟨v, h1, rfl⟩ := oneVal_some h
  obtain ⟨v', q1, q2⟩ := pickA_rel (P := P) hE hg h1 w
  refine ⟨v', w, ι, ?_, q2, H, .refl _ _ _ H.fresh⟩
  rw [Sem.run_bind] at q1 ⊢
  cases hb : (asBool (a.eval c)).run P w with
  | halt x w' => rw [hb] at q1; cases q1
  | ok b w' =>
    rw [hb] at q1
    simp only [Result.andThen_ok, Sem.run_pure, Result.ok.injEq] at q1 ⊢
    rw [q1.1]; exact ⟨rfl, q1.2⟩
theorem op_build (T : TabOk P C) (H : HRel ρ ι s w) (hg : Globs C ι) {env : Env} {a : Act} (hE : EnvRel ρ ι env a.tmps) {t : TypeId} {parts : Array (Nat × Operand)} {nx : Nx} (h : oneVal (buildOp C t (evParts C env parts.toList)) s = some nx) :
    OpVal P ρ ι s w ((do pure (Next.value (← Instr.build t (parts.map fun (i, x) => (i, a.eval x)))) : Sem Next).run P w) nx := by
  obtain ⟨v, h1, rfl⟩ := oneVal_some h
  cases hp : evParts C env parts.toList with
  | none => rw [hp] at h1; simp [buildOp] at h1
  | some ps =>
    rw [hp] at h1
    have hpr := evParts_rel (a := a) hE hg hp
    exact OpVal.still H (buildA_rel T (parts' := parts.map fun (i, x) => (i, a.eval x)) h1 (by rw [Array.toList_map]; exact hpr) w)
theorem op_buildSlice (T : TabOk P C) (H : HRel ρ ι s w) (hg : Globs C ι) {env : Env} {a : Act} (hE : EnvRel ρ ι env a.tmps) {t : TypeId} {len : Nat} {parts : Array (Nat × Operand)} {nx : Nx} (h : valSt (buildSliceA C s t len (evParts C env parts.toList)) = some nx) :
    OpVal P ρ ι s w ((do pure (Next.value (← Instr.buildSlice t len (parts.map fun (i, x) => (i, a.eval x)))) : Sem Next).run P w) nx := by
  obtain ⟨v, s', h1, rfl⟩ := valSt_some h
  cases hp : evParts C env parts.toList with
  | none => rw [hp] at h1; simp [buildSliceA] at h1
  | some ps =>
    rw [hp] at h1
    have hpr := evParts_rel (a := a) hE hg hp
    have hl : (parts.map fun (i, x) => (i, a.eval x)).toList = parts.toList.map fun p => (p.1, a.eval p.2) := by rw [Array.toList_map]
    have := buildSliceA_rel T H (ps' := parts.map fun (i, x) => (i, a.eval x)) h1 (by rw [hl]; exact hpr)
    exact OpVal.more this
theorem op_nilCheck (H : HRel ρ ι s w) (hg : Globs C ι) {env : Env} {a : Act} (hE : EnvRel ρ ι env a.tmps) {o : Oper} {x : Operand} (ho : o.op = .nilCheck x) {nx : Nx} (h : oneVal (nilCheckA (ev C env x)) s = some nx) :
    OpVal P ρ ι s w ((execOp a.eval o).run P w) nx := by
  obtain ⟨v, h1, rfl⟩ := oneVal_some h
  simp only [execOp, ho]
  cases hx : ev C env x with
  | none => rw [hx] at h1; simp [nilCheckA] at h1
  | some xv =>
    rw [hx] at h1
    obtain ⟨q1, q2, q3, q4, q5⟩ := nilCheckA_rel h1 (ev_rel hE hg hx)
    refine ⟨a.eval x, w, ι, ?_, q1, H, .refl _ _ _ H.fresh⟩
    generalize a.eval x = xv' at q1 q2 q3 q4 q5
    split
    · exact absurd rfl q2
    · exact absurd rfl q3
    · exact absurd rfl q4
    · exact absurd rfl (q5 _ _ _)
    · rfl
theorem op_binOp (T : TabOk P C) (H : HRel ρ ι s w) (hg : Globs C ι) {env : Env} {a : Act} (hE : EnvRel ρ ι env a.tmps) (hρ : Short ρ) {op : BinOp} {t : TypeId} {x y : Operand} {nx : Nx} (h : oneVal (binOpA C op t (isConst x) (isConst y) (ev C env x) (ev C env y)) s = some nx) :
    OpVal P ρ ι s w ((do pure (Next.value (← (do eqGuard op t x y (a.eval x) (a.eval y); binOp op t (a.eval x) (a.eval y)))) : Sem Next).run P w) nx := by
  obtain ⟨v, h1, rfl⟩ := oneVal_some h
  cases hx : ev C env x with
  | none => rw [hx] at h1; simp [binOpA] at h1
  | some xv =>
    cases hy : ev C env y with
    | none => rw [hx, hy] at h1; simp [binOpA] at h1
    | some yv =>
      rw [hx, hy] at h1
      exact OpVal.still H (binA_rel T hρ h1 (ev_rel hE hg hx) (ev_rel hE hg hy) w)
theorem op_makeFunc (H : HRel ρ ι s w) (hg : Globs C ι) {env : Env} {a : Act} (hE : EnvRel ρ ι env a.tmps) {fn : Fn} {x y : Array Operand} {nx : Nx} (h : oneVal (makeFuncA fn (evs C env x.toList) (evs C env y.toList)) s = some nx) :
    OpVal P ρ ι s w ((do pure (Next.value (← Instr.makeFunc fn (x.map a.eval) (y.map a.eval))) : Sem Next).run P w) nx := by
  obtain ⟨v, h1, rfl⟩ := oneVal_some h
  cases hx : evs C env x.toList with
  | none => rw [hx] at h1; cases fn <;> simp [makeFuncA] at h1
  | some xv =>
    cases hy : evs C env y.toList with
    | none => rw [hx, hy] at h1; cases fn <;> simp [makeFuncA] at h1
    | some yv =>
      rw [hx, hy] at h1
      exact OpVal.still H (makeFuncA_rel h1 (by rw [Array.toList_map]; exact evs_rel hE hg hx) (by rw [Array.toList_map]; exact evs_rel hE hg hy) w)
theorem op_makeMap (T : TabOk P C) (H : HRel ρ ι s w) (hg : Globs C ι) {env : Env} {a : Act} (hE : EnvRel ρ ι env a.tmps) {t : TypeId} {r : Option Operand} {nx : Nx} (h : valSt (makeMapA C s t (evO C env r)) = some nx) :
    OpVal P ρ ι s w ((do pure (Next.value (← Instr.makeMap t (r.map a.eval))) : Sem Next).run P w) nx := by
  obtain ⟨v, s', h1, rfl⟩ := valSt_some h
  cases hx : evO C env r with
  | none =>
    rw [hx] at h1
    unfold makeMapA at h1
    split at h1
    · rename_i h2; cases h2
    · rename_i h2; cases h2
    · cases h1
  | some xv => rw [hx] at h1; exact OpVal.more (makeMapA_rel T H h1 (evO_rel hE hg hx))
theorem op_slice (T : TabOk P C) (H : HRel ρ ι s w) (hg : Globs C ι) {env : Env} {a : Act} (hE : EnvRel ρ ι env a.tmps) {t : TypeId} {x : Operand} {lo hi mx : Option Operand} {nx : Nx} (h : oneVal (sliceOp C s t (ev C env x) (evO C env lo) (evO C env hi) (evO C env mx)) s = some nx) :
    OpVal P ρ ι s w ((do pure (Next.value (← Instr.sliceAt t (a.eval x) (lo.map a.eval) (hi.map a.eval) (mx.map a.eval))) : Sem Next).run P w) nx := by
  obtain ⟨v, h1, rfl⟩ := oneVal_some h
  unfold sliceOp at h1
  split at h1
  · rename_i xv l1 l2 l3 hx q1 q2 q3
    exact OpVal.still H (sliceA_rel T H h1 (ev_rel hE hg hx) (evO_rel hE hg q1) (evO_rel hE hg q2) (evO_rel hE hg q3))
  · cases h1
theorem op_call (T : TabOk P C) (H : HRel ρ ι s w) (hg : Globs C ι) {env : Env} {a : Act} (hE : EnvRel ρ ι env a.tmps) {o : Oper} {c : Call} (ho : o.op = .call c) {nx : Nx} (h : callOp C env s c = some nx) :
    OpVal P ρ ι s w ((execOp a.eval o).run P w) nx ∨ ∃ f args, nx = .call f args ∧ OpCall C env o f args := by
  unfold callOp at h
  split at h
  · rename_i b vs hcal hvs
    obtain ⟨v, s', h1, rfl⟩ := valSt_some h
    left
    have := builtinA_rel T H (args' := c.args.map a.eval) h1 (by rw [Array.toList_map]; exact evs_rel hE hg hvs) o.type (c.args.map fun | .const _ => true | _ => false)
    simp only [execOp, ho, resolve, hcal, Sem.run_bind, Sem.run_pure, Result.andThen_ok, invoke]
    exact this
  · rename_i x vs hcal hvs
    split at h
    · rename_i fv hfv
      unfold extOr at h
      split at h
      · rename_i g
        split at h
        · rename_i e he
          obtain ⟨v, h1, rfl⟩ := oneVal_some h
          left
          have hfr := ev_rel (ρ := ρ) hE hg hfv
          generalize hax : a.eval x = fx at hfr
          cases hfr with
          | @func _ _ _ _ a' c' hfn ha hc =>
            cases hfn
            have ha0 : a' = #[] := by
              cases hl : a'.toList with
              | nil => simpa using hl
              | cons => rw [hl] at ha; cases ha
            have hc0 : c' = #[] := by
              cases hl : c'.toList with
              | nil => simpa using hl
              | cons => rw [hl] at hc; cases hc
            subst ha0 hc0
            obtain ⟨v', q1, q2⟩ := T.ext g e he ρ ι s w vs v (c.args.map a.eval) h1 H (by rw [Array.toList_map]; exact evs_rel hE hg hvs)
            refine ⟨v', w, ι, ?_, q2, H, .refl _ _ _ H.fresh⟩
            simp only [execOp, ho, resolve, hcal, hax, Sem.run_bind, Sem.run_pure, Result.andThen_ok, Deferred.ofValue, invoke]
            simpa using q1
        · cases h
          exact .inr ⟨_, vs, rfl, ⟨⟨c, x, ho, hcal, hfv, hvs⟩⟩⟩
      · cases h
        exact .inr ⟨_, vs, rfl, ⟨⟨c, x, ho, hcal, hfv, hvs⟩⟩⟩
    · cases h
  · cases h
theorem opA_rel (T : TabOk P C) (hρ : Short ρ) (H : HRel ρ ι s w) (hg : Globs C ι) {env : Env} {a : Act} (hE : EnvRel ρ ι env a.tmps) {o : Oper} {nx : Nx} (h : opA C env s o = some nx) :
    (∀ c, o.op ≠ .defer c) ∧ (OpVal P ρ ι s w ((execOp a.eval o).run P w) nx ∨ ∃ f args, nx = .call f args ∧ OpCall C env o f args) := by
  unfold opA at h
  split at h
  · rename_i hop; exact ⟨fun c hc => (by rw [hop] at hc; cases hc), .inl (by obtain ⟨v, h1, rfl⟩ := oneVal_some h; simp only [execOp, hop]; exact ⟨_, w, ι, rfl, ev_rel hE hg h1, H, .refl _ _ _ H.fresh⟩)⟩
  · rename_i hop; exact ⟨fun c hc => (by rw [hop] at hc; cases hc), .inl (by obtain ⟨v, h1, rfl⟩ := oneVal_some h; simp only [execOp, hop]; exact ⟨_, w, ι, rfl, ev_rel hE hg h1, H, .refl _ _ _ H.fresh⟩)⟩
  · rename_i hop; exact ⟨fun c hc => (by rw [hop] at hc; cases hc), .inl (by simp only [execOp, hop]; exact op_pick H hg hE h)⟩
  · rename_i hop; exact ⟨fun c hc => (by rw [hop] at hc; cases hc), .inl (by obtain ⟨v, s', h1, rfl⟩ := valSt_some h; simp only [execOp, hop]; exact OpVal.more (allocA_rel T H h1))⟩
  · rename_i hop; exact ⟨fun c hc => (by rw [hop] at hc; cases hc), .inl (by simp only [execOp, hop]; exact op_box T H hg hE h)⟩
  · rename_i hop; exact ⟨fun c hc => (by rw [hop] at hc; cases hc), .inl (by simp only [execOp, hop]; exact op_build T H hg hE h)⟩
  · rename_i hop; exact ⟨fun c hc => (by rw [hop] at hc; cases hc), .inl (by simp only [execOp, hop]; exact op_buildSlice T H hg hE h)⟩
  · rename_i hop; exact ⟨fun c hc => (by rw [hop] at hc; cases hc), .inl (by simp only [execOp, hop]; exact op_load T H hg hE h)⟩
  · rename_i hop; exact ⟨fun c hc => (by rw [hop] at hc; cases hc), .inl (by simp only [execOp, hop]; exact op_store T H hg hE h)⟩
  · rename_i hop; exact ⟨fun c hc => (by rw [hop] at hc; cases hc), .inl (op_nilCheck H hg hE hop h)⟩
  · rename_i hop; exact ⟨fun c hc => (by rw [hop] at hc; cases hc), .inl (by simp only [execOp, hop]; exact op_binOp T H hg hE hρ h)⟩
  · rename_i hop; exact ⟨fun c hc => (by rw [hop] at hc; cases hc), .inl (by simp only [execOp, hop]; exact op_unOp H hg hE h)⟩
  · rename_i hop; exact ⟨fun c hc => (by rw [hop] at hc; cases hc), .inl (by simp only [execOp, hop]; exact op_convert T H hg hE h)⟩
  · rename_i hop; exact ⟨fun c hc => (by rw [hop] at hc; cases hc), .inl (by simp only [execOp, hop]; exact op_makeInterface T H hg hE h)⟩
  · rename_i hop; exact ⟨fun c hc => (by rw [hop] at hc; cases hc), .inl (by simp only [execOp, hop]; exact op_makeFunc H hg hE h)⟩
  · rename_i hop; exact ⟨fun c hc => (by rw [hop] at hc; cases hc), .inl (by simp only [execOp, hop]; exact op_makeMap T H hg hE h)⟩
  · rename_i hop; exact ⟨fun c hc => (by rw [hop] at hc; cases hc), .inl (by simp only [execOp, hop]; exact op_makeSlice T H hg hE h)⟩
  · rename_i hop; exact ⟨fun c hc => (by rw [hop] at hc; cases hc), .inl (by simp only [execOp, hop]; exact op_slice T H hg hE h)⟩
  · rename_i hop; exact ⟨fun c hc => (by rw [hop] at hc; cases hc), .inl (by simp only [execOp, hop]; exact op_fieldAddr T H hg hE h)⟩
  · rename_i hop; exact ⟨fun c hc => (by rw [hop] at hc; cases hc), .inl (by simp only [execOp, hop]; exact op_field T H hg hE h)⟩
  · rename_i hop; exact ⟨fun c hc => (by rw [hop] at hc; cases hc), .inl (by simp only [execOp, hop]; exact op_indexAddr T H hg hE h)⟩
  · rename_i hop; exact ⟨fun c hc => (by rw [hop] at hc; cases hc), .inl (by simp only [execOp, hop]; exact op_index T H hg hE h)⟩
  · rename_i hop; exact ⟨fun c hc => (by rw [hop] at hc; cases hc), .inl (by simp only [execOp, hop]; exact op_lookup T H hg hE h)⟩
  · rename_i hop; exact ⟨fun c hc => (by rw [hop] at hc; cases hc), .inl (by simp only [execOp, hop]; exact op_update T H hg hE h)⟩
  · rename_i hop; exact ⟨fun c hc => (by rw [hop] at hc; cases hc), .inl (by simp only [execOp, hop]; exact op_update T H hg hE h)⟩
  · rename_i hop; exact ⟨fun c hc => (by rw [hop] at hc; cases hc), .inl (by simp only [execOp, hop]; exact op_entry T H hg hE h)⟩
  · rename_i hop; exact ⟨fun c hc => (by rw [hop] at hc; cases hc), .inl (by simp only [execOp, hop]; exact op_estore H hg hE h)⟩
  · rename_i hop; exact ⟨fun c hc => (by rw [hop] at hc; cases hc), .inl (by simp only [execOp, hop]; exact op_range T H hg hE h)⟩
  · rename_i hop; exact ⟨fun c hc => (by rw [hop] at hc; cases hc), .inl (by simp only [execOp, hop]; exact op_next H hg hE h)⟩
  · rename_i hop; exact ⟨fun c hc => (by rw [hop] at hc; cases hc), .inl (by simp only [execOp, hop]; exact op_typeAssert T H hg hE h)⟩
  · rename_i hop; exact ⟨fun c hc => (by rw [hop] at hc; cases hc), .inl (by simp only [execOp, hop]; exact op_extract H hg hE h)⟩
  · rename_i hop; exact ⟨fun c hc => (by rw [hop] at hc; cases hc), op_call T H hg hE hop h⟩
  · cases h
end
end Go.Ev
