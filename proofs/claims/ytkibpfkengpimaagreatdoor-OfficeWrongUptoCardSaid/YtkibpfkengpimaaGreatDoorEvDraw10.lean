/-
  A part of a verified evaluator of the model's code, or of its use at this seat; see the text YtkibpfkengpimaaGreatDoorEvCard.
-/
import Derived.Test.YtkibpfkengpimaaGreatDoorEvDraw9
namespace Go.Ev
section
variable {P : Program} {C : Ctx} {ρ : Val} {sf : Self} {ops : List Oper} {fr : Fr} {D : Nat → Dr} {V : Nat → AV}

theorem Did.put {i : Nat} {o : Oper} {d d' : Dr} {v : AV} {nx0 : Nat} (h : Did C sf ops fr nx0 i o d d' v) : putA fr.size d.env o.dst v = some d'.env := by
  cases h <;> assumption
theorem putA_get {size : Nat} {env env' : Env} {dst : Option Nat} {v : AV} (h : putA size env dst v = some env') (t : Nat) : env'.get t = if dst = some t then some v else env.get t := by
  cases dst with
  | none => simp only [putA, Option.some.injEq] at h; subst h; simp
  | some d =>
    simp only [putA] at h
    cases hb : Nat.blt d size with
    | false => rw [hb] at h; cases h
    | true =>
      rw [hb] at h
      simp only [cond_true, Option.some.injEq] at h
      subst h
      by_cases ht : d = t
      · subst ht; simp
      · rw [Tr.get_put_other _ _ ht, if_neg (by simpa using ht)]

/-- What the temporaries hold at a place of the text. -/
theorem Txt.env_dst (T : Txt C sf ops fr D V) (ok : OkDraw ops) : ∀ {i : Nat}, i ≤ ops.length → ∀ (j : Nat) (o : Oper) (t : Nat), j < i → ops[j]? = some o → o.dst = some t → (D i).env.get t = some (V j) := by
  intro i
  induction i with
  | zero => intro _ j o t hj; omega
  | succ i ih =>
    intro hi j o t hj ho hd
    obtain ⟨p, hp⟩ := op_at (by omega : i < ops.length)
    have := putA_get (T.did i p hp).put t
    rw [this]
    by_cases hji : j = i
    · subst hji
      rw [ho] at hp; cases hp
      rw [if_pos hd]
    · rw [if_neg, ih (by omega) j o t (by omega) ho hd]
      intro e
      exact hji (ok.dsts j i o p t ho hp hd e)
theorem Txt.env_old (T : Txt C sf ops fr D V) : ∀ {i : Nat}, i ≤ ops.length → ∀ (t : Nat), (∀ j o, j < i → ops[j]? = some o → o.dst ≠ some t) → (D i).env.get t = (D 0).env.get t := by
  intro i
  induction i with
  | zero => intro _ t _; rfl
  | succ i ih =>
    intro hi t ht
    obtain ⟨p, hp⟩ := op_at (by omega : i < ops.length)
    rw [putA_get (T.did i p hp).put t, if_neg (ht i p (Nat.lt_succ_self i) hp), ih (by omega) t fun j o hj => ht j o (by omega)]

/-- The temporaries that an operation looks at. -/
def looks (ops : List Oper) (o : Oper) : List Nat := opTmps o ++ (match o.guard with | some (j, _) => ((ops[j]?).bind (·.dst)).toList | none => [])

/-- The temporaries in the machine. -/
structure Tmps (ρ : Val) (ops : List Oper) (fr : Fr) (V : Nat → AV) (a0 : Act) (S : Nat → Prop) (ι : Inj) (a : Act) : Prop where
  size : a.tmps.size = fr.size
  defers : a.defers = a0.defers
  vals : ∀ (j : Nat) (o : Oper) (d : Nat), S j → ops[j]? = some o → o.dst = some d → ∃ x, a.tmps[d]? = some x ∧ VRel ρ ι (V j) x
  others : ∀ (d : Nat), (∀ (j : Nat) (o : Oper), S j → ops[j]? = some o → o.dst ≠ some d) → a.tmps[d]? = a0.tmps[d]?

theorem Tmps.le {a0 a : Act} {S : Nat → Prop} {ι ι' : Inj} (h : Tmps ρ ops fr V a0 S ι a) (hι : ι.le ι') : Tmps ρ ops fr V a0 S ι' a :=
  ⟨h.size, h.defers, fun j o d hj ho hd => let ⟨x, h1, h2⟩ := h.vals j o d hj ho hd; ⟨x, h1, h2.le hι⟩, h.others⟩

/-- What the operation looks at, as it is in the machine. -/
theorem env_rel (T : Txt C sf ops fr D V) (ok : OkDraw ops) {S : Nat → Prop} (F : Facts C ρ ops D V S) {a0 a : Act} {ι0 ι : Inj} (hT : Tmps ρ ops fr V a0 S ι a) (hE0 : EnvRel ρ ι0 (D 0).env a0.tmps) (hle : ι0.le ι)
    (hb0 : Below ι0 (D 0).s.nx) {i : Nat} {o : Oper} (ho : ops[i]? = some o) (hpre : ∀ j, Nat.testBit (preds ops i) j = true → S j) (hSi : ¬ S i) (hclosed : ∀ j k, S j → Nat.testBit (preds ops j) k = true → S k) : EnvRel ρ (cut ι (D i).s.nx) (restr (D i).env (looks ops o)) a.tmps := by
  have hin : i < ops.length := (List.getElem?_eq_some_iff.1 ho).1
  intro t v hv
  rw [restr_get] at hv
  split at hv
  case isFalse => cases hv
  rename_i ht
  -- who writes it comes before, or behind
  have hw : ∀ (j : Nat) (p : Oper), ops[j]? = some p → p.dst = some t → Nat.testBit (preds ops i) j = true ∨ Nat.testBit (preds ops j) i = true := by
    intro j p hp hd
    rcases List.mem_append.1 ht with h1 | h1
    · exact ok.tmps i o ho t h1 j p hp hd
    · cases hg : o.guard with
      | none => rw [hg] at h1; cases h1
      | some q =>
        obtain ⟨g, b⟩ := q
        rw [hg] at h1
        dsimp only at h1
        have hgb := ok.guard i o g b ho hg
        cases hog : ops[g]? with
        | none => rw [hog] at h1; simp at h1
        | some og =>
          rw [hog] at h1
          simp at h1
          have := ok.dsts j g p og t hp hog hd h1
          subst this; exact .inl hgb
  by_cases hex : ∃ (j : Nat) (p : Oper), ops[j]? = some p ∧ p.dst = some t
  · obtain ⟨j, p, hp, hd⟩ := hex
    rcases hw j p hp hd with hbit | hbit
    · have hlt := ok.lt i j hbit
      rw [T.env_dst ok (by omega) j p t hlt hp hd] at hv
      cases hv
      obtain ⟨x, h1, h2⟩ := hT.vals j p t (hpre j hbit) hp hd
      exact ⟨x, h1, ((F.val j (hpre j hbit)).mono (T.nx_le (by omega) (by omega))).cut h2⟩
    · have hlt := ok.lt j i hbit
      have hnot : ∀ (k : Nat) (q : Oper), ops[k]? = some q → q.dst = some t → k = j := fun k q hq hdq => ok.dsts k j q p t hq hp hdq hd
      rw [T.env_old (by omega) t fun k q hk hq hdq => by have := hnot k q hq hdq; omega] at hv
      obtain ⟨x, h1, h2⟩ := hE0 t v hv
      have hoth : a.tmps[t]? = a0.tmps[t]? := hT.others t fun k q hk hq hdq => by
        have := hnot k q hq hdq
        subst this
        exact hSi (hclosed k i hk hbit)
      refine ⟨x, by rw [hoth]; exact h1, ?_⟩
      · have hc : Clo ρ (D 0).s.nx v := ⟨ι0, x, hb0, h2⟩
        exact (hc.mono (T.nx_le (Nat.zero_le i) (by omega))).cut (h2.le hle)
  · have hnone : ∀ (j : Nat) (p : Oper), ops[j]? = some p → p.dst ≠ some t := fun j p hp hd => hex ⟨j, p, hp, hd⟩
    rw [T.env_old (by omega) t fun j p _ hp => hnone j p hp] at hv
    obtain ⟨x, h1, h2⟩ := hE0 t v hv
    refine ⟨x, by rw [hT.others t fun j p _ hp => hnone j p hp]; exact h1, ?_⟩
    have hc : Clo ρ (D 0).s.nx v := ⟨ι0, x, hb0, h2⟩
    exact (hc.mono (T.nx_le (Nat.zero_le i) (by omega))).cut (h2.le hle)

/-- The cut environment serves as well. -/
theorem same_restr {o : Oper} (e : Env) : SameEv C e (restr e (looks ops o)) o.op.operands.toList := by
  intro x hx
  cases x with
  | tmp t =>
    simp only [ev]
    rw [restr_get, if_pos]
    refine List.mem_append_left _ (List.mem_filterMap.2 ⟨.tmp t, hx, rfl⟩)
  | _ => rfl
theorem want_restr {o : Oper} (e : Env) : wantA ops (restr e (looks ops o)) o = wantA ops e o := by
  unfold wantA
  cases hg : o.guard with
  | none => rfl
  | some p =>
    obtain ⟨j, want⟩ := p
    dsimp only
    rw [nth_eq]
    cases hj : ops[j]? with
    | none => rfl
    | some g =>
      cases hd : g.dst with
      | none => simp [hd]
      | some d =>
        have : (restr e (looks ops o)).get d = e.get d := by
          rw [restr_get, if_pos]
          refine List.mem_append_right _ ?_
          rw [hg]
          dsimp only
          rw [hj]
          simp [hd]
        simp [hd, this]
theorem runA_restr {o : Oper} {e : Env} {s : St} : runA C sf (restr e (looks ops o)) s o = runA C sf e s o := by
  unfold runA
  rw [← opA_env (same_restr e)]

/-- One more has been done. -/
theorem Tmps.step {a0 a : Act} {S : Nat → Prop} {ι ι' : Inj} (h : Tmps ρ ops fr V a0 S ι a) (hle : ι.le ι') (T : Txt C sf ops fr D V) (ok : OkDraw ops) {i : Nat} {o : Oper} (ho : ops[i]? = some o) {x : Value} (hx : VRel ρ ι' (V i) x) :
    Tmps ρ ops fr V a0 (fun j => S j ∨ j = i) ι' (a.put o.dst x) := by
  have hput := (T.did i o ho).put
  have hlt : ∀ d, o.dst = some d → d < a.tmps.size := by
    intro d hd
    rw [hd] at hput
    simp only [putA] at hput
    cases hb : Nat.blt d fr.size with
    | false => rw [hb] at hput; cases hput
    | true => rw [h.size]; simpa [Nat.blt_eq] using hb
  have hget : ∀ d, o.dst ≠ some d → (a.put o.dst x).tmps[d]? = a.tmps[d]? := by
    intro d hd
    cases hod : o.dst with
    | none => rfl
    | some d' =>
      have : d' ≠ d := fun e => hd (by rw [hod, e])
      simp [Act.put, Array.getElem?_setIfInBounds_ne this]
  refine ⟨?_, ?_, fun j p d hj hp hd => ?_, fun d hd => ?_⟩
  · cases o.dst <;> simp [Act.put, h.size]
  · cases o.dst <;> simp [Act.put, h.defers]
  · by_cases hji : j = i
    · subst hji
      rw [ho] at hp; cases hp
      refine ⟨x, ?_, hx⟩
      rw [hd]
      simp [Act.put, hlt d hd]
    · have hSj : S j := hj.resolve_right hji
      obtain ⟨y, h1, h2⟩ := h.vals j p d hSj hp hd
      refine ⟨y, ?_, h2.le hle⟩
      rw [hget d fun e => hji (ok.dsts j i p o d hp ho hd e)]
      exact h1
  · rw [hget d (hd i o (.inr rfl) ho)]
    exact h.others d fun j p hj => hd j p (.inl hj)
end
end Go.Ev
