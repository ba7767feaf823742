/-
  A part of a verified evaluator of the model's code, or of its use at this seat; see the text YtkibpfkengpimaaGreatDoorEvCard.
-/
import Derived.Test.YtkibpfkengpimaaGreatDoorEvCtl
import Derived.OrdersIn
noncomputable section
namespace Go.Ev

/-! ### environments cut down -/
def restr (e : Env) : List Nat → Env
  | [] => .nil
  | t :: r => (restr e r).put t (e.get t)
theorem restr_get (e : Env) : ∀ (ts : List Nat) (t : Nat), (restr e ts).get t = if t ∈ ts then e.get t else none := by
  intro ts
  induction ts with
  | nil => intro t; simp [restr]
  | cons x ts ih =>
    intro t
    simp only [restr]
    by_cases h : x = t
    · subst h; rw [Tr.get_put_same]; simp
    · rw [Tr.get_put_other _ _ h, ih]
      have : t ≠ x := fun e => h e.symm
      simp [this]

section
variable {C : Ctx}
def SameEv (C : Ctx) (e e' : Env) (l : List Operand) : Prop := ∀ x ∈ l, ev C e x = ev C e' x
theorem evs_same {e e' : Env} : ∀ {l : List Operand}, SameEv C e e' l → evs C e l = evs C e' l := by
  intro l
  induction l with
  | nil => intro _; rfl
  | cons x l ih => intro h; simp only [evs]; rw [h x (by simp), ih fun y hy => h y (by simp [hy])]
theorem evParts_same {e e' : Env} : ∀ {l : List (Nat × Operand)}, SameEv C e e' (l.map (·.2)) → evParts C e l = evParts C e' l := by
  intro l
  induction l with
  | nil => intro _; rfl
  | cons x l ih => intro h; obtain ⟨i, x⟩ := x; simp only [evParts]; rw [h x (by simp), ih fun y hy => h y (by simp at hy ⊢; exact .inr hy)]
theorem evO_same {e e' : Env} {x : Option Operand} (h : ∀ y, x = some y → ev C e y = ev C e' y) : evO C e x = evO C e' x := by
  cases x with
  | none => rfl
  | some y => simp only [evO]; rw [h y rfl]

theorem opA_env {e e' : Env} {s : St} {o : Oper} (h : SameEv C e e' o.op.operands.toList) : opA C e s o = opA C e' s o := by
  unfold opA
  cases ho : o.op <;> rw [ho] at h <;> try rfl
  case move x => dsimp only; rw [h x (by simp [Op.operands])]
  case assign x => dsimp only; rw [h x (by simp [Op.operands])]
  case pick c x y => dsimp only [pickA]; rw [h c (by simp [Op.operands]), h x (by simp [Op.operands]), h y (by simp [Op.operands])]
  case box t x => dsimp only; rw [h x (by simp [Op.operands])]
  case build t ps => dsimp only; rw [evParts_same (fun x hx => h x (by simpa [Op.operands] using hx))]
  case buildSlice t n ps => dsimp only; rw [evParts_same (fun x hx => h x (by simpa [Op.operands] using hx))]
  case load t x => dsimp only; rw [h x (by simp [Op.operands])]
  case store t x y => dsimp only; rw [h x (by simp [Op.operands]), h y (by simp [Op.operands])]
  case nilCheck x => dsimp only; rw [h x (by simp [Op.operands])]
  case binOp op t x y yt => dsimp only; rw [h x (by simp [Op.operands]), h y (by simp [Op.operands])]
  case unOp op t x => dsimp only; rw [h x (by simp [Op.operands])]
  case convert a b x => dsimp only; rw [h x (by simp [Op.operands])]
  case makeInterface t x => dsimp only; rw [h x (by simp [Op.operands])]
  case makeFunc fn xs ys =>
    dsimp only
    rw [evs_same (l := xs.toList) (fun x hx => h x (by simp [Op.operands]; left; simpa using hx)), evs_same (l := ys.toList) (fun x hx => h x (by simp [Op.operands]; right; simpa using hx))]
  case makeMap t r => dsimp only; rw [evO_same (fun y hy => h y (by subst hy; simp [Op.operands]))]
  case makeSlice t x y => dsimp only; rw [h x (by simp [Op.operands]), h y (by simp [Op.operands])]
  case slice t x lo hi mx =>
    dsimp only
    rw [h x (by simp [Op.operands]), evO_same (x := lo) (fun y hy => h y (by subst hy; simp [Op.operands])), evO_same (x := hi) (fun y hy => h y (by subst hy; simp [Op.operands])), evO_same (x := mx) (fun y hy => h y (by subst hy; simp [Op.operands]))]
  case fieldAddr t x f => dsimp only; rw [h x (by simp [Op.operands])]
  case field t x f => dsimp only; rw [h x (by simp [Op.operands])]
  case indexAddr t x y => dsimp only; rw [h x (by simp [Op.operands]), h y (by simp [Op.operands])]
  case index t x y => dsimp only; rw [h x (by simp [Op.operands]), h y (by simp [Op.operands])]
  case lookup t x y ok => dsimp only; rw [h x (by simp [Op.operands]), h y (by simp [Op.operands])]
  case mapUpdate t x y z => dsimp only; rw [h x (by simp [Op.operands]), h y (by simp [Op.operands]), h z (by simp [Op.operands])]
  case insert t x y z => dsimp only; rw [h x (by simp [Op.operands]), h y (by simp [Op.operands]), h z (by simp [Op.operands])]
  case mapEntry t x y => dsimp only; rw [h x (by simp [Op.operands]), h y (by simp [Op.operands])]
  case entryStore t x y z => dsimp only; rw [h x (by simp [Op.operands]), h y (by simp [Op.operands]), h z (by simp [Op.operands])]
  case range t x => dsimp only; rw [h x (by simp [Op.operands])]
  case next x b =>
    cases b with
    | false => rfl
    | true => dsimp only; rw [h x (by simp [Op.operands])]
  case typeAssert x a b ok => dsimp only; rw [h x (by simp [Op.operands])]
  case extract x i => dsimp only; rw [h x (by simp [Op.operands])]
  case call c =>
    dsimp only [callOp]
    rw [evs_same (l := c.args.toList) (fun x hx => h x (by simp [Op.operands, Call.operands]; right; simpa using hx))]
    obtain ⟨cl, as, ts⟩ := c
    cases cl with
    | value f =>
      have := h f (by simp [Op.operands, Call.operands])
      cases evs C e' as.toList with
      | none => rfl
      | some vs => dsimp only; rw [this]
    | builtin b => cases evs C e' as.toList <;> rfl
    | invoke r n => cases evs C e' as.toList <;> rfl

/-! ### what an operation looks at -/
theorem oneVal_eq {v : Option AV} {s : St} {nx : Nx} (h : oneVal v s = some nx) : ∃ x, v = some x ∧ nx = .val x s ∧ ∀ s2, oneVal v s2 = some (.val x s2) := by
  obtain ⟨x, rfl, rfl⟩ := oneVal_some h
  exact ⟨x, rfl, rfl, fun _ => rfl⟩

theorem sliceA_same {s s2 : St} {t : TypeId} {x : AV} {lo hi mx : Option AV} (h : ∀ b o, x = .ptr b o → arrT C t ≠ none → s2.heap.get b = s.heap.get b) : sliceA C s2 t x lo hi mx = sliceA C s t x lo hi mx := by
  unfold sliceA
  cases x with
  | ptr b o =>
    dsimp only
    cases ha : arrT C t with
    | none => rfl
    | some p =>
      have := h b o rfl (by rw [ha]; simp)
      unfold St.isVar
      rw [this]
  | _ => rfl

theorem free_any {e : Env} {s : St} {o : Oper} {nx : Nx} (hs : sortOf C o = .free) (h : opA C e s o = some nx) : ∃ v, nx = .val v s ∧ ∀ s2, opA C e s2 o = some (.val v s2) := by
  unfold sortOf at hs
  unfold opA at h ⊢
  cases ho : o.op <;> rw [ho] at hs h <;> dsimp only at hs h ⊢ <;> try (cases hs; done)
  case convert a b x =>
    obtain ⟨v, s', h1, rfl⟩ := valSt_some h
    unfold convOp at h1
    split at h1
    · rename_i xv hx
      cases hd : isSliceT C b with
      | true => rw [hd] at hs; cases hs
      | false =>
        cases hsr : isSliceT C a with
        | true => rw [hd, hsr] at hs; cases hs
        | false =>
          have key : ∀ s2, ∃ r, convA C a b xv s2 = r ∧ (∀ v s', convA C a b xv s = some (v, s') → s' = s ∧ r = some (v, s2)) := by
            intro s2
            refine ⟨_, rfl, ?_⟩
            intro v s' hv
            unfold convA at hv ⊢
            split at hv
            · rename_i d sc h2 h3
              split at hv
              · rename_i hk; cases hv; exact ⟨rfl, rfl⟩
              · rename_i hk
                split at hv
                · rename_i r hr; cases hv; exact ⟨rfl, rfl⟩
                · cases hv
              · rename_i hk; cases hv; exact ⟨rfl, rfl⟩
              · rename_i hk hk2
                exfalso
                obtain ⟨k, _, _, _, _⟩ := sc
                simp only at hk2; subst hk2
                simp [isSliceT, h3] at hsr
              · rename_i hk hk2
                exfalso
                obtain ⟨k, _, _, _, _⟩ := sc
                simp only at hk2; subst hk2
                simp [isSliceT, h3] at hsr
              · rename_i hk hk2
                exfalso
                obtain ⟨k, _, _, _, _⟩ := d
                simp only at hk; subst hk
                simp [isSliceT, h2] at hd
              · cases hv
            · cases hv
          obtain ⟨r, q1, q2⟩ := key s
          obtain ⟨rfl, _⟩ := q2 _ _ h1
          refine ⟨v, rfl, fun s2 => ?_⟩
          obtain ⟨r2, q3, q4⟩ := key s2
          have := (q4 _ _ h1).2
          rw [hx]
          show valSt (convA C a b xv s2) = _
          rw [q3, this]; rfl
    · cases h1
  case slice t x lo hi mx =>
    obtain ⟨v, h1, rfl⟩ := oneVal_some h
    refine ⟨v, rfl, fun s2 => ?_⟩
    have harr : arrT C t = none := by
      cases ha : arrT C t with
      | none => rfl
      | some p => rw [ha] at hs; cases hs
    have : sliceOp C s2 t (ev C e x) (evO C e lo) (evO C e hi) (evO C e mx) = sliceOp C s t (ev C e x) (evO C e lo) (evO C e hi) (evO C e mx) := by
      unfold sliceOp
      split
      · exact sliceA_same fun b o _ hn => absurd harr hn
      · rfl
    rw [this, h1]; rfl
  case call c =>
    obtain ⟨cl, as, ts⟩ := c
    unfold callOp at h ⊢
    cases cl with
    | value f => cases hs
    | invoke r n => cases hs
    | builtin b =>
      dsimp only at hs h ⊢
      cases ha : evs C e as.toList with
      | none => rw [ha] at h; cases h
      | some vs =>
        rw [ha] at h
        dsimp only at h ⊢
        obtain ⟨v, s', h1, rfl⟩ := valSt_some h
        cases b <;> try (cases hs; done)
        case min =>
          unfold builtinA at h1 ⊢
          cases vs with
          | nil => cases ts.toList <;> cases h1
          | cons x r =>
            dsimp only at h1 ⊢
            obtain ⟨h2, rfl⟩ := withSt_some h1
            exact ⟨v, rfl, fun s2 => by rw [h2]; rfl⟩
        case max =>
          unfold builtinA at h1 ⊢
          cases vs with
          | nil => cases ts.toList <;> cases h1
          | cons x r =>
            dsimp only at h1 ⊢
            obtain ⟨h2, rfl⟩ := withSt_some h1
            exact ⟨v, rfl, fun s2 => by rw [h2]; rfl⟩
  all_goals
    obtain ⟨x, h1, rfl, h2⟩ := oneVal_eq h
    exact ⟨x, rfl, h2⟩

theorem loadA_same {s s2 : St} {t : TypeId} {x : Option AV} (h : ∀ b o, x = some (.ptr b o) → s2.heap.get b = s.heap.get b) : loadA C s2 t x = loadA C s t x := by
  unfold loadA
  cases x with
  | none => rfl
  | some v =>
    cases v with
    | ptr b o =>
      have := h b o rfl
      cases C.types.get t with
      | none => rfl
      | some i => dsimp only; unfold St.rd; rw [this]
    | _ => rfl
theorem lookA_same {s s2 : St} {t : TypeId} {m k : AV} {ok : Bool} (h : ∀ b, m = .map b → s2.heap.get b = s.heap.get b) : lookA C t m k ok s2 = lookA C t m k ok s := by
  have : ∀ ki, lookIn ki k m s2 = lookIn ki k m s := by
    intro ki
    unfold lookIn
    split
    · rfl
    · rename_i r; rw [h r rfl]
    · rfl
  unfold lookA
  simp only [this]
theorem ilen_same {s s2 : St} {t : TypeId} {x : AV} (h : ∀ b, x = .map b → s2.heap.get b = s.heap.get b) : ilen C t x s2 = ilen C t x s := by
  unfold ilen
  split <;> try rfl
  rename_i m
  rw [h m rfl]
theorem convA_same {s s2 : St} {a b : TypeId} {x : AV} (hd : isSliceT C b = false) (h : ∀ b o n k, x = .slice b o n k → s2.heap.get b = s.heap.get b) {v : AV} {s' : St} (hv : convA C a b x s = some (v, s')) : s' = s ∧ convA C a b x s2 = some (v, s2) := by
  unfold convA at hv ⊢
  split at hv
  · rename_i d sc h2 h3
    split at hv
    · cases hv; exact ⟨rfl, rfl⟩
    · split at hv
      · cases hv; exact ⟨rfl, rfl⟩
      · cases hv
    · cases hv; exact ⟨rfl, rfl⟩
    · rename_i e hk hk2
      cases hu : isU8 C e with
      | false => rw [hu] at hv; cases hv
      | true => rw [hu] at hv; cases hv; exact ⟨rfl, rfl⟩
    · rename_i b o len k e hk hk2
      have hb := h b o len k rfl
      have hel : s2.elems 1 b o len = s.elems 1 b o len := by unfold St.elems; rw [hb]
      cases hu : isU8 C e with
      | false => rw [hu] at hv; cases hv
      | true =>
        rw [hu] at hv
        simp only [cond_true] at hv ⊢
        rw [hel]
        split at hv
        · rename_i rows hrows
          split at hv
          · rename_i l hl
            cases hv
            exact ⟨rfl, rfl⟩
          · cases hv
        · cases hv
    · rename_i e l hk hk2
      exfalso
      obtain ⟨kd, _, _, _, _⟩ := d
      simp only at hk; subst hk
      simp [isSliceT, h2] at hd
    · cases hv
  · cases hv

theorem reads_any {e : Env} {s : St} {o : Oper} {rb : Option Nat} {nx : Nx} (hs : sortOf C o = .reads) (hr : readsAt C e o = some rb) (h : opA C e s o = some nx) :
    ∃ v, nx = .val v s ∧ ∀ s2 : St, (∀ b, rb = some b → s2.heap.get b = s.heap.get b) → opA C e s2 o = some (.val v s2) := by
  unfold sortOf at hs
  unfold readsAt at hr
  unfold opA at h ⊢
  cases ho : o.op <;> rw [ho] at hs hr h <;> dsimp only at hs hr h ⊢ <;> try (cases hs; done)
  case load t x =>
    obtain ⟨v, h1, rfl⟩ := oneVal_some h
    refine ⟨v, rfl, fun s2 h2 => ?_⟩
    rw [loadA_same (s := s), h1]; rfl
    intro b o hx
    rw [hx] at hr
    cases hr
    exact h2 b rfl
  case lookup t x y ok =>
    obtain ⟨v, h1, rfl⟩ := oneVal_some h
    obtain ⟨m, k, hm, hk, h3⟩ := two_some h1
    refine ⟨v, rfl, fun s2 h2 => ?_⟩
    rw [hm, hk]
    show oneVal (lookA C t m k ok s2) s2 = _
    rw [lookA_same (s := s), h3]; rfl
    intro b hx
    subst hx
    rw [hm] at hr
    cases hr
    exact h2 b rfl
  case slice t x lo hi mx =>
    obtain ⟨v, h1, rfl⟩ := oneVal_some h
    refine ⟨v, rfl, fun s2 h2 => ?_⟩
    have : sliceOp C s2 t (ev C e x) (evO C e lo) (evO C e hi) (evO C e mx) = sliceOp C s t (ev C e x) (evO C e lo) (evO C e hi) (evO C e mx) := by
      unfold sliceOp
      split
      · rename_i xv l1 l2 l3 hx q1 q2 q3
        refine sliceA_same fun b o hb _ => ?_
        subst hb
        rw [hx] at hr
        cases hr
        exact h2 b rfl
      · rfl
    rw [this, h1]; rfl
  case convert a b x =>
    obtain ⟨v, s', h1, rfl⟩ := valSt_some h
    unfold convOp at h1
    split at h1
    · rename_i xv hx
      cases hd : isSliceT C b with
      | true => rw [hd] at hs; cases hs
      | false =>
        have hsame : ∀ s2 : St, (∀ b, rb = some b → s2.heap.get b = s.heap.get b) → ∀ b o n k, xv = .slice b o n k → s2.heap.get b = s.heap.get b := by
          intro s2 h2 b o n k hb
          subst hb
          rw [hx] at hr
          cases hr
          exact h2 b rfl
        obtain ⟨rfl, _⟩ := convA_same (s2 := s) hd (fun _ _ _ _ _ => rfl) h1
        refine ⟨v, rfl, fun s2 h2 => ?_⟩
        have := (convA_same (s2 := s2) hd (hsame s2 h2) h1).2
        rw [hx]
        show valSt (convA C a b xv s2) = _
        rw [this]; rfl
    · cases h1
  case call c =>
    obtain ⟨cl, as, ts⟩ := c
    unfold callOp at h ⊢
    cases cl with
    | value f => cases hs
    | invoke r n => cases hs
    | builtin b =>
      dsimp only at hs hr h ⊢
      cases ha : evs C e as.toList with
      | none => rw [ha] at h; cases h
      | some vs =>
        rw [ha] at h
        dsimp only at h ⊢
        obtain ⟨v, s', h1, rfl⟩ := valSt_some h
        cases b <;> try (cases hs; done)
        cases hts : ts.toList with
        | nil => rw [hts] at h1; cases h1
        | cons t tr =>
          rw [hts] at h1
          cases vs with
          | nil => cases h1
          | cons x xs =>
            cases xs with
            | cons => cases h1
            | nil =>
              have h1' : withSt (ilen C t x s) s = some (v, s') := h1
              obtain ⟨h3, rfl⟩ := withSt_some h1'
              refine ⟨v, rfl, fun s2 h2 => ?_⟩
              show valSt (withSt (ilen C t x s2) s2) = _
              rw [ilen_same (s := s'), h3]; rfl
              intro b hb
              subst hb
              cases hal : as.toList with
              | nil => rw [hal] at ha; cases ha
              | cons y ys =>
                rw [hal] at ha
                simp only [evs] at ha
                split at ha
                · rename_i v0 vs0 hv0 hvs0
                  cases ha
                  cases ys with
                  | nil =>
                    rw [hal] at hr
                    dsimp only at hr
                    rw [hv0] at hr
                    cases hr
                    exact h2 b rfl
                  | cons z zs =>
                    simp only [evs] at hvs0
                    split at hvs0
                    · cases hvs0
                    · cases hvs0
                · cases ha
end
end Go.Ev
end
