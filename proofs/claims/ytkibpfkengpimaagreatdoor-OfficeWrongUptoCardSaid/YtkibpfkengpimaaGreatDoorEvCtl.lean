/-
  A part of a verified evaluator of the model's code, or of its use at this seat; see the text YtkibpfkengpimaaGreatDoorEvCard.
-/
import Derived.Test.YtkibpfkengpimaaGreatDoorEvRun
namespace Go.Ev

section
variable {P : Program} {C : Ctx} {ρ : Val}

/-- What is asked of regions whose order is open. -/
def SDraw (P : Program) (C : Ctx) (ρ : Val) (self : Self) : Prop :=
  ∀ (ops : Array Oper) env fr s ex env' s', regionDrawA C self ops.toList env fr s = some (ex, env', s') → okDraw ops.toList = true → ∀ id ro n a w ι, HRel ρ ι s w → EnvRel ρ ι env a.tmps → a.tmps.size = fr.size → Globs C ι →
    (Code.region id ops true).wpIn (FR ro) n P (CPost ρ s ι w a.defers fr ex env' s') a w
/-- What is told of calls holds. -/
def ToldOk (P : Program) (C : Ctx) (ρ : Val) : Prop :=
  ∀ g args s v s', C.told g args s = some (some (v, s')) → (∀ xs w, (callFunc g xs).run P w = .ok (.enter g xs) w) ∧
    ∀ w ι args', HRel ρ ι s w → VRels ρ ι args args'.toList → Globs C ι → CallsIn Fence.wide 0 P g args' w (Back ρ s ι w v s')

theorem callsIn_any {n m : Nat} {f : FuncId} {args : Array Value} {w : World} {R : Ending → World → Prop} (h : CallsIn Fence.wide n P f args w R) : CallsIn Fence.wide m P f args w R := callsIn_wide.2 (callsIn_wide.1 h)

/-! ### memory that nobody sees -/
theorem HRel.sameHeap {s : St} {ι : Inj} {w w' : World} (H : HRel ρ ι s w) (h : w'.heap = w.heap) : HRel ρ ι s w' where
  blk := fun b k hb => let ⟨g, h1, h2⟩ := H.blk b k hb; ⟨g, h1, h2.next (.refl ι) (by rw [h])⟩
  sep := H.sep
  grp := H.grp
  fresh := H.fresh
  tgt := fun b g hg => by rw [h]; exact H.tgt b g hg
theorem Keep.sameHeap {s : St} {ι : Inj} {w w' : World} (H : HRel ρ ι s w) (h : w'.heap = w.heap) (hio : w'.os = w.os ∧ w'.output = w.output := by exact ⟨rfl, rfl⟩) : Keep s ι w s ι w' :=
  ⟨.refl ι, by rw [h]; exact Nat.le_refl _, rfl, Nat.le_refl _, fun _ _ => rfl, fun _ _ _ => by rw [h], fun b k g hb hk hg _ => ⟨b, k, g, hb, hk, hg, rfl⟩, fun b g hb hg => (by rw [H.fresh b hb] at hg; cases hg), fun _ _ h => h, fun _ l _ h => ⟨l, h, fun _ h => h⟩, hio⟩
theorem HRel.allocOther {s : St} {ι : Inj} {w : World} (H : HRel ρ ι s w) (o : Obj) : HRel ρ ι s (w.alloc o) ∧ Keep s ι w s ι (w.alloc o) := by
  have e : (w.alloc o).heap = w.heap.push o := rfl
  refine ⟨⟨fun b k hb => ?_, H.sep, H.grp, H.fresh, fun b g hg => ?_⟩, ⟨.refl ι, by rw [e]; simp, rfl, Nat.le_refl _, fun _ _ => rfl, fun B hB _ => by rw [e, push_old _ _ hB], fun b k g hb hk hg _ => ⟨b, k, g, hb, hk, hg, rfl⟩, fun b g hb hg => (by rw [H.fresh b hb] at hg; cases hg), fun _ _ h => h, fun _ l _ h => ⟨l, h, fun _ h => h⟩, ⟨rfl, rfl⟩⟩⟩
  · obtain ⟨g, h1, h2⟩ := H.blk b k hb
    exact ⟨g, h1, h2.next (.refl ι) (by rw [e, push_old _ _ (H.tgt _ _ h1)])⟩
  · rw [e]; have := H.tgt b g hg; simp; omega
theorem HRel.putOther {s : St} {ι : Inj} {w : World} (H : HRel ρ ι s w) {r : Nat} (o : Obj) (hr : ∀ b g, ι b = some g → g.blk ≠ r) : HRel ρ ι s (w.putObj r o) := by
  refine ⟨fun b k hb => ?_, H.sep, H.grp, H.fresh, fun b g hg => ?_⟩
  · obtain ⟨g, h1, h2⟩ := H.blk b k hb
    exact ⟨g, h1, h2.next (.refl ι) (World.putObj_heap_other (hr b g h1))⟩
  · rw [World.putObj_size]; exact H.tgt b g hg
theorem Keep.putOther {s s' : St} {ι ι' : Inj} {w w' : World} (K : Keep s ι w s' ι' w') {r : Nat} (o : Obj) (hr : w.heap.size ≤ r) : Keep s ι w s' ι' (w'.putObj r o) where
  le := K.le
  size := by rw [World.putObj_size]; exact K.size
  lo := K.lo
  nx := K.nx
  old := K.old
  kept := fun B hB hn => by rw [World.putObj_heap_other (by omega)]; exact K.kept B hB hn
  writes := K.writes
  new := K.new
  dead := K.dead
  grps := K.grps
  io := K.io

/-! ### leaving a function -/
theorem resultA_rel (T : TabOk P C) {s : St} {ι : Inj} {w : World} {env : Env} {tmps : Array Value} (H : HRel ρ ι s w) (hE : EnvRel ρ ι env tmps) {x : ResultVar} {v : AV} (h : resultA C env s x = some v) :
    ∃ v', (match x with
      | .tmp t => pure (tmps.getD t undef)
      | .cell a t => do loadVar t (← asAddr (tmps.getD a undef)) : Sem Value).run P w = .ok v' w ∧ VRel ρ ι v v' := by
  cases x with
  | tmp t =>
    obtain ⟨v', h1, h2⟩ := hE t v h
    exact ⟨v', by simp [Array.getD_eq_getD_getElem?, h1], h2⟩
  | cell p t =>
    simp only [resultA] at h
    cases hp : env.get p with
    | none => rw [hp] at h; simp [loadA] at h
    | some pv =>
      rw [hp] at h
      obtain ⟨p', h1, h2⟩ := hE p pv hp
      obtain ⟨v', h3, h4⟩ := loadA_rel (P := P) T H h h2
      refine ⟨v', ?_, h4⟩
      have hg : tmps.getD p undef = p' := by simp [Array.getD_eq_getD_getElem?, h1]
      simp only [hg]
      unfold loadA at h
      split at h
      · rename_i hq _
        cases hq
        cases h2 with
        | ptr o hgg =>
          simp only [Instr.loadAt, Instr.sureAddr, Sem.run_bind, Sem.run_pure, Result.andThen_ok] at h3
          simp only [asAddr, Sem.run_bind, Sem.run_pure, Result.andThen_ok]
          exact h3
      · cases h

theorem resultsA_rel (T : TabOk P C) {s : St} {ι : Inj} {w : World} {env : Env} {tmps : Array Value} (H : HRel ρ ι s w) (hE : EnvRel ρ ι env tmps) : ∀ {l : List ResultVar} {vs : List AV}, resultsA C env s l = some vs →
    ∃ vs', (l.mapM fun x : ResultVar => (match x with
      | .tmp t => pure (tmps.getD t undef)
      | .cell a t => do loadVar t (← asAddr (tmps.getD a undef)) : Sem Value)).run P w = .ok vs' w ∧ VRels ρ ι vs vs' := by
  intro l
  induction l with
  | nil => intro vs h; simp only [resultsA, Option.some.injEq] at h; subst h; exact ⟨[], rfl, .nil⟩
  | cons x l ih =>
    intro vs h
    simp only [resultsA] at h
    split at h
    · rename_i v r hv hr
      cases h
      obtain ⟨v', h1, h2⟩ := resultA_rel T H hE hv
      obtain ⟨vs', h3, h4⟩ := ih hr
      refine ⟨v' :: vs', ?_, .cons h2 h4⟩
      rw [List.mapM_cons]
      simp only [Sem.run_bind, h1, h3, Result.andThen_ok, Sem.run_pure]
    · cases h

theorem results_rel (T : TabOk P C) {s : St} {ι : Inj} {w : World} {env : Env} {tmps : Array Value} (H : HRel ρ ι s w) (hE : EnvRel ρ ι env tmps) {fn : Func} {vs : List AV} (h : resultsA C env s fn.results.toList = some vs) :
    ∃ v', (results fn tmps).run P w = .ok v' w ∧ VRel ρ ι (oneOrTuple vs) v' := by
  obtain ⟨vs', h1, h2⟩ := resultsA_rel (P := P) T H hE h
  have hm : (fn.results.mapM fun x : ResultVar => (match x with
      | .tmp t => pure (tmps.getD t undef)
      | .cell a t => do loadVar t (← asAddr (tmps.getD a undef)) : Sem Value)).run P w = .ok vs'.toArray w := by
    rw [show fn.results = fn.results.toList.toArray from by simp, List.mapM_toArray]
    simp only [map_eq_pure_bind, Sem.run_bind]
    rw [h1]
    rfl
  have hres : (results fn tmps).run P w = .ok (if h : vs'.toArray.size = 1 then vs'.toArray[0] else .tuple vs'.toArray) w := by
    unfold results
    rw [Sem.run_bind]
    refine (congrArg (fun r => Result.andThen r _) hm).trans ?_
    rfl
  refine ⟨_, hres, ?_⟩
  cases h2 with
  | nil => exact .tuple .nil
  | @cons v0 v0' r0 r0' hv0 hs0 =>
    cases hs0 with
    | nil => exact hv0
    | @cons v1 v1' r1 r1' hv1 hs1 =>
      have : ¬ ((v0' :: v1' :: r1').toArray.size = 1) := by simp
      rw [dif_neg this]
      exact .tuple (.cons hv0 (.cons hv1 hs1))

theorem leaves_marks {F : Fence} {n : Nat} {fn : Func} {tmps : Array Value} {R : Ending → World → Prop} {s s' : St} {ι ι' : Inj} {w : World} :
    ∀ (ms : List Nat) (w' : World), HRel ρ ι' s' w' → Keep s ι w s' ι' w' → MarksOk ι' w' w.heap.size ms →
      (∀ w'', HRel ρ ι' s' w'' → Keep s ι w s' ι' w'' → ∃ v, (results fn tmps).run P w'' = .ok v w'' ∧ R (.returned v) w'') → LeavesInM F n P fn tmps R (ms.map mark) .returning w' := by
  intro ms
  induction ms with
  | nil => intro w' H K _ hR; exact hR w' H K
  | cons r ms ih =>
    intro w' H K hM hR
    obtain ⟨h1, h2, h3, h4⟩ := hM.all r (by simp)
    refine ⟨by simp, .inl ⟨r, w'.putObj r (.deferred none), rfl, run_takeDeferred h3, ?_⟩⟩
    refine ih _ (H.putOther _ h4) (K.putOther _ h1) ⟨(List.nodup_cons.1 hM.nodup).2, fun r' hr' => ?_⟩ hR
    obtain ⟨q1, q2, q3, q4⟩ := hM.all r' (by simp [hr'])
    have hne : r' ≠ r := fun e => (List.nodup_cons.1 hM.nodup).1 (e ▸ hr')
    exact ⟨q1, by rw [World.putObj_size]; exact q2, by rw [World.putObj_heap_other hne]; exact q3, q4⟩

theorem setArgs_get : ∀ (args : List AV) (i : Nat) (env : Env) (t : Nat), (setArgs i args env).get t = if i ≤ t ∧ t < i + args.length then args[t - i]? else env.get t := by
  intro args
  induction args with
  | nil => intro i env t; simp only [setArgs, List.length_nil]; rw [if_neg (by omega)]
  | cons v args ih =>
    intro i env t
    simp only [setArgs, ih, List.length_cons]
    by_cases h1 : i + 1 ≤ t ∧ t < i + 1 + args.length
    · rw [if_pos h1, if_pos (by omega)]
      rw [show t - i = (t - (i + 1)) + 1 from by omega]
      simp
    · rw [if_neg h1]
      by_cases h2 : i = t
      · subst h2; rw [Tr.get_put_same, if_pos (by omega)]; simp
      · rw [Tr.get_put_other _ _ h2, if_neg (by omega)]

theorem enter_rel {ι : Inj} {args : List AV} {args' : Array Value} (h : VRels ρ ι args args'.toList) (n : Nat) : EnvRel ρ ι (setArgs 0 args .nil) (args' ++ Array.replicate n undef) := by
  intro t v hv
  rw [setArgs_get] at hv
  split at hv
  · rename_i ht
    rw [Nat.sub_zero] at hv
    obtain ⟨v', h1, h2⟩ := h.get hv
    have h3 : args'[t]? = some v' := by simpa using h1
    refine ⟨v', ?_, h2⟩
    rw [Array.getElem?_append_left (Array.getElem?_eq_some_iff.1 h3).1]; exact h3
  · simp at hv

theorem run_enter {f : FuncId} {fn : Func} {c : Code} (hf : P.funcs[f]? = some fn) (hname : fn.name ≠ "runtime.NumGoroutine") (hb : fn.body = some c) (xs : Array Value) (w : World) : (callFunc f xs).run P w = .ok (.enter f xs) w := by
  simp [callFunc, hf, hname, hb]

/-! ### rounds -/
theorem setParams_rel {ι : Inj} {size : Nat} : ∀ {ps : List Nat} {vs : List AV} {env env' : Env} {vs' : List Value} {tmps : Array Value}, setParams size ps vs env = some env' → VRels ρ ι vs vs' → EnvRel ρ ι env tmps → tmps.size = size →
    ps.length = vs'.length ∧ EnvRel ρ ι env' ((ps.zip vs').foldl (fun tmps (t, a) => tmps.setIfInBounds t a) tmps) ∧ ((ps.zip vs').foldl (fun tmps (t, a) => tmps.setIfInBounds t a) tmps).size = size := by
  intro ps
  induction ps with
  | nil =>
    intro vs env env' vs' tmps h hv hE hs
    cases vs with
    | nil => simp only [setParams, Option.some.injEq] at h; subst h; cases hv; exact ⟨rfl, hE, hs⟩
    | cons => cases h
  | cons p ps ih =>
    intro vs env env' vs' tmps h hv hE hs
    cases vs with
    | nil => cases h
    | cons v vs =>
      cases hv with
      | cons hv hvs =>
        simp only [setParams] at h
        cases hb : Nat.blt p size with
        | false => simp [hb] at h
        | true =>
          simp only [hb, cond_true] at h
          obtain ⟨p1, p2, p3⟩ := put_rel (a := { tmps := tmps, defers := [] }) (dst := some p) (size := size) (env' := env.put p (some v)) (by simp [putA, hb]) hE hs hv
          obtain ⟨q1, q2, q3⟩ := ih h hvs p1 p2
          exact ⟨by simp [q1], q2, q3⟩

theorem zip_foldl (ps : Array Tmp) (args : Array Value) (tmps : Array Value) : (ps.zip args).foldl (fun tmps (t, a) => tmps.setIfInBounds t a) tmps = (ps.toList.zip args.toList).foldl (fun tmps (t, a) => tmps.setIfInBounds t a) tmps := by
  rw [← Array.foldl_toList, Array.toList_zip]

theorem setLoop_rel {s s' : St} {ι : Inj} {w : World} (H : HRel ρ ι s w) {l : Nat} {r : LoopB} {st : LoopState} {pe : Option Code} {g : Tgt} (hl : s.heap.get l = some (.loop r)) (hg : ι l = some g) (h : s.setObj l (.loop { r with state := st, pending := pe }) = some s') :
    ∃ r', w.heap[g.blk]? = some (.loop r') ∧ r'.state = r.state ∧ r'.pending = r.pending ∧ HRel ρ ι s' (w.putObj g.blk (.loop { r' with state := st, pending := pe })) ∧ Keep s ι w s' ι (w.putObj g.blk (.loop { r' with state := st, pending := pe })) := by
  obtain ⟨g', hg', hk⟩ := H.blk _ _ hl
  rw [hg] at hg'; cases hg'
  cases hk with
  | @loop _ r' hh hst hp hsz henv hps ha hb hok =>
    have hlt := H.tgt _ _ hg
    obtain ⟨q1, q2⟩ := H.setObj hl rfl rfl h hg (w' := w.putObj g.blk (.loop { r' with state := st, pending := pe })) (World.putObj_size) (fun B hB => World.putObj_heap_other hB)
      (.loop (World.putObj_heap_same hlt) rfl rfl hsz henv hps ha hb hok)
    exact ⟨r', hh, hst, hp, q1, q2⟩

theorem yield_wp {self : Self} (hC : SCode P C ρ self) {l : Nat} {args : List AV} {s s' : St} {v : AV} (h : yieldA self l args s = some (v, s')) {n : Nat} {w : World} {ι : Inj} {g : Tgt} {args' : Array Value} (H : HRel ρ ι s w) (hl : ι l = some g) (ha : VRels ρ ι args args'.toList)
    (hg : Globs C ι) : ∃ fn tmps assign body, (Instr.yield g.blk args').run P w = .ok (.round g.blk fn tmps assign body) w ∧ RoundIn Fence.wide n P g.blk fn tmps assign body w (Back ρ s ι w v s') := by
  unfold yieldA at h
  split at h
  case h_2 => cases h
  rename_i r hr
  split at h
  case h_2 => cases h
  rename_i env1 henv1
  obtain ⟨g', hg', hk⟩ := H.blk _ _ hr
  rw [hl] at hg'; cases hg'
  cases hk with
  | @loop _ r' hh hst hp hsz henv hps hass hbody hok =>
  obtain ⟨p1, p2, p3⟩ := setParams_rel henv1 ha henv hsz
  have hy := run_yield (P := P) (args := args') hh (by rw [← Array.length_toList, ← Array.length_toList, hps]; exact p1.symm)
  refine ⟨_, _, _, _, hy, ?_⟩
  refine roundIn_of_wpIn trivial ?_
  unfold roundA at h
  split at h
  case h_2 => cases h
  rename_i e1 s1 hassign
  split at h
  case h_2 => cases h
  rename_i s2 hbegin
  split at h
  case h_2 => cases h
  rename_i ex e3 s3 hbodyrun
  have hFR : Fence.wide.inRound g.blk = FR (some g.blk) := rfl
  rw [hFR, hass]
  have w1 := hC _ _ _ _ _ _ _ hassign hok.1 (some g.blk) n { tmps := (r'.params.zip args').foldl (fun tmps (t, a) => tmps.setIfInBounds t a) r'.tmps, defers := [] } w ι H (by rw [zip_foldl, hps]; exact p2) (by rw [zip_foldl, hps]; exact p3) hg ⟨g, hl, rfl⟩
  refine wpIn_mono w1 ?_
  rintro e a1 w1 ⟨rfl, ι1, ms1, R1⟩
  show ∃ w₂, _
  unfold beginRoundA at hbegin
  split at hbegin
  case h_2 => cases hbegin
  rename_i r2 hr2
  split at hbegin
  case h_2 => cases hbegin
  rename_i hready
  have hl1 := R1.keep.le _ _ hl
  obtain ⟨r2', b1, b2, b3, b4, b5⟩ := setLoop_rel R1.rel hr2 hl1 hbegin
  refine ⟨_, run_beginRound b1 (b2.trans hready), ?_⟩
  rw [hbody]
  have b6 : ({ r2' with state := .busy } : Loop) = { r2' with state := .busy, pending := r2.pending } := by rw [← b3]
  rw [b6]
  have w2 := hC _ _ _ _ _ _ _ hbodyrun hok.2 (some g.blk) n a1 _ ι1 b4 R1.env R1.size (hg.le R1.keep.le) ⟨g, hl1, rfl⟩
  refine wpIn_mono w2 ?_
  rintro e a3 w3 ⟨rfl, ι3, ms3, R3⟩
  have hl3 := R3.keep.le _ _ hl1
  unfold endRoundA at h
  split at h
  case h_2 => cases h
  rename_i r3 hr3
  have fin : ∀ (st : LoopState) (pe : Option Code) (b : Bool) (s4 : St), s3.setObj l (.loop { r3 with state := st, pending := pe }) = some s4 → some (AV.bool b, s4) = some (v, s') → (if pe.isNone then LoopState.ready else .done) = st → pe.isNone = b →
      ∃ v' w', (Instr.endRound g.blk pe).run P w3 = .ok v' w' ∧ Back ρ s ι w v s' (.returned v') w' := by
    intro st pe b s4 hset hv hst2 hb
    cases hv
    obtain ⟨r3', c1, c2, c3, c4, c5⟩ := setLoop_rel R3.rel hr3 hl3 hset
    refine ⟨_, _, run_endRound pe c1, ?_⟩
    rw [hst2, hb]
    exact ⟨_, ι3, rfl, .bool b, c4, (R1.keep.trans b5).trans (R3.keep.trans c5)⟩
  cases ex with
  | normal =>
    simp only [pendingOf] at h
    split at h
    · rename_i s4 hset
      exact fin .ready none true s4 hset h rfl rfl
    · cases h
  | ret =>
    simp only [pendingOf] at h
    split at h
    · rename_i s4 hset
      exact fin .done (some .ret) false s4 hset h rfl rfl
    · cases h
  | exit id =>
    simp only [pendingOf] at h
    split at h
    · rename_i s4 hset
      exact fin .done (some (.exit id)) false s4 hset h rfl rfl
    · cases h

theorem Ran.refl {s : St} {ι : Inj} {w : World} {fr : Fr} {env : Env} {a : Act} (H : HRel ρ ι s w) (hE : EnvRel ρ ι env a.tmps) (hs : a.tmps.size = fr.size) : Ran ρ s ι w a.defers fr env s ι [] a w :=
  ⟨H, hE, hs, .refl _ _ _ H.fresh, rfl, .nil _ _ _⟩

theorem CPost.of {s : St} {ι : Inj} {w : World} {ds : List Deferred} {fr : Fr} {ex : Ex} {env' : Env} {s' : St} {ι' : Inj} {ms : List Nat} {a' : Act} {w' : World} (h : Ran ρ s ι w ds fr env' s' ι' ms a' w') : CPost ρ s ι w ds fr ex env' s' (toExit ex) a' w' := ⟨rfl, ι', ms, h⟩

/-! ### code -/
theorem rangeFunc_wp {self : Self} (hS : SCall P C ρ self) {f : Operand} {ps : Array Tmp} {assign body : Code} {env env' : Env} {fr : Fr} {s s' : St} {ex : Ex} (h : rangeFuncA self (ev C env f) ps.toList assign body env fr s = some (ex, env', s'))
    (hok : okC assign = true ∧ okC body = true) {ro : Option Nat} {n : Nat} {a : Act} {w : World} {ι : Inj} (H : HRel ρ ι s w) (hE : EnvRel ρ ι env a.tmps) (hs : a.tmps.size = fr.size) (hg : Globs C ι) (hro : RoundRel ι ro fr.around) :
    (Code.rangeFunc f ps assign body).wpIn (FR ro) n P (CPost ρ s ι w a.defers fr ex env' s') a w := by
  unfold rangeFuncA at h
  split at h
  case h_2 => cases h
  rename_i gi x y hf
  cases har : aroundOk fr.around s with
  | false => simp [har] at h
  | true =>
  simp only [har, cond_true] at h
  split at h
  · cases h
  · rename_i v2 s2 hcall
    have hfv := ev_rel (a := a) hE hg hf
    refine wpIn_rangeFunc ?_
    intro fn _
    -- the record, and what is laid with it
    have lay : ∃ (l : Nat) (ml : List Nat) (w0 w1 : World) (rec : Loop), (Instr.enterLoop fn a.tmps ps assign body (FR ro).round).run P w = .ok (l, ml.map mark) w1 ∧ HRel ρ ι s w0 ∧ Keep s ι w s ι w0 ∧ l = w0.heap.size ∧ w1 = w0.alloc (.loop rec) ∧
        rec.state = .ready ∧ rec.pending = none ∧ rec.tmps = a.tmps ∧ rec.params = ps ∧ rec.assign = assign ∧ rec.body = body ∧ MarksOk ι w0 w.heap.size ml := by
      cases ro with
      | none =>
        obtain ⟨h1, h2⟩ := H.allocOther (.deferred (some []))
        refine ⟨_, [w.heap.size], w.alloc (.deferred (some [])), _, _, run_enterLoop_outer fn a.tmps ps assign body, h1, h2, by simp, rfl, rfl, rfl, rfl, rfl, rfl, rfl, ⟨by simp, ?_⟩⟩
        intro r hr
        have : r = w.heap.size := by simpa using hr
        subst this
        refine ⟨Nat.le_refl _, by simp, World.alloc_heap_new w _, fun b g hb => ?_⟩
        have := H.tgt b g hb
        omega
      | some l0 =>
        cases hfa : fr.around with
        | none => rw [hfa] at hro; exact hro.elim
        | some la =>
          rw [hfa] at hro har
          obtain ⟨g0, hg0, rfl⟩ := hro
          unfold aroundOk at har
          simp only at har
          split at har
          · rename_i r0 hr0
            obtain ⟨g1, hg1, hk⟩ := H.blk _ _ hr0
            rw [hg0] at hg1; cases hg1
            cases hk with
            | loop hh =>
              exact ⟨_, [], w, _, _, run_enterLoop_inner hh fn a.tmps ps assign body, H, .refl _ _ _ H.fresh, rfl, rfl, rfl, rfl, rfl, rfl, rfl, rfl, .nil _ _ _⟩
          · cases har
    obtain ⟨l, ml, w0, w1, rec, he, H0, K0, rfl, rfl, e1, e2, e3, e4, e5, e6, M0⟩ := lay
    obtain ⟨H1, K1⟩ := H0.newObj (k := .loop { state := .ready, pending := none, size := fr.size, env := env, params := ps.toList, assign := assign, body := body }) rfl (o := .loop rec) (w' := w0.alloc (.loop rec)) rfl
      { blk := w0.heap.size, base := 0, room := 0, esz := 0, row := false, grp := 0, pos := 0 } rfl
      (.loop (World.alloc_heap_new w0 _) e1 e2 (by rw [e3]; exact hs) (by rw [e3]; exact hE.le (Inj.le_add (H0.fresh _ (Nat.le_refl _)))) (by rw [e4]) e5 e6 hok)
    have hnew := Inj.add_same ι s.nx { blk := w0.heap.size, base := 0, room := 0, esz := 0, row := false, grp := 0, pos := 0 }
    have hout := hS _ _ _ _ _ hcall (n - 1) (w0.alloc (.loop rec)) _ (a.eval f) #[.func (.yield w0.heap.size) #[] #[]] H1 (hfv.le K1.le) (.cons (.func (.yield hnew) .nil .nil) .nil) (hg.le K1.le)
    rcases hout with ⟨g, first, captured, h1, h2, h3⟩ | ⟨l2, first, captured, fn2, tmps2, as2, bd2, h1, _⟩
    · refine ⟨w0.heap.size, ml.map mark, w0.alloc (.loop rec), { target := .fn (.func g) captured, args := first ++ #[.func (.yield w0.heap.size) #[] #[]] }, w0.alloc (.loop rec), g, first ++ #[.func (.yield w0.heap.size) #[] #[]] ++ captured, w0.alloc (.loop rec), he, ?_, fun _ _ => trivial, ?_, fun hd => (by cases hd), ?_⟩
      · simp only [resolve, h1, Deferred.ofValue, Sem.run_pure]
        have : #[Operand.const (Value.func (Fn.yield w0.heap.size) #[] #[])].map a.eval = #[Value.func (Fn.yield w0.heap.size) #[] #[]] := by simp [Act.eval]
        rw [this]
      · simp only [invoke]
        exact h2 _ _
      · have h3' : CallsIn (FR ro) (n - 1) P g (first ++ #[.func (.yield w0.heap.size) #[] #[]] ++ captured) (w0.alloc (.loop rec)) (Back ρ (s.newObj (.loop { state := .ready, pending := none, size := fr.size, env := env, params := ps.toList, assign := assign, body := body })) _ (w0.alloc (.loop rec)) v2 s2) := h3
        refine h3'.mono ?_
        rintro e w3 ⟨v', ι3, rfl, _, H3, K3⟩
        unfold endRangeA at h
        split at h
        case h_2 => cases h
        rename_i r3 hr3
        split at h
        · cases h
        · cases h
        rename_i s3 hset hbusy
        have hl3 := K3.le _ _ hnew
        obtain ⟨r3', c1, c2, c3, c4, c5⟩ := setLoop_rel (pe := r3.pending) H3 hr3 hl3 hset
        have hnb : r3'.state ≠ .busy := by rw [c2]; exact hbusy
        have hend := run_endLoop (P := P) c1 hnb
        have c6 : ({ r3' with state := .exhausted } : Loop) = { r3' with state := .exhausted, pending := r3.pending } := by rw [← c3]
        rw [c6] at hend
        generalize hW : w3.putObj w0.heap.size (.loop { r3' with state := .exhausted, pending := r3.pending }) = W4 at c4 c5 hend
        refine ⟨_, _, hend, ?_⟩
        have Kall : Keep s ι w s3 ι3 W4 := (K0.trans K1).trans (K3.trans c5)
        have Mall : MarksOk ι3 W4 w.heap.size ml := ((M0.keep K1).keep K3).keep c5
        have R : Ran ρ s ι w a.defers fr env s3 ι3 ml { a with defers := ml.map mark ++ a.defers } W4 :=
          ⟨c4, hE.le Kall.le, hs, Kall, rfl, Mall⟩
        rw [c3]
        split at h
        · rename_i hpe
          cases h
          rw [hpe]
          exact CPost.of R
        · rename_i c hpe
          rw [hpe]
          split at h
          · rename_i e0 hj
            cases h
            unfold jumpOf at hj
            split at hj
            · cases hj; exact wpIn_ret (CPost.of R)
            · cases hj; exact wpIn_exit (CPost.of R)
            · cases hj
          · cases h
    · exfalso
      cases hv : a.eval f <;> rw [hv] at hfv <;> cases hfv
      rename_i hfr _ _
      rw [hv] at h1
      cases h1
      cases hfr

theorem sound (T : TabOk P C) (hρ : Short ρ) (hT : ToldOk P C ρ) (hD : ∀ self, SCall P C ρ self → SDraw P C ρ self) : ∀ n, SCode P C ρ (selfOf C n) ∧ SCall P C ρ (selfOf C n) := by
  intro n
  induction n using Nat.strongRecOn with
  | _ n ih =>
  cases n with
  | zero => exact ⟨fun c env fr s ex env' s' h => (by cases h), fun f args s v s' h => (by cases h)⟩
  | succ n =>
  obtain ⟨hC, hS⟩ := ih n (Nat.lt_succ_self n)
  refine ⟨?_, ?_⟩
  · intro c env fr s ex env' s' h hok ro m a w ι H hE hs hg hro
    have h0 := h
    simp only [selfOf] at h
    unfold codeA at h
    split at h
    · cases h; exact wpIn_skip (CPost.of (Ran.refl H hE hs))
    · cases h; exact wpIn_ret (CPost.of (Ran.refl H hE hs))
    · cases h; exact wpIn_exit (CPost.of (Ran.refl H hE hs))
    · rename_i id ops draw
      cases draw with
      | true =>
        simp only [cond_true] at h
        exact hD _ hS ops env fr s ex env' s' h (by simpa [okC] using hok) id ro m a w ι H hE hs hg
      | false =>
        simp only [cond_false] at h
        unfold regionA at h
        split at h
        · rename_i env1 s1 hops
          cases h
          refine wpIn_region ?_
          have hr : List.range ops.size = List.range' 0 ops.toList.length := by rw [List.range_eq_range']; simp
          rw [hr]
          exact opsA_wp T hρ hS ops.toList 0 _ _ _ _ hops rfl a w ι H hE hs hg fun a' w' ι' q1 q2 q3 q4 q5 => CPost.of (ex := .normal) (ms := []) ⟨q1, q2, q3, q5, q4, .nil _ _ _⟩
        · cases h
    · rename_i x y
      simp only [okC, Bool.and_eq_true] at hok
      refine wpIn_seq ?_
      unfold seqA at h
      split at h
      · rename_i env1 s1 h1
        refine wpIn_mono (hC _ _ _ _ _ _ _ h1 hok.1 ro m a w ι H hE hs hg hro) ?_
        rintro e a1 w1 ⟨rfl, ι1, ms1, R1⟩
        refine wpIn_mono (hC _ _ _ _ _ _ _ h hok.2 ro m a1 w1 ι1 R1.rel R1.env R1.size (hg.le R1.keep.le) (hro.le R1.keep.le)) ?_
        rintro e a2 w2 ⟨rfl, ι2, ms2, R2⟩
        exact CPost.of (R1.trans R2)
      · rename_i hne
        refine wpIn_mono (hC _ _ _ _ _ _ _ h hok.1 ro m a w ι H hE hs hg hro) ?_
        rintro e a1 w1 ⟨rfl, ι1, ms1, R1⟩
        cases ex with
        | normal => exact absurd h (hne _ _)
        | ret => exact CPost.of R1
        | exit id => exact CPost.of R1
    · rename_i x y z
      simp only [okC, Bool.and_eq_true] at hok
      unfold condA at h
      split at h
      · rename_i hx
        have := ev_rel (a := a) hE hg hx
        refine wpIn_cond_true (c := x) ?_ (hC _ _ _ _ _ _ _ h hok.1 ro m a w ι H hE hs hg hro)
        cases hv : a.eval x <;> rw [hv] at this <;> cases this
        rfl
      · rename_i hx
        have := ev_rel (a := a) hE hg hx
        refine wpIn_cond_false (c := x) ?_ (hC _ _ _ _ _ _ _ h hok.2 ro m a w ι H hE hs hg hro)
        cases hv : a.eval x <;> rw [hv] at this <;> cases this
        rfl
      · cases h
    · rename_i id b
      simp only [okC] at hok
      refine wpIn_block ?_
      unfold blockA at h
      split at h
      · rename_i i env1 s1 h1
        refine wpIn_mono (hC _ _ _ _ _ _ _ h1 hok ro m a w ι H hE hs hg hro) ?_
        rintro e a1 w1 ⟨rfl, ι1, ms1, R1⟩
        cases hb : Nat.beq i id with
        | true =>
          simp only [hb, cond_true, Option.some.injEq, Prod.mk.injEq] at h
          obtain ⟨rfl, rfl, rfl⟩ := h
          have := Nat.eq_of_beq_eq_true hb
          show Exit.inBlock id _ (.exit i) a1 w1
          simp only [Exit.inBlock, this, if_true]
          exact CPost.of (ex := .normal) R1
        | false =>
          simp only [hb, cond_false, Option.some.injEq, Prod.mk.injEq] at h
          obtain ⟨rfl, rfl, rfl⟩ := h
          have : i ≠ id := fun e => by rw [e, Nat.beq_refl] at hb; cases hb
          show Exit.inBlock id _ (.exit i) a1 w1
          simp only [Exit.inBlock, this, if_false]
          exact CPost.of (ex := .exit i) R1
      · rename_i hne
        refine wpIn_mono (hC _ _ _ _ _ _ _ h hok ro m a w ι H hE hs hg hro) ?_
        rintro e a1 w1 ⟨rfl, ι1, ms1, R1⟩
        cases ex with
        | normal => exact CPost.of R1
        | ret => exact CPost.of R1
        | exit i => exact absurd h (hne _ _ _)
    · rename_i b
      simp only [okC] at hok
      refine wpIn_loop_ghost (fun k a1 w1 => k ≤ n + 1 ∧ ∃ env1 s1 ι1 ms1, Ran ρ s ι w a.defers fr env1 s1 ι1 ms1 a1 w1 ∧ (selfOf C k).code (.loop b) env1 fr s1 = some (ex, env', s')) (n + 1) ⟨Nat.le_refl _, env, s, ι, [], Ran.refl H hE hs, h0⟩ ?_
      rintro k a1 w1 ⟨hk, env1, s1, ι1, ms1, R1, hrun⟩
      cases k with
      | zero => cases hrun
      | succ k =>
      have hCk := (ih k (by omega)).1
      simp only [selfOf, codeA] at hrun
      unfold seqA at hrun
      split at hrun
      · rename_i env2 s2 h2
        refine wpIn_mono (hCk _ _ _ _ _ _ _ h2 hok ro m a1 w1 ι1 R1.rel R1.env R1.size (hg.le R1.keep.le) (hro.le R1.keep.le)) ?_
        rintro e a2 w2 ⟨rfl, ι2, ms2, R2⟩
        exact ⟨k, Nat.lt_succ_self k, by omega, env2, s2, ι2, ms2 ++ ms1, R1.trans R2, hrun⟩
      · rename_i hne
        refine wpIn_mono (hCk _ _ _ _ _ _ _ hrun hok ro m a1 w1 ι1 R1.rel R1.env R1.size (hg.le R1.keep.le) (hro.le R1.keep.le)) ?_
        rintro e a2 w2 ⟨rfl, ι2, ms2, R2⟩
        cases ex with
        | normal => exact absurd hrun (hne _ _)
        | ret => exact CPost.of (R1.trans R2)
        | exit id => exact CPost.of (R1.trans R2)
    · rename_i f ps as bd
      simp only [okC, Bool.and_eq_true] at hok
      exact rangeFunc_wp hS h hok H hE hs hg hro
    · cases h
  · intro f args s v s' h m w ι f' args' H hf ha hg
    simp only [selfOf] at h
    unfold callA at h
    split at h
    · rename_i g first captured
      cases hf with
      | @func _ _ _ _ first' captured' hfn h1 h2 =>
        cases hfn
        left
        have hall : VRels ρ ι (first ++ args ++ captured) (first' ++ args' ++ captured').toList := by
          simp only [Array.toList_append]
          exact (h1.append ha).append h2
        unfold funA at h
        split at h
        · rename_i r hr
          subst h
          obtain ⟨q1, q2⟩ := hT _ _ _ _ _ hr
          exact ⟨g, first', captured', rfl, q1, callsIn_any (q2 w ι _ H hall hg)⟩
        · split at h
          · cases h
          · rename_i fn hfn
            obtain ⟨t1, t2, t3⟩ := T.funcs _ _ hfn
            unfold enterA at h
            split at h
            · cases h
            · rename_i c hc
              refine ⟨g, first', captured', rfl, fun xs w => run_enter t1 t2 hc xs w, ?_⟩
              have hlen : (first' ++ args' ++ captured').size = (first ++ args ++ captured).length := by
                rw [← Array.length_toList, hall.length]
              refine callsIn_of_wp_marks t1 hc trivial ?_
              unfold leaveA at h
              have fin : ∀ (ex : Ex) (env : Env) (s1 : St), (selfOf C n).code c (setArgs 0 (first ++ args ++ captured) .nil) { size := (first ++ args ++ captured).length + (fn.ntmps - (first ++ args ++ captured).length), around := none } s = some (ex, env, s1) →
                  (ex = .normal ∨ ex = .ret) → withSt (match resultsA C env s1 fn.results.toList with | some vs => some (oneOrTuple vs) | none => none) s1 = some (v, s') →
                  c.wpIn Fence.wide m P (bodyPostM Fence.wide m P fn (Back ρ s ι w v s')) { tmps := (first' ++ args' ++ captured') ++ Array.replicate (fn.ntmps - (first' ++ args' ++ captured').size) undef, defers := [] } w := by
                intro ex env s1 hrun hex hres
                obtain ⟨hr1, rfl⟩ := withSt_some hres
                split at hr1
                · rename_i vs hvs
                  cases hr1
                  refine wpIn_mono (hC _ _ _ _ _ _ _ hrun (t3 _ hc) none m _ w ι H (enter_rel hall _) (by rw [Array.size_append, hlen, Array.size_replicate]) hg trivial) ?_
                  rintro e a1 w1 ⟨rfl, ι1, ms1, R1⟩
                  have hd : a1.defers = ms1.map mark := by rw [R1.defers]; simp
                  have key : LeavesInM Fence.wide m P fn a1.tmps (Back ρ s ι w (oneOrTuple vs) s') a1.defers .returning w1 := by
                    rw [hd]
                    refine leaves_marks (ρ := ρ) (s := s) (s' := s') (ι := ι) (ι' := ι1) ms1 w1 R1.rel R1.keep R1.marks ?_
                    intro w2 H2 K2
                    obtain ⟨v', q1, q2⟩ := results_rel (P := P) T H2 R1.env hvs
                    exact ⟨v', q1, v', ι1, rfl, q2, H2, K2⟩
                  rcases hex with rfl | rfl
                  · exact key
                  · exact key
                · cases hr1
              split at h
              · rename_i env s1 hrun
                exact fin _ _ _ hrun (.inl rfl) h
              · rename_i env s1 hrun
                exact fin _ _ _ hrun (.inr rfl) h
              · cases h
    · rename_i l first captured
      cases hf with
      | @func _ _ _ _ first' captured' hfn h1 h2 =>
        cases hfn with
        | @yield _ g hg' =>
          right
          have hall : VRels ρ ι (first ++ args) (first' ++ args').toList := by
            simp only [Array.toList_append]
            exact h1.append ha
          obtain ⟨fn, tmps, as, bd, q1, q2⟩ := yield_wp (n := m) hC h H hg' hall hg
          exact ⟨g.blk, first', captured', fn, tmps, as, bd, rfl, q1, q2⟩
    · cases h
end
end Go.Ev
