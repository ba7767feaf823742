/-
  A part of a verified evaluator of the model's code, or of its use at this seat; see the text YtkibpfkengpimaaGreatDoorEvCard.
-/
import Derived.Test.YtkibpfkengpimaaGreatDoorEvOp
import Derived.RangeFuncNested
import Derived.Sort.LoopGhostIn
namespace Go.Ev

/-- The fence of a frame: wide, in a round or in none. -/
def FR (ro : Option Nat) : Fence := { fn := fun _ => True, depth := none, alive := false, round := ro }
def RoundRel (ι : Inj) (ro around : Option Nat) : Prop :=
  match around, ro with
  | none, none => True
  | some la, some l => ∃ g, ι la = some g ∧ g.blk = l
  | _, _ => False
theorem RoundRel.le {ι ι' : Inj} (h : ι.le ι') {ro around : Option Nat} (hr : RoundRel ι ro around) : RoundRel ι' ro around := by
  unfold RoundRel at *
  split <;> split at hr <;> simp_all
  obtain ⟨g, h1, h2⟩ := hr
  exact ⟨g, h _ _ h1, h2⟩

/-- The mark of a range over a function among an activation's deferred calls. -/
def mark (r : Nat) : Deferred := { target := .collected r, args := #[] }
structure MarksOk (ι : Inj) (w : World) (lo : Nat) (ms : List Nat) : Prop where
  nodup : ms.Nodup
  all : ∀ r ∈ ms, lo ≤ r ∧ r < w.heap.size ∧ w.heap[r]? = some (.deferred (some [])) ∧ ∀ b g, ι b = some g → g.blk ≠ r
theorem MarksOk.nil (ι : Inj) (w : World) (lo : Nat) : MarksOk ι w lo [] := ⟨List.nodup_nil, by simp⟩

section
variable {P : Program} {C : Ctx} {ρ : Val}

theorem MarksOk.keep {s s' : St} {ι ι' : Inj} {w w' : World} {lo : Nat} {ms : List Nat} (K : Keep s ι w s' ι' w') (h : MarksOk ι w lo ms) : MarksOk ι' w' lo ms := by
  refine ⟨h.nodup, fun r hr => ?_⟩
  obtain ⟨h1, h2, h3, h4⟩ := h.all r hr
  refine ⟨h1, Nat.lt_of_lt_of_le h2 K.size, ?_, fun b g hg => ?_⟩
  · rw [K.kept r h2 fun b k g _ _ hg => h4 b g hg]; exact h3
  · rcases Nat.lt_or_ge b s.nx with hb | hb
    · rw [K.old b hb] at hg; exact h4 b g hg
    · rcases K.new b g hb hg with h5 | ⟨b0, g0, _, h6, h7⟩
      · intro e; omega
      · rw [← h7]; exact h4 b0 g0 h6
theorem MarksOk.append {ι : Inj} {w : World} {lo mid : Nat} {ms ms' : List Nat} (h : MarksOk ι w lo ms) (hlt : ∀ r ∈ ms, r < mid) (h' : MarksOk ι w mid ms') (hle : lo ≤ mid) : MarksOk ι w lo (ms' ++ ms) := by
  refine ⟨?_, fun r hr => ?_⟩
  · rw [List.nodup_append]
    refine ⟨h'.nodup, h.nodup, fun a ha b hb => ?_⟩
    have h1 := (h'.all a ha).1
    have h2 := hlt b hb
    omega
  · rcases List.mem_append.1 hr with hr | hr
    · obtain ⟨h1, h2⟩ := h'.all r hr
      exact ⟨Nat.le_trans hle h1, h2⟩
    · exact h.all r hr

/-- What a piece of an activation's code has done. -/
structure Ran (ρ : Val) (s : St) (ι : Inj) (w : World) (ds : List Deferred) (fr : Fr) (env' : Env) (s' : St) (ι' : Inj) (ms : List Nat) (a' : Act) (w' : World) : Prop where
  rel : HRel ρ ι' s' w'
  env : EnvRel ρ ι' env' a'.tmps
  size : a'.tmps.size = fr.size
  keep : Keep s ι w s' ι' w'
  defers : a'.defers = ms.map mark ++ ds
  marks : MarksOk ι' w' w.heap.size ms

theorem Ran.trans {s s1 s2 : St} {ι ι1 ι2 : Inj} {w w1 w2 : World} {ds : List Deferred} {fr : Fr} {env1 env2 : Env} {ms1 ms2 : List Nat} {a1 a2 : Act}
    (h : Ran ρ s ι w ds fr env1 s1 ι1 ms1 a1 w1) (h' : Ran ρ s1 ι1 w1 a1.defers fr env2 s2 ι2 ms2 a2 w2) : Ran ρ s ι w ds fr env2 s2 ι2 (ms2 ++ ms1) a2 w2 where
  rel := h'.rel
  env := h'.env
  size := h'.size
  keep := h.keep.trans h'.keep
  defers := by rw [h'.defers, h.defers, List.map_append, List.append_assoc]
  marks := (h.marks.keep h'.keep).append (fun r hr => (h.marks.all r hr).2.1) h'.marks h.keep.size

def toExit : Ex → Exit
  | .normal => .normal
  | .ret => .ret
  | .exit id => .exit id

def CPost (ρ : Val) (s : St) (ι : Inj) (w : World) (ds : List Deferred) (fr : Fr) (ex : Ex) (env' : Env) (s' : St) (e : Exit) (a' : Act) (w' : World) : Prop :=
  e = toExit ex ∧ ∃ ι' ms, Ran ρ s ι w ds fr env' s' ι' ms a' w'

/-- A piece of code does what was reckoned. -/
def SCode (P : Program) (C : Ctx) (ρ : Val) (self : Self) : Prop :=
  ∀ c env fr s ex env' s', self.code c env fr s = some (ex, env', s') → okC c = true → ∀ ro n a w ι, HRel ρ ι s w → EnvRel ρ ι env a.tmps → a.tmps.size = fr.size → Globs C ι → RoundRel ι ro fr.around →
    c.wpIn (FR ro) n P (CPost ρ s ι w a.defers fr ex env' s') a w

def Back (ρ : Val) (s : St) (ι : Inj) (w : World) (v : AV) (s' : St) (e : Ending) (w' : World) : Prop :=
  ∃ v' ι', e = .returned v' ∧ VRel ρ ι' v v' ∧ HRel ρ ι' s' w' ∧ Keep s ι w s' ι' w'

/-- A call, from where it is made. -/
def CallOut (P : Program) (n : Nat) (w : World) (f' : Value) (args' : Array Value) (R : Ending → World → Prop) : Prop :=
  (∃ g first captured, f' = .func (.func g) first captured ∧ (∀ xs w, (callFunc g xs).run P w = .ok (.enter g xs) w) ∧ CallsIn Fence.wide n P g (first ++ args' ++ captured) w R) ∨
  (∃ l first captured fn tmps assign body, f' = .func (.yield l) first captured ∧ (Instr.yield l (first ++ args')).run P w = .ok (.round l fn tmps assign body) w ∧ RoundIn Fence.wide n P l fn tmps assign body w R)
def SCall (P : Program) (C : Ctx) (ρ : Val) (self : Self) : Prop :=
  ∀ f args s v s', self.call f args s = some (v, s') → ∀ n w ι f' args', HRel ρ ι s w → VRel ρ ι f f' → VRels ρ ι args args'.toList → Globs C ι → CallOut P n w f' args' (Back ρ s ι w v s')

/-! ### temporaries -/
theorem put_rel {ι : Inj} {env env' : Env} {a : Act} {size : Nat} {dst : Option Nat} {v : AV} {v' : Value} (h : putA size env dst v = some env') (hE : EnvRel ρ ι env a.tmps) (hs : a.tmps.size = size) (hv : VRel ρ ι v v') :
    EnvRel ρ ι env' (a.put dst v').tmps ∧ (a.put dst v').tmps.size = size ∧ (a.put dst v').defers = a.defers := by
  cases dst with
  | none => simp only [putA, Option.some.injEq] at h; subst h; exact ⟨hE, hs, rfl⟩
  | some d =>
    simp only [putA] at h
    cases hb : Nat.blt d size with
    | false => simp [hb] at h
    | true =>
      simp only [hb, cond_true, Option.some.injEq] at h
      subst h
      have hlt : d < a.tmps.size := by rw [hs]; simpa [Nat.blt_eq] using hb
      refine ⟨fun t x hx => ?_, by simp [Act.put, hs], rfl⟩
      by_cases ht : d = t
      · subst ht
        rw [Tr.get_put_same] at hx
        cases hx
        exact ⟨v', by simp [Act.put, hlt], hv⟩
      · rw [Tr.get_put_other _ _ ht] at hx
        obtain ⟨x', h1, h2⟩ := hE t x hx
        exact ⟨x', by simp [Act.put, Array.getElem?_setIfInBounds_ne ht, h1], h2⟩

theorem wantA_rel {ι : Inj} {ops : Array Oper} {env : Env} {a : Act} (hE : EnvRel ρ ι env a.tmps) {o : Oper} {b : Bool} (h : wantA ops.toList env o = some b) : Region.wanted o (yielded ops a.tmps) = b := by
  unfold wantA at h
  unfold Region.wanted
  split at h
  · rename_i hg; rw [hg]; cases h; rfl
  · rename_i j want hg
    rw [hg]
    simp only [Option.bind_eq_bind, Option.bind_eq_some_iff] at h
    obtain ⟨g, hg1, d, hd, h⟩ := h
    rw [nth_eq] at hg1
    have hg2 : ops[j]? = some g := by simpa using hg1
    have hy : yielded ops a.tmps j = match a.tmps[d]? with | some (.bool b) => some b | _ => none := by
      unfold yielded
      rw [hg2]
      simp only [Option.bind_some, hd]
      rfl
    split at h
    · rename_i b0 hb0
      cases h
      obtain ⟨v', h1, h2⟩ := hE _ _ hb0
      cases h2
      simp [hy, h1]
    · rename_i v hnb hv
      cases h
      obtain ⟨v', h1, h2⟩ := hE _ _ hv
      simp only [hy, h1]
      cases h2 <;> first | rfl | exact absurd rfl (hnb _)
    · cases h

/-! ### one operation -/
theorem about_wide (ro : Option Nat) (o : Oper) (a : Act) (w : World) : ∀ f, o.about P w a.eval = some f → (FR ro).fn f := fun _ _ => trivial

theorem runA_wp (T : TabOk P C) (hρ : Short ρ) {self : Self} (hS : SCall P C ρ self) {ι : Inj} {s s' : St} {w : World} {env : Env} {a : Act} {o : Oper} {v : AV} (h : runA C self env s o = some (v, s')) (H : HRel ρ ι s w) (hE : EnvRel ρ ι env a.tmps)
    (hg : Globs C ι) {ro : Option Nat} {n : Nat} {next : Act → World → Prop} {Q : Exit → Act → World → Prop} (hn : ∀ v' w' ι', VRel ρ ι' v v' → HRel ρ ι' s' w' → Keep s ι w s' ι' w' → next (a.put o.dst v') w') :
    o.wpIn (FR ro) n P a w next Q := by
  refine ⟨about_wide ro o a w, ?_⟩
  unfold runA at h
  split at h
  · rename_i v0 s0 hop
    cases h
    obtain ⟨hnd, hv⟩ := opA_rel T hρ H hg hE hop
    rw [Oper.semAt_eq _ _ _ hnd]
    rcases hv with hv | ⟨f, args, he, _⟩
    · obtain ⟨v', w', ι', h1, h2, h3, h4⟩ := hv
      rw [h1, Oper.uponIn_value]
      exact hn v' w' ι' h2 h3 h4
    · cases he
  · rename_i s0 hop
    cases h
    obtain ⟨hnd, hv⟩ := opA_rel T hρ H hg hE hop
    rw [Oper.semAt_eq _ _ _ hnd]
    rcases hv with hv | ⟨f, args, he, _⟩
    · obtain ⟨w', ι', h1, h3, h4⟩ := hv
      rw [h1, Oper.uponIn_skip]
      exact hn undef w' ι' (.tuple .nil) h3 h4
    · cases he
  · rename_i f args hop
    obtain ⟨hnd, hv⟩ := opA_rel T hρ H hg hE hop
    rw [Oper.semAt_eq _ _ _ hnd]
    rcases hv with hv | ⟨f', args', he, hc⟩
    · exact hv.elim
    · cases he
      obtain ⟨c, x, ho, hcal, hx, hargs⟩ := hc.is
      have hfv := ev_rel hE hg hx
      have hav : VRels ρ ι args (c.args.map a.eval).toList := by rw [Array.toList_map]; exact evs_rel hE hg hargs
      have hback : ∀ (m : Nat), CallOut P m w (a.eval x) (c.args.map a.eval) (Back ρ s ι w v s') := fun m => hS f args s v s' h m w ι _ _ H hfv hav hg
      simp only [execOp, ho, resolve, hcal]
      rcases hback (n - 1) with ⟨g, first, captured, h1, h2, h3⟩ | ⟨l, first, captured, fn, tmps, assign, body, h1, h2, h3⟩
      · rw [h1]
        simp only [Deferred.ofValue, Sem.run_bind, Sem.run_pure, Result.andThen_ok, invoke, h2]
        rw [Oper.uponIn_enter]
        refine ⟨fun hd => (by cases hd), ?_⟩
        have : CallsIn (FR ro) (n - 1) P g (first ++ c.args.map a.eval ++ captured) w (Back ρ s ι w v s') := h3
        refine this.mono ?_
        rintro e w' ⟨v', ι', rfl, q1, q2, q3⟩
        exact hn v' w' ι' q1 q2 q3
      · rw [h1]
        simp only [Deferred.ofValue, Sem.run_bind, Sem.run_pure, Result.andThen_ok, invoke, h2]
        rw [Oper.uponIn_round]
        refine ⟨fun hd => (by cases hd), ?_⟩
        have : RoundIn (FR ro) (n - 1) P l fn tmps assign body w (Back ρ s ι w v s') := h3
        refine this.mono ?_
        rintro e w' ⟨v', ι', rfl, q1, q2, q3⟩
        exact hn v' w' ι' q1 q2 q3
  · cases h

/-! ### a region in the text's order -/
theorem opsA_wp (T : TabOk P C) (hρ : Short ρ) {self : Self} (hS : SCall P C ρ self) {ops : Array Oper} {fr : Fr} {ro : Option Nat} {n : Nat} {Q : Exit → Act → World → Prop} : ∀ (rest : List Oper) (i : Nat) (env env' : Env) (s s' : St),
    opsA C self ops.toList fr rest env s = some (env', s') → ops.toList.drop i = rest → ∀ (a : Act) (w : World) (ι : Inj), HRel ρ ι s w → EnvRel ρ ι env a.tmps → a.tmps.size = fr.size → Globs C ι →
      (∀ a' w' ι', HRel ρ ι' s' w' → EnvRel ρ ι' env' a'.tmps → a'.tmps.size = fr.size → a'.defers = a.defers → Keep s ι w s' ι' w' → Q .normal a' w') →
      wpOpsIn (FR ro) n P ops Q (List.range' i rest.length) a w := by
  intro rest
  induction rest with
  | nil =>
    intro i env env' s s' h hd a w ι H hE hs hg hQ
    simp only [opsA, Option.some.injEq, Prod.mk.injEq] at h
    obtain ⟨rfl, rfl⟩ := h
    exact hQ a w ι H hE hs rfl (.refl _ _ _ H.fresh)
  | cons o rest ih =>
    intro i env env' s s' h hd a w ι H hE hs hg hQ
    have hi : ops[i]? = some o := by
      have : ops.toList[i]? = some o := by
        have h1 : (ops.toList.drop i)[0]? = some o := by rw [hd]; rfl
        rw [List.getElem?_drop] at h1
        simpa using h1
      simpa using this
    have hd2 : ops.toList.drop (i + 1) = rest := by
      have : (ops.toList.drop i).drop 1 = rest := by rw [hd]; rfl
      rwa [List.drop_drop] at this
    simp only [List.length_cons, List.range'_succ, wpOpsIn, hi]
    simp only [opsA] at h
    split at h
    · rename_i hw
      rw [wantA_rel hE hw]
      simp only [if_true]
      split at h
      · rename_i v s1 hrun
        split at h
        · rename_i env1 hput
          refine runA_wp T hρ hS hrun H hE hg ?_
          intro v' w' ι' hv H' K
          obtain ⟨p1, p2, p3⟩ := put_rel (a := a) hput (hE.le K.le) hs hv
          exact ih (i + 1) _ _ _ _ h hd2 _ _ _ H' p1 p2 (hg.le K.le) fun a' w2 ι2 q1 q2 q3 q4 q5 => hQ a' w2 ι2 q1 q2 q3 (q4.trans p3) (K.trans q5)
        · cases h
      · cases h
    · rename_i hw
      rw [wantA_rel hE hw]
      simp only [Bool.false_eq_true, if_false]
      split at h
      · rename_i env1 hput
        refine ⟨about_wide ro o a w, ?_⟩
        obtain ⟨p1, p2, p3⟩ := put_rel (a := a) (v' := undef) hput hE hs (.tuple .nil)
        exact ih (i + 1) _ _ _ _ h hd2 _ _ _ H p1 p2 hg fun a' w2 ι2 q1 q2 q3 q4 q5 => hQ a' w2 ι2 q1 q2 q3 (q4.trans p3) q5
      · cases h
    · cases h
end
end Go.Ev
