/-
  A part of a verified evaluator of the model's code, or of its use at this seat; see the text YtkibpfkengpimaaGreatDoorEvCard.
-/
import Derived.Test.YtkibpfkengpimaaGreatDoorEvDraw10
namespace Go.Ev
section
variable {P : Program} {C : Ctx} {ρ : Val} {sf : Self} {ops : List Oper} {fr : Fr} {D : Nat → Dr} {V : Nat → AV} {ι0 : Inj} {w0 : World} {a0 : Act}

/-- Where it stands when the operations of S have been done. -/
structure Inv (C : Ctx) (ρ : Val) (ops : List Oper) (fr : Fr) (D : Nat → Dr) (V : Nat → AV) (ι0 : Inj) (w0 : World) (a0 : Act) (S : Nat → Prop) (t : Nat) (ι : Inj) (s : St) (a : Act) (w : World) : Prop where
  rel : HRel ρ ι s w
  keep : Keep (D 0).s ι0 w0 s ι w
  nx : s.nx = (D ops.length).s.nx
  lo : s.lo = (D 0).s.lo
  full : ∀ x, x < s.nx → ∃ l, s.grps.get x = some l ∧ ∀ b, b < s.nx → b ∈ l
  facts : Facts C ρ ops D V S
  tmps : Tmps ρ ops fr V a0 S ι a
  bound : ∀ j, S j → j < ops.length
  closed : ∀ j k, S j → Nat.testBit (preds ops j) k = true → S k
  tle : t ≤ ops.length
  tbefore : ∀ j, j < t → IsAct C ops D j → S j
  tat : t < ops.length → IsAct C ops D t ∧ ¬ S t
  init : ∀ b, b < (D 0).s.nx → s.heap.get b = (D t).s.heap.get b
  owned : ∀ j, j < ops.length → ∀ b, (D j).s.nx ≤ b → b < (D (j + 1)).s.nx → (S j → s.heap.get b = (D (max t (j + 1))).s.heap.get b) ∧ (¬ S j → s.heap.get b = none ∧ ι b = none)

theorem Txt.owner (T : Txt C sf ops fr D V) {b : Nat} (h0 : (D 0).s.nx ≤ b) : ∀ {i : Nat}, i ≤ ops.length → b < (D i).s.nx → ∃ j, j < i ∧ (D j).s.nx ≤ b ∧ b < (D (j + 1)).s.nx := by
  intro i
  induction i with
  | zero => intro _ h; omega
  | succ i ih =>
    intro hi hb
    rcases Nat.lt_or_ge b (D i).s.nx with h | h
    · obtain ⟨j, h1, h2⟩ := ih (by omega) h
      exact ⟨j, by omega, h2⟩
    · exact ⟨i, Nat.lt_succ_self i, h, hb⟩
theorem Txt.owner_unique (T : Txt C sf ops fr D V) {b i j : Nat} (hi : i < ops.length) (hj : j < ops.length) (h1 : (D i).s.nx ≤ b) (h2 : b < (D (i + 1)).s.nx) (h3 : (D j).s.nx ≤ b) (h4 : b < (D (j + 1)).s.nx) : i = j := by
  rcases Nat.lt_trichotomy i j with h | h | h
  · have := T.nx_le (i := i + 1) (j := j) (by omega) (by omega); omega
  · exact h
  · have := T.nx_le (i := j + 1) (j := i) (by omega) (by omega); omega

/-- A block that no act between changes. -/
theorem Txt.stable (T : Txt C sf ops fr D V) {b i : Nat} (hb : b < (D i).s.nx) : ∀ {i' : Nat}, i ≤ i' → i' ≤ ops.length → (∀ j, i ≤ j → j < i' → IsAct C ops D j → (D (j + 1)).s.heap.get b = (D j).s.heap.get b) → (D i').s.heap.get b = (D i).s.heap.get b := by
  intro i'
  induction i' with
  | zero => intro h _ _; have : i = 0 := by omega
            subst this; rfl
  | succ i' ih =>
    intro h hi' hch
    rcases Nat.lt_or_ge i (i' + 1) with h1 | h1
    · have ih := ih (by omega) (by omega) fun j h2 h3 => hch j h2 (by omega)
      rw [← ih]
      by_cases ha : IsAct C ops D i'
      · exact hch i' (by omega) (Nat.lt_succ_self _) ha
      · have := T.nx_le (i := i) (j := i') (by omega) (by omega)
        exact T.lays_old (by omega) ha (by omega)
    · have : i = i' + 1 := by omega
      subst this; rfl

/-- What the memory holds behind a part's run. -/
noncomputable def merged (s s1 s2 : St) (b : Nat) : Option ABlk := match s2.heap.get b with | some k => some k | none => if (s1.heap.get b).isSome then none else s.heap.get b

theorem advance (T : Txt C sf ops fr D V) (ok : OkDraw ops) {S : Nat → Prop} {t t' : Nat} {ι ι2 : Inj} {s s1 s2 : St} {a : Act} {w w2 : World} (I : Inv C ρ ops fr D V ι0 w0 a0 S t ι s a w) {i : Nat} {o : Oper} (ho : ops[i]? = some o) (hS : ¬ S i)
    (hpre : ∀ j, Nat.testBit (preds ops i) j = true → S j) (hn1 : s1.nx = (D i).s.nx) (hn2 : s2.nx = (D (i + 1)).s.nx) (K : Keep s1 (cut ι (D i).s.nx) w s2 ι2 w2) (H2 : HRel ρ ι2 s2 w2) {x : Value} (hx : VRel ρ ι2 (V i) x)
    (hlo : (D 0).s.lo ≤ s1.lo) (hsub : ∀ b k, s1.heap.get b = some k → s.heap.get b = some k)
    (hap : ∀ x kx gx y ky gy, s.heap.get x = some kx → s1.heap.get x = none → ι x = some gx → s1.lo ≤ y → s1.heap.get y = some ky → ι y = some gy → gx.blk ≠ gy.blk)
    (hold : ∀ b k, s2.heap.get b = some k → b < s1.lo → b < (D i).s.nx)
    (tle : t' ≤ ops.length) (tbefore : ∀ j, j < t' → IsAct C ops D j → S j ∨ j = i) (tat : t' < ops.length → IsAct C ops D t' ∧ ¬ (S t' ∨ t' = i))
    (hinit : ∀ b, b < (D 0).s.nx → merged s s1 s2 b = (D t').s.heap.get b)
    (howned : ∀ j, j < ops.length → (S j ∨ j = i) → ∀ b, (D j).s.nx ≤ b → b < (D (j + 1)).s.nx → merged s s1 s2 b = (D (max t' (j + 1))).s.heap.get b)
    (hact : IsAct C ops D i → (∀ b k, ¬ Hidden C ops D i b → (D (i + 1)).s.heap.get b = some k → OKB ρ (D (i + 1)).s.nx k ∧ Listed (D (i + 1)).s.grps b k ∧ b < (D (i + 1)).s.nx) ∧
      ((∀ x l, x < (D i).s.nx → (D i).s.grps.get x = some l → ∃ l', (D (i + 1)).s.grps.get x = some l' ∧ ∀ z ∈ l, z ∈ l') ∧ (D (i + 1)).s.lo = (D i).s.lo))
    (hlay : IsLays C ops D i → ∀ k, (D (i + 1)).s.heap.get (D i).s.nx = some k → OKB ρ (D (i + 1)).s.nx k) :
    ∃ ι' s', Inv C ρ ops fr D V ι0 w0 a0 (fun j => S j ∨ j = i) t' ι' s' (a.put o.dst x) w2 := by
  have hin : i < ops.length := (List.getElem?_eq_some_iff.1 ho).1
  have hnN : (D (i + 1)).s.nx ≤ s.nx := by rw [I.nx]; exact T.nx_le (by omega) (Nat.le_refl _)
  have hlt2 : ∀ b k, s2.heap.get b = some k → b < (D (i + 1)).s.nx := fun b k hb => by rw [← hn2]; exact H2.lt hb
  obtain ⟨hp, hhp⟩ := Tr.exists_of_fun (merged s s1 s2) s.nx (fun b hb => by
    unfold merged
    cases h2 : s2.heap.get b with
    | some k => have := hlt2 b k h2; omega
    | none =>
      have h3 : s.heap.get b = none := by
        cases h4 : s.heap.get b with
        | none => rfl
        | some k => have := I.rel.lt h4; omega
      rw [h3]; simp)
  let s' : St := { heap := hp, grps := s.grps, nx := s.nx, lo := s.lo }
  have hs' : ∀ b, s'.heap.get b = match s2.heap.get b with | some k => some k | none => if (s1.heap.get b).isSome then none else s.heap.get b := hhp
  have hfree : ∀ b, (D i).s.nx ≤ b → b < (D (i + 1)).s.nx → ι b = none := fun b h1 h2 => ((I.owned i hin b h1 h2).2 hS).2
  have hgr : ∀ b e sz g p r rows, s'.heap.get b = some (.cells e sz g p r rows) → g < s'.nx ∧ ∃ l, s'.grps.get g = some l ∧ b ∈ l := by
    intro b e sz g p r rows hb
    have hg : g < s.nx ∧ b < s.nx := by
      rw [hs'] at hb
      cases h2 : s2.heap.get b with
      | some k =>
        rw [h2] at hb
        have hk : k = .cells e sz g p r rows := by simpa using hb
        subst hk
        have h3 := (H2.grp _ _ _ _ _ _ _ h2).1
        have h4 := hlt2 b _ h2
        omega
      | none =>
        rw [h2] at hb
        cases h1 : s1.heap.get b with
        | some k1 => rw [h1] at hb; simp at hb
        | none =>
          rw [h1] at hb
          have hb : s.heap.get b = some (.cells e sz g p r rows) := by simpa using hb
          exact ⟨(I.rel.grp _ _ _ _ _ _ _ hb).1, I.rel.lt hb⟩
    obtain ⟨l, q1, q2⟩ := I.full g hg.1
    exact ⟨hg.1, l, q1, q2 b hg.2⟩
  obtain ⟨ι', m1, m2, m3, m4, m5⟩ := merge I.rel hn1 hn2 hnN K H2 hsub hfree hap hs' hold rfl hgr
  have hkeep : Keep (D 0).s ι0 w0 s' ι' w2 := merge_keep I.rel I.keep hn1 K (T.nx_le (Nat.zero_le i) (by omega)) hsub hlo hlt2 hs' hold rfl rfl rfl m1 m3 m4 m2
  have hxc : Clo ρ (D (i + 1)).s.nx (V i) := ⟨ι2, x, fun b hb => H2.fresh b (hn2.symm ▸ hb), hx⟩
  refine ⟨ι', s', ⟨m5, hkeep, I.nx, I.lo, I.full, ⟨?_, ?_, ?_, ?_⟩, I.tmps.step m1 T ok ho (hx.le m2), ?_, ?_, tle, tbefore, tat, fun b hb => (hhp b).trans (hinit b hb), fun j hj b h1 h2 => ⟨fun hSj => (hhp b).trans (howned j hj hSj b h1 h2), fun hn => ?_⟩⟩⟩
  · rintro j (h | rfl)
    · exact I.facts.val j h
    · exact hxc
  · rintro j (h | rfl) ha
    · exact I.facts.act j h ha
    · exact (hact ha).1
  · rintro j (h | rfl) hl
    · exact I.facts.lay j h hl
    · exact hlay hl
  · rintro j (h | rfl) ha
    · exact I.facts.grp j h ha
    · exact (hact ha).2
  · rintro j (h | rfl)
    · exact I.bound j h
    · exact hin
  · rintro j k (h | rfl) hk
    · exact .inl (I.closed j k h hk)
    · exact .inl (hpre k hk)
  · have hnS : ¬ S j := fun h => hn (.inl h)
    have hji : j ≠ i := fun h => hn (.inr h)
    obtain ⟨q1, q2⟩ := (I.owned j hj b h1 h2).2 hnS
    have hout : b < (D i).s.nx ∨ (D (i + 1)).s.nx ≤ b := by
      rcases Nat.lt_or_ge b (D i).s.nx with h | h
      · exact .inl h
      · rcases Nat.lt_or_ge b (D (i + 1)).s.nx with h' | h'
        · exact absurd (T.owner_unique hj hin h1 h2 h h') hji
        · exact .inr h'
    refine ⟨?_, by rw [m3 b hout]; exact q2⟩
    rw [hs']
    have hs1 : s1.heap.get b = none := by
      cases h : s1.heap.get b with
      | none => rfl
      | some k => rw [hsub b k h] at q1; cases q1
    have hs2 : s2.heap.get b = none := by
      rcases hout with h | h
      · exact K.dead b (hn1.symm ▸ h) hs1
      · cases h3 : s2.heap.get b with
        | none => rfl
        | some k => have := hlt2 b k h3; omega
    rw [hs2, hs1]
    simpa using q1
end
end Go.Ev
