/-
  A part of a verified evaluator of the model's code, or of its use at this seat; see the text YtkibpfkengpimaaGreatDoorEvCard.
-/
import Derived.Test.YtkibpfkengpimaaGreatDoorEvDraw12
namespace Go.Ev
section
variable {P : Program} {C : Ctx} {ρ : Val} {sf : Self} {ops : List Oper} {fr : Fr} {D : Nat → Dr} {V : Nat → AV} {ι0 : Inj} {w0 : World} {a0 : Act}
variable {S : Nat → Prop} {t : Nat} {ι ι2 : Inj} {s s1 : St} {a : Act} {w w2 : World}

/-- A step that leaves the memory as it is. -/
theorem advance_still (T : Txt C sf ops fr D V) (ok : OkDraw ops) (I : Inv C ρ ops fr D V ι0 w0 a0 S t ι s a w) {i : Nat} {o : Oper} (ho : ops[i]? = some o) (hS : ¬ S i)
    (hpre : ∀ j, Nat.testBit (preds ops i) j = true → S j) (hna : ¬ IsAct C ops D i) (hnl : ¬ IsLays C ops D i) (hn1 : s1.nx = (D i).s.nx) (K : Keep s1 (cut ι (D i).s.nx) w s1 ι2 w2) (H2 : HRel ρ ι2 s1 w2) {x : Value} (hx : VRel ρ ι2 (V i) x)
    (hlo : (D 0).s.lo ≤ s1.lo) (hsub : ∀ b k, s1.heap.get b = some k → s.heap.get b = some k) (hro : ∀ b k, s1.heap.get b = some k → b < s1.lo ∧ b < (D i).s.nx) :
    ∃ t' ι' s', Inv C ρ ops fr D V ι0 w0 a0 (fun j => S j ∨ j = i) t' ι' s' (a.put o.dst x) w2 := by
  have hin : i < ops.length := (List.getElem?_eq_some_iff.1 ho).1
  have hs := T.s_still hin hna hnl
  have hm : ∀ b, merged s s1 s1 b = s.heap.get b := by
    intro b
    unfold merged
    cases h : s1.heap.get b with
    | none => simp
    | some k => rw [hsub b k h]
  obtain ⟨ι', s', h⟩ := advance T ok I ho hS hpre hn1 (by rw [hs]; exact hn1) K H2 hx hlo hsub (fun x kx gx y ky gy _ _ _ hy hky _ => absurd (hro y ky hky).1 (by omega)) (fun b k hb _ => (hro b k hb).2)
    (t' := t) I.tle (fun j hj ha => .inl (I.tbefore j hj ha)) (fun ht => ⟨(I.tat ht).1, fun h => h.elim (I.tat ht).2 fun e => hna (e ▸ (I.tat ht).1)⟩)
    (fun b hb => (hm b).trans (I.init b hb))
    (fun j hj hSj b h1 h2 => by
      rcases hSj with h | rfl
      · exact (hm b).trans ((I.owned j hj b h1 h2).1 h)
      · rw [hs] at h2; omega)
    (fun ha => absurd ha hna) (fun hl => absurd hl hnl)
  exact ⟨t, ι', s', h⟩

theorem HRel.part (H : HRel ρ ι s w) {n lo : Nat} {gr : Tr (List Nat)} : HRel ρ (cut ι n) { heap := .nil, grps := gr, nx := n, lo := lo } w where
  blk := fun b k hb => by rw [show (Tr.nil : Tr ABlk).get b = none from rfl] at hb; cases hb
  sep := fun b b' k k' g g' hb => by rw [show (Tr.nil : Tr ABlk).get b = none from rfl] at hb; cases hb
  grp := fun b e sz g p r rows hb => by rw [show (Tr.nil : Tr ABlk).get b = none from rfl] at hb; cases hb
  fresh := fun b hb => cut_ge hb
  tgt := fun b g hb => H.tgt b g (cut_le _ _ _ _ hb)

/-- One block of the memory, to be read. -/
theorem HRel.single (H : HRel ρ ι s w) {n b lo : Nat} {k : ABlk} (hb : b < n) (hk : s.heap.get b = some k) (hok : OKB ρ n k) (hn : n ≤ s.nx) (full : ∀ x, x < s.nx → ∃ l, s.grps.get x = some l ∧ ∀ b, b < s.nx → b ∈ l) :
    HRel ρ (cut ι n) { heap := Tr.nil.put b (some k), grps := s.grps, nx := n, lo := lo } w := by
  have only : ∀ c q, (Tr.nil.put b (some k)).get c = some q → c = b ∧ q = k := by
    intro c q hc
    rw [Tr.get_put] at hc
    split at hc
    · rename_i e; cases hc; exact ⟨e.symm, rfl⟩
    · cases hc
  refine ⟨fun c q hc => ?_, fun c c' q q' g g' hc hc' _ _ hne => ?_, fun c e sz g p r rows hc => ?_, fun c hc => cut_ge hc, fun c g hc => H.tgt c g (cut_le _ _ _ _ hc)⟩
  · obtain ⟨rfl, rfl⟩ := only c q hc
    obtain ⟨g, h1, h2⟩ := H.blk _ _ hk
    exact ⟨g, by rw [cut_lt hb]; exact h1, hok.1.cut h2⟩
  · exact absurd ((only c q hc).1.trans (only c' q' hc').1.symm) hne
  · obtain ⟨rfl, h2⟩ := only c _ hc
    have hg := hok.2 e sz g p r rows h2.symm
    obtain ⟨l, h3, h4⟩ := full g (by omega)
    exact ⟨hg, l, h3, h4 c (by omega)⟩

/-- An operation, run over a part of the memory. -/
theorem wpOp_part {opa : Array Oper} (TO : TabOk P C) (hρ : Short ρ) (hS : SCall P C ρ sf) (T : Txt C sf opa.toList fr D V) (ok : OkDraw opa.toList) (I : Inv C ρ opa.toList fr D V ι0 w0 a0 S t ι s a w) (hE0 : EnvRel ρ ι0 (D 0).env a0.tmps)
    (hg0 : Globs C ι0) (hb0 : Below ι0 (D 0).s.nx) {i : Nat} {o : Oper} (ho : opa.toList[i]? = some o) (hpre : ∀ j, Nat.testBit (preds opa.toList i) j = true → S j) (hSi : ¬ S i) (hw : wantA opa.toList (D i).env o = some true)
    {s1 s2 : St} (hrun : runA C sf (D i).env s1 o = some (V i, s2)) (H1 : HRel ρ (cut ι (D i).s.nx) s1 w) {ro : Option Nat} {n : Nat} {Q : Exit → Act → World → Prop} {K : Act → World → Prop}
    (hn : ∀ x w2 ι2, VRel ρ ι2 (V i) x → HRel ρ ι2 s2 w2 → Keep s1 (cut ι (D i).s.nx) w s2 ι2 w2 → K (a.put o.dst x) w2) : wpOpIn (FR ro) n P opa Q i K a w := by
  have hin : i < opa.toList.length := (List.getElem?_eq_some_iff.1 ho).1
  have hE := env_rel T ok I.facts I.tmps hE0 I.keep.le hb0 ho hpre hSi I.closed
  have hoa : opa[i]? = some o := by simpa using ho
  unfold wpOpIn
  rw [hoa]
  dsimp only
  have hw' : wantA opa.toList (restr (D i).env (looks opa.toList o)) o = some true := by rw [want_restr]; exact hw
  rw [wantA_rel hE hw']
  simp only [if_true]
  have hG : Globs C (cut ι (D i).s.nx) := by
    intro g hg
    obtain ⟨x, h1, h2⟩ := hg0 g hg
    have h3 := hb0.lt h1
    have h4 := T.nx_le (Nat.zero_le i) (by omega : i ≤ opa.toList.length)
    exact ⟨x, by rw [cut_lt (by omega)]; exact I.keep.le _ _ h1, h2⟩
  refine runA_wp TO hρ hS (env := restr (D i).env (looks opa.toList o)) (s := s1) (s' := s2) (v := V i) ?_ H1 hE hG ?_
  · rw [runA_restr]; exact hrun
  · intro v' w' ι' h1 h2 h3
    exact hn v' w' ι' h1 h2 h3

theorem runA_val {e : Env} {s s' : St} {o : Oper} {v : AV} (h : opA C e s o = some (.val v s')) : runA C sf e s o = some (v, s') := by
  unfold runA; rw [h]

theorem notAct_of {i : Nat} {o : Oper} (ho : ops[i]? = some o) {so : Sort3} (h1 : sortOf C o = so) (h2 : so ≠ .acts) : ¬ IsAct C ops D i := by
  rintro ⟨p, hp, _, h3⟩
  rw [ho] at hp; cases hp
  exact h2 (h1.symm.trans h3)
theorem notLays_of {i : Nat} {o : Oper} (ho : ops[i]? = some o) {so : Sort3} (h1 : sortOf C o = so) (h2 : so ≠ .lays) : ¬ IsLays C ops D i := by
  rintro ⟨p, hp, _, h3⟩
  rw [ho] at hp; cases hp
  exact h2 (h1.symm.trans h3)

theorem Inv.okb0 (I : Inv C ρ ops fr D V ι0 w0 a0 S t ι s a w) (H0 : HRel ρ ι0 (D 0).s w0) : ∀ b k, (D 0).s.heap.get b = some k → OKB ρ (D 0).s.nx k := by
  intro b k hk
  obtain ⟨g, h1, h2⟩ := H0.blk b k hk
  exact ⟨⟨ι0, w0, g, H0.fresh, h2⟩, fun e sz g p r rows e1 => (H0.grp b e sz g p r rows (e1 ▸ hk)).1⟩
theorem Inv.listed0 (H0 : HRel ρ ι0 (D 0).s w0) : ∀ b k, (D 0).s.heap.get b = some k → Listed (D 0).s.grps b k := by
  intro b k hk e sz g p r rows e1
  exact (H0.grp b e sz g p r rows (e1 ▸ hk)).2

/-- One operation, where it need not be the text's next: all but those that act. -/
theorem step_easy {opa : Array Oper} (TO : TabOk P C) (hρ : Short ρ) (hS : SCall P C ρ sf) (T : Txt C sf opa.toList fr D V) (ok : OkDraw opa.toList) (I : Inv C ρ opa.toList fr D V ι0 w0 a0 S t ι s a w) (H0 : HRel ρ ι0 (D 0).s w0) (hE0 : EnvRel ρ ι0 (D 0).env a0.tmps)
    (hg0 : Globs C ι0) (hlo0 : (D 0).s.lo ≤ (D 0).s.nx) {i : Nat} {o : Oper} (ho : opa.toList[i]? = some o) (hSi : ¬ S i) (hpre : ∀ j, Nat.testBit (preds opa.toList i) j = true → S j) (hna : ¬ IsAct C opa.toList D i)
    {ro : Option Nat} {n : Nat} {Q : Exit → Act → World → Prop} {K : Act → World → Prop}
    (hK : ∀ t' ι' s' a' w', Inv C ρ opa.toList fr D V ι0 w0 a0 (fun j => S j ∨ j = i) t' ι' s' a' w' → K a' w') : wpOpIn (FR ro) n P opa Q i K a w := by
  have hb0 : Below ι0 (D 0).s.nx := H0.fresh
  have hin : i < opa.toList.length := (List.getElem?_eq_some_iff.1 ho).1
  have hnN : (D i).s.nx ≤ s.nx := by rw [I.nx]; exact T.nx_le (by omega) (Nat.le_refl _)
  have h0i := T.nx_le (Nat.zero_le i) (by omega : i ≤ opa.toList.length)
  cases T.did i o ho with
  | not hw hv henv hs hm hl hr ha =>
    have hE := env_rel T ok I.facts I.tmps hE0 I.keep.le hb0 ho hpre hSi I.closed
    have hoa : opa[i]? = some o := by simpa using ho
    have hw' : wantA opa.toList (restr (D i).env (looks opa.toList o)) o = some false := by rw [want_restr]; exact hw
    unfold wpOpIn
    rw [hoa]
    dsimp only
    rw [wantA_rel hE hw']
    simp only [Bool.false_eq_true, if_false]
    refine ⟨about_wide ro o a w, ?_⟩
    have hnl : ¬ IsLays C opa.toList D i := by
      rintro ⟨p, hp, h2, _⟩; rw [ho] at hp; cases hp; rw [hw] at h2; cases h2
    have H1 : HRel ρ (cut ι (D i).s.nx) { heap := .nil, grps := .nil, nx := (D i).s.nx, lo := (D 0).s.lo } w := I.rel.part
    obtain ⟨t', ι', s', h⟩ := advance_still (s1 := { heap := .nil, grps := .nil, nx := (D i).s.nx, lo := (D 0).s.lo }) T ok I ho hSi hpre hna hnl rfl (.refl _ _ _ H1.fresh) H1 (x := undef) (by rw [hv]; exact .tuple .nil) (Nat.le_refl _)
      (fun b k hb => by rw [show (Tr.nil : Tr ABlk).get b = none from rfl] at hb; cases hb) (fun b k hb => by rw [show (Tr.nil : Tr ABlk).get b = none from rfl] at hb; cases hb)
    exact hK _ _ _ _ _ h
  | free hw hso hop henv hs hm hl hr ha =>
    have hnl := notLays_of (D := D) ho hso (by simp)
    have H1 : HRel ρ (cut ι (D i).s.nx) { heap := .nil, grps := .nil, nx := (D i).s.nx, lo := (D 0).s.lo } w := I.rel.part
    refine wpOp_part TO hρ hS T ok I hE0 hg0 hb0 ho hpre hSi hw (runA_val (hop _)) H1 fun x w2 ι2 hx H2 K2 => ?_
    obtain ⟨t', ι', s', h⟩ := advance_still (s1 := { heap := .nil, grps := .nil, nx := (D i).s.nx, lo := (D 0).s.lo }) T ok I ho hSi hpre hna hnl rfl K2 H2 hx (Nat.le_refl _)
      (fun b k hb => by rw [show (Tr.nil : Tr ABlk).get b = none from rfl] at hb; cases hb) (fun b k hb => by rw [show (Tr.nil : Tr ABlk).get b = none from rfl] at hb; cases hb)
    exact hK _ _ _ _ _ h
  | reads hw hso rb hvis hop henv hs hm hl hr ha =>
    have hnl := notLays_of (D := D) ho hso (by simp)
    have done : ∀ s1 : St, s1.nx = (D i).s.nx → (D 0).s.lo ≤ s1.lo → (∀ b, rb = some b → s1.heap.get b = (D i).s.heap.get b) → (∀ b k, s1.heap.get b = some k → s.heap.get b = some k) → (∀ b k, s1.heap.get b = some k → b < s1.lo ∧ b < (D i).s.nx) →
        HRel ρ (cut ι (D i).s.nx) s1 w → wpOpIn (FR ro) n P opa Q i K a w := by
      intro s1 q1 q2 q3 q4 q5 H1
      refine wpOp_part TO hρ hS T ok I hE0 hg0 hb0 ho hpre hSi hw (runA_val (hop _ q3)) H1 fun x w2 ι2 hx H2 K2 => ?_
      obtain ⟨t', ι', s', h⟩ := advance_still T ok I ho hSi hpre hna hnl q1 K2 H2 hx q2 q4 q5
      exact hK _ _ _ _ _ h
    cases rb with
    | none =>
      exact done { heap := .nil, grps := .nil, nx := (D i).s.nx, lo := (D 0).s.lo } rfl (Nat.le_refl _) (fun b hb => by cases hb)
        (fun b k hb => by rw [show (Tr.nil : Tr ABlk).get b = none from rfl] at hb; cases hb) (fun b k hb => by rw [show (Tr.nil : Tr ABlk).get b = none from rfl] at hb; cases hb) I.rel.part
    | some b =>
      obtain ⟨v1, v2, v3⟩ := hvis b rfl
      have hown : ∀ j, j < i → (D j).s.nx ≤ b → b < (D (j + 1)).s.nx → S j := by
        intro j h1 h2 h3
        rcases T.visible_owner (by omega : i ≤ opa.toList.length) v1 v2 with h | ⟨l, h4, h5, h6, h7⟩
        · have := T.nx_le (Nat.zero_le j) (by omega : j ≤ opa.toList.length); omega
        · rw [T.owner_unique (by omega) (by omega) h2 h3 h5 h6]; exact hpre l h7
      have hmem : (i, b) ∈ (D (i + 1)).read := by rw [hr]; exact List.mem_cons_self
      have hge : ∀ j, j < i → IsAct C opa.toList D j → ¬ S j → (D (j + 1)).s.heap.get b = (D j).s.heap.get b := fun j h2 h3 h4 =>
        T.act_keeps (by omega) h2 h3 v3 fun e => h4 (hpre j e)
      have hblk : s.heap.get b = (D i).s.heap.get b := by
        refine I.block T (by omega) v1 hown (fun j h1 h2 h3 => hge j h2 h3 fun e => ?_) (fun j h1 h2 h3 => ?_)
        · have := I.act_lt T e h3; omega
        · have hji : j ≠ i := fun e => hna (e ▸ h3)
          have hjN : j < opa.toList.length := by have := I.tle; omega
          refine T.read_kept hjN h3 (T.read_le hmem (by omega) (by omega)) fun e => hSi ?_
          exact I.closed j i (I.tbefore j h2 h3) e
      cases hk : (D i).s.heap.get b with
      | none =>
        refine done { heap := .nil, grps := .nil, nx := (D i).s.nx, lo := (D 0).s.lo } rfl (Nat.le_refl _) (fun c hc => ?_)
          (fun b k hb => by rw [show (Tr.nil : Tr ABlk).get b = none from rfl] at hb; cases hb) (fun b k hb => by rw [show (Tr.nil : Tr ABlk).get b = none from rfl] at hb; cases hb) I.rel.part
        cases hc
        exact hk.symm
      | some k =>
        have hok : OKB ρ (D i).s.nx k := settled T I.facts (I.okb0 H0) (by omega) b k v1 hown (fun j h1 h2 h3 _ => hge j h1 h2 h3) hk
        have hsk : s.heap.get b = some k := hblk.trans hk
        have only : ∀ c q, (Tr.nil.put b (some k)).get c = some q → c = b ∧ q = k := by
          intro c q hc
          rw [Tr.get_put] at hc
          split at hc
          · rename_i e; cases hc; exact ⟨e.symm, rfl⟩
          · cases hc
        refine done { heap := Tr.nil.put b (some k), grps := s.grps, nx := (D i).s.nx, lo := max (D i).s.nx (D 0).s.lo } rfl (by show _ ≤ max _ _; omega) (fun c hc => ?_) (fun c q hc => ?_) (fun c q hc => ?_) (I.rel.single v1 hsk hok hnN I.full)
        · cases hc
          show (Tr.nil.put b (some k)).get b = _
          rw [hk]; simp
        · obtain ⟨rfl, rfl⟩ := only c q hc; exact hsk
        · obtain ⟨rfl, rfl⟩ := only c q hc
          exact ⟨by show _ < max _ _; omega, v1⟩
  | lays hw hso k own hop henv hs hm hl hr ha =>
    have hlays : IsLays C opa.toList D i := ⟨o, ho, hw, hso⟩
    have hn2 : (D (i + 1)).s.nx = (D i).s.nx + 1 := T.lays_nx hin hlays
    have H1 : HRel ρ (cut ι (D i).s.nx) { heap := .nil, grps := .nil, nx := (D i).s.nx, lo := (D 0).s.lo } w := I.rel.part
    refine wpOp_part TO hρ hS T ok I hE0 hg0 hb0 ho hpre hSi hw (runA_val (hop { heap := .nil, grps := .nil, nx := (D i).s.nx, lo := (D 0).s.lo } rfl)) H1 fun x w2 ι2 hx H2 K2 => ?_
    generalize hs2 : layA { heap := .nil, grps := .nil, nx := (D i).s.nx, lo := (D 0).s.lo } k = s2 at H2 K2
    have hget : ∀ b, s2.heap.get b = if (D i).s.nx = b then some k else none := by
      intro b
      rw [← hs2]
      show (Tr.nil.put (D i).s.nx (some k)).get b = _
      rw [Tr.get_put]; rfl
    have hnx2 : s2.nx = (D i).s.nx + 1 := by rw [← hs2]; rfl
    have hm : ∀ b, b ≠ (D i).s.nx → merged s { heap := .nil, grps := .nil, nx := (D i).s.nx, lo := (D 0).s.lo } s2 b = s.heap.get b := by
      intro b hb
      unfold merged
      rw [hget, if_neg (fun e => hb e.symm)]
      rfl
    have hk1 : (D (i + 1)).s.heap.get (D i).s.nx = some k := by
      rw [hs]
      show ((D i).s.heap.put (D i).s.nx (some k)).get _ = _
      simp
    obtain ⟨ι', s', h⟩ := advance T ok I ho hSi hpre (s1 := { heap := .nil, grps := .nil, nx := (D i).s.nx, lo := (D 0).s.lo }) rfl (by rw [hnx2, hn2]) K2 H2 hx (Nat.le_refl _)
      (fun b k hb => by rw [show (Tr.nil : Tr ABlk).get b = none from rfl] at hb; cases hb) (fun x kx gx y ky gy _ _ _ _ hy _ => by rw [show (Tr.nil : Tr ABlk).get y = none from rfl] at hy; cases hy)
      (fun b k hb hlt => by
        rw [hget] at hb
        split at hb
        · rename_i e
          have hlt : b < (D 0).s.lo := hlt
          omega
        · cases hb)
      (t' := t) I.tle (fun j hj ha => .inl (I.tbefore j hj ha)) (fun ht => ⟨(I.tat ht).1, fun h => h.elim (I.tat ht).2 fun e => hna (e ▸ (I.tat ht).1)⟩)
      (fun b hb => (hm b (by omega)).trans (I.init b hb))
      (fun j hj hSj b h1 h2 => by
        rcases hSj with h | rfl
        · have : b ≠ (D i).s.nx := by
            intro e
            have := T.owner_unique hj hin h1 h2 (by omega) (by omega)
            subst this; exact hSi h
          exact (hm b this).trans ((I.owned j hj b h1 h2).1 h)
        · have hbe : b = (D j).s.nx := by omega
          subst hbe
          have : merged s { heap := .nil, grps := .nil, nx := (D j).s.nx, lo := (D 0).s.lo } s2 (D j).s.nx = some k := by
            unfold merged
            rw [hget, if_pos rfl]
          rw [this, ← hk1]
          refine (T.stable (by omega) (by omega) (by have := I.tle; omega) fun l q1 q2 q3 => ?_).symm
          have hlt : l < t := by omega
          refine T.hidden_same (by have := I.tle; omega) q3 ⟨j, by omega, hlays, rfl, ?_⟩
          cases hbit : Nat.testBit (preds opa.toList l) j with
          | false => rfl
          | true => exact absurd (I.closed l j (I.tbefore l hlt q3) hbit) hSi)
      (fun ha => absurd ha hna)
      (fun _ k' hk' => by
        rw [hk1] at hk'; cases hk'
        have h2 : s2.heap.get (D i).s.nx = some k := by rw [hget, if_pos rfl]
        obtain ⟨g, q1, q2⟩ := H2.blk _ _ h2
        refine ⟨⟨ι2, w2, g, fun b hb => H2.fresh b (by omega), q2⟩, fun e sz g p r rows he => ?_⟩
        have := own _ _ _ _ _ _ he
        omega)
    exact hK _ _ _ _ _ h
  | acts hw hso => exact absurd ⟨o, ho, hw, hso⟩ hna
end
end Go.Ev
