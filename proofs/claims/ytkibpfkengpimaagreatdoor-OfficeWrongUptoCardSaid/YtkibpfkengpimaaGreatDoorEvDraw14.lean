/-
  A part of a verified evaluator of the model's code, or of its use at this seat; see the text YtkibpfkengpimaaGreatDoorEvCard.
-/
import Derived.Test.YtkibpfkengpimaaGreatDoorEvDraw13
namespace Go.Ev
section
variable {P : Program} {C : Ctx} {ρ : Val} {sf : Self} {fr : Fr} {D : Nat → Dr} {V : Nat → AV} {ι0 : Inj} {w0 : World} {a0 : Act}
variable {S : Nat → Prop} {t : Nat} {ι : Inj} {s : St} {a : Act} {w : World}

theorem BlkRel.grp_of {ρ : Val} {ι : Inj} {w : World} {g : Tgt} {k : ABlk} (h : BlkRel ρ ι w g k) (hc : k.isCells = true) : ∃ e sz gr p r rows, k = .cells e sz gr p r rows ∧ g.grp = gr := by
  cases h with
  | cells _ _ _ hgrp => exact ⟨_, _, _, _, _, _, rfl, hgrp⟩
  | _ => cases hc

/-- An acting operation: all that acted before has been done. -/
theorem step_act {opa : Array Oper} (TO : TabOk P C) (hρ : Short ρ) (hS : SCall P C ρ sf) (T : Txt C sf opa.toList fr D V) (ok : OkDraw opa.toList) (I : Inv C ρ opa.toList fr D V ι0 w0 a0 S t ι s a w) (H0 : HRel ρ ι0 (D 0).s w0) (hE0 : EnvRel ρ ι0 (D 0).env a0.tmps)
    (hg0 : Globs C ι0) (hlo0 : (D 0).s.lo ≤ (D 0).s.nx) {i : Nat} {o : Oper} (ho : opa.toList[i]? = some o) (hSi : ¬ S i) (hpre : ∀ j, Nat.testBit (preds opa.toList i) j = true → S j) (hact : IsAct C opa.toList D i)
    {ro : Option Nat} {n : Nat} {Q : Exit → Act → World → Prop} {K : Act → World → Prop}
    (hK : ∀ t' ι' s' a' w', Inv C ρ opa.toList fr D V ι0 w0 a0 (fun j => S j ∨ j = i) t' ι' s' a' w' → K a' w') : wpOpIn (FR ro) n P opa Q i K a w := by
  have hb0 : Below ι0 (D 0).s.nx := H0.fresh
  have hin : i < opa.toList.length := (List.getElem?_eq_some_iff.1 ho).1
  have h0i := T.nx_le (Nat.zero_le i) (by omega : i ≤ opa.toList.length)
  have hall : ∀ j, j < i → IsAct C opa.toList D j → S j := fun j hj ha => hpre j (T.acts_before hin hact hj ha)
  have hti : t = i := by
    rcases Nat.lt_trichotomy t i with h | h | h
    · obtain ⟨h1, h2⟩ := I.tat (by omega)
      exact absurd (hall t h h1) h2
    · exact h
    · exact absurd (I.tbefore i h hact) hSi
  subst hti
  have hloi : (D t).s.lo = (D 0).s.lo := T.lo_eq I.facts (by omega) hall
  have halt := T.alive_lt I.facts (fun b k hk => H0.lt hk) (by omega : t ≤ opa.toList.length) hall
  have hnl : ¬ IsLays C opa.toList D t := by
    obtain ⟨p, hp, _, h3⟩ := hact
    exact notLays_of hp h3 (by simp)
  cases T.did t o ho with
  | not hw => obtain ⟨p, hp, h2, _⟩ := hact; rw [ho] at hp; cases hp; rw [hw] at h2; cases h2
  | free _ hso => exact absurd hact (notAct_of ho hso (by simp))
  | reads _ hso => exact absurd hact (notAct_of ho hso (by simp))
  | lays _ hso => exact absurd hact (notAct_of ho hso (by simp))
  | acts hw hso s2 hb hh hop hnx hk henv hs hm hl hr ha =>
    generalize hs1 : ({ (D t).s with heap := hide (D t).s.heap (preds opa.toList t) (D t).laid } : St) = s1 at hop
    have g1 : s1.heap = hide (D t).s.heap (preds opa.toList t) (D t).laid := by rw [← hs1]
    have g2 : s1.grps = (D t).s.grps := by rw [← hs1]
    have g3 : s1.nx = (D t).s.nx := by rw [← hs1]
    have g4 : s1.lo = (D t).s.lo := by rw [← hs1]
    have hs1D : ∀ b k, s1.heap.get b = some k → (D t).s.heap.get b = some k := by
      intro b k hk
      rw [g1] at hk
      rcases hide_get (preds opa.toList t) (D t).laid (D t).s.heap b with h | h
      · rw [h] at hk; cases hk
      · rw [h] at hk; exact hk
    have hseen : ∀ b, ¬ Hidden C opa.toList D t b → s1.heap.get b = (D t).s.heap.get b := fun b hb => by
      rw [g1]; exact hide_seen _ _ _ _ (T.seen (by omega) hb)
    have hhid : ∀ b, Hidden C opa.toList D t b → s1.heap.get b = none := fun b hb => by
      rw [g1]
      obtain ⟨l, h1, h2⟩ := (T.hidden_iff (by omega)).1 hb
      exact hide_hidden _ _ _ _ ⟨l, h1, h2⟩
    have hlt1 : ∀ b k, s1.heap.get b = some k → b < (D t).s.nx := fun b k hk => halt b k (hs1D b k hk)
    have hown1 : ∀ b k, s1.heap.get b = some k → ∀ j, j < t → (D j).s.nx ≤ b → b < (D (j + 1)).s.nx → S j := by
      intro b k hk j h1 h2 h3
      by_cases ha : IsAct C opa.toList D j
      · exact hall j h1 ha
      · by_cases hl' : IsLays C opa.toList D j
        · have hnx1 := T.lays_nx (by omega) hl'
          refine hpre j (bit_of fun e => ?_)
          have : b = (D j).s.nx := by omega
          rw [hhid b ⟨j, h1, hl', this.symm, e⟩] at hk
          cases hk
        · rw [T.s_still (by omega) ha hl'] at h3; omega
    have hblock : ∀ b, b < (D t).s.nx → (∀ j, j < t → (D j).s.nx ≤ b → b < (D (j + 1)).s.nx → S j) → s.heap.get b = (D t).s.heap.get b := fun b h1 h2 =>
      I.block T (by omega) h1 h2 (fun j h3 h4 => by omega) (fun j h3 h4 => by omega)
    have hsub : ∀ b k, s1.heap.get b = some k → s.heap.get b = some k := fun b k hk => (hblock b (hlt1 b k hk) (hown1 b k hk)).trans (hs1D b k hk)
    have hokb : ∀ b k, s1.heap.get b = some k → OKB ρ (D t).s.nx k := fun b k hk =>
      settled T I.facts (I.okb0 H0) (by omega) b k (hlt1 b k hk) (hown1 b k hk) (fun j h1 h2 h3 _ => absurd (hall j h1 h2) h3) (hs1D b k hk)
    have hlist : ∀ b k, s1.heap.get b = some k → Listed (D t).s.grps b k := fun b k hk =>
      listed T I.facts (I.okb0 H0) (Inv.listed0 H0) (by omega) hall b k (hlt1 b k hk) (hown1 b k hk) (hs1D b k hk)
    have H1 : HRel ρ (cut ι (D t).s.nx) s1 w := by
      refine ⟨fun b k hk => ?_, fun b b' k k' g g' h1 h2 h3 h4 h5 h6 => I.rel.sep b b' k k' g g' (hsub _ _ h1) (hsub _ _ h2) (cut_le _ _ _ _ h3) (cut_le _ _ _ _ h4) h5 h6, fun b e sz g p r rows hb => ?_, fun b hb => cut_ge (g3 ▸ hb), fun b g hb => I.rel.tgt b g (cut_le _ _ _ _ hb)⟩
      · obtain ⟨g, q1, q2⟩ := I.rel.blk b k (hsub b k hk)
        exact ⟨g, by rw [cut_lt (hlt1 b k hk)]; exact q1, (hokb b k hk).1.cut q2⟩
      · refine ⟨by rw [g3]; exact (hokb b _ hb).2 _ _ _ _ _ _ rfl, ?_⟩
        rw [g2]
        exact hlist b _ hb _ _ _ _ _ _ rfl
    refine wpOp_part TO hρ hS T ok I hE0 hg0 hb0 ho hpre hSi hw hop H1 fun x w2 ι2 hx H2 K2 => ?_
    have hn2 : s2.nx = (D (t + 1)).s.nx := by rw [hs]
    have hbeh : ∀ b, ¬ Hidden C opa.toList D t b → (D (t + 1)).s.heap.get b = s2.heap.get b := fun b hb => by
      rw [hs]; exact unhide_seen _ _ _ _ _ (T.seen (by omega) hb)
    have hhlt : ∀ b, Hidden C opa.toList D t b → b < (D t).s.nx := by
      rintro b ⟨l, h1, h2, h3, h4⟩
      have := T.lays_nx (by omega : l < opa.toList.length) h2
      have := T.nx_le (i := l + 1) (j := t) (by omega) (by omega)
      omega
    have hle1 : (D t).s.nx ≤ (D (t + 1)).s.nx := T.nx_succ hin
    -- what the merged memory is
    have hm1 : ∀ b, b < (D t).s.nx → s.heap.get b = (D t).s.heap.get b → merged s s1 s2 b = (D (t + 1)).s.heap.get b := by
      intro b hbn hsb
      unfold merged
      by_cases hhd : Hidden C opa.toList D t b
      · have h1 := hhid b hhd
        have h2 := K2.dead b (by rw [g3]; exact hbn) h1
        rw [h1, h2, T.hidden_same hin hact hhd]
        simpa using hsb
      · rw [hbeh b hhd]
        cases h2 : s2.heap.get b with
        | some k => rfl
        | none =>
          have h3 := hseen b hhd
          cases h1 : s1.heap.get b with
          | some k => simp
          | none => rw [h1] at h3; rw [hsb, ← h3]; simp
    have hm2 : ∀ b, (D t).s.nx ≤ b → b < (D (t + 1)).s.nx → merged s s1 s2 b = (D (t + 1)).s.heap.get b := by
      intro b h1 h2
      have h3 : s1.heap.get b = none := by
        cases h : s1.heap.get b with
        | none => rfl
        | some k => have := hlt1 b k h; omega
      have h4 := ((I.owned t hin b h1 h2).2 hSi).1
      unfold merged
      rw [hbeh b fun h => by have := hhlt b h; omega]
      cases h5 : s2.heap.get b with
      | some k => rfl
      | none => rw [h3, h4]; simp
    have hm3 : ∀ b, (D (t + 1)).s.nx ≤ b → merged s s1 s2 b = s.heap.get b := by
      intro b h1
      have h3 : s1.heap.get b = none := by
        cases h : s1.heap.get b with
        | none => rfl
        | some k => have := hlt1 b k h; omega
      have h4 : s2.heap.get b = none := by
        cases h : s2.heap.get b with
        | none => rfl
        | some k => have := H2.lt h; omega
      unfold merged
      rw [h3, h4]; simp
    obtain ⟨t', u1, u2, u3, u4⟩ := next_act C opa.toList D (opa.toList.length - (t + 1)) (t + 1) (by omega)
    have hstab : ∀ b, b < (D (t + 1)).s.nx → (D t').s.heap.get b = (D (t + 1)).s.heap.get b := fun b hb => T.stable hb u1 u2 fun j h1 h2 h3 => absurd h3 (u3 j h1 h2)
    have hlate : ∀ j, t < j → j < opa.toList.length → IsAct C opa.toList D j → ¬ S j := fun j h1 h2 h3 h4 => hSi (I.closed j t h4 (T.acts_before h2 h3 h1 hact))
    obtain ⟨ι', s', h⟩ := advance T ok I ho hSi hpre (t' := t') g3 hn2 K2 H2 hx (by rw [g4, hloi]; exact Nat.le_refl _) hsub
      (by
        intro x kx gx y ky gy hxs hx1 hgx hylo hy1 hgy e
        have hne : x ≠ y := fun e => by subst e; rw [hx1] at hy1; cases hy1
        obtain ⟨c1, c2, c3, _⟩ := I.rel.sep x y kx ky gx gy hxs (hsub y ky hy1) hgx hgy hne e
        obtain ⟨gx', p1, p2⟩ := I.rel.blk x kx hxs
        rw [hgx] at p1; cases p1
        obtain ⟨gy', p3, p4⟩ := I.rel.blk y ky (hsub y ky hy1)
        rw [hgy] at p3; cases p3
        obtain ⟨ex, szx, grx, px, rx, rowsx, ekx, egx⟩ := p2.grp_of c1
        obtain ⟨ey, szy, gry, py, ry, rowsy, eky, egy⟩ := p4.grp_of c2
        have hgry := (hokb y ky hy1).2 _ _ _ _ _ _ eky
        have hgg : grx = gry := by rw [← egx, ← egy]; exact c3
        rcases Nat.lt_or_ge x (D t).s.nx with hxn | hxn
        · have hxo : ∀ j, j < t → (D j).s.nx ≤ x → x < (D (j + 1)).s.nx → S j := by
            intro j h1 h2 h3
            refine Classical.byContradiction fun hn => ?_
            rw [((I.owned j (by omega) x h2 h3).2 hn).1] at hxs; cases hxs
          have hxd : (D t).s.heap.get x = some kx := by rw [← hblock x hxn hxo]; exact hxs
          have hxh : Hidden C opa.toList D t x := by
            refine Classical.byContradiction fun hn => ?_
            rw [hseen x hn, hxd] at hx1; cases hx1
          obtain ⟨l, h1, h2⟩ := (T.hidden_iff (by omega)).1 hxh
          obtain ⟨h3, h4⟩ := hidesOk_spec hh _ h1 h2 ex szx grx px rx rowsx (by rw [hxd, ekx])
          obtain ⟨l0, h5, h6⟩ := hlist y ky hy1 _ _ _ _ _ _ eky
          have h3 : grx = x := h3
          have h4 : (D t).s.grps.get x = some [x] := h4
          rw [← hgg, h3, h4] at h5
          cases h5
          simp at h6
          exact hne h6.symm
        · have hxN : x < (D opa.toList.length).s.nx := by rw [← I.nx]; exact I.rel.lt hxs
          obtain ⟨j, h1, h2, h3⟩ := T.owner (by omega) (Nat.le_refl _) hxN
          have hSj : S j := Classical.byContradiction fun hn => by rw [((I.owned j h1 x h2 h3).2 hn).1] at hxs; cases hxs
          have hjt : t < j := by
            rcases Nat.lt_trichotomy t j with h | h | h
            · exact h
            · subst h; exact absurd hSj hSi
            · have := T.nx_le (i := j + 1) (j := t) (by omega) (by omega); omega
          have hja : ¬ IsAct C opa.toList D j := fun ha => hlate j hjt h1 ha hSj
          have hx2 := (I.owned j h1 x h2 h3).1 hSj
          rw [show max t (j + 1) = j + 1 from by omega, hxs] at hx2
          cases T.moves h1 with
          | still _ _ hs' => rw [hs'] at h3; omega
          | acts ha' => exact absurd ha' hja
          | lays _ _ k' own' hs' =>
            have hnx' : (D (j + 1)).s.nx = (D j).s.nx + 1 := by rw [hs']; rfl
            have hxe : x = (D j).s.nx := by omega
            rw [hs'] at hx2
            have hx3 : ((D j).s.heap.put (D j).s.nx (some k')).get x = some kx := hx2.symm
            rw [hxe, Tr.get_put_same] at hx3
            cases hx3
            have := own' _ _ _ _ _ _ ekx
            omega)
      (fun b k hb hlt => by rw [g4, hloi] at hlt; omega)
      u2
      (fun j hj ha => by
        rcases Nat.lt_trichotomy j t with h | h | h
        · exact .inl (hall j h ha)
        · exact .inr h
        · exact absurd ha (u3 j h hj))
      (fun ht' => ⟨u4 ht', fun h => h.elim (hlate t' (by omega) ht' (u4 ht')) fun e => by omega⟩)
      (fun b hb => by
        rw [hm1 b (by omega) (I.init b hb)]
        exact (hstab b (by omega)).symm)
      (fun j hj hSj b h1 h2 => by
        rcases Nat.lt_trichotomy j t with hjt | hjt | hjt
        · have hbn : b < (D t).s.nx := by have := T.nx_le (i := j + 1) (j := t) (by omega) (by omega); omega
          have hSj' : S j := hSj.resolve_right (by omega)
          have hsb := (I.owned j hj b h1 h2).1 hSj'
          rw [show max t (j + 1) = t from by omega] at hsb
          rw [hm1 b hbn hsb, show max t' (j + 1) = t' from by omega]
          exact (hstab b (by omega)).symm
        · subst hjt
          rw [hm2 b h1 h2, show max t' (j + 1) = t' from by omega]
          exact (hstab b h2).symm
        · have hSj' : S j := hSj.resolve_right (by omega)
          have hbn : (D (t + 1)).s.nx ≤ b := by have := T.nx_le (i := t + 1) (j := j) (by omega) (by omega); omega
          have hsb := (I.owned j hj b h1 h2).1 hSj'
          rw [show max t (j + 1) = j + 1 from by omega] at hsb
          rw [hm3 b hbn, hsb]
          refine (T.stable h2 (by omega) (by omega) fun l q1 q2 q3 => absurd q3 (u3 l (by omega) ?_)).symm
          omega)
      (fun _ => ⟨fun b k hb hk => by
        rw [hbeh b hb] at hk
        obtain ⟨g, q1, q2⟩ := H2.blk b k hk
        refine ⟨⟨⟨ι2, w2, g, fun b hb => H2.fresh b (by omega), q2⟩, fun e sz g p r rows he => ?_⟩, fun e sz g p r rows he => ?_, by rw [← hn2]; exact H2.lt hk⟩
        · rw [← hn2]; exact (H2.grp b e sz g p r rows (he ▸ hk)).1
        · have : (D (t + 1)).s.grps = s2.grps := by rw [hs]
          rw [this]
          exact (H2.grp b e sz g p r rows (he ▸ hk)).2,
        fun x l hx hl => by
          have : (D (t + 1)).s.grps = s2.grps := by rw [hs]
          rw [this]
          exact K2.grps x l (by rw [g3]; exact hx) (by rw [g2]; exact hl),
        by
          have : (D (t + 1)).s.lo = s2.lo := by rw [hs]
          rw [this, K2.lo, g4]⟩)
      (fun hl' => absurd hl' hnl)
    exact hK _ _ _ _ _ h

theorem step_at {opa : Array Oper} (TO : TabOk P C) (hρ : Short ρ) (hS : SCall P C ρ sf) (T : Txt C sf opa.toList fr D V) (ok : OkDraw opa.toList) (I : Inv C ρ opa.toList fr D V ι0 w0 a0 S t ι s a w) (H0 : HRel ρ ι0 (D 0).s w0) (hE0 : EnvRel ρ ι0 (D 0).env a0.tmps)
    (hg0 : Globs C ι0) (hlo0 : (D 0).s.lo ≤ (D 0).s.nx) {i : Nat} {o : Oper} (ho : opa.toList[i]? = some o) (hSi : ¬ S i) (hpre : ∀ j, Nat.testBit (preds opa.toList i) j = true → S j)
    {ro : Option Nat} {n : Nat} {Q : Exit → Act → World → Prop} {K : Act → World → Prop}
    (hK : ∀ t' ι' s' a' w', Inv C ρ opa.toList fr D V ι0 w0 a0 (fun j => S j ∨ j = i) t' ι' s' a' w' → K a' w') : wpOpIn (FR ro) n P opa Q i K a w := by
  by_cases ha : IsAct C opa.toList D i
  · exact step_act TO hρ hS T ok I H0 hE0 hg0 hlo0 ho hSi hpre ha hK
  · exact step_easy TO hρ hS T ok I H0 hE0 hg0 hlo0 ho hSi hpre ha hK
end
end Go.Ev
