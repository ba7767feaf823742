/-
  A part of a verified evaluator of the model's code, or of its use at this seat; see the text YtkibpfkengpimaaGreatDoorEvCard.
-/
import Derived.Test.YtkibpfkengpimaaGreatDoorEvDraw2
namespace Go.Ev

/-- A memory map cut down to the names below a number. -/
def cut (ι : Inj) (n : Nat) : Inj := fun b => if b < n then ι b else none
theorem cut_lt {ι : Inj} {n b : Nat} (h : b < n) : cut ι n b = ι b := by simp [cut, h]
theorem cut_ge {ι : Inj} {n b : Nat} (h : n ≤ b) : cut ι n b = none := by simp [cut, Nat.not_lt.2 h]
theorem cut_le (ι : Inj) (n : Nat) : (cut ι n).le ι := fun b g h => by
  unfold cut at h
  split at h
  · exact h
  · cases h
def Below (ι : Inj) (n : Nat) : Prop := ∀ b, n ≤ b → ι b = none
theorem Below.lt {ι : Inj} {n b : Nat} {g : Tgt} (h : Below ι n) (hb : ι b = some g) : b < n := by
  rcases Nat.lt_or_ge b n with h1 | h1
  · exact h1
  · rw [h b h1] at hb; cases hb
theorem Below.mono {ι : Inj} {n m : Nat} (h : Below ι n) (hm : n ≤ m) : Below ι m := fun b hb => h b (Nat.le_trans hm hb)

section
variable {ρ : Val}
theorem FnRel.cut {ι0 ι : Inj} {n : Nat} (h0 : Below ι0 n) {f f0 f1 : Fn} (h : FnRel ι0 f f0) (h2 : FnRel ι f f1) : FnRel (cut ι n) f f1 := by
  cases h with
  | func f => cases h2; exact .func f
  | yield h => cases h2 with | yield h2 => exact .yield (by rw [cut_lt (h0.lt h)]; exact h2)
mutual
theorem VRel.cut {ι0 ι : Inj} {n : Nat} (h0 : Below ι0 n) {v : AV} {x0 x : Value} (h : VRel ρ ι0 v x0) (h2 : VRel ρ ι v x) : VRel ρ (cut ι n) v x := by
  cases h with
  | bool b => cases h2; exact .bool b
  | int k m => cases h2; exact .int k m
  | str l s hs => cases h2 with | str _ _ hs => exact .str _ _ hs
  | ptr o h => cases h2 with | ptr _ h2 => exact .ptr _ (by rw [cut_lt (h0.lt h)]; exact h2)
  | nilPtr => cases h2; exact .nilPtr
  | slice h _ _ _ => cases h2 with | slice h2 hl ha hr => exact .slice (by rw [cut_lt (h0.lt h)]; exact h2) hl ha hr
  | nilSlice => cases h2; exact .nilSlice
  | map h => cases h2 with | map h2 => exact .map (by rw [cut_lt (h0.lt h)]; exact h2)
  | nilMap => cases h2; exact .nilMap
  | func h ha hc => cases h2 with | func h2 ha2 hc2 => exact .func (h.cut h0 h2) (VRels.cut h0 ha ha2) (VRels.cut h0 hc hc2)
  | nilFunc => cases h2; exact .nilFunc
  | iface t h => cases h2 with | iface _ h2 => exact .iface _ (VRel.cut h0 h h2)
  | nilIface => cases h2; exact .nilIface
  | agg h _ => cases h2 with | agg h2 hf => exact .agg (VRels.cut h0 h h2) hf
  | tuple h => cases h2 with | tuple h2 => exact .tuple (VRels.cut h0 h h2)
  | oneOf k l n h => cases h2 with | oneOf _ _ m h2 => exact .oneOf k l m h2
theorem VRels.cut {ι0 ι : Inj} {n : Nat} (h0 : Below ι0 n) {v : List AV} {x0 x : List Value} (h : VRels ρ ι0 v x0) (h2 : VRels ρ ι v x) : VRels ρ (cut ι n) v x := by
  cases h with
  | nil => cases h2; exact .nil
  | cons h hs => cases h2 with | cons h2 hs2 => exact .cons (VRel.cut h0 h h2) (VRels.cut h0 hs hs2)
end

/-- A value, a block that mentions no name from n on. -/
def Clo (ρ : Val) (n : Nat) (v : AV) : Prop := ∃ ι x, Below ι n ∧ VRel ρ ι v x
def CloB (ρ : Val) (n : Nat) (k : ABlk) : Prop := ∃ ι w g, Below ι n ∧ BlkRel ρ ι w g k
theorem Clo.mono {n m : Nat} {v : AV} (h : Clo ρ n v) (hm : n ≤ m) : Clo ρ m v := let ⟨ι, x, h1, h2⟩ := h; ⟨ι, x, h1.mono hm, h2⟩
theorem CloB.mono {n m : Nat} {k : ABlk} (h : CloB ρ n k) (hm : n ≤ m) : CloB ρ m k := let ⟨ι, w, g, h1, h2⟩ := h; ⟨ι, w, g, h1.mono hm, h2⟩
theorem Clo.cut {n : Nat} {v : AV} (h : Clo ρ n v) {ι : Inj} {x : Value} (h2 : VRel ρ ι v x) : VRel ρ (Ev.cut ι n) v x := let ⟨_, _, h1, h3⟩ := h; h3.cut h1 h2
theorem MRel.cut {ι0 ι : Inj} {n : Nat} (h0 : Below ι0 n) : ∀ {l : List (AV × AV × Nat)} {l0 l1 : List MapEntry}, MRel ρ ι0 l l0 → MRel ρ ι l l1 → MRel ρ (Ev.cut ι n) l l1 := by
  intro l
  induction l with
  | nil => intro l0 l1 _ h2; cases h2; exact .nil
  | cons p l ih =>
    intro l0 l1 h h2
    cases h with
    | cons hk hv hb h => cases h2 with | cons hk2 hv2 hb2 h2 => exact .cons (hk.cut h0 hk2) (hv.cut h0 hv2) hb2 (ih h h2)
theorem CloB.cut {n : Nat} {k : ABlk} (h : CloB ρ n k) {ι : Inj} {w : World} {g : Tgt} (h2 : BlkRel ρ ι w g k) : BlkRel ρ (Ev.cut ι n) w g k := by
  obtain ⟨ι0, w0, g0, h0, h⟩ := h
  cases h with
  | cells _ _ _ _ _ _ _ _ _ hc =>
    cases h2 with
    | cells hh hsz hrow hgrp hpos hs0 hroom hlen hfz hc2 =>
      refine .cells hh hsz hrow hgrp hpos hs0 hroom hlen hfz fun i row hi => ⟨(hc2 i row hi).1, fun j v hj => ?_⟩
      obtain ⟨q1, v', q2, q3⟩ := (hc2 i row hi).2 j v hj
      obtain ⟨_, v0, _, q5⟩ := (hc i row hi).2 j v hj
      exact ⟨q1, v', q2, q5.cut h0 q3⟩
  | map _ hm => cases h2 with | map hh hm2 => exact .map hh (hm.cut h0 hm2)
  | siter => cases h2 with | siter hh hs hk hb => exact .siter hh hs hk hb
  | loop _ _ _ _ henv _ _ _ _ =>
    cases h2 with
    | loop hh hst hp hsz henv2 hps ha hb hok =>
      refine .loop hh hst hp hsz (fun t v hv => ?_) hps ha hb hok
      obtain ⟨x, q1, q2⟩ := henv2 t v hv
      obtain ⟨x0, _, q3⟩ := henv t v hv
      exact ⟨x, q1, q3.cut h0 q2⟩

/-- A trie with what a function says. -/
theorem Tr.exists_of_fun {α : Type} (f : Nat → Option α) : ∀ N, (∀ b, N ≤ b → f b = none) → ∃ t : Tr α, ∀ b, t.get b = f b := by
  have key : ∀ N, ∃ t : Tr α, ∀ b, t.get b = if b < N then f b else none := by
    intro N
    induction N with
    | zero => exact ⟨.nil, fun b => by simp⟩
    | succ N ih =>
      obtain ⟨t, ht⟩ := ih
      refine ⟨t.put N (f N), fun b => ?_⟩
      by_cases h : N = b
      · subst h; rw [Tr.get_put_same]; simp
      · rw [Tr.get_put_other _ _ h, ht]
        by_cases h2 : b < N
        · rw [if_pos h2, if_pos (by omega)]
        · rw [if_neg h2, if_neg (by omega)]
  intro N hN
  obtain ⟨t, ht⟩ := key N
  refine ⟨t, fun b => ?_⟩
  rw [ht]
  split
  · rfl
  · rename_i h; rw [hN b (by omega)]

theorem BlkRel.cells_of {ι : Inj} {w : World} {g : Tgt} {k : ABlk} (h : BlkRel ρ ι w g k) {c : Array Value} {e : TypeId} {fz : Nat × Nat} (hw : w.heap[g.blk]? = some (.cells c e fz)) : k.isCells = true := by
  cases h with
  | cells => rfl
  | map h => rw [h] at hw; cases hw
  | siter h => rw [h] at hw; cases hw
  | loop h => rw [h] at hw; cases hw

/-- What has been done over a part of the memory, put beside the rest of it. -/
theorem merge {s s1 s2 s' : St} {ι ι2 : Inj} {w w2 : World} {n n2 : Nat} (H : HRel ρ ι s w) (hn1 : s1.nx = n) (hn2 : s2.nx = n2) (hnn : n2 ≤ s.nx) (K : Keep s1 (cut ι n) w s2 ι2 w2) (H2 : HRel ρ ι2 s2 w2)
    (hsub : ∀ b k, s1.heap.get b = some k → s.heap.get b = some k) (hfree : ∀ b, n ≤ b → b < n2 → ι b = none)
    (hap : ∀ x kx gx y ky gy, s.heap.get x = some kx → s1.heap.get x = none → ι x = some gx → s1.lo ≤ y → s1.heap.get y = some ky → ι y = some gy → gx.blk ≠ gy.blk)
    (hs' : ∀ b, s'.heap.get b = match s2.heap.get b with | some k => some k | none => if (s1.heap.get b).isSome then none else s.heap.get b)
    (hold : ∀ b k, s2.heap.get b = some k → b < s1.lo → b < n) (hnx' : s'.nx = s.nx) (hgr : ∀ b e sz g p r rows, s'.heap.get b = some (.cells e sz g p r rows) → g < s'.nx ∧ ∃ l, s'.grps.get g = some l ∧ b ∈ l) :
    ∃ ι', ι.le ι' ∧ ι2.le ι' ∧ (∀ b, b < n ∨ n2 ≤ b → ι' b = ι b) ∧ (∀ b, n ≤ b → b < n2 → ι' b = ι2 b) ∧ HRel ρ ι' s' w2 := by
  let ι' : Inj := fun c => if c < n then ι c else if c < n2 then ι2 c else ι c
  have e1 : ∀ c, c < n → ι' c = ι c := fun c h => by simp [ι', h]
  have e2 : ∀ c, n ≤ c → c < n2 → ι' c = ι2 c := fun c h h' => by simp [ι', Nat.not_lt.2 h, h']
  have e3 : ∀ c, n2 ≤ c → ι' c = ι c := fun c h => by
    simp only [ι']
    split
    · rfl
    · rw [if_neg (by omega)]
  have hnle : n ≤ n2 := by rw [← hn1, ← hn2]; exact K.nx
  have hle : ι.le ι' := by
    intro b g hb
    rcases Nat.lt_or_ge b n with h | h
    · rw [e1 b h]; exact hb
    · rcases Nat.lt_or_ge b n2 with h' | h'
      · rw [hfree b h h'] at hb; cases hb
      · rw [e3 b h']; exact hb
  have hle2 : ι2.le ι' := by
    intro b g hb
    rcases Nat.lt_or_ge b n with h | h
    · rw [e1 b h]
      rw [K.old b (hn1.symm ▸ h), cut_lt h] at hb
      exact hb
    · rcases Nat.lt_or_ge b n2 with h' | h'
      · rw [e2 b h h']; exact hb
      · rw [H2.fresh b (hn2.symm ▸ h')] at hb; cases hb
  -- who lives behind
  have hcase : ∀ b k, s'.heap.get b = some k → s2.heap.get b = some k ∨ (s2.heap.get b = none ∧ s1.heap.get b = none ∧ s.heap.get b = some k) := by
    intro b k hb
    rw [hs'] at hb
    cases h2 : s2.heap.get b with
    | some k2 => rw [h2] at hb; exact .inl hb
    | none =>
      rw [h2] at hb
      cases h1 : s1.heap.get b with
      | some k1 => rw [h1] at hb; simp at hb
      | none => rw [h1] at hb; simp at hb; exact .inr ⟨rfl, rfl, hb⟩
  -- the rest lies as it lay
  have hrest : ∀ x kx gx, s1.heap.get x = none → s.heap.get x = some kx → ι x = some gx → w2.heap[gx.blk]? = w.heap[gx.blk]? := by
    intro x kx gx h1 h2 h3
    refine K.kept gx.blk (H.tgt _ _ h3) fun y ky gy hy hky hgy => ?_
    intro e
    exact hap x kx gx y ky gy h2 h1 h3 hy hky (cut_le _ _ _ _ hgy) e.symm
  have hι2 : ∀ b k, s2.heap.get b = some k → b < n2 := fun b k hb => by rw [← hn2]; exact H2.lt hb
  refine ⟨ι', hle, hle2, fun b hb => hb.elim (e1 b) (e3 b), e2, ⟨?_, ?_, ?_, ?_, ?_⟩⟩
  · intro b k hb
    rcases hcase b k hb with h | ⟨_, h1, h2⟩
    · obtain ⟨g, q1, q2⟩ := H2.blk _ _ h
      exact ⟨g, hle2 _ _ q1, q2.next hle2 rfl⟩
    · obtain ⟨g, q1, q2⟩ := H.blk _ _ h2
      exact ⟨g, hle _ _ q1, q2.next hle (hrest _ _ _ h1 h2 q1)⟩
  · intro x y kx ky gx gy hx hy hgx hgy hne hblk
    -- one of the rest, one that was done
    have mixed : ∀ x kx gx y ky gy, s1.heap.get x = none → s.heap.get x = some kx → ι' x = some gx → s2.heap.get y = some ky → ι' y = some gy → x ≠ y → gx.blk = gy.blk → kx.isCells = true ∧ ky.isCells = true ∧ gx.grp = gy.grp ∧ gx.base + gy.pos = gy.base + gx.pos := by
      intro x kx gx y ky gy hx1 hx hgx hy hgy hne hblk
      obtain ⟨gx0, hgx0, _⟩ := H.blk _ _ hx
      have := hle _ _ hgx0
      rw [hgx] at this; cases this
      obtain ⟨gy0, hgy0, hby⟩ := H2.blk _ _ hy
      have := hle2 _ _ hgy0
      rw [hgy] at this; cases this
      have hlt : gy.blk < w.heap.size := hblk ▸ H.tgt _ _ hgx0
      rcases Nat.lt_or_ge y s1.lo with hylo | hylo
      · -- an old one that cannot be written
        have hyn : y < n := hold _ _ hy hylo
        cases hy1 : s1.heap.get y with
        | none => rw [K.dead y (hn1.symm ▸ hyn) hy1] at hy; cases hy
        | some ky1 =>
          have hgy1 : ι y = some gy := by rw [K.old y (hn1.symm ▸ hyn), cut_lt hyn] at hgy0; exact hgy0
          obtain ⟨q1, q2, q3, q4⟩ := H.sep x y kx ky1 gx gy hx (hsub _ _ hy1) hgx0 hgy1 hne hblk
          refine ⟨q1, ?_, q3, q4⟩
          obtain ⟨g0, hg0, hb0⟩ := H.blk _ _ hx
          rw [hgx0] at hg0; cases hg0
          cases hb0 with
          | cells hh =>
            have := hrest _ _ _ hx1 hx hgx0
            rw [hh, hblk] at this
            exact hby.cells_of this
          | _ => cases q1
      · obtain ⟨b0, k0, g0, q1, q2, q3, q4⟩ := K.writes y ky gy hylo hy hgy0 hlt
        exact absurd (hblk.trans q4.symm) (hap x kx gx b0 k0 g0 hx hx1 hgx0 q1 q2 (cut_le _ _ _ _ q3))
    rcases hcase x kx hx with h1 | ⟨_, h1, h2⟩
    · rcases hcase y ky hy with h3 | ⟨_, h3, h4⟩
      · obtain ⟨gx0, hgx0, _⟩ := H2.blk _ _ h1
        have := hle2 _ _ hgx0
        rw [hgx] at this; cases this
        obtain ⟨gy0, hgy0, _⟩ := H2.blk _ _ h3
        have := hle2 _ _ hgy0
        rw [hgy] at this; cases this
        exact H2.sep _ _ _ _ _ _ h1 h3 hgx0 hgy0 hne hblk
      · obtain ⟨q1, q2, q3, q4⟩ := mixed y ky gy x kx gx h3 h4 hgy h1 hgx (fun e => hne e.symm) hblk.symm
        exact ⟨q2, q1, q3.symm, q4.symm⟩
    · rcases hcase y ky hy with h3 | ⟨_, h3, h4⟩
      · exact mixed x kx gx y ky gy h1 h2 hgx h3 hgy hne hblk
      · obtain ⟨gx0, hgx0, _⟩ := H.blk _ _ h2
        have := hle _ _ hgx0
        rw [hgx] at this; cases this
        obtain ⟨gy0, hgy0, _⟩ := H.blk _ _ h4
        have := hle _ _ hgy0
        rw [hgy] at this; cases this
        exact H.sep _ _ _ _ _ _ h2 h4 hgx0 hgy0 hne hblk
  · exact hgr
  · intro b hb
    rw [hnx'] at hb
    rw [e3 b (by omega)]
    exact H.fresh b hb
  · intro b g hb
    rcases Nat.lt_or_ge b n with h | h
    · rw [e1 b h] at hb; exact Nat.lt_of_lt_of_le (H.tgt _ _ hb) K.size
    · rcases Nat.lt_or_ge b n2 with h' | h'
      · rw [e2 b h h'] at hb; exact H2.tgt _ _ hb
      · rw [e3 b h'] at hb; exact Nat.lt_of_lt_of_le (H.tgt _ _ hb) K.size

/-- The same, for what is kept since some time before. -/
theorem merge_keep {s0 s s1 s2 s' : St} {ι0 ι ι2 ι' : Inj} {w0 w w2 : World} {n n2 : Nat} (H : HRel ρ ι s w) (K0 : Keep s0 ι0 w0 s ι w) (hn1 : s1.nx = n) (K : Keep s1 (cut ι n) w s2 ι2 w2) (hs0n : s0.nx ≤ n)
    (hsub : ∀ b k, s1.heap.get b = some k → s.heap.get b = some k) (hlo : s0.lo ≤ s1.lo) (hlt2 : ∀ b k, s2.heap.get b = some k → b < n2)
    (hs' : ∀ b, s'.heap.get b = match s2.heap.get b with | some k => some k | none => if (s1.heap.get b).isSome then none else s.heap.get b)
    (hold : ∀ b k, s2.heap.get b = some k → b < s1.lo → b < n) (hnx' : s'.nx = s.nx) (hlo' : s'.lo = s.lo) (hgr' : s'.grps = s.grps)
    (hle : ι.le ι') (h1 : ∀ b, b < n ∨ n2 ≤ b → ι' b = ι b) (h2 : ∀ b, n ≤ b → b < n2 → ι' b = ι2 b) (hle2 : ι2.le ι') : Keep s0 ι0 w0 s' ι' w2 := by
  have hsum : ∀ b, s.heap.get b = none → s1.heap.get b = none := by
    intro b hb
    cases h : s1.heap.get b with
    | none => rfl
    | some k => rw [hsub b k h] at hb; cases hb
  -- what lives in the part at a place that is old, lay there at the start
  have hback : ∀ y ky gy, s0.lo ≤ y → s1.heap.get y = some ky → ι y = some gy → gy.blk < w0.heap.size → ∃ b0 k0 g0, s0.lo ≤ b0 ∧ s0.heap.get b0 = some k0 ∧ ι0 b0 = some g0 ∧ g0.blk = gy.blk :=
    fun y ky gy hy hky hgy hlt => K0.writes y ky gy hy (hsub _ _ hky) hgy hlt
  refine ⟨K0.le.trans hle, Nat.le_trans K0.size K.size, hlo'.trans K0.lo, hnx' ▸ K0.nx, fun b hb => ?_, fun B hB hn => ?_, fun b k g hb hk hg hlt => ?_, fun b g hb hg => ?_, fun b hb hd => ?_, fun x l hx hl => hgr' ▸ K0.grps x l hx hl, ⟨K.io.1.trans K0.io.1, K.io.2.trans K0.io.2⟩⟩
  · rw [h1 b (.inl (by omega))]; exact K0.old b hb
  · have hk1 : w2.heap[B]? = w.heap[B]? := by
      refine K.kept B (Nat.lt_of_lt_of_le hB K0.size) fun y ky gy hy hky hgy e => ?_
      obtain ⟨b0, k0, g0, q1, q2, q3, q4⟩ := hback y ky gy (Nat.le_trans hlo hy) hky (cut_le _ _ _ _ hgy) (e ▸ hB)
      exact hn b0 k0 g0 q1 q2 q3 (q4.trans e)
    rw [hk1]
    exact K0.kept B hB hn
  · rw [hs'] at hk
    cases h3 : s2.heap.get b with
    | some k2 =>
      rcases Nat.lt_or_ge b s1.lo with h4 | h4
      · have hbn := hold b k2 h3 h4
        have hgι : ι b = some g := by rw [← h1 b (.inl hbn)]; exact hg
        cases h5 : s1.heap.get b with
        | none => rw [K.dead b (hn1.symm ▸ hbn) h5] at h3; cases h3
        | some k1 => exact hback b k1 g hb h5 hgι hlt
      · have hg2 : ι2 b = some g := by
          rcases Nat.lt_or_ge b n with h | h
          · rw [K.old b (hn1.symm ▸ h), cut_lt h, ← h1 b (.inl h)]; exact hg
          · rw [← h2 b h (hlt2 b k2 h3)]; exact hg
        obtain ⟨y, ky, gy, q1, q2, q3, q4⟩ := K.writes b k2 g h4 h3 hg2 (Nat.lt_of_lt_of_le hlt K0.size)
        obtain ⟨b0, k0, g0, r1, r2, r3, r4⟩ := hback y ky gy (Nat.le_trans hlo q1) q2 (cut_le _ _ _ _ q3) (q4 ▸ hlt)
        exact ⟨b0, k0, g0, r1, r2, r3, r4.trans q4⟩
    | none =>
      rw [h3] at hk
      cases h4 : s1.heap.get b with
      | some k1 => rw [h4] at hk; simp at hk
      | none =>
        rw [h4] at hk
        simp at hk
        rcases Nat.lt_or_ge b n with h | h
        · rw [h1 b (.inl h)] at hg; exact K0.writes b k g hb hk hg hlt
        · rcases Nat.lt_or_ge b n2 with h' | h'
          · -- a name of the part that is dead: not known before
            have : ι b = some g ∨ ι b = none := by
              cases hι : ι b with
              | none => exact .inr rfl
              | some g' => have := hle _ _ hι; rw [hg] at this; cases this; exact .inl rfl
            rcases this with h5 | h5
            · exact K0.writes b k g hb hk h5 hlt
            · obtain ⟨g', q, _⟩ := H.blk _ _ hk
              rw [h5] at q; cases q
          · rw [h1 b (.inr h')] at hg; exact K0.writes b k g hb hk hg hlt
  · have hkey : ∀ b g, s0.nx ≤ b → ι b = some g → w0.heap.size ≤ g.blk ∨ ∃ b0 g0, b0 < s0.nx ∧ ι0 b0 = some g0 ∧ g0.blk = g.blk := K0.new
    rcases Nat.lt_or_ge b n with h | h
    · rw [h1 b (.inl h)] at hg; exact hkey b g hb hg
    · rcases Nat.lt_or_ge b n2 with h' | h'
      · rw [h2 b h h'] at hg
        rcases K.new b g (hn1.symm ▸ h) hg with h5 | ⟨b0, g0, h5, h6, h7⟩
        · exact .inl (Nat.le_trans K0.size h5)
        · have h8 := cut_le _ _ _ _ h6
          rcases Nat.lt_or_ge b0 s0.nx with h9 | h9
          · exact .inr ⟨b0, g0, h9, by rw [← K0.old b0 h9]; exact h8, h7⟩
          · rcases hkey b0 g0 h9 h8 with q | ⟨b1, g1, q1, q2, q3⟩
            · exact .inl (h7 ▸ q)
            · exact .inr ⟨b1, g1, q1, q2, q3.trans h7⟩
      · rw [h1 b (.inr h')] at hg; exact hkey b g hb hg
  · have q1 := K0.dead b hb hd
    have q2 := hsum b q1
    have q3 := K.dead b (hn1.symm ▸ (by omega)) q2
    rw [hs', q3, q2]
    simpa using q1
end
end Go.Ev
