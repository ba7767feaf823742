/-
  A part of a verified evaluator of the model's code, or of its use at this seat; see the text YtkibpfkengpimaaGreatDoorEvCard.
-/
import Derived.Test.YtkibpfkengpimaaGreatDoorEvDraw14
namespace Go.Ev
section
variable {P : Program} {C : Ctx} {ρ : Val} {sf : Self} {fr : Fr} {D : Nat → Dr} {V : Nat → AV} {ι0 : Inj} {w0 : World} {a0 : Act}

theorem preds_all {opa : Array Oper} (ok : OkDraw opa.toList) {md : Region.Mode} {listed : Array Bool} {i : Nat} (hi : i ∈ Region.ready md opa listed) (hcl : ∀ j k, listed.getD j false = true → Nat.testBit (preds opa.toList j) k = true → listed.getD k false = true) :
    ∀ j, Nat.testBit (preds opa.toList i) j = true → listed.getD j false = true := by
  intro j hj
  obtain ⟨_, o, ho, hall⟩ := mem_ready.1 hi
  have ho' : opa.toList[i]? = some o := by simpa using ho
  obtain ⟨e, h1, h2, h3⟩ := (preds_iff ho' (ok.edges i o ho') j).1 hj
  have he := hall e (by simpa using h1) (binds_of_any h2 md)
  rcases h3 with rfl | h3
  · exact he
  · exact hcl _ _ he h3

/-- Some operation is ready as long as not all are listed. -/
theorem ready_some {opa : Array Oper} (ok : OkDraw opa.toList) {listed : Array Bool} (hsz : listed.size = opa.size) (h0 : Region.ready .any opa listed = []) : ∀ j, j < opa.size → listed.getD j false = true := by
  intro j
  induction j using Nat.strongRecOn with
  | _ j ih =>
    intro hj
    cases hl : listed.getD j false with
    | true => rfl
    | false =>
      have hm : j ∈ Region.ready .any opa listed := by
        refine mem_ready.2 ⟨?_, opa[j], by simp [hj], fun e he hbe => ?_⟩
        · have hlt : j < listed.size := by omega
          simpa [hlt] using hl
        · have ho' : opa.toList[j]? = some opa[j] := by simp [hj]
          have hbi : bindsAny e = true := by
            unfold Region.binds at hbe
            unfold bindsAny
            split at hbe <;> simp_all
          have := okEdges_spec (ok.edges j _ ho') e (by simpa using he) hbi
          exact ih e.on this (by omega)
      rw [h0] at hm
      cases hm

theorem count_set (l : List Bool) : ∀ (i : Nat), l[i]? = some false → (l.set i true).count false + 1 = l.count false := by
  induction l with
  | nil => intro i h; simp at h
  | cons x l ih =>
    intro i h
    cases i with
    | zero => simp at h; subst h; simp
    | succ i =>
      have := ih i (by simpa using h)
      simp only [List.set_cons_succ, List.count_cons]
      omega

theorem any_wp {opa : Array Oper} (TO : TabOk P C) (hρ : Short ρ) (hS : SCall P C ρ sf) (T : Txt C sf opa.toList fr D V) (ok : OkDraw opa.toList) (H0 : HRel ρ ι0 (D 0).s w0) (hE0 : EnvRel ρ ι0 (D 0).env a0.tmps)
    (hg0 : Globs C ι0) (hlo0 : (D 0).s.lo ≤ (D 0).s.nx) {ro : Option Nat} {n : Nat} {Q : Exit → Act → World → Prop}
    (hQ : ∀ S t ι s a w, Inv C ρ opa.toList fr D V ι0 w0 a0 S t ι s a w → (∀ j, j < opa.toList.length → S j) → Q .normal a w) :
    ∀ (fuel : Nat) (listed : Array Bool) (t : Nat) (ι : Inj) (s : St) (a : Act) (w : World), listed.size = opa.size → listed.toList.count false ≤ fuel → Inv C ρ opa.toList fr D V ι0 w0 a0 (fun j => listed.getD j false = true) t ι s a w →
      wpAnyIn (FR ro) n P .any opa Q fuel listed a w := by
  have hlen : opa.toList.length = opa.size := by simp
  intro fuel
  induction fuel with
  | zero =>
    intro listed t ι s a w hsz hc I
    have hall : ∀ j, j < opa.size → listed.getD j false = true := by
      intro j hj
      have h0 : listed.toList.count false = 0 := by omega
      have hlt : j < listed.size := by omega
      have := List.count_eq_zero.1 h0
      have hm : listed[j] ∈ listed.toList := by simp
      cases hb : listed[j] with
      | false => rw [hb] at hm; exact absurd hm this
      | true => simp [hlt, hb]
    refine ⟨?_, hQ _ t ι s a w I fun j hj => hall j (by omega)⟩
    refine List.eq_nil_iff_forall_not_mem.2 fun j hj => ?_
    obtain ⟨h1, o, ho, _⟩ := mem_ready.1 hj
    have hjs : j < opa.size := (Array.getElem?_eq_some_iff.1 ho).1
    have h2 := hall j hjs
    have hlt : j < listed.size := by omega
    simp [hlt] at h1 h2
    rw [h1] at h2; cases h2
  | succ fuel ih =>
    intro listed t ι s a w hsz hc I
    refine ⟨fun h0 => hQ _ t ι s a w I fun j hj => ready_some ok hsz h0 j (by omega), fun i hi => ?_⟩
    obtain ⟨h1, o, ho, _⟩ := mem_ready.1 hi
    have hjs : i < opa.size := (Array.getElem?_eq_some_iff.1 ho).1
    have hlt : i < listed.size := by omega
    have h2 : listed[i]? = some false := by
      simp [hlt] at h1
      simp [hlt, h1]
    have ho' : opa.toList[i]? = some o := by simpa using ho
    have hnot : ¬ listed.getD i false = true := by
      intro e
      simp [h2] at e
    refine step_at TO hρ hS T ok I H0 hE0 hg0 hlo0 ho' hnot (preds_all ok hi I.closed) fun t' ι' s' a' w' I' => ?_
    have hset : ∀ j, (listed.setIfInBounds i true).getD j false = true ↔ (listed.getD j false = true ∨ j = i) := by
      intro j
      by_cases hij : i = j
      · subst hij; simp [hlt]
      · have : j ≠ i := fun e => hij e.symm
        simp [Array.getElem?_setIfInBounds_ne hij, this]
    refine ih (listed.setIfInBounds i true) t' ι' s' a' w' (by simp [hsz]) ?_ ?_
    · have h3 : listed.toList[i]? = some false := by simpa using h2
      have := count_set listed.toList i h3
      have e : (listed.setIfInBounds i true).toList = listed.toList.set i true := by simp
      rw [e]; omega
    · have e : (fun j => (listed.setIfInBounds i true).getD j false = true) = (fun j => listed.getD j false = true ∨ j = i) := by
        funext j; exact propext (hset j)
      rw [e]
      exact I'

/-- Where all has been done. -/
theorem Inv.done {opa : Array Oper} (T : Txt C sf opa.toList fr D V) (ok : OkDraw opa.toList) {S : Nat → Prop} {t : Nat} {ι : Inj} {s : St} {a : Act} {w : World} (I : Inv C ρ opa.toList fr D V ι0 w0 a0 S t ι s a w) (hall : ∀ j, j < opa.toList.length → S j)
    (H0 : HRel ρ ι0 (D 0).s w0) (hE0 : EnvRel ρ ι0 (D 0).env a0.tmps) : HRel ρ ι (D opa.toList.length).s w ∧ EnvRel ρ ι (D opa.toList.length).env a.tmps ∧ Keep (D 0).s ι0 w0 (D opa.toList.length).s ι w := by
  have htN : t = opa.toList.length := by
    rcases Nat.lt_or_ge t opa.toList.length with h | h
    · exact absurd (hall t h) (I.tat h).2
    · exact Nat.le_antisymm I.tle h
  have hacts : ∀ j, j < opa.toList.length → IsAct C opa.toList D j → S j := fun j hj _ => hall j hj
  have halt := T.alive_lt I.facts (fun b k hk => H0.lt hk) (Nat.le_refl _) hacts
  have hheap : ∀ b, (D opa.toList.length).s.heap.get b = s.heap.get b := by
    intro b
    rcases Nat.lt_or_ge b (D opa.toList.length).s.nx with h | h
    · exact (I.block T (Nat.le_refl _) h (fun j h1 _ _ => hall j h1) (fun j h1 h2 => by omega) (fun j h1 h2 => by have := I.tle; omega)).symm
    · have h1 : s.heap.get b = none := by
        cases h2 : s.heap.get b with
        | none => rfl
        | some k => have := I.rel.lt h2; rw [I.nx] at this; omega
      rw [h1]
      cases h2 : (D opa.toList.length).s.heap.get b with
      | none => rfl
      | some k => have := halt b k h2; omega
  have hlo := T.lo_eq I.facts (Nat.le_refl _) hacts
  refine ⟨⟨fun b k hk => I.rel.blk b k (by rw [← hheap]; exact hk), fun b b' k k' g g' h1 h2 => I.rel.sep b b' k k' g g' (by rw [← hheap]; exact h1) (by rw [← hheap]; exact h2), fun b e sz g p r rows hb => ⟨?_, ?_⟩, fun b hb => I.rel.fresh b (by rw [I.nx]; exact hb), I.rel.tgt⟩, fun t' v hv => ?_, ?_⟩
  · rw [← I.nx]; exact (I.rel.grp b e sz g p r rows (by rw [← hheap]; exact hb)).1
  · exact listed T I.facts (I.okb0 H0) (Inv.listed0 H0) (Nat.le_refl _) hacts b _ (halt b _ hb) (fun j h1 _ _ => hall j h1) hb _ _ _ _ _ _ rfl
  · by_cases hex : ∃ (j : Nat) (p : Oper), opa.toList[j]? = some p ∧ p.dst = some t'
    · obtain ⟨j, p, hp, hd⟩ := hex
      have hj : j < opa.toList.length := (List.getElem?_eq_some_iff.1 hp).1
      rw [T.env_dst ok (Nat.le_refl _) j p t' hj hp hd] at hv
      cases hv
      exact I.tmps.vals j p t' (hall j hj) hp hd
    · have hnone : ∀ (j : Nat) (p : Oper), opa.toList[j]? = some p → p.dst ≠ some t' := fun j p hp hd => hex ⟨j, p, hp, hd⟩
      rw [T.env_old (Nat.le_refl _) t' fun j p _ hp => hnone j p hp] at hv
      obtain ⟨x, h1, h2⟩ := hE0 t' v hv
      exact ⟨x, by rw [I.tmps.others t' fun j p _ hp => hnone j p hp]; exact h1, h2.le I.keep.le⟩
  · refine ⟨I.keep.le, I.keep.size, hlo, T.nx_le (Nat.zero_le _) (Nat.le_refl _), I.keep.old, I.keep.kept, fun b k g hb hk hg hB => I.keep.writes b k g hb (by rw [← hheap]; exact hk) hg hB, I.keep.new, fun b hb hd => by rw [hheap]; exact I.keep.dead b hb hd, T.grps_grow I.facts (Nat.le_refl _) hacts, I.keep.io⟩

/-- Where nothing has been done. -/
theorem Inv.start {opa : Array Oper} (T : Txt C sf opa.toList fr D V) (H0 : HRel ρ ι0 (D 0).s w0) {w : World} (hw : w.heap = w0.heap) (hs : a0.tmps.size = fr.size) (hio : w.os = w0.os ∧ w.output = w0.output := by exact ⟨rfl, rfl⟩) : ∃ t s, Inv C ρ opa.toList fr D V ι0 w0 a0 (fun _ => False) t ι0 s a0 w := by
  obtain ⟨gr, hgr⟩ := Tr.exists_of_fun (fun x => if x < (D opa.toList.length).s.nx then some (List.range (D opa.toList.length).s.nx ++ ((D 0).s.grps.get x).getD []) else none) (D opa.toList.length).s.nx (fun b hb => if_neg (Nat.not_lt.2 hb))
  obtain ⟨t, _, t2, t3, t4⟩ := next_act C opa.toList D opa.toList.length 0 (by omega)
  have hle := T.nx_le (Nat.zero_le _) (Nat.le_refl opa.toList.length)
  have hfull : ∀ x, x < (D opa.toList.length).s.nx → gr.get x = some (List.range (D opa.toList.length).s.nx ++ ((D 0).s.grps.get x).getD []) := fun x hx => by rw [hgr, if_pos hx]
  have H1 := H0.sameHeap hw
  refine ⟨t, { heap := (D 0).s.heap, grps := gr, nx := (D opa.toList.length).s.nx, lo := (D 0).s.lo }, ⟨⟨H1.blk, H1.sep, fun b e sz g p r rows hb => ?_, fun b hb => H0.fresh b (Nat.le_trans hle hb), H1.tgt⟩, ?_, rfl, rfl, fun x hx => ⟨_, hfull x hx, fun b hb => ?_⟩, ?_, ?_, fun j h => h.elim, fun j k h => h.elim, t2, fun j hj ha => absurd ha (t3 j (Nat.zero_le _) hj), fun h => ⟨t4 h, fun h => h⟩, fun b hb => ?_, fun j hj b h1 h2 => ⟨fun h => h.elim, fun _ => ?_⟩⟩⟩
  · have h1 := H0.grp b e sz g p r rows hb
    have hbn := H0.lt hb
    exact ⟨Nat.lt_of_lt_of_le h1.1 hle, _, hfull g (by omega), List.mem_append_left _ (List.mem_range.2 (by show b < (D opa.toList.length).s.nx; omega))⟩
  · refine ⟨.refl _, by rw [hw]; exact Nat.le_refl _, rfl, hle, fun _ _ => rfl, fun B _ _ => by rw [hw], fun b k g hb hk hg _ => ⟨b, k, g, hb, hk, hg, rfl⟩, fun b g hb hg => (by rw [H0.fresh b hb] at hg; cases hg), fun b _ hd => hd, fun x l hx hl => ⟨_, hfull x (by omega), fun z hz => ?_⟩, hio⟩
    rw [hl]
    exact List.mem_append_right _ hz
  · exact List.mem_append_left _ (List.mem_range.2 hb)
  · exact ⟨fun j h => h.elim, fun j h => h.elim, fun j h => h.elim, fun j h => h.elim⟩
  · exact ⟨hs, rfl, fun j o d h => h.elim, fun d _ => rfl⟩
  · exact (T.stable hb (Nat.zero_le t) t2 fun j _ h1 h2 => absurd h2 (t3 j (Nat.zero_le _) h1)).symm
  · have h0 := T.nx_le (Nat.zero_le j) (by omega : j ≤ opa.toList.length)
    refine ⟨?_, H0.fresh b (by omega)⟩
    show (D 0).s.heap.get b = none
    cases h3 : (D 0).s.heap.get b with
    | none => rfl
    | some k => have := H0.lt h3; omega

/-- Regions whose order is open do what was reckoned in the text's order. -/
theorem draw_sound (TO : TabOk P C) (hρ : Short ρ) (sf : Self) (hS : SCall P C ρ sf) : SDraw P C ρ sf := by
  intro opa env fr s ex env' s' h hok id ro n a w ι H hE hs hg
  have ok := okDraw_spec hok
  unfold regionDrawA at h
  cases hlo : Nat.ble s.lo s.nx with
  | false => rw [hlo] at h; cases h
  | true =>
  rw [hlo] at h
  simp only [cond_true] at h
  split at h
  case h_2 => cases h
  rename_i d hd
  simp only [Option.some.injEq, Prod.mk.injEq] at h
  obtain ⟨rfl, rfl, rfl⟩ := h
  obtain ⟨D, d1, d2, d3⟩ := drawA_run (C := C) (self := sf) (ops := opa.toList) (fr := fr) (nx0 := s.nx) opa.toList 0 _ d hd rfl (Nat.zero_le _)
  have hch : ∀ j : Nat, ∃ v, ∀ o, opa.toList[j]? = some o → Did C sf opa.toList fr s.nx j o (D j) (D (j + 1)) v := by
    intro j
    cases ho : opa.toList[j]? with
    | none => exact ⟨undefA, fun o h => by cases h⟩
    | some o =>
      obtain ⟨v, hv⟩ := d3 j o (Nat.zero_le j) ho
      exact ⟨v, fun o' h => by cases h; exact hv⟩
  let V : Nat → AV := fun j => (hch j).choose
  have T : Txt C sf opa.toList fr D V := by
    refine ⟨fun j o ho => ?_, by rw [d1], by rw [d1], by rw [d1], by rw [d1]⟩
    rw [d1]
    exact (hch j).choose_spec o ho
  have e0 : (D 0).s = s := by rw [d1]
  have e1 : (D 0).env = env := by rw [d1]
  refine wpIn_region_draw fun t => ?_
  have key : ∀ (t : Nat), wpOpsIn (FR ro) n P opa (CPost ρ s ι w a.defers fr .normal d.env d.s) (Region.linearise .any opa t) a { w with drawn := w.drawn + 1 } := by
    intro t
    refine wpAnyIn_sound (md := .any) opa.size t _ a _ ?_
    obtain ⟨t0, s1, I0⟩ := Inv.start (C := C) (ρ := ρ) (ι0 := ι) (w0 := w) (a0 := a) (V := V) T (by rw [e0]; exact H) (w := { w with drawn := w.drawn + 1 }) rfl hs
    refine any_wp TO hρ hS T ok (by rw [e0]; exact H) (by rw [e1]; exact hE) hg (by rw [e0]; exact Nat.le_of_ble_eq_true hlo) ?_ opa.size (Array.replicate opa.size false) t0 ι s1 a _ (by simp) (by simp) ?_
    · intro S t ι' s' a' w' I hall
      obtain ⟨q1, q2, q3⟩ := I.done T ok hall (by rw [e0]; exact H) (by rw [e1]; exact hE)
      rw [d2] at q1 q2 q3
      rw [e0] at q3
      exact CPost.of (ex := .normal) (ms := []) ⟨q1, q2, I.tmps.size, q3, by rw [I.tmps.defers]; rfl, MarksOk.nil _ _ _⟩
    · have e : (fun j => (Array.replicate opa.size false).getD j false = true) = (fun _ : Nat => False) := by
        funext j
        by_cases hj : j < opa.size <;> simp [hj]
      rw [e]
      exact I0
  unfold Region.schedule
  rw [TO.mixed, Bool.true_or, if_pos rfl]
  exact key _

theorem evaluated (TO : TabOk P C) (hρ : Short ρ) (hT : ToldOk P C ρ) (n : Nat) : SCode P C ρ (selfOf C n) ∧ SCall P C ρ (selfOf C n) := sound TO hρ hT (fun sf h => draw_sound TO hρ sf h) n
end
end Go.Ev
