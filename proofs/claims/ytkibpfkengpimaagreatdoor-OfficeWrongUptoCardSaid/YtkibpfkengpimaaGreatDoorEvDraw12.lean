/-
  A part of a verified evaluator of the model's code, or of its use at this seat; see the text YtkibpfkengpimaaGreatDoorEvCard.
-/
import Derived.Test.YtkibpfkengpimaaGreatDoorEvDraw11
namespace Go.Ev
section
variable {P : Program} {C : Ctx} {ρ : Val} {sf : Self} {ops : List Oper} {fr : Fr} {D : Nat → Dr} {V : Nat → AV} {ι0 : Inj} {w0 : World} {a0 : Act}

/-! ### more of the run in the text's order -/
theorem Txt.s_still (T : Txt C sf ops fr D V) {j : Nat} (hj : j < ops.length) (ha : ¬ IsAct C ops D j) (hl : ¬ IsLays C ops D j) : (D (j + 1)).s = (D j).s := by
  cases T.moves hj with
  | still _ _ hs => exact hs
  | lays _ hl' => exact absurd hl' hl
  | acts ha' => exact absurd ha' ha
theorem Txt.lays_nx (T : Txt C sf ops fr D V) {j : Nat} (hj : j < ops.length) (hl : IsLays C ops D j) : (D (j + 1)).s.nx = (D j).s.nx + 1 := by
  cases T.moves hj with
  | still _ hl' => exact absurd hl hl'
  | lays _ _ k _ hs => rw [hs]; rfl
  | acts _ hl' => exact absurd hl hl'

theorem Did.marks_eq {nx0 i : Nat} {o : Oper} {d d' : Dr} {v : AV} (h : Did C sf ops fr nx0 i o d d' v) : d'.marks = (i, d.s.nx) :: d.marks := by
  cases h <;> assumption
theorem Did.read_mem {nx0 i : Nat} {o : Oper} {d d' : Dr} {v : AV} (h : Did C sf ops fr nx0 i o d d' v) {p : Nat × Nat} (hp : p ∈ d.read) : p ∈ d'.read := by
  cases h with
  | not _ _ _ _ _ _ hr _ => rw [hr]; exact hp
  | free _ _ _ _ _ _ _ hr _ => rw [hr]; exact hp
  | lays _ _ _ _ _ _ _ _ _ hr _ => rw [hr]; exact hp
  | acts _ _ _ _ _ _ _ _ _ _ _ _ hr _ => rw [hr]; exact hp
  | reads _ _ rb _ _ _ _ _ _ hr _ =>
    rw [hr]
    cases rb with
    | none => exact hp
    | some b => exact List.mem_cons_of_mem _ hp
theorem Txt.read_le (T : Txt C sf ops fr D V) {p : Nat × Nat} {i : Nat} (hp : p ∈ (D i).read) : ∀ {j : Nat}, i ≤ j → j ≤ ops.length → p ∈ (D j).read := by
  intro j
  induction j with
  | zero => intro h _; have : i = 0 := by omega
            subst this; exact hp
  | succ j ih =>
    intro h hj
    rcases Nat.lt_or_ge i (j + 1) with h1 | h1
    · obtain ⟨o, ho⟩ := op_at (by omega : j < ops.length)
      exact (T.did j o ho).read_mem (ih (by omega) (by omega))
    · have : i = j + 1 := by omega
      subst this; exact hp

/-- What is seen is of an operation that must come before, or was there before. -/
theorem Txt.visible_owner (T : Txt C sf ops fr D V) {m b : Nat} : ∀ {i : Nat}, i ≤ ops.length → b < (D i).s.nx → (b < (D 0).s.nx ∨ visible (D 0).s.nx m b (D i).marks = true) →
    b < (D 0).s.nx ∨ ∃ j, j < i ∧ (D j).s.nx ≤ b ∧ b < (D (j + 1)).s.nx ∧ Nat.testBit m j = true := by
  intro i
  induction i with
  | zero => intro _ h _; exact .inl h
  | succ i ih =>
    intro hi hb hv
    rcases hv with hv | hv
    · exact .inl hv
    obtain ⟨o, ho⟩ := op_at (by omega : i < ops.length)
    rw [(T.did i o ho).marks_eq] at hv
    simp only [visible] at hv
    cases hlt : Nat.blt b (D 0).s.nx with
    | true => exact .inl (by simpa [Nat.blt_eq] using hlt)
    | false =>
      rw [hlt] at hv
      simp only [cond_false] at hv
      cases hle : Nat.ble (D i).s.nx b with
      | true =>
        rw [hle] at hv
        exact .inr ⟨i, Nat.lt_succ_self i, Nat.le_of_ble_eq_true hle, hb, hv⟩
      | false =>
        rw [hle] at hv
        have hb' : b < (D i).s.nx := by
          rcases Nat.lt_or_ge b (D i).s.nx with h | h
          · exact h
          · rw [Nat.ble_eq_true_of_le h] at hle; cases hle
        rcases ih (by omega) hb' (.inr hv) with h | ⟨j, h1, h2⟩
        · exact .inl h
        · exact .inr ⟨j, by omega, h2⟩

theorem Txt.hidden_iff (T : Txt C sf ops fr D V) {j b : Nat} (hj : j ≤ ops.length) : Hidden C ops D j b ↔ ∃ l, (l, b) ∈ (D j).laid ∧ Nat.testBit (preds ops j) l = false := by
  constructor
  · rintro ⟨l, h1, h2, h3, h4⟩; exact ⟨l, (T.laid_iff hj l b).2 ⟨h1, h2, h3.symm⟩, h4⟩
  · rintro ⟨l, h1, h2⟩
    obtain ⟨q1, q2, q3⟩ := (T.laid_iff hj l b).1 h1
    exact ⟨l, q1, q2, q3.symm, h2⟩
theorem bit_of {m i : Nat} (h : ¬ Nat.testBit m i = false) : Nat.testBit m i = true := by
  cases h' : Nat.testBit m i with
  | true => rfl
  | false => exact absurd h' h
theorem Txt.seen (T : Txt C sf ops fr D V) {j b : Nat} (hj : j ≤ ops.length) (h : ¬ Hidden C ops D j b) : ∀ l, (l, b) ∈ (D j).laid → Nat.testBit (preds ops j) l = true :=
  fun l hl => bit_of fun e => h ((T.hidden_iff hj).2 ⟨l, hl, e⟩)

/-- What an acting operation found and left. -/
structure ActAt (C : Ctx) (ops : List Oper) (D : Nat → Dr) (j : Nat) (x y : Tr ABlk) : Prop where
  before : ∀ b, ¬ Hidden C ops D j b → x.get b = (D j).s.heap.get b
  behind : ∀ b, ¬ Hidden C ops D j b → y.get b = (D (j + 1)).s.heap.get b
  read : readsKept (preds ops j) x y (D j).read = true

theorem Txt.acted_spec (T : Txt C sf ops fr D V) : ∀ {i : Nat}, i ≤ ops.length → ∀ j, j < i → IsAct C ops D j → ∃ x y, (j, x, y) ∈ (D i).acted ∧ ActAt C ops D j x y := by
  intro i
  induction i with
  | zero => intro _ j hj; omega
  | succ i ih =>
    intro hi j hj ha
    have ih := ih (by omega)
    have hmem : j < i → ∃ x y, (j, x, y) ∈ (D i).acted ∧ ActAt C ops D j x y := fun h => ih j h ha
    cases T.moves (by omega : i < ops.length) with
    | still hna _ _ hacted _ =>
      rcases Nat.lt_or_ge j i with h | h
      · rw [hacted]; exact hmem h
      · have : j = i := by omega
        subst this; exact absurd ha hna
    | lays hna _ _ _ _ hacted _ =>
      rcases Nat.lt_or_ge j i with h | h
      · rw [hacted]; exact hmem h
      · have : j = i := by omega
        subst this; exact absurd ha hna
    | acts _ _ s2 _ _ _ hk hs hacted _ =>
      rw [hacted]
      rcases Nat.lt_or_ge j i with h | h
      · obtain ⟨x, y, hxy, hA⟩ := hmem h
        exact ⟨x, y, by simp [hxy], hA⟩
      · have : j = i := by omega
        subst this
        refine ⟨_, _, List.mem_cons_self, ⟨fun b hb => hide_seen _ _ _ _ (T.seen (by omega) hb), fun b hb => ?_, hk⟩⟩
        rw [hs]
        exact (unhide_seen _ _ _ _ _ (T.seen (by omega) hb)).symm

theorem Txt.act_keeps (T : Txt C sf ops fr D V) {i j m b : Nat} (hi : i ≤ ops.length) (hj : j < i) (ha : IsAct C ops D j) (hk : actsKept m b (D i).acted = true) (hm : ¬ Nat.testBit m j = true) : (D (j + 1)).s.heap.get b = (D j).s.heap.get b := by
  by_cases hh : Hidden C ops D j b
  · exact T.hidden_same (by omega) ha hh
  · obtain ⟨x, y, h1, h2⟩ := T.acted_spec hi j hj ha
    rcases actsKept_spec hk _ h1 with h3 | h3
    · exact absurd h3 hm
    · have := sameBlk_eq h3
      rw [← h2.before b hh, ← h2.behind b hh]
      exact this.symm
theorem Txt.read_kept (T : Txt C sf ops fr D V) {i j b : Nat} (hj : j < ops.length) (ha : IsAct C ops D j) (hr : (i, b) ∈ (D j).read) (hm : ¬ Nat.testBit (preds ops j) i = true) : (D (j + 1)).s.heap.get b = (D j).s.heap.get b := by
  by_cases hh : Hidden C ops D j b
  · exact T.hidden_same hj ha hh
  · obtain ⟨x, y, h1, h2⟩ := T.acted_spec (by omega : j + 1 ≤ ops.length) j (Nat.lt_succ_self j) ha
    rcases readsKept_spec h2.read _ hr with h3 | h3
    · exact absurd h3 hm
    · have := sameBlk_eq h3
      rw [← h2.before b hh, ← h2.behind b hh]
      exact this.symm

/-- The next acting operation. -/
theorem next_act (C : Ctx) (ops : List Oper) (D : Nat → Dr) : ∀ (n i : Nat), i + n = ops.length → ∃ t, i ≤ t ∧ t ≤ ops.length ∧ (∀ j, i ≤ j → j < t → ¬ IsAct C ops D j) ∧ (t < ops.length → IsAct C ops D t) := by
  intro n
  induction n with
  | zero => intro i h; exact ⟨i, Nat.le_refl i, by omega, fun j h1 h2 => by omega, fun h1 => by omega⟩
  | succ n ih =>
    intro i h
    by_cases ha : IsAct C ops D i
    · exact ⟨i, Nat.le_refl i, by omega, fun j h1 h2 => by omega, fun _ => ha⟩
    · obtain ⟨t, h1, h2, h3, h4⟩ := ih (i + 1) (by omega)
      refine ⟨t, by omega, h2, fun j h5 h6 => ?_, h4⟩
      rcases Nat.lt_or_ge i j with h7 | h7
      · exact h3 j h7 h6
      · have : j = i := by omega
        subst this; exact ha

variable {S : Nat → Prop} {t : Nat} {ι : Inj} {s : St} {a : Act} {w : World}

theorem Inv.act_lt (I : Inv C ρ ops fr D V ι0 w0 a0 S t ι s a w) (T : Txt C sf ops fr D V) {j : Nat} (hS : S j) (ha : IsAct C ops D j) : j < t := by
  have hj := I.bound j hS
  rcases Nat.lt_or_ge j t with h | h
  · exact h
  · obtain ⟨h1, h2⟩ := I.tat (by omega)
    rcases Nat.lt_or_ge t j with h3 | h3
    · exact absurd (I.closed j t hS (T.acts_before hj ha h3 h1)) h2
    · have : j = t := by omega
      subst this; exact absurd hS h2

/-- What a block is in the machine, if no act between has changed it. -/
theorem Inv.block (I : Inv C ρ ops fr D V ι0 w0 a0 S t ι s a w) (T : Txt C sf ops fr D V) {i b : Nat} (hi : i ≤ ops.length) (hb : b < (D i).s.nx) (hown : ∀ j, j < i → (D j).s.nx ≤ b → b < (D (j + 1)).s.nx → S j)
    (h1 : ∀ j, t ≤ j → j < i → IsAct C ops D j → (D (j + 1)).s.heap.get b = (D j).s.heap.get b) (h2 : ∀ j, i ≤ j → j < t → IsAct C ops D j → (D (j + 1)).s.heap.get b = (D j).s.heap.get b) : s.heap.get b = (D i).s.heap.get b := by
  rcases Nat.lt_or_ge b (D 0).s.nx with h0 | h0
  · rw [I.init b h0]
    rcases Nat.lt_or_ge t i with h | h
    · have := T.nx_le (Nat.zero_le t) I.tle
      exact (T.stable (by omega) (by omega) hi fun j h3 h4 => h1 j h3 h4).symm
    · exact T.stable hb h I.tle fun j h3 h4 => h2 j h3 h4
  · obtain ⟨l, h3, h4, h5⟩ := T.owner h0 hi hb
    rw [(I.owned l (by omega) b h4 h5).1 (hown l h3 h4 h5)]
    have hm : b < (D (max t (l + 1))).s.nx := by
      have := T.nx_le (i := l + 1) (j := max t (l + 1)) (by omega) (by have := I.tle; omega)
      omega
    rcases Nat.lt_or_ge (max t (l + 1)) i with h | h
    · exact (T.stable hm (by omega) hi fun j h6 h7 => h1 j (by omega) h7).symm
    · exact T.stable hb h (by have := I.tle; omega) fun j h6 h7 => h2 j h6 (by omega)

theorem Txt.lo_eq (T : Txt C sf ops fr D V) (F : Facts C ρ ops D V S) : ∀ {i : Nat}, i ≤ ops.length → (∀ j, j < i → IsAct C ops D j → S j) → (D i).s.lo = (D 0).s.lo := by
  intro i
  induction i with
  | zero => intro _ _; rfl
  | succ i ih =>
    intro hi h
    rw [← ih (by omega) fun j hj => h j (by omega)]
    by_cases ha : IsAct C ops D i
    · exact (F.grp i (h i (Nat.lt_succ_self i) ha) ha).2
    · cases T.moves (by omega : i < ops.length) with
      | still _ _ hs => rw [hs]
      | lays _ _ k _ hs => rw [hs]; rfl
      | acts ha' => exact absurd ha' ha
theorem Txt.alive_lt (T : Txt C sf ops fr D V) (F : Facts C ρ ops D V S) (h0 : ∀ b k, (D 0).s.heap.get b = some k → b < (D 0).s.nx) : ∀ {i : Nat}, i ≤ ops.length → (∀ j, j < i → IsAct C ops D j → S j) → ∀ b k, (D i).s.heap.get b = some k → b < (D i).s.nx := by
  intro i
  induction i with
  | zero => intro _ _ b k hk; exact h0 b k hk
  | succ i ih =>
    intro hi h b k hk
    have ih := ih (by omega) fun j hj => h j (by omega)
    have hle := T.nx_succ (by omega : i < ops.length)
    by_cases ha : IsAct C ops D i
    · by_cases hh : Hidden C ops D i b
      · rw [T.hidden_same (by omega) ha hh] at hk
        have := ih b k hk; omega
      · exact (F.act i (h i (Nat.lt_succ_self i) ha) ha b k hh hk).2.2
    · cases T.moves (by omega : i < ops.length) with
      | still _ _ hs => rw [hs] at hk ⊢; exact ih b k hk
      | acts ha' => exact absurd ha' ha
      | lays _ _ k' _ hs =>
        rw [hs] at hk ⊢
        show b < (D i).s.nx + 1
        have hk : ((D i).s.heap.put (D i).s.nx (some k')).get b = some k := hk
        by_cases hb : (D i).s.nx = b
        · omega
        · rw [Tr.get_put_other _ _ hb] at hk; have := ih b k hk; omega
theorem Txt.grps_grow (T : Txt C sf ops fr D V) (F : Facts C ρ ops D V S) : ∀ {i : Nat}, i ≤ ops.length → (∀ j, j < i → IsAct C ops D j → S j) → ∀ x l, x < (D 0).s.nx → (D 0).s.grps.get x = some l → ∃ l', (D i).s.grps.get x = some l' ∧ ∀ z ∈ l, z ∈ l' := by
  intro i
  induction i with
  | zero => intro _ _ x l _ hl; exact ⟨l, hl, fun _ h => h⟩
  | succ i ih =>
    intro hi h x l hx hl
    obtain ⟨l1, h1, h2⟩ := ih (by omega) (fun j hj => h j (by omega)) x l hx hl
    have hxi : x < (D i).s.nx := by have := T.nx_le (Nat.zero_le i) (by omega : i ≤ ops.length); omega
    by_cases ha : IsAct C ops D i
    · obtain ⟨l2, h3, h4⟩ := (F.grp i (h i (Nat.lt_succ_self i) ha) ha).1 x l1 hxi h1
      exact ⟨l2, h3, fun z hz => h4 z (h2 z hz)⟩
    · cases T.moves (by omega : i < ops.length) with
      | still _ _ hs => rw [hs]; exact ⟨l1, h1, h2⟩
      | acts ha' => exact absurd ha' ha
      | lays _ _ k' _ hs =>
        rw [hs]
        refine ⟨l1, ?_, h2⟩
        show (bif k'.isCells then (D i).s.grps.put (D i).s.nx (some [(D i).s.nx]) else (D i).s.grps).get x = some l1
        cases k'.isCells with
        | false => exact h1
        | true => rw [cond_true, Tr.get_put_other _ _ (by omega)]; exact h1
end
end Go.Ev
