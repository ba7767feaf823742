/-
  A part of a verified evaluator of the model's code, or of its use at this seat; see the text YtkibpfkengpimaaGreatDoorEvCard.
-/
import Derived.Test.YtkibpfkengpimaaGreatDoorEvDraw7
namespace Go.Ev
section
variable {C : Ctx} {sf : Self} {ops : List Oper} {fr : Fr} {D : Nat → Dr} {V : Nat → AV}

/-- The run in the text's order. -/
structure Txt (C : Ctx) (sf : Self) (ops : List Oper) (fr : Fr) (D : Nat → Dr) (V : Nat → AV) : Prop where
  did : ∀ (j : Nat) (o : Oper), ops[j]? = some o → Did C sf ops fr (D 0).s.nx j o (D j) (D (j + 1)) (V j)
  marks : (D 0).marks = []
  laid : (D 0).laid = []
  read : (D 0).read = []
  acted : (D 0).acted = []

def IsAct (C : Ctx) (ops : List Oper) (D : Nat → Dr) (j : Nat) : Prop := ∃ o, ops[j]? = some o ∧ wantA ops (D j).env o = some true ∧ sortOf C o = .acts
def IsLays (C : Ctx) (ops : List Oper) (D : Nat → Dr) (j : Nat) : Prop := ∃ o, ops[j]? = some o ∧ wantA ops (D j).env o = some true ∧ sortOf C o = .lays

theorem op_at {j : Nat} (h : j < ops.length) : ∃ o, ops[j]? = some o := ⟨_, List.getElem?_eq_getElem h⟩

/-- How the memory goes on from one operation to the next. -/
inductive Moves (C : Ctx) (sf : Self) (ops : List Oper) (D : Nat → Dr) (j : Nat) : Prop
  | still (ha : ¬ IsAct C ops D j) (hl : ¬ IsLays C ops D j) (hs : (D (j + 1)).s = (D j).s) (hacted : (D (j + 1)).acted = (D j).acted) (hlaid : (D (j + 1)).laid = (D j).laid)
  | lays (ha : ¬ IsAct C ops D j) (hl : IsLays C ops D j) (k : ABlk) (own : ∀ t sz g p w rows, k = .cells t sz g p w rows → g = (D j).s.nx) (hs : (D (j + 1)).s = layA (D j).s k) (hacted : (D (j + 1)).acted = (D j).acted) (hlaid : (D (j + 1)).laid = (j, (D j).s.nx) :: (D j).laid)
  | acts (ha : IsAct C ops D j) (hl : ¬ IsLays C ops D j) (s2 : St) (hb : actsBefore (preds ops j) (D j).acted = true) (hh : hidesOk (D j).s (preds ops j) (D j).laid = true) (hnx : (D j).s.nx ≤ s2.nx)
      (hk : readsKept (preds ops j) (hide (D j).s.heap (preds ops j) (D j).laid) s2.heap (D j).read = true) (hs : (D (j + 1)).s = { s2 with heap := unhide s2.heap (D j).s.heap (preds ops j) (D j).laid })
      (hacted : (D (j + 1)).acted = (j, hide (D j).s.heap (preds ops j) (D j).laid, s2.heap) :: (D j).acted) (hlaid : (D (j + 1)).laid = (D j).laid)

theorem Txt.moves (T : Txt C sf ops fr D V) {j : Nat} (hj : j < ops.length) : Moves C sf ops D j := by
  obtain ⟨o, ho⟩ := op_at hj
  have notAct : ∀ {so : Sort3}, sortOf C o = so → so ≠ .acts → ¬ IsAct C ops D j := by
    rintro so h1 h2 ⟨p, hp, _, h3⟩
    rw [ho] at hp; cases hp
    exact h2 (h1.symm.trans h3)
  have notLays : ∀ {so : Sort3}, sortOf C o = so → so ≠ .lays → ¬ IsLays C ops D j := by
    rintro so h1 h2 ⟨p, hp, _, h3⟩
    rw [ho] at hp; cases hp
    exact h2 (h1.symm.trans h3)
  cases T.did j o ho with
  | not hw hv henv hs hm hl hr ha =>
    refine .still ?_ ?_ hs ha hl
    · rintro ⟨p, hp, h2, _⟩; rw [ho] at hp; cases hp; rw [hw] at h2; cases h2
    · rintro ⟨p, hp, h2, _⟩; rw [ho] at hp; cases hp; rw [hw] at h2; cases h2
  | free hw hso hop henv hs hm hl hr ha => exact .still (notAct hso (by simp)) (notLays hso (by simp)) hs ha hl
  | reads hw hso rb hvis hop henv hs hm hl hr ha => exact .still (notAct hso (by simp)) (notLays hso (by simp)) hs ha hl
  | lays hw hso k own hop henv hs hm hl hr ha => exact .lays (notAct hso (by simp)) ⟨o, ho, hw, hso⟩ k own hs ha hl
  | acts hw hso s2 hb hh hop hnx hk henv hs hm hl hr ha => exact .acts ⟨o, ho, hw, hso⟩ (notLays hso (by simp)) s2 hb hh hnx hk hs ha hl

theorem Txt.nx_succ (T : Txt C sf ops fr D V) {j : Nat} (hj : j < ops.length) : (D j).s.nx ≤ (D (j + 1)).s.nx := by
  cases T.moves hj with
  | still _ _ hs => rw [hs]; exact Nat.le_refl _
  | lays _ _ k _ hs => rw [hs]; exact Nat.le_succ _
  | acts _ _ s2 _ _ hnx _ hs => rw [hs]; exact hnx
theorem Txt.nx_le (T : Txt C sf ops fr D V) {i : Nat} : ∀ {j : Nat}, i ≤ j → j ≤ ops.length → (D i).s.nx ≤ (D j).s.nx := by
  intro j
  induction j with
  | zero => intro h _; have : i = 0 := by omega
            subst this; exact Nat.le_refl _
  | succ j ih =>
    intro h hj
    rcases Nat.lt_or_ge i (j + 1) with h1 | h1
    · exact Nat.le_trans (ih (by omega) (by omega)) (T.nx_succ hj)
    · have : i = j + 1 := by omega
      subst this; exact Nat.le_refl _

theorem Txt.laid_iff (T : Txt C sf ops fr D V) : ∀ {i : Nat}, i ≤ ops.length → ∀ (l n : Nat), (l, n) ∈ (D i).laid ↔ l < i ∧ IsLays C ops D l ∧ n = (D l).s.nx := by
  intro i
  induction i with
  | zero => intro _ l n; rw [T.laid]; simp
  | succ i ih =>
    intro hi l n
    have ih := ih (by omega)
    have same : ∀ (_ : ¬ IsLays C ops D i) (_ : (D (i + 1)).laid = (D i).laid), (l, n) ∈ (D (i + 1)).laid ↔ l < i + 1 ∧ IsLays C ops D l ∧ n = (D l).s.nx := by
      intro hn he
      rw [he, ih]
      constructor
      · rintro ⟨h1, h2⟩; exact ⟨by omega, h2⟩
      · rintro ⟨h1, h2, h3⟩
        refine ⟨?_, h2, h3⟩
        rcases Nat.lt_or_ge l i with h | h
        · exact h
        · have : l = i := by omega
          subst this; exact absurd h2 hn
    cases T.moves (by omega : i < ops.length) with
    | still _ hl _ _ hlaid => exact same hl hlaid
    | acts _ hl _ _ _ _ _ _ _ hlaid => exact same hl hlaid
    | lays _ hl k _ _ _ hlaid =>
      rw [hlaid, List.mem_cons, ih]
      constructor
      · rintro (h | ⟨h1, h2⟩)
        · cases h; exact ⟨Nat.lt_succ_self _, hl, rfl⟩
        · exact ⟨by omega, h2⟩
      · rintro ⟨h1, h2, h3⟩
        rcases Nat.lt_or_ge l i with h | h
        · exact .inr ⟨h, h2, h3⟩
        · have : l = i := by omega
          subst this; subst h3; exact .inl rfl

theorem Txt.acted_mem (T : Txt C sf ops fr D V) : ∀ {i : Nat}, i ≤ ops.length → ∀ j, j < i → IsAct C ops D j → ∃ x y, (j, x, y) ∈ (D i).acted := by
  intro i
  induction i with
  | zero => intro _ j hj; omega
  | succ i ih =>
    intro hi j hj ha
    have ih := ih (by omega)
    have hmem : j < i → ∃ x y, (j, x, y) ∈ (D i).acted := fun h => ih j h ha
    cases T.moves (by omega : i < ops.length) with
    | still hna _ _ hacted _ =>
      rcases Nat.lt_or_ge j i with h | h
      · rw [hacted]; exact hmem h
      · have : j = i := by omega
        subst this; exact absurd ha hna
    | lays hna _ _ _ _ hacted _ =>
      rcases Nat.lt_or_ge j i with h | h
      · rw [hacted]; exact hmem h
      · have : j = i := by omega
        subst this; exact absurd ha hna
    | acts _ _ s2 _ _ _ _ _ hacted _ =>
      rw [hacted]
      rcases Nat.lt_or_ge j i with h | h
      · obtain ⟨x, y, hxy⟩ := hmem h
        exact ⟨x, y, by simp [hxy]⟩
      · have : j = i := by omega
        subst this; exact ⟨_, _, List.mem_cons_self⟩

/-- Acting operations come one after the other. -/
theorem Txt.acts_before (T : Txt C sf ops fr D V) {i j : Nat} (hi : i < ops.length) (hai : IsAct C ops D i) (hj : j < i) (haj : IsAct C ops D j) : Nat.testBit (preds ops i) j = true := by
  cases T.moves hi with
  | still hna => exact absurd hai hna
  | lays hna => exact absurd hai hna
  | acts _ _ s2 hb =>
    obtain ⟨x, y, hxy⟩ := T.acted_mem (by omega : i ≤ ops.length) j hj haj
    exact actsBefore_spec hb _ hxy
end
end Go.Ev
