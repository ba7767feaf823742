/-
  A part of a verified evaluator of the model's code, or of its use at this seat; see the text YtkibpfkengpimaaGreatDoorEvCard.
-/
import Derived.Test.YtkibpfkengpimaaGreatDoorEvDraw8
namespace Go.Ev
section
variable {P : Program} {C : Ctx} {ρ : Val} {sf : Self} {ops : List Oper} {fr : Fr} {D : Nat → Dr} {V : Nat → AV} {s0 : St} {ι0 : Inj} {w0 : World} {a0 : Act}

/-- A block that is closed, in a group that is there. -/
def OKB (ρ : Val) (n : Nat) (k : ABlk) : Prop := CloB ρ n k ∧ ∀ e sz g p r rows, k = .cells e sz g p r rows → g < n
theorem OKB.mono {n m : Nat} {k : ABlk} (h : OKB ρ n k) (hm : n ≤ m) : OKB ρ m k := ⟨h.1.mono hm, fun e sz g p r rows hk => Nat.lt_of_lt_of_le (h.2 e sz g p r rows hk) hm⟩
/-- Is a block in its group's list? -/
def Listed (gp : Tr (List Nat)) (b : Nat) (k : ABlk) : Prop := ∀ e sz g p r rows, k = .cells e sz g p r rows → ∃ l, gp.get g = some l ∧ b ∈ l

/-- Whether a name is laid by an operation that is not among those that must come before. -/
def Hidden (C : Ctx) (ops : List Oper) (D : Nat → Dr) (j b : Nat) : Prop := ∃ l, l < j ∧ IsLays C ops D l ∧ (D l).s.nx = b ∧ Nat.testBit (preds ops j) l = false

/-- What is known of the operations that have been done. -/
structure Facts (C : Ctx) (ρ : Val) (ops : List Oper) (D : Nat → Dr) (V : Nat → AV) (S : Nat → Prop) : Prop where
  val : ∀ j, S j → Clo ρ (D (j + 1)).s.nx (V j)
  act : ∀ j, S j → IsAct C ops D j → ∀ b k, ¬ Hidden C ops D j b → (D (j + 1)).s.heap.get b = some k → OKB ρ (D (j + 1)).s.nx k ∧ Listed (D (j + 1)).s.grps b k ∧ b < (D (j + 1)).s.nx
  lay : ∀ j, S j → IsLays C ops D j → ∀ k, (D (j + 1)).s.heap.get (D j).s.nx = some k → OKB ρ (D (j + 1)).s.nx k
  grp : ∀ j, S j → IsAct C ops D j → (∀ x l, x < (D j).s.nx → (D j).s.grps.get x = some l → ∃ l', (D (j + 1)).s.grps.get x = some l' ∧ ∀ z ∈ l, z ∈ l') ∧ (D (j + 1)).s.lo = (D j).s.lo

/-- A name that an acting operation does not see lies as it lay. -/
theorem Txt.hidden_same (T : Txt C sf ops fr D V) {j b : Nat} (hj : j < ops.length) (ha : IsAct C ops D j) (hh : Hidden C ops D j b) : (D (j + 1)).s.heap.get b = (D j).s.heap.get b := by
  obtain ⟨l, h1, h2, h3, h4⟩ := hh
  cases T.moves hj with
  | still hna => exact absurd ha hna
  | lays hna => exact absurd ha hna
  | acts _ _ s2 _ _ _ _ hs =>
    rw [hs]
    exact unhide_hidden _ _ _ _ _ ⟨l, (T.laid_iff (by omega) l b).2 ⟨h1, h2, h3.symm⟩, h4⟩
theorem Txt.lays_old (T : Txt C sf ops fr D V) {j b : Nat} (hj : j < ops.length) (hl : ¬ IsAct C ops D j) (hb : b < (D j).s.nx) : (D (j + 1)).s.heap.get b = (D j).s.heap.get b := by
  cases T.moves hj with
  | still _ _ hs => rw [hs]
  | acts ha => exact absurd ha hl
  | lays _ _ k _ hs =>
    rw [hs]
    show ((D j).s.heap.put (D j).s.nx (some k)).get b = _
    rw [Tr.get_put_other _ _ (by omega)]

/-- What is settled of a block at a place of the text. -/
theorem settled (T : Txt C sf ops fr D V) {S : Nat → Prop} (F : Facts C ρ ops D V S) (h0 : ∀ b k, (D 0).s.heap.get b = some k → OKB ρ (D 0).s.nx k) :
    ∀ {i : Nat}, i ≤ ops.length → ∀ b k, b < (D i).s.nx → (∀ j, j < i → (D j).s.nx ≤ b → b < (D (j + 1)).s.nx → S j) →
      (∀ j, j < i → IsAct C ops D j → ¬ S j → b < (D j).s.nx → (D (j + 1)).s.heap.get b = (D j).s.heap.get b) → (D i).s.heap.get b = some k → OKB ρ (D i).s.nx k := by
  intro i
  induction i with
  | zero => intro _ b k _ _ _ hk; exact h0 b k hk
  | succ i ih =>
    intro hi b k hb hown hch hk
    have hin : i < ops.length := by omega
    have back : b < (D i).s.nx → (D i).s.heap.get b = some k → OKB ρ (D (i + 1)).s.nx k := fun h1 h2 =>
      (ih (by omega) b k h1 (fun j hj => hown j (by omega)) (fun j hj => hch j (by omega)) h2).mono (T.nx_succ hin)
    by_cases ha : IsAct C ops D i
    · by_cases hS : S i
      · by_cases hh : Hidden C ops D i b
        · obtain ⟨l, h1, h2, h3, h4⟩ := hh
          have hlt : b < (D i).s.nx := by
            cases T.moves (by omega : l < ops.length) with
            | still _ hl => exact absurd h2 hl
            | acts _ hl => exact absurd h2 hl
            | lays _ _ k' _ hs =>
              have : (D (l + 1)).s.nx = (D l).s.nx + 1 := by rw [hs]; rfl
              have := T.nx_le (i := l + 1) (j := i) (by omega) (by omega)
              omega
          rw [T.hidden_same hin ha ⟨l, h1, h2, h3, h4⟩] at hk
          exact back hlt hk
        · exact (F.act i hS ha b k hh hk).1
      · have hlt : b < (D i).s.nx := by
          rcases Nat.lt_or_ge b (D i).s.nx with h | h
          · exact h
          · exact absurd (hown i (Nat.lt_succ_self i) h hb) hS
        rw [hch i (Nat.lt_succ_self i) ha hS hlt] at hk
        exact back hlt hk
    · by_cases hl : IsLays C ops D i
      · rcases Nat.lt_or_ge b (D i).s.nx with h | h
        · rw [T.lays_old hin ha h] at hk; exact back h hk
        · have hS := hown i (Nat.lt_succ_self i) h hb
          cases T.moves hin with
          | still _ hnl => exact absurd hl hnl
          | acts ha' => exact absurd ha' ha
          | lays _ _ k' _ hs =>
            have hnx : (D (i + 1)).s.nx = (D i).s.nx + 1 := by rw [hs]; rfl
            have : b = (D i).s.nx := by omega
            subst this
            exact F.lay i hS hl k hk
      · cases T.moves hin with
        | still _ _ hs => rw [hs] at hk hb; exact back hb hk
        | acts ha' => exact absurd ha' ha
        | lays _ hl' => exact absurd hl' hl

/-- Where all that acted has been done, a block is in its group's list. -/
theorem listed (T : Txt C sf ops fr D V) {S : Nat → Prop} (F : Facts C ρ ops D V S) (h0 : ∀ b k, (D 0).s.heap.get b = some k → OKB ρ (D 0).s.nx k) (h0l : ∀ b k, (D 0).s.heap.get b = some k → Listed (D 0).s.grps b k) :
    ∀ {i : Nat}, i ≤ ops.length → (∀ j, j < i → IsAct C ops D j → S j) → ∀ b k, b < (D i).s.nx → (∀ j, j < i → (D j).s.nx ≤ b → b < (D (j + 1)).s.nx → S j) → (D i).s.heap.get b = some k → Listed (D i).s.grps b k := by
  intro i
  induction i with
  | zero => intro _ _ b k _ _ hk; exact h0l b k hk
  | succ i ih =>
    intro hi hall b k hb hown hk
    have hin : i < ops.length := by omega
    have back : b < (D i).s.nx → (D i).s.heap.get b = some k → (∀ x l, x < (D i).s.nx → (D i).s.grps.get x = some l → ∃ l', (D (i + 1)).s.grps.get x = some l' ∧ ∀ z ∈ l, z ∈ l') → Listed (D (i + 1)).s.grps b k := by
      intro h1 h2 h3 e sz g p r rows hk'
      have hok := settled T F h0 (by omega : i ≤ ops.length) b k h1 (fun j hj => hown j (by omega)) (fun j hj ha hns => absurd (hall j (by omega) ha) hns) h2
      obtain ⟨l, q1, q2⟩ := ih (by omega) (fun j hj => hall j (by omega)) b k h1 (fun j hj => hown j (by omega)) h2 e sz g p r rows hk'
      obtain ⟨l', q3, q4⟩ := h3 g l (hok.2 e sz g p r rows hk') q1
      exact ⟨l', q3, q4 b q2⟩
    by_cases ha : IsAct C ops D i
    · have hS := hall i (Nat.lt_succ_self i) ha
      by_cases hh : Hidden C ops D i b
      · obtain ⟨l, h1, h2, h3, h4⟩ := hh
        have hlt : b < (D i).s.nx := by
          cases T.moves (by omega : l < ops.length) with
          | still _ hl => exact absurd h2 hl
          | acts _ hl => exact absurd h2 hl
          | lays _ _ k' _ hs =>
            have : (D (l + 1)).s.nx = (D l).s.nx + 1 := by rw [hs]; rfl
            have := T.nx_le (i := l + 1) (j := i) (by omega) (by omega)
            omega
        rw [T.hidden_same hin ha ⟨l, h1, h2, h3, h4⟩] at hk
        exact back hlt hk (F.grp i hS ha).1
      · exact (F.act i hS ha b k hh hk).2.1
    · cases T.moves hin with
      | acts ha' => exact absurd ha' ha
      | still _ _ hs => rw [hs] at hk hb; exact back hb hk (by rw [hs]; exact fun x l _ h => ⟨l, h, fun _ h => h⟩)
      | lays _ hl k' own hs =>
        have hnx : (D (i + 1)).s.nx = (D i).s.nx + 1 := by rw [hs]; rfl
        rcases Nat.lt_or_ge b (D i).s.nx with h | h
        · rw [T.lays_old hin ha h] at hk
          refine back h hk fun x l hx hl => ⟨l, ?_, fun _ h => h⟩
          rw [hs]
          show (bif k'.isCells then (D i).s.grps.put (D i).s.nx (some [(D i).s.nx]) else (D i).s.grps).get x = some l
          cases k'.isCells with
          | false => exact hl
          | true => rw [cond_true, Tr.get_put_other _ _ (by omega)]; exact hl
        · have hbe : b = (D i).s.nx := by omega
          subst hbe
          intro e sz g p r rows hk'
          have hkk : k = k' := by
            rw [hs] at hk
            have : ((D i).s.heap.put (D i).s.nx (some k')).get (D i).s.nx = some k := hk
            rw [Tr.get_put_same] at this
            cases this; rfl
          subst hkk
          have hg := own _ _ _ _ _ _ hk'
          subst hg
          refine ⟨[(D i).s.nx], ?_, by simp⟩
          rw [hs]
          show (bif k.isCells then (D i).s.grps.put (D i).s.nx (some [(D i).s.nx]) else (D i).s.grps).get (D i).s.nx = _
          rw [hk']
          simp [ABlk.isCells]
end
end Go.Ev
