/-
  A part of a verified evaluator of the model's code, or of its use at this seat; see the text YtkibpfkengpimaaGreatDoorEvCard.
-/
import Derived.Test.YtkibpfkengpimaaGreatDoorEvDraw4
namespace Go.Ev
section
variable {C : Ctx} {self : Self} {ops : List Oper} {fr : Fr} {nx0 : Nat}

/-- What an operation has done in the text's order. -/
inductive Did (C : Ctx) (self : Self) (ops : List Oper) (fr : Fr) (nx0 i : Nat) (o : Oper) (d d' : Dr) (v : AV) : Prop
  | not (hw : wantA ops d.env o = some false) (hv : v = undefA) (henv : putA fr.size d.env o.dst v = some d'.env) (hs : d'.s = d.s) (hm : d'.marks = (i, d.s.nx) :: d.marks) (hl : d'.laid = d.laid) (hr : d'.read = d.read) (ha : d'.acted = d.acted)
  | free (hw : wantA ops d.env o = some true) (hso : sortOf C o = .free) (hop : ∀ s2, opA C d.env s2 o = some (.val v s2)) (henv : putA fr.size d.env o.dst v = some d'.env) (hs : d'.s = d.s) (hm : d'.marks = (i, d.s.nx) :: d.marks) (hl : d'.laid = d.laid) (hr : d'.read = d.read) (ha : d'.acted = d.acted)
  | reads (hw : wantA ops d.env o = some true) (hso : sortOf C o = .reads) (rb : Option Nat) (hvis : ∀ b, rb = some b → b < d.s.nx ∧ (b < nx0 ∨ visible nx0 (preds ops i) b d.marks = true) ∧ actsKept (preds ops i) b d.acted = true)
      (hop : ∀ s2 : St, (∀ b, rb = some b → s2.heap.get b = d.s.heap.get b) → opA C d.env s2 o = some (.val v s2)) (henv : putA fr.size d.env o.dst v = some d'.env) (hs : d'.s = d.s) (hm : d'.marks = (i, d.s.nx) :: d.marks) (hl : d'.laid = d.laid)
      (hr : d'.read = readMore i rb d.read) (ha : d'.acted = d.acted)
  | lays (hw : wantA ops d.env o = some true) (hso : sortOf C o = .lays) (k : ABlk) (own : ∀ t sz g p w rows, k = .cells t sz g p w rows → g = d.s.nx) (hop : ∀ s2 : St, s2.nx = d.s.nx → opA C d.env s2 o = some (.val v (layA s2 k)))
      (henv : putA fr.size d.env o.dst v = some d'.env) (hs : d'.s = layA d.s k) (hm : d'.marks = (i, d.s.nx) :: d.marks) (hl : d'.laid = (i, d.s.nx) :: d.laid) (hr : d'.read = d.read) (ha : d'.acted = d.acted)
  | acts (hw : wantA ops d.env o = some true) (hso : sortOf C o = .acts) (s2 : St) (hb : actsBefore (preds ops i) d.acted = true) (hh : hidesOk d.s (preds ops i) d.laid = true)
      (hop : runA C self d.env { d.s with heap := hide d.s.heap (preds ops i) d.laid } o = some (v, s2)) (hnx : d.s.nx ≤ s2.nx) (hk : readsKept (preds ops i) (hide d.s.heap (preds ops i) d.laid) s2.heap d.read = true)
      (henv : putA fr.size d.env o.dst v = some d'.env) (hs : d'.s = { s2 with heap := unhide s2.heap d.s.heap (preds ops i) d.laid }) (hm : d'.marks = (i, d.s.nx) :: d.marks) (hl : d'.laid = d.laid) (hr : d'.read = d.read)
      (ha : d'.acted = (i, hide d.s.heap (preds ops i) d.laid, s2.heap) :: d.acted)

theorem drawOne_did {i : Nat} {o : Oper} {d d' : Dr} (h : drawOne C self ops (masks ops) fr nx0 i o d = some d') : ∃ v, Did C self ops fr nx0 i o d d' v := by
  unfold drawOne at h
  split at h
  · cases h
  · rename_i hw
    split at h
    · rename_i env' henv
      cases h
      exact ⟨undefA, .not hw rfl henv rfl rfl rfl rfl rfl⟩
    · cases h
  · rename_i hw
    dsimp only at h
    split at h
    · rename_i hso
      split at h
      · rename_i v s' hop
        simp only [Option.map_eq_some_iff] at h
        obtain ⟨env', henv, rfl⟩ := h
        obtain ⟨v0, h1, h2⟩ := free_any hso hop
        cases h1
        exact ⟨v, .free hw hso h2 henv rfl rfl rfl rfl rfl⟩
      · cases h
    · rename_i hso
      split at h
      · cases h
      · rename_i rb hrb
        cases hc : readOk nx0 ((nth (masks ops) i).getD 0) rb d with
        | false => rw [hc] at h; cases h
        | true =>
          rw [hc] at h
          simp only [cond_true] at h
          split at h
          · rename_i v s' hop
            simp only [Option.map_eq_some_iff] at h
            obtain ⟨env', henv, rfl⟩ := h
            obtain ⟨v0, h1, h2⟩ := reads_any hso hrb hop
            cases h1
            refine ⟨v, .reads hw hso rb ?_ h2 henv rfl rfl rfl rfl rfl⟩
            intro b hb
            subst hb
            simp only [readOk, Bool.and_eq_true] at hc
            refine ⟨by simpa [Nat.blt_eq] using hc.1, ?_, hc.2.2⟩
            have h3 := hc.2.1
            cases hlt : Nat.blt b nx0 with
            | true => exact .inl (by simpa [Nat.blt_eq] using hlt)
            | false => rw [hlt] at h3; exact .inr h3
          · cases h
    · rename_i hso
      split at h
      · rename_i v s' hop
        simp only [Option.map_eq_some_iff] at h
        obtain ⟨env', henv, rfl⟩ := h
        obtain ⟨v0, k, L⟩ := lays_any hso hop
        have := L.is
        cases this
        exact ⟨v, .lays hw hso k L.own L.all henv rfl rfl rfl rfl rfl⟩
      · cases h
    · rename_i hso
      cases hc : (actsBefore ((nth (masks ops) i).getD 0) d.acted && hidesOk d.s ((nth (masks ops) i).getD 0) d.laid) with
      | false => rw [hc] at h; cases h
      | true =>
        rw [hc] at h
        simp only [cond_true] at h
        simp only [Bool.and_eq_true] at hc
        split at h
        · rename_i v s2 hop
          cases hk : (Nat.ble d.s.nx s2.nx && readsKept ((nth (masks ops) i).getD 0) (hide d.s.heap ((nth (masks ops) i).getD 0) d.laid) s2.heap d.read) with
          | false => rw [hk] at h; cases h
          | true =>
            rw [hk] at h
            simp only [cond_true, Option.map_eq_some_iff] at h
            obtain ⟨env', henv, rfl⟩ := h
            simp only [Bool.and_eq_true] at hk
            exact ⟨v, .acts hw hso s2 hc.1 hc.2 hop (Nat.le_of_ble_eq_true hk.1) hk.2 henv rfl rfl rfl rfl rfl⟩
        · cases h

/-- The run in the text's order, laid out. -/
theorem drawA_run : ∀ (rest : List Oper) (i : Nat) (d d' : Dr), drawA C self ops (masks ops) fr nx0 rest i d = some d' → ops.drop i = rest → i ≤ ops.length →
    ∃ D : Nat → Dr, D i = d ∧ D ops.length = d' ∧ ∀ (j : Nat) (o : Oper), i ≤ j → ops[j]? = some o → ∃ v, Did C self ops fr nx0 j o (D j) (D (j + 1)) v := by
  intro rest
  induction rest with
  | nil =>
    intro i d d' h hd hi
    simp only [drawA, Option.some.injEq] at h
    subst h
    have : ops.length ≤ i := List.drop_eq_nil_iff.1 hd
    refine ⟨fun _ => d, rfl, rfl, fun j o hj ho => ?_⟩
    have := (List.getElem?_eq_some_iff.1 ho).1
    omega
  | cons o rest ih =>
    intro i d d' h hd hi
    simp only [drawA] at h
    split at h
    · rename_i d1 h1
      have hlt : i < ops.length := by
        rcases Nat.lt_or_ge i ops.length with h2 | h2
        · exact h2
        · rw [List.drop_eq_nil_iff.2 h2] at hd; cases hd
      have hio : ops[i]? = some o := by
        have : (ops.drop i)[0]? = some o := by rw [hd]; rfl
        rwa [List.getElem?_drop, Nat.add_zero] at this
      have hd2 : ops.drop (i + 1) = rest := by
        have : (ops.drop i).drop 1 = rest := by rw [hd]; rfl
        rwa [List.drop_drop] at this
      obtain ⟨D, q1, q2, q3⟩ := ih (i + 1) d1 d' h hd2 hlt
      refine ⟨fun j => if j = i then d else D j, by simp, by simp [show ops.length ≠ i from by omega, q2], fun j p hj hp => ?_⟩
      by_cases hji : j = i
      · subst hji
        rw [hio] at hp; cases hp
        obtain ⟨v, hv⟩ := drawOne_did h1
        refine ⟨v, ?_⟩
        simp only [if_true, show j + 1 ≠ j from by omega, if_false, q1]
        exact hv
      · obtain ⟨v, hv⟩ := q3 j p (by omega) hp
        refine ⟨v, ?_⟩
        simp only [hji, if_false, show j + 1 ≠ i from by omega]
        exact hv
    · cases h
end
end Go.Ev
