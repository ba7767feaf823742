/-
  A part of a verified evaluator of the model's code, or of its use at this seat; see the text YtkibpfkengpimaaGreatDoorEvCard.
-/
import Derived.Test.YtkibpfkengpimaaGreatDoorEvDraw5
namespace Go.Ev

theorem hide_get (m : Nat) : ∀ (l : List (Nat × Nat)) (h : Tr ABlk) (b : Nat), (hide h m l).get b = none ∨ (hide h m l).get b = h.get b := by
  intro l
  induction l with
  | nil => intro h b; exact .inr rfl
  | cons p l ih =>
    intro h b
    obtain ⟨i, n⟩ := p
    simp only [hide]
    cases Nat.testBit m i with
    | true => exact ih h b
    | false =>
      rcases ih (h.put n none) b with h1 | h1
      · exact .inl h1
      · simp only [cond_false]
        rw [h1]
        by_cases hn : n = b
        · subst hn; left; simp
        · right; rw [Tr.get_put_other _ _ hn]
theorem hide_hidden (m : Nat) : ∀ (l : List (Nat × Nat)) (h : Tr ABlk) (b : Nat), (∃ i, (i, b) ∈ l ∧ Nat.testBit m i = false) → (hide h m l).get b = none := by
  intro l
  induction l with
  | nil => rintro h b ⟨i, hi, _⟩; cases hi
  | cons p l ih =>
    rintro h b ⟨i, hi, hm⟩
    obtain ⟨j, n⟩ := p
    simp only [hide]
    rcases List.mem_cons.1 hi with h1 | h1
    · cases h1
      rw [hm, cond_false]
      rcases hide_get m l (h.put b none) b with h2 | h2
      · exact h2
      · rw [h2]; simp
    · cases Nat.testBit m j with
      | true => exact ih h b ⟨i, h1, hm⟩
      | false => exact ih _ b ⟨i, h1, hm⟩
theorem hide_seen (m : Nat) : ∀ (l : List (Nat × Nat)) (h : Tr ABlk) (b : Nat), (∀ i, (i, b) ∈ l → Nat.testBit m i = true) → (hide h m l).get b = h.get b := by
  intro l
  induction l with
  | nil => intro h b _; rfl
  | cons p l ih =>
    intro h b hb
    obtain ⟨j, n⟩ := p
    simp only [hide]
    cases hj : Nat.testBit m j with
    | true => exact ih h b fun i hi => hb i (by simp [hi])
    | false =>
      rw [cond_false, ih _ b fun i hi => hb i (by simp [hi])]
      by_cases hn : n = b
      · subst hn; have := hb j (by simp); rw [hj] at this; cases this
      · rw [Tr.get_put_other _ _ hn]
theorem unhide_seen (m : Nat) (h0 : Tr ABlk) : ∀ (l : List (Nat × Nat)) (h : Tr ABlk) (b : Nat), (∀ i, (i, b) ∈ l → Nat.testBit m i = true) → (unhide h h0 m l).get b = h.get b := by
  intro l
  induction l with
  | nil => intro h b _; rfl
  | cons p l ih =>
    intro h b hb
    obtain ⟨j, n⟩ := p
    simp only [unhide]
    cases hj : Nat.testBit m j with
    | true => exact ih h b fun i hi => hb i (by simp [hi])
    | false =>
      rw [cond_false, ih _ b fun i hi => hb i (by simp [hi])]
      by_cases hn : n = b
      · subst hn; have := hb j (by simp); rw [hj] at this; cases this
      · rw [Tr.get_put_other _ _ hn]
theorem unhide_keep (m : Nat) (h0 : Tr ABlk) : ∀ (l : List (Nat × Nat)) (h : Tr ABlk) (b : Nat), h.get b = h0.get b → (unhide h h0 m l).get b = h0.get b := by
  intro l
  induction l with
  | nil => intro h b hb; exact hb
  | cons p l ih =>
    intro h b hb
    obtain ⟨j, n⟩ := p
    simp only [unhide]
    cases hj : Nat.testBit m j with
    | true => exact ih h b hb
    | false =>
      refine ih _ b ?_
      by_cases hn : n = b
      · subst hn; simp
      · rw [Tr.get_put_other _ _ hn]; exact hb
theorem unhide_hidden (m : Nat) (h0 : Tr ABlk) : ∀ (l : List (Nat × Nat)) (h : Tr ABlk) (b : Nat), (∃ i, (i, b) ∈ l ∧ Nat.testBit m i = false) → (unhide h h0 m l).get b = h0.get b := by
  intro l
  induction l with
  | nil => rintro h b ⟨i, hi, _⟩; cases hi
  | cons p l ih =>
    rintro h b ⟨i, hi, hm⟩
    obtain ⟨j, n⟩ := p
    simp only [unhide]
    rcases List.mem_cons.1 hi with h1 | h1
    · cases h1
      rw [hm, cond_false]
      exact unhide_keep m h0 l _ _ (by simp)
    · cases Nat.testBit m j with
      | true => exact ih h b ⟨i, h1, hm⟩
      | false => exact ih _ b ⟨i, h1, hm⟩

theorem actsBefore_spec {m : Nat} : ∀ {l : List (Nat × Tr ABlk × Tr ABlk)}, actsBefore m l = true → ∀ p ∈ l, Nat.testBit m p.1 = true := by
  intro l
  induction l with
  | nil => intro _ p hp; cases hp
  | cons q l ih =>
    intro h p hp
    obtain ⟨i, x⟩ := q
    simp only [actsBefore] at h
    cases hb : Nat.testBit m i with
    | false => rw [hb] at h; cases h
    | true =>
      rw [hb] at h
      rcases List.mem_cons.1 hp with rfl | hp
      · exact hb
      · exact ih h p hp
theorem readsKept_spec {m : Nat} {h h' : Tr ABlk} : ∀ {l : List (Nat × Nat)}, readsKept m h h' l = true → ∀ p ∈ l, Nat.testBit m p.1 = true ∨ sameBlk (h.get p.2) (h'.get p.2) = true := by
  intro l
  induction l with
  | nil => intro _ p hp; cases hp
  | cons q l ih =>
    intro hk p hp
    obtain ⟨i, b⟩ := q
    simp only [readsKept] at hk
    cases hb : Nat.testBit m i with
    | true =>
      rw [hb] at hk
      rcases List.mem_cons.1 hp with rfl | hp
      · exact .inl hb
      · exact ih hk p hp
    | false =>
      rw [hb] at hk
      simp only [cond_false] at hk
      cases hs : sameBlk (h.get b) (h'.get b) with
      | false => rw [hs] at hk; cases hk
      | true =>
        rw [hs] at hk
        rcases List.mem_cons.1 hp with rfl | hp
        · exact .inr hs
        · exact ih hk p hp
theorem actsKept_spec {m b : Nat} : ∀ {l : List (Nat × Tr ABlk × Tr ABlk)}, actsKept m b l = true → ∀ p ∈ l, Nat.testBit m p.1 = true ∨ sameBlk (p.2.1.get b) (p.2.2.get b) = true := by
  intro l
  induction l with
  | nil => intro _ p hp; cases hp
  | cons q l ih =>
    intro hk p hp
    obtain ⟨i, x, y⟩ := q
    simp only [actsKept] at hk
    cases hb : Nat.testBit m i with
    | true =>
      rw [hb] at hk
      rcases List.mem_cons.1 hp with rfl | hp
      · exact .inl hb
      · exact ih hk p hp
    | false =>
      rw [hb] at hk
      simp only [cond_false] at hk
      cases hs : sameBlk (x.get b) (y.get b) with
      | false => rw [hs] at hk; cases hk
      | true =>
        rw [hs] at hk
        rcases List.mem_cons.1 hp with rfl | hp
        · exact .inr hs
        · exact ih hk p hp
theorem hidesOk_spec {s : St} {m : Nat} : ∀ {l : List (Nat × Nat)}, hidesOk s m l = true → ∀ p ∈ l, Nat.testBit m p.1 = false → ∀ e sz g q r rows, s.heap.get p.2 = some (.cells e sz g q r rows) → g = p.2 ∧ s.grps.get p.2 = some [p.2] := by
  intro l
  induction l with
  | nil => intro _ p hp; cases hp
  | cons q l ih =>
    intro hk p hp hm e sz g q2 r rows hg
    obtain ⟨i, n⟩ := q
    simp only [hidesOk] at hk
    cases hb : Nat.testBit m i with
    | true =>
      rw [hb] at hk
      rcases List.mem_cons.1 hp with rfl | hp
      · rw [hb] at hm; cases hm
      · exact ih hk p hp hm e sz g q2 r rows hg
    | false =>
      rw [hb] at hk
      simp only [cond_false] at hk
      have hrest : hidesOk s m l = true ∧ ∀ e sz g q r rows, s.heap.get n = some (.cells e sz g q r rows) → g = n ∧ s.grps.get n = some [n] := by
        split at hk
        · rename_i e1 sz1 g1 q1 r1 rows1 hget
          cases hgn : Nat.beq g1 n with
          | false => rw [hgn] at hk; cases hk
          | true =>
            rw [hgn] at hk
            simp only [cond_true] at hk
            split at hk
            · rename_i x hx
              cases hxn : Nat.beq x n with
              | false => rw [hxn] at hk; cases hk
              | true =>
                rw [hxn] at hk
                refine ⟨hk, fun e sz g q r rows h2 => ?_⟩
                rw [hget] at h2
                cases h2
                have h3 := Nat.eq_of_beq_eq_true hxn
                subst h3
                exact ⟨Nat.eq_of_beq_eq_true hgn, hx⟩
            · cases hk
        · rename_i hne
          exact ⟨hk, fun e sz g q r rows h2 => absurd h2 (hne _ _ _ _ _ _)⟩
      rcases List.mem_cons.1 hp with rfl | hp
      · exact hrest.2 _ _ _ _ _ _ hg
      · exact ih hrest.1 p hp hm e sz g q2 r rows hg
end Go.Ev
