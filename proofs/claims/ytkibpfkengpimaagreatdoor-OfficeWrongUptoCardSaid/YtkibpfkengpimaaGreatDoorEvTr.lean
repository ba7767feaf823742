/-
  A part of a verified evaluator of the model's code, or of its use at this seat; see the text YtkibpfkengpimaaGreatDoorEvCard.
-/
import Derived.Test.YtkibpfkengpimaaGreatDoorEvTab
namespace Go.Ev
namespace Tr
variable {α : Type}
theorem get_nil0 (n : Nat) : get (nil : Tr α) n = none := rfl
theorem get_zero (l r : Tr α) (v : Option α) : get (node l v r) 0 = v := rfl
theorem get_succ (l r : Tr α) (v : Option α) (m : Nat) : get (node l v r) (m + 1) = bif Nat.beq (Nat.mod m 2) 0 then get l (Nat.div m 2) else get r (Nat.div m 2) := by
  show Bool.rec (motive := fun _ => Option α) (get r (Nat.div m 2)) (get l (Nat.div m 2)) (Nat.beq (Nat.mod m 2) 0) = _
  cases Nat.beq (Nat.mod m 2) 0 <;> rfl
theorem put_nil0 (n : Nat) (x : Option α) : put (nil : Tr α) n x = oneF (n + 1) n x := rfl
theorem put_zero (l r : Tr α) (v x : Option α) : put (node l v r) 0 x = node l x r := rfl
theorem put_succ (l r : Tr α) (v x : Option α) (m : Nat) : put (node l v r) (m + 1) x = bif Nat.beq (Nat.mod m 2) 0 then node (put l (Nat.div m 2) x) v r else node l v (put r (Nat.div m 2) x) := by
  show Bool.rec (motive := fun _ => Tr α) (node l v (put r (Nat.div m 2) x)) (node (put l (Nat.div m 2) x) v r) (Nat.beq (Nat.mod m 2) 0) = _
  cases Nat.beq (Nat.mod m 2) 0 <;> rfl
theorem half (m k : Nat) (h : Nat.mod m 2 = Nat.mod k 2) : (Nat.div m 2 = Nat.div k 2) ↔ m = k := by
  have h1 : m % 2 = k % 2 := h
  constructor
  · intro h2
    have h2' : m / 2 = k / 2 := h2
    omega
  · rintro rfl; rfl
theorem get_oneF (x : Option α) : ∀ (f n m : Nat), n < f → (oneF f n x).get m = if n = m then x else none := by
  intro f
  induction f with
  | zero => intro n m h; omega
  | succ f ih =>
    intro n m h
    cases n with
    | zero =>
      cases m with
      | zero => simp [oneF, get_nil0, get_zero, get_succ]
      | succ m => cases hb : Nat.beq (Nat.mod m 2) 0 <;> simp [oneF, get_nil0, get_zero, get_succ, hb]
    | succ n =>
      cases m with
      | zero => cases hb : Nat.beq (Nat.mod n 2) 0 <;> simp [oneF, get_nil0, get_zero, get_succ, hb]
      | succ m =>
        have hd : Nat.div n 2 < f := Nat.lt_of_le_of_lt (Nat.div_le_self n 2) (by omega)
        cases hb : Nat.beq (Nat.mod n 2) 0 <;> cases hc : Nat.beq (Nat.mod m 2) 0
        · simp only [oneF, hb, get_nil0, get_zero, get_succ, hc, cond_false]
          rw [ih _ _ hd]
          have h1 : Nat.mod n 2 ≠ 0 := by intro h; simp [h] at hb
          have h2 : Nat.mod m 2 ≠ 0 := by intro h; simp [h] at hc
          have : Nat.mod n 2 = Nat.mod m 2 := by
            have := Nat.mod_lt n (y := 2) (by omega); have := Nat.mod_lt m (y := 2) (by omega)
            show n % 2 = m % 2
            have h1' : n % 2 ≠ 0 := h1
            have h2' : m % 2 ≠ 0 := h2
            omega
          simp [half n m this]
        · simp only [oneF, hb, get_nil0, get_zero, get_succ, hc, cond_false, cond_true]
          rw [if_neg]
          intro h; have : n = m := by omega
          subst this; simp [hb] at hc
        · simp only [oneF, hb, get_nil0, get_zero, get_succ, hc, cond_false, cond_true]
          rw [if_neg]
          intro h; have : n = m := by omega
          subst this; simp [hb] at hc
        · simp only [oneF, hb, get_nil0, get_zero, get_succ, hc, cond_true]
          rw [ih _ _ hd]
          have h1 : Nat.mod n 2 = 0 := by simpa using hb
          have h2 : Nat.mod m 2 = 0 := by simpa using hc
          simp [half n m (h1.trans h2.symm)]
theorem get_put (x : Option α) : ∀ (t : Tr α) (n m : Nat), (t.put n x).get m = if n = m then x else t.get m := by
  intro t
  induction t with
  | nil => intro n m; simpa [put_nil0, put_zero, put_succ, get_nil0, get_zero, get_succ] using get_oneF x (n + 1) n m (by omega)
  | node l v r ihl ihr =>
    intro n m
    cases n with
    | zero =>
      cases m with
      | zero => simp [put_nil0, put_zero, put_succ, get_nil0, get_zero, get_succ]
      | succ m => simp [put_nil0, put_zero, put_succ, get_nil0, get_zero, get_succ]
    | succ n =>
      cases m with
      | zero => cases hb : Nat.beq (Nat.mod n 2) 0 <;> simp [put_nil0, put_zero, put_succ, get_nil0, get_zero, get_succ, hb]
      | succ m =>
        cases hb : Nat.beq (Nat.mod n 2) 0 <;> cases hc : Nat.beq (Nat.mod m 2) 0
        · simp only [put_nil0, put_zero, put_succ, hb, get_nil0, get_zero, get_succ, hc, cond_false]
          rw [ihr]
          have h1 : n % 2 ≠ 0 := by intro h; have h : Nat.mod n 2 = 0 := h; simp [h] at hb
          have h2 : m % 2 ≠ 0 := by intro h; have h : Nat.mod m 2 = 0 := h; simp [h] at hc
          have : Nat.mod n 2 = Nat.mod m 2 := by show n % 2 = m % 2; omega
          simp [half n m this]
        · simp only [put_nil0, put_zero, put_succ, hb, get_nil0, get_zero, get_succ, hc, cond_false, cond_true]
          rw [if_neg]
          intro h; have : n = m := by omega
          subst this; simp [hb] at hc
        · simp only [put_nil0, put_zero, put_succ, hb, get_nil0, get_zero, get_succ, hc, cond_false, cond_true]
          rw [if_neg]
          intro h; have : n = m := by omega
          subst this; simp [hb] at hc
        · simp only [put_nil0, put_zero, put_succ, hb, get_nil0, get_zero, get_succ, hc, cond_true]
          rw [ihl]
          have h1 : Nat.mod n 2 = 0 := by simpa using hb
          have h2 : Nat.mod m 2 = 0 := by simpa using hc
          simp [half n m (h1.trans h2.symm)]
@[simp] theorem get_put_same (t : Tr α) (n : Nat) (x : Option α) : (t.put n x).get n = x := by rw [get_put, if_pos rfl]
theorem get_put_other (t : Tr α) {n m : Nat} (x : Option α) (h : n ≠ m) : (t.put n x).get m = t.get m := by rw [get_put, if_neg h]
@[simp] theorem get_nil (n : Nat) : (nil : Tr α).get n = none := rfl
end Tr
end Go.Ev
