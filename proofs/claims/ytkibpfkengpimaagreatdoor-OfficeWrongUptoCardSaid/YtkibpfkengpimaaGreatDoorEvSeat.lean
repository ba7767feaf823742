/-
  A part of a verified evaluator of the model's code, or of its use at this seat; see the text YtkibpfkengpimaaGreatDoorEvCard.
-/
import Derived.Test.YtkibpfkengpimaaGreatDoorEvDraw15
import Derived.Test.YtkibpfkengpimaaGreatDoorEvExt
import Derived.KernelRfl
namespace Go.Ev
/-- What holds of all that is in a table, by its keys: a, a + d, a + 2 d .. -/
def AllK {α : Type} (p : Nat → α → Prop) (a d : Nat) (t : Tr α) : Prop := ∀ n x, t.get n = some x → p (a + d * n) x
theorem AllK.nil {α : Type} {p : Nat → α → Prop} {a d : Nat} : AllK p a d (Tr.nil : Tr α) := fun n x h => by rw [Tr.get_nil0] at h; cases h
theorem AllK.node {α : Type} {p : Nat → α → Prop} {a d : Nat} {l r : Tr α} {v : Option α} (hl : AllK p (a + d) (2 * d) l) (hv : ∀ x, v = some x → p a x) (hr : AllK p (a + 2 * d) (2 * d) r) : AllK p a d (Tr.node l v r) := by
  intro n x h
  cases n with
  | zero => rw [Tr.get_zero] at h; simpa using hv x h
  | succ m =>
    rw [Tr.get_succ] at h
    cases hb : Nat.beq (Nat.mod m 2) 0 with
    | true =>
      rw [hb] at h
      have h1 : m % 2 = 0 := (by simpa using hb : Nat.mod m 2 = 0)
      have := hl _ _ h
      have e : a + d + 2 * d * Nat.div m 2 = a + d * (m + 1) := by
        show a + d + 2 * d * (m / 2) = a + d * (m + 1)
        have h2 : m = 2 * (m / 2) := by omega
        calc a + d + 2 * d * (m / 2) = a + d * (2 * (m / 2) + 1) := by rw [Nat.mul_add, Nat.mul_comm 2 d, Nat.mul_assoc]; omega
          _ = a + d * (m + 1) := by rw [← h2]
      rw [e] at this; exact this
    | false =>
      rw [hb] at h
      have h1 : ¬ m % 2 = 0 := by intro h0; have : Nat.mod m 2 = 0 := h0; rw [this] at hb; cases hb
      have := hr _ _ h
      have e : a + 2 * d + 2 * d * Nat.div m 2 = a + d * (m + 1) := by
        show a + 2 * d + 2 * d * (m / 2) = a + d * (m + 1)
        have h2 : m = 2 * (m / 2) + 1 := by omega
        calc a + 2 * d + 2 * d * (m / 2) = a + d * (2 * (m / 2) + 1 + 1) := by rw [Nat.mul_add, Nat.mul_add, Nat.mul_comm 2 d, Nat.mul_assoc]; omega
          _ = a + d * (m + 1) := by rw [← h2]
      rw [e] at this; exact this
theorem AllK.of {α : Type} {p : Nat → α → Prop} {t : Tr α} (h : AllK p 0 1 t) : ∀ n x, t.get n = some x → p n x := fun n x hx => by simpa using h n x hx
def FunOk (P : Program) (f : Nat) (fn : Func) : Prop := P.funcs[f]? = some fn ∧ fn.name ≠ "runtime.NumGoroutine" ∧ ∀ c, fn.body = some c → okC c = true
theorem ne_of_beq {a b : String} (h : (a == b) = false) : a ≠ b := fun e => by rw [e] at h; simp at h
end Go.Ev
