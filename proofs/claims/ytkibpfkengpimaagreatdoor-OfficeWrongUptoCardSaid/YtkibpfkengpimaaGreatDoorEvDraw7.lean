/-
  A part of a verified evaluator of the model's code, or of its use at this seat; see the text YtkibpfkengpimaaGreatDoorEvCard.
-/
import Derived.Test.YtkibpfkengpimaaGreatDoorEvDraw6
namespace Go.Ev
theorem sameL_eq {α : Type} {f : α → α → Bool} (hf : ∀ a b, f a b = true → a = b) : ∀ {x y : List α}, sameL f x y = true → x = y := by
  intro x
  induction x with
  | nil => intro y h; cases y with
    | nil => rfl
    | cons => cases h
  | cons a x ih =>
    intro y h
    cases y with
    | nil => cases h
    | cons b y =>
      simp only [sameL] at h
      cases hb : f a b with
      | false => rw [hb] at h; cases h
      | true => rw [hb] at h; rw [hf a b hb, ih h]
theorem nat_eq {a b : Nat} (h : Nat.beq a b = true) : a = b := Nat.eq_of_beq_eq_true h
theorem sameV_eq : ∀ (n : Nat) (a b : AV), sameV n a b = true → a = b := by
  intro n
  induction n with
  | zero =>
    intro a b h
    cases a <;> cases b <;> first | rfl | (simp [sameV] at h; done) | skip
    case bool.bool => simpa [sameV] using h
    case int.int => simp [sameV, ieq_eq] at h; rw [h.1, h.2]
    case str.str => simp [sameV, strEq_eq] at h; rw [h]
    case ptr.ptr => simp only [sameV, Bool.and_eq_true] at h; rw [nat_eq h.1, nat_eq h.2]
    case slice.slice => simp only [sameV, Bool.and_eq_true] at h; rw [nat_eq h.1.1.1, nat_eq h.1.1.2, nat_eq h.1.2, nat_eq h.2]
    case map.map => simp only [sameV] at h; rw [nat_eq h]
  | succ n ih =>
    intro a b h
    cases a <;> cases b <;> first | rfl | (simp [sameV] at h; done) | skip
    case bool.bool => simpa [sameV] using h
    case int.int => simp [sameV, ieq_eq] at h; rw [h.1, h.2]
    case str.str => simp [sameV, strEq_eq] at h; rw [h]
    case ptr.ptr => simp only [sameV, Bool.and_eq_true] at h; rw [nat_eq h.1, nat_eq h.2]
    case slice.slice => simp only [sameV, Bool.and_eq_true] at h; rw [nat_eq h.1.1.1, nat_eq h.1.1.2, nat_eq h.1.2, nat_eq h.2]
    case map.map => simp only [sameV] at h; rw [nat_eq h]
    case func.func =>
      simp only [sameV, Bool.and_eq_true, beq_iff_eq] at h
      rw [h.1.1, sameL_eq ih h.1.2, sameL_eq ih h.2]
    case iface.iface => simp only [sameV, Bool.and_eq_true] at h; rw [nat_eq h.1, ih _ _ h.2]
    case agg.agg => simp only [sameV] at h; rw [sameL_eq ih h]
    case tuple.tuple => simp only [sameV] at h; rw [sameL_eq ih h]
theorem sameBlk_eq {x y : Option ABlk} (h : sameBlk x y = true) : x = y := by
  unfold sameBlk at h
  split at h
  · rfl
  · simp only [Bool.and_eq_true, beq_iff_eq] at h
    obtain ⟨⟨⟨⟨⟨h1, h2⟩, h3⟩, h4⟩, h5⟩, h6⟩ := h
    rw [h1, nat_eq h2, nat_eq h3, nat_eq h4, nat_eq h5, sameL_eq (fun a b hab => sameL_eq (sameV_eq 30) hab) h6]
  · simp only [Bool.and_eq_true] at h
    obtain ⟨h1, h2⟩ := h
    rw [nat_eq h1, sameL_eq (fun a b hab => by
      obtain ⟨a1, a2, a3⟩ := a
      obtain ⟨b1, b2, b3⟩ := b
      simp only [Bool.and_eq_true] at hab
      rw [sameV_eq 30 _ _ hab.1.1, sameV_eq 30 _ _ hab.1.2, nat_eq hab.2]) h2]
  · cases h
end Go.Ev
