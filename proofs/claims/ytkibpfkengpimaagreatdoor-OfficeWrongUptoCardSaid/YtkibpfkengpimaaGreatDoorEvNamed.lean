/-
  A part of a verified evaluator of the model's code, or of its use at this seat; see the text YtkibpfkengpimaaGreatDoorEvCard.
-/
import Derived.Test.YtkibpfkengpimaaGreatDoorProg
import Derived.WalkKit
import Derived.WalkSpells
import Derived.WalkLawsBesides
namespace Go.Proofs.YtkibpfkengpimaaGreatDoor
open Go.RowKit
/-- A letter or a digit. -/
def okc (c : UInt8) : Bool := (decide (65 ≤ c.toNat) && decide (c.toNat ≤ 90)) || (decide (48 ≤ c.toNat) && decide (c.toNat ≤ 57))
def isName (l : List UInt8) : Bool := l.all okc && !l.isEmpty && decide (l.length ≤ 12)
theorem isName_step {s : ByteArray} {k : Nat} (hall : (s.data.toList.take k).all okc = true) (hk : k < s.size) (hc : okc s[k] = true) : (s.data.toList.take (k + 1)).all okc = true := by
  have hl : k < s.data.toList.length := by rw [Array.length_toList]; exact hk
  rw [List.take_succ_eq_append_getElem hl, List.all_append, hall]
  have e : s.data.toList[k] = s[k] := by rw [Array.getElem_toList]; rfl
  simp [e, hc]
theorem isName_bad {s : ByteArray} {k : Nat} (hk : k < s.size) (hc : okc s[k] = false) : isName s.data.toList = false := by
  have hl : k < s.data.toList.length := by rw [Array.length_toList]; exact hk
  have e : s.data.toList[k] = s[k] := by rw [Array.getElem_toList]; rfl
  have : s.data.toList.all okc = false := by
    rw [List.all_eq_false]
    exact ⟨s.data.toList[k], List.getElem_mem hl, by rw [e, hc]; simp⟩
  simp [isName, this]
theorem isName_end {s : ByteArray} {k : Nat} (hall : (s.data.toList.take k).all okc = true) (hk : s.size ≤ k) : isName s.data.toList = (decide (s.size ≠ 0) && decide (s.size ≤ 12)) := by
  have hl : s.data.toList.length ≤ k := by rw [Array.length_toList]; exact hk
  rw [List.take_of_length_le hl] at hall
  have e : s.data.toList.length = s.size := Array.length_toList
  unfold isName
  rw [hall, e]
  have : s.data.toList.isEmpty = decide (s.size = 0) := by
    rw [← e]
    cases s.data.toList <;> simp
  rw [this]
  by_cases h : s.size = 0 <;> simp [h]
theorem isName_long {s : ByteArray} (h : 12 < s.size) : isName s.data.toList = false := by
  have e : s.data.toList.length = s.size := Array.length_toList
  unfold isName
  rw [e, decide_eq_false (by omega), Bool.and_false]
set_option maxRecDepth 1000000 in
set_option maxHeartbeats 1000000 in
theorem named9 (s : ByteArray) (hs : s.size ≤ 9223372036854775806) (w : World) : Calls Tryz.prog 9 #[.string s] w fun e w' => e = .returned (.bool (isName s.data.toList)) ∧ w' = w := by
  go_enter Tryz.func9, Tryz.ntmps9
  go_wp2
  go_loop [3] (fun i => ∃ k : Nat, k ≤ s.size ∧ i = .int .i64 k ∧ (s.data.toList.take k).all okc = true) (fun i => match i with | .int _ q => s.size - q.toNat | _ => 0)
  case atStart => exact ⟨0, Nat.zero_le _, rfl, rfl⟩
  case round =>
    obtain ⟨k, hk, rfl, hall⟩ := hrel
    go_wp2
    all_goals try simp only [Bool.not_eq_true', Bool.not_eq_false', decide_eq_true_eq, decide_eq_false_iff_not] at *
    all_goals first
      | (go_round
         case rel => exact ⟨k + 1, by omega, by simp, isName_step hall (by assumption) (by simp only [okc, Bool.or_eq_true, Bool.and_eq_true, decide_eq_true_eq]; omega)⟩
         case measure => first | omega | (simp; omega))
      | (go_ret
         refine ⟨?_, rfl⟩
         rw [isName_bad (s := s) (k := k) (by assumption) (by simp only [okc, Bool.or_eq_false_iff, Bool.and_eq_false_iff, decide_eq_false_iff_not]; omega)]
         rfl)
      | skip
    all_goals go_ret
    all_goals refine ⟨?_, rfl⟩
    all_goals rw [isName_end hall (by omega)]
    · have h0 : s.toList = [] := by assumption
      have h1 : s.size = 0 := by rw [ByteArray.toList_eq] at h0; rw [ByteArray.size, ← Array.length_toList, h0]; rfl
      rw [h1]; rfl
    · have h0 : ¬ s.toList = [] := by assumption
      have e1 : s.toList.isEmpty = false := by
        cases h : s.toList with
        | nil => exact absurd h h0
        | cons => rfl
      rw [ByteArray.toList_eq] at h0
      have h1 : ¬ s.size = 0 := by intro h; apply h0; rw [ByteArray.size, ← Array.length_toList] at h; exact List.eq_nil_of_length_eq_zero h
      show Ending.returned (Value.bool (!s.toList.isEmpty && decide ((s.size : Int) ≤ 12))) = _
      have e2 : decide ((s.size : Int) ≤ 12) = decide (s.size ≤ 12) := decide_eq_decide.2 (by omega)
      rw [e1, e2]
      simp [h1]
set_option maxRecDepth 1000000 in
set_option maxHeartbeats 1000000 in
theorem named61 (s : ByteArray) (hs : s.size ≤ 9223372036854775806) (w : World) : Calls Tryz.prog 61 #[.string s] w fun e w' => e = .returned (.bool (isName s.data.toList)) ∧ w' = w := by
  go_enter Tryz.func61, Tryz.ntmps61
  go_wp2
  · have h0 : (12 : Int) < s.size := by
      first
        | assumption
        | (simp only [decide_eq_true_eq, Bool.or_eq_true, Bool.not_eq_true', decide_eq_false_iff_not] at *; omega)
        | omega
    go_ret
    refine ⟨?_, rfl⟩
    rw [isName_long (s := s) (by omega)]
    rfl
  · have h0 : (s.size : Int) ≤ 12 ∧ 1 ≤ (s.size : Int) := by
      first
        | omega
        | (simp only [Bool.or_eq_false_iff, decide_eq_false_iff_not, Bool.not_eq_true'] at *; omega)
    go_loop [15] (fun i => ∃ k : Nat, k ≤ s.size ∧ i = .int .i64 k ∧ (s.data.toList.take k).all okc = true) (fun i => match i with | .int _ q => s.size - q.toNat | _ => 0)
    case atStart => exact ⟨0, Nat.zero_le _, rfl, rfl⟩
    case round =>
      obtain ⟨k, hk, rfl, hall⟩ := hrel
      go_wp2
      all_goals try simp only [Bool.not_eq_true', Bool.not_eq_false', decide_eq_true_eq, decide_eq_false_iff_not] at *
      all_goals first
        | (go_round
           case rel => exact ⟨k + 1, by omega, by simp, isName_step hall (by assumption) (by simp only [okc, Bool.or_eq_true, Bool.and_eq_true, decide_eq_true_eq]; omega)⟩
           case measure => first | omega | (simp; omega))
        | (go_ret
           refine ⟨?_, rfl⟩
           rw [isName_bad (s := s) (k := k) (by assumption) (by simp only [okc, Bool.or_eq_false_iff, Bool.and_eq_false_iff, decide_eq_false_iff_not]; omega)]
           rfl)
        | (go_ret
           refine ⟨?_, rfl⟩
           rw [isName_end hall (by omega)]
           have h1 : s.size ≠ 0 := by omega
           have h2 : s.size ≤ 12 := by omega
           simp [h1, h2])
        | skip
  · have h0 : (s.size : Int) < 1 := by assumption
    go_ret
    refine ⟨?_, rfl⟩
    have h1 : s.size = 0 := by omega
    rw [isName_end (s := s) (k := 0) rfl (by omega), h1]
    rfl
end Go.Proofs.YtkibpfkengpimaaGreatDoor
