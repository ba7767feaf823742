/-
  A part of a verified evaluator of the model's code, or of its use at this seat; see the text YtkibpfkengpimaaGreatDoorEvCard.
-/
import Derived.Test.YtkibpfkengpimaaGreatDoorEvEq
import Derived.Laws.Bits64
import Derived.Laws.BitsLemmas
namespace Go.Ev

/-! ### numbers -/
theorem wrapI_pos (m : Nat) (h : m ≤ 9223372036854775807) : IntKind.i64.wrap (m : Int) = (m : Int) := by rw [IntKind.wrap_i64]; omega
theorem wrapI_neg (m : Nat) (h : m ≤ 9223372036854775807) : IntKind.i64.wrap (-((m : Int) + 1)) = -((m : Int) + 1) := by rw [IntKind.wrap_i64]; omega
theorem wrapI_u64 (m : Nat) (h : m ≤ 18446744073709551615) : IntKind.u64.wrap (m : Int) = (m : Int) := by rw [IntKind.wrap_u64]; omega
theorem wrapI_u8 (m : Nat) (h : m ≤ 255) : IntKind.u8.wrap (m : Int) = (m : Int) := by rw [IntKind.wrap_u8]; omega
theorem wrapI_a (m : Nat) : wrapI .i64 (.ofNat m) = IntKind.wrap .i64 (.ofNat m) := by
  unfold wrapI
  dsimp only
  cases hb : Nat.ble m 9223372036854775807 with
  | false => rw [cond_false]; rfl
  | true => exact (wrapI_pos m (Nat.le_of_ble_eq_true hb)).symm
theorem wrapI_b (m : Nat) : wrapI .i64 (.negSucc m) = IntKind.wrap .i64 (.negSucc m) := by
  unfold wrapI
  dsimp only
  cases hb : Nat.ble m 9223372036854775807 with
  | false => rw [cond_false]; rfl
  | true =>
    have := wrapI_neg m (Nat.le_of_ble_eq_true hb)
    rw [cond_true, Int.negSucc_eq]
    exact this.symm
theorem wrapI_c (m : Nat) : wrapI .u64 (.ofNat m) = IntKind.wrap .u64 (.ofNat m) := by
  unfold wrapI
  dsimp only
  cases hb : Nat.ble m 18446744073709551615 with
  | false => rw [cond_false]; rfl
  | true => exact (wrapI_u64 m (Nat.le_of_ble_eq_true hb)).symm
theorem wrapI_d (m : Nat) : wrapI .u8 (.ofNat m) = IntKind.wrap .u8 (.ofNat m) := by
  unfold wrapI
  dsimp only
  cases hb : Nat.ble m 255 with
  | false => rw [cond_false]; rfl
  | true => exact (wrapI_u8 m (Nat.le_of_ble_eq_true hb)).symm
theorem wrapI_eq (k : IntKind) (n : Int) : wrapI k n = k.wrap n := by
  cases n with
  | ofNat m =>
    cases k
    case i64 => exact wrapI_a m
    case u64 => exact wrapI_c m
    case u8 => exact wrapI_d m
    all_goals rfl
  | negSucc m =>
    cases k
    case i64 => exact wrapI_b m
    all_goals rfl

section
variable {P : Program} {C : Ctx} {ρ : Val} {ι : Inj} {s : St} {w : World}

theorem known_all {l : List Nat} (h : ∀ c ∈ l, c < 256) : known l = true := by
  induction l with
  | nil => rfl
  | cons x l ih => simp only [known]; rw [Nat.ble_eq_true_of_le (by have := h x (by simp); omega)]; exact ih fun c hc => h c (by simp [hc])
theorem bytes_less : ∀ {a b : List Nat}, (∀ c ∈ a, c < 256) → (∀ c ∈ b, c < 256) → Op.bytesLess (a.map UInt8.ofNat) (b.map UInt8.ofNat) = strLt a b := by
  intro a
  induction a with
  | nil => intro b _ _; cases b <;> rfl
  | cons x a ih =>
    intro b ha hb
    cases b with
    | nil => rfl
    | cons y b =>
      simp only [List.map_cons, Op.bytesLess, strLt, ih (b := b) (fun c hc => ha c (by simp [hc])) (fun c hc => hb c (by simp [hc])), nblt, nbeq]
      have hx := ha x (by simp)
      have hy := hb y (by simp)
      have h1 : (UInt8.ofNat x < UInt8.ofNat y) ↔ x < y := by
        rw [UInt8.lt_iff_toNat_lt, UInt8.toNat_ofNat', UInt8.toNat_ofNat']
        rw [Nat.mod_eq_of_lt hx, Nat.mod_eq_of_lt hy]
      have h2 : (UInt8.ofNat x = UInt8.ofNat y) ↔ x = y := by
        rw [← UInt8.toNat_inj, UInt8.toNat_ofNat', UInt8.toNat_ofNat']
        rw [Nat.mod_eq_of_lt hx, Nat.mod_eq_of_lt hy]
      by_cases hlt : x < y
      · simp [h1, hlt]
      · by_cases he : x = y
        · subst he; simp
        · have : (UInt8.ofNat x == UInt8.ofNat y) = false := by rw [beq_eq_false_iff_ne]; exact fun e => he (h2.1 e)
          simp [h1, hlt, he, this]

/-- The unknown strings are not longer than a memory can be. -/
def bigS : Nat := 1048576
def Short (ρ : Val) : Prop := ∀ i, (ρ i).length ≤ bigS
theorem bytesOf_length (hρ : Short ρ) : ∀ l : List Nat, (bytesOf ρ l).length ≤ l.length * bigS := by
  intro l
  induction l with
  | nil => simp [bytesOf]
  | cons c l ih =>
    simp only [bytesOf, List.length_append, List.length_cons, Nat.add_mul]
    have := hρ (c - 256)
    have hb : 1 ≤ bigS := by decide
    split
    · simp only [List.length_singleton]; omega
    · omega
theorem bytesOf_append (ρ : Val) : ∀ a b : List Nat, bytesOf ρ (a ++ b) = bytesOf ρ a ++ bytesOf ρ b := by
  intro a
  induction a with
  | nil => intro b; rfl
  | cons c a ih => intro b; simp [bytesOf, ih, List.append_assoc]

theorem strOp_rel (hρ : Short ρ) {op : BinOp} {x y : List Nat} {v : AV} {a b : ByteArray} (h : strOp op x y = some v) (ha : a.data.toList = bytesOf ρ x) (hb : b.data.toList = bytesOf ρ y) (w : World) :
    ∃ v', (Op.stringOp op a b).run P w = .ok v' w ∧ VRel ρ ι v v' := by
  unfold strOp at h
  split at h
  · cases hl : Nat.ble (List.length x + List.length y) 1048576 with
    | false => simp [hl] at h
    | true =>
      simp only [hl, cond_true, Option.some.injEq] at h
      subst h
      have hl := Nat.le_of_ble_eq_true hl
      have h1 := bytesOf_length hρ x
      have h2 := bytesOf_length hρ y
      have s1 : a.size = (bytesOf ρ x).length := by rw [← ha]; rfl
      have s2 : b.size = (bytesOf ρ y).length := by rw [← hb]; rfl
      have hsum : a.size + b.size ≤ 1048576 * bigS := by
        rw [s1, s2]
        have : (x.length + y.length) * bigS ≤ 1048576 * bigS := Nat.mul_le_mul_right _ hl
        rw [Nat.add_mul] at this
        omega
      have hmax : IntKind.i64.max = 9223372036854775807 := by decide
      refine ⟨.string (a ++ b), ?_, .str _ _ ?_⟩
      · simp only [Op.stringOp]
        have hb : bigS = 1048576 := rfl
        rw [hb] at hsum
        rw [if_neg (by rw [hmax]; omega)]
        rfl
      · rw [bytesOf_append, ← ha, ← hb]; simp
  · cases hk : (known x && known y) with
    | false => simp [hk] at h
    | true =>
      simp only [hk, cond_true] at h
      simp only [Bool.and_eq_true] at hk
      have e1 := bytes_beq hk.1 hk.2 ha hb
      have e2 : Op.bytesLess a.toList b.toList = strLt x y := by
        rw [ByteArray.toList_eq, ByteArray.toList_eq, ha, hb, known_bytes ρ hk.1, known_bytes ρ hk.2]
        exact bytes_less (fun c hc => known_lt hk.1 hc) (fun c hc => known_lt hk.2 hc)
      rw [strEq_eq] at h
      split at h <;> cases h <;> exact ⟨_, by simp only [Op.stringOp, e1, e2]; rfl, .bool _⟩

theorem arith_rel {op : BinOp} {k : IntKind} {x y : Int} {v : AV} (h : arith op k x y = some v) (t : TypeId) (w : World) : ∃ v', (binOp op t (.int k x) (.int k y)).run P w = .ok v' w ∧ VRel ρ ι v v' := by
  cases op <;> simp only [arith, reduceCtorEq] at h
  case quo =>
    rw [ieq_eq] at h
    cases hy : (y == 0) with
    | true => simp [hy] at h
    | false =>
      simp only [hy, cond_false, Option.some.injEq] at h
      subst h
      have : y ≠ 0 := by simpa using hy
      refine ⟨_, ?_, .int _ _⟩
      rw [wrapI_eq]
      simp [binOp, Op.intDiv, this]
  case rem =>
    rw [ieq_eq] at h
    cases hy : (y == 0) with
    | true => simp [hy] at h
    | false =>
      simp only [hy, cond_false, Option.some.injEq] at h
      subst h
      have : y ≠ 0 := by simpa using hy
      refine ⟨_, ?_, .int _ _⟩
      simp [binOp, Op.intDiv, this]
  case and =>
    have : v = .int k (k.wrap (BitVec.ofInt k.bits x &&& BitVec.ofInt k.bits y).toNat) := by
      split at h <;> cases h <;> rfl
    subst this
    exact ⟨_, by simp only [binOp, ne_eq, not_true_eq_false, if_false]; rfl, .int _ _⟩
  all_goals cases h
  all_goals try simp only [wrapI_eq, ieq_eq, ilt_eq]
  case add => exact ⟨_, by simp only [binOp, ne_eq, not_true_eq_false, if_false]; rfl, .int _ _⟩
  case sub => exact ⟨_, by simp only [binOp, ne_eq, not_true_eq_false, if_false]; rfl, .int _ _⟩
  case mul => exact ⟨_, by simp only [binOp, ne_eq, not_true_eq_false, if_false]; rfl, .int _ _⟩
  case or => exact ⟨_, by simp only [binOp, ne_eq, not_true_eq_false, if_false]; rfl, .int _ _⟩
  case xor => exact ⟨_, by simp only [binOp, ne_eq, not_true_eq_false, if_false]; rfl, .int _ _⟩
  case andNot => exact ⟨_, by simp only [binOp, ne_eq, not_true_eq_false, if_false]; rfl, .int _ _⟩
  case eql => exact ⟨_, by simp only [binOp, ne_eq, not_true_eq_false, if_false]; rfl, .bool _⟩
  case neq => exact ⟨_, by simp only [binOp, ne_eq, not_true_eq_false, if_false]; rfl, .bool _⟩
  case lss => exact ⟨_, by simp only [binOp, ne_eq, not_true_eq_false, if_false]; rfl, .bool _⟩
  case leq => exact ⟨.bool (decide (x ≤ y)), by simp [binOp, Op.intCmp], by rw [show (!decide (y < x)) = decide (x ≤ y) from by rw [Bool.eq_iff_iff]; simp]; exact .bool _⟩
  case gtr => exact ⟨.bool (decide (x > y)), by simp [binOp, Op.intCmp], .bool _⟩
  case geq => exact ⟨.bool (decide (x ≥ y)), by simp [binOp, Op.intCmp], by rw [show (!decide (x < y)) = decide (x ≥ y) from by rw [Bool.eq_iff_iff]; simp]; exact .bool _⟩

theorem shiftA_rel {op : BinOp} {j k : IntKind} {x y : Int} {v : AV} (h : shiftA op j x y = some v) (t : TypeId) (w : World) : ∃ v', (binOp op t (.int j x) (.int k y)).run P w = .ok v' w ∧ VRel ρ ι v v' := by
  unfold shiftA at h
  split at h
  · cases h
  · rename_i y
    have h0 : ¬ ((Int.ofNat y) < 0) := by show ¬ ((y : Int) < 0); omega
    cases op <;> simp only [reduceCtorEq, Option.some.injEq] at h <;> subst h
    · exact ⟨_, by simp only [binOp, Op.shift, h0, if_false, toNat_lit]; rfl, .int _ _⟩
    · exact ⟨_, by simp only [binOp, Op.shift, h0, if_false, toNat_lit]; rfl, .int _ _⟩

theorem run_eqGuard_other (op : BinOp) (t : TypeId) (x y : Operand) (a b : Value) (h1 : ¬ (a = .nilIface ∧ b = .nilIface)) (h2 : ∀ cs ds, ¬ (a = .agg cs ∧ b = .agg ds)) (w : World) : (eqGuard op t x y a b).run P w = .ok () w := by
  cases op
  case eql => cases a <;> cases b <;> first | rfl | exact absurd ⟨rfl, rfl⟩ h1 | exact absurd ⟨rfl, rfl⟩ (h2 _ _)
  case neq => cases a <;> cases b <;> first | rfl | exact absurd ⟨rfl, rfl⟩ h1 | exact absurd ⟨rfl, rfl⟩ (h2 _ _)
  all_goals rfl

theorem intOpA_rel {op : BinOp} {j k : IntKind} {x y : Int} {v : AV} (h : intOpA op j k x y = some v) (t : TypeId) (w : World) : ∃ v', (binOp op t (.int j x) (.int k y)).run P w = .ok v' w ∧ VRel ρ ι v v' := by
  unfold intOpA at h
  split at h
  · exact shiftA_rel h t w
  · exact shiftA_rel h t w
  · cases hk : (j == k) with
    | false => simp [hk] at h
    | true =>
      simp only [hk, cond_true] at h
      have := eq_of_beq hk
      subst this
      exact arith_rel h t w
end
end Go.Ev
