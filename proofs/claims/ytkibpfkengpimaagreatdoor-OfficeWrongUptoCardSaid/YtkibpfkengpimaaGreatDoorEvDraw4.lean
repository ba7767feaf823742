/-
  A part of a verified evaluator of the model's code, or of its use at this seat; see the text YtkibpfkengpimaaGreatDoorEvCard.
-/
import Derived.Test.YtkibpfkengpimaaGreatDoorEvDraw3
namespace Go.Ev

/-! ### what must come before -/
def bindsAny (e : Edge) : Bool := match e.ground with | .textOnly _ | .gcOnly _ => false | _ => true
theorem binds_of_any {e : Edge} (h : bindsAny e = true) (m : Region.Mode) : Region.binds m e = true := by
  unfold bindsAny at h
  unfold Region.binds
  split at h <;> simp_all
theorem maskOf_spec (ms : List Nat) : ∀ (es : List Edge) (j : Nat), Nat.testBit (maskOf ms es) j = true ↔ ∃ e ∈ es, bindsAny e = true ∧ (j = e.on ∨ Nat.testBit ((nth ms e.on).getD 0) j = true) := by
  intro es
  induction es with
  | nil => intro j; simp [maskOf]
  | cons e es ih =>
    intro j
    have hb : ∀ j, Nat.testBit (Nat.lor (Nat.shiftLeft 1 e.on) ((nth ms e.on).getD 0)) j = true ↔ (j = e.on ∨ Nat.testBit ((nth ms e.on).getD 0) j = true) := by
      intro j
      have : Nat.lor (Nat.shiftLeft 1 e.on) ((nth ms e.on).getD 0) = (1 <<< e.on) ||| ((nth ms e.on).getD 0) := rfl
      rw [this, Nat.testBit_or, Bool.or_eq_true, Nat.one_shiftLeft, Nat.testBit_two_pow]
      constructor
      · rintro (h | h)
        · exact .inl (by have := of_decide_eq_true h; exact this.symm)
        · exact .inr h
      · rintro (h | h)
        · exact .inl (decide_eq_true h.symm)
        · exact .inr h
    unfold maskOf
    split
    · rename_i hg
      rw [ih]
      constructor
      · rintro ⟨e', h1, h2⟩; exact ⟨e', by simp [h1], h2⟩
      · rintro ⟨e', h1, h2, h3⟩
        rcases List.mem_cons.1 h1 with rfl | h1
        · simp [bindsAny, hg] at h2
        · exact ⟨e', h1, h2, h3⟩
    · rename_i hg
      rw [ih]
      constructor
      · rintro ⟨e', h1, h2⟩; exact ⟨e', by simp [h1], h2⟩
      · rintro ⟨e', h1, h2, h3⟩
        rcases List.mem_cons.1 h1 with rfl | h1
        · simp [bindsAny, hg] at h2
        · exact ⟨e', h1, h2, h3⟩
    · rename_i hg1 hg2
      have hbe : bindsAny e = true := by
        unfold bindsAny
        split
        · rename_i hg; exact absurd hg (hg1 _)
        · rename_i hg; exact absurd hg (hg2 _)
        · rfl
      have : Nat.lor (Nat.lor (Nat.shiftLeft 1 e.on) ((nth ms e.on).getD 0)) (maskOf ms es) = (Nat.lor (Nat.shiftLeft 1 e.on) ((nth ms e.on).getD 0)) ||| (maskOf ms es) := rfl
      rw [this, Nat.testBit_or, Bool.or_eq_true, hb, ih]
      constructor
      · rintro (h | ⟨e', h1, h2⟩)
        · exact ⟨e, by simp, hbe, h⟩
        · exact ⟨e', by simp [h1], h2⟩
      · rintro ⟨e', h1, h2, h3⟩
        rcases List.mem_cons.1 h1 with rfl | h1
        · exact .inl h3
        · exact .inr ⟨e', h1, h2, h3⟩

theorem masksF_spec : ∀ (ops : List Oper) (ms : List Nat), ∃ r, masksF ops ms = ms ++ r ∧ r.length = ops.length ∧ ∀ i o, ops[i]? = some o → r[i]? = some (maskOf (ms ++ r.take i) o.after.toList) := by
  intro ops
  induction ops with
  | nil => intro ms; exact ⟨[], by simp [masksF], rfl, by simp⟩
  | cons o ops ih =>
    intro ms
    obtain ⟨r, h1, h2, h3⟩ := ih (ms ++ [maskOf ms o.after.toList])
    refine ⟨maskOf ms o.after.toList :: r, by simp [masksF, h1], by simp [h2], fun i p hp => ?_⟩
    cases i with
    | zero => simp at hp; subst hp; simp
    | succ i =>
      have := h3 i p (by simpa using hp)
      simpa using this

/-- The operations that must come before the i-th one. -/
def preds (ops : List Oper) (i : Nat) : Nat := (nth (masks ops) i).getD 0
theorem preds_spec {ops : List Oper} {i : Nat} {o : Oper} (ho : ops[i]? = some o) : preds ops i = maskOf ((masks ops).take i) o.after.toList := by
  obtain ⟨r, h1, h2, h3⟩ := masksF_spec ops []
  have h4 := h3 i o ho
  unfold preds
  rw [nth_eq]
  unfold masks
  rw [h1, List.nil_append, h4]
  simp
theorem preds_none {ops : List Oper} {i : Nat} (ho : ops[i]? = none) : preds ops i = 0 := by
  obtain ⟨r, h1, h2, h3⟩ := masksF_spec ops []
  unfold preds
  rw [nth_eq]
  unfold masks
  rw [h1, List.nil_append, List.getElem?_eq_none (by rw [h2]; exact List.getElem?_eq_none_iff.1 ho)]
  rfl

theorem okEdges_spec {i : Nat} : ∀ {es : List Edge}, okEdges i es = true → ∀ e ∈ es, bindsAny e = true → e.on < i := by
  intro es
  induction es with
  | nil => intro _ e he; cases he
  | cons x es ih =>
    intro h e he hbi
    have hcase : okEdges i es = true ∧ (bindsAny x = true → x.on < i) := by
      simp only [okEdges] at h
      split at h
      · rename_i hg; exact ⟨h, fun hb => by simp [bindsAny, hg] at hb⟩
      · rename_i hg; exact ⟨h, fun hb => by simp [bindsAny, hg] at hb⟩
      · cases hb : Nat.blt x.on i with
        | false => simp [hb] at h
        | true =>
          simp only [hb, cond_true] at h
          exact ⟨h, fun _ => by simpa [Nat.blt_eq] using hb⟩
    rcases List.mem_cons.1 he with rfl | he
    · exact hcase.2 hbi
    · exact ih hcase.1 e he hbi

theorem take_getD {l : List Nat} {i j : Nat} (h : j < i) : (nth (l.take i) j).getD 0 = (nth l j).getD 0 := by
  rw [nth_eq, nth_eq, List.getElem?_take_of_lt h]

/-- Given that all edges lead back. -/
theorem preds_iff {ops : List Oper} {i : Nat} {o : Oper} (ho : ops[i]? = some o) (hok : okEdges i o.after.toList = true) (j : Nat) :
    Nat.testBit (preds ops i) j = true ↔ ∃ e ∈ o.after.toList, bindsAny e = true ∧ (j = e.on ∨ Nat.testBit (preds ops e.on) j = true) := by
  rw [preds_spec ho, maskOf_spec]
  constructor
  · rintro ⟨e, h1, h2, h3⟩
    refine ⟨e, h1, h2, ?_⟩
    rw [take_getD (okEdges_spec hok e h1 h2)] at h3
    exact h3
  · rintro ⟨e, h1, h2, h3⟩
    refine ⟨e, h1, h2, ?_⟩
    rw [take_getD (okEdges_spec hok e h1 h2)]
    exact h3

structure OkDraw (ops : List Oper) : Prop where
  edges : ∀ (i : Nat) (o : Oper), ops[i]? = some o → okEdges i o.after.toList = true
  guard : ∀ (i : Nat) (o : Oper) (j : Nat) (b : Bool), ops[i]? = some o → o.guard = some (j, b) → Nat.testBit (preds ops i) j = true
  tmps : ∀ (i : Nat) (o : Oper), ops[i]? = some o → ∀ t ∈ opTmps o, ∀ (j : Nat) (p : Oper), ops[j]? = some p → p.dst = some t → Nat.testBit (preds ops i) j = true ∨ Nat.testBit (preds ops j) i = true
  dsts : ∀ (i j : Nat) (o p : Oper) (d : Nat), ops[i]? = some o → ops[j]? = some p → o.dst = some d → p.dst = some d → i = j

theorem okTmp_spec {ms : List Nat} {i t : Nat} : ∀ {ops : List Oper} {k : Nat}, okTmp ms i t ops k = true → ∀ (j : Nat) (p : Oper), ops[j]? = some p → p.dst = some t → Nat.testBit ((nth ms i).getD 0) (k + j) = true ∨ Nat.testBit ((nth ms (k + j)).getD 0) i = true := by
  intro ops
  induction ops with
  | nil => intro k _ j p hp; simp at hp
  | cons o ops ih =>
    intro k h j p hp hd
    simp only [okTmp] at h
    cases j with
    | zero =>
      simp at hp; subst hp
      rw [hd] at h
      simp only [Nat.beq_refl, cond_true] at h
      cases hb : (Nat.testBit ((nth ms i).getD 0) k || Nat.testBit ((nth ms k).getD 0) i) with
      | false => rw [hb] at h; cases h
      | true => rw [Bool.or_eq_true] at hb; exact hb
    | succ j =>
      have hp' : ops[j]? = some p := by simpa using hp
      have key : okTmp ms i t ops (k + 1) = true := by
        split at h
        · rename_i d hd'
          cases hb : Nat.beq d t with
          | true =>
            simp only [hb, cond_true] at h
            cases hb2 : (Nat.testBit ((nth ms i).getD 0) k || Nat.testBit ((nth ms k).getD 0) i) with
            | false => rw [hb2] at h; cases h
            | true => rw [hb2] at h; exact h
          | false => simpa [hb] using h
        · exact h
      have := ih key j p hp' hd
      rwa [show k + 1 + j = k + (j + 1) from by omega] at this
theorem okTmps_spec {ms : List Nat} {i : Nat} {ops : List Oper} : ∀ {ts : List Nat}, okTmps ms i ops ts = true → ∀ t ∈ ts, okTmp ms i t ops 0 = true := by
  intro ts
  induction ts with
  | nil => intro _ t ht; cases ht
  | cons x ts ih =>
    intro h t ht
    simp only [okTmps] at h
    cases hb : okTmp ms i x ops 0 with
    | false => simp [hb] at h
    | true =>
      simp only [hb, cond_true] at h
      rcases List.mem_cons.1 ht with rfl | ht
      · exact hb
      · exact ih h t ht
theorem okOps_spec {ops : List Oper} {ms : List Nat} : ∀ {l : List Oper} {k : Nat}, okOps ops ms l k = true → ∀ (j : Nat) (o : Oper), l[j]? = some o →
    okEdges (k + j) o.after.toList = true ∧ okGuard ((nth ms (k + j)).getD 0) o = true ∧ okTmps ms (k + j) ops (opTmps o) = true := by
  intro l
  induction l with
  | nil => intro k _ j o ho; simp at ho
  | cons x l ih =>
    intro k h j o ho
    simp only [okOps] at h
    cases h1 : okEdges k x.after.toList with
    | false => simp [h1] at h
    | true =>
      simp only [h1, cond_true] at h
      cases h2 : okGuard ((nth ms k).getD 0) x with
      | false => simp [h2] at h
      | true =>
        simp only [h2, cond_true] at h
        cases h3 : okTmps ms k ops (opTmps x) with
        | false => simp [h3] at h
        | true =>
          simp only [h3, cond_true] at h
          cases j with
          | zero => simp at ho; subst ho; exact ⟨by simpa using h1, by simpa using h2, by simpa using h3⟩
          | succ j =>
            have := ih h j o (by simpa using ho)
            rwa [show k + 1 + j = k + (j + 1) from by omega] at this
theorem notIn_spec {d : Nat} : ∀ {l : List Oper}, notIn d l = true → ∀ (j : Nat) (p : Oper), l[j]? = some p → p.dst ≠ some d := by
  intro l
  induction l with
  | nil => intro _ j p hp; simp at hp
  | cons o l ih =>
    intro h j p hp hd
    simp only [notIn] at h
    cases j with
    | zero =>
      simp at hp; subst hp
      rw [hd] at h
      simp at h
    | succ j =>
      refine ih ?_ j p (by simpa using hp) hd
      split at h
      · rename_i e _
        cases hb : Nat.beq d e with
        | true => simp [hb] at h
        | false => simpa [hb] using h
      · exact h
theorem okDsts_spec : ∀ {l : List Oper}, okDsts l = true → ∀ (i j : Nat) (o p : Oper) (d : Nat), l[i]? = some o → l[j]? = some p → o.dst = some d → p.dst = some d → i = j := by
  intro l
  induction l with
  | nil => intro _ i j o p d ho; simp at ho
  | cons x l ih =>
    intro h i j o p d ho hp hd1 hd2
    simp only [okDsts] at h
    have hx : ∀ e, x.dst = some e → notIn e l = true ∧ okDsts l = true := by
      intro e he
      rw [he] at h
      simp only at h
      cases hb : notIn e l with
      | false => simp [hb] at h
      | true => exact ⟨rfl, by simpa [hb] using h⟩
    have hl : okDsts l = true := by
      cases hxd : x.dst with
      | none => rw [hxd] at h; exact h
      | some e => exact (hx e hxd).2
    cases i with
    | zero =>
      simp at ho; subst ho
      cases j with
      | zero => rfl
      | succ j => exact absurd hd2 (notIn_spec (hx d hd1).1 j p (by simpa using hp))
    | succ i =>
      cases j with
      | zero => simp at hp; subst hp; exact absurd hd1 (notIn_spec (hx d hd2).1 i o (by simpa using ho))
      | succ j => rw [ih hl i j o p d (by simpa using ho) (by simpa using hp) hd1 hd2]

theorem okDraw_spec {ops : List Oper} (h : okDraw ops = true) : OkDraw ops := by
  unfold okDraw at h
  rw [Bool.and_eq_true] at h
  have key := okOps_spec h.2
  refine ⟨fun i o ho => ?_, fun i o j b ho hg => ?_, fun i o ho t ht j p hp hd => ?_, okDsts_spec h.1⟩
  · have := (key i o ho).1; rwa [Nat.zero_add] at this
  · have := (key i o ho).2.1
    rw [Nat.zero_add] at this
    unfold okGuard at this
    rw [hg] at this
    exact this
  · have := (key i o ho).2.2
    rw [Nat.zero_add] at this
    have := okTmp_spec (okTmps_spec this t ht) j p hp hd
    rwa [Nat.zero_add] at this

theorem OkDraw.lt {ops : List Oper} (h : OkDraw ops) : ∀ i j, Nat.testBit (preds ops i) j = true → j < i := by
  intro i
  induction i using Nat.strongRecOn with
  | _ i ih =>
    intro j hj
    cases ho : ops[i]? with
    | none => rw [preds_none ho] at hj; simp at hj
    | some o =>
      obtain ⟨e, h1, h2, h3⟩ := (preds_iff ho (h.edges i o ho) j).1 hj
      have hlt := okEdges_spec (h.edges i o ho) e h1 h2
      rcases h3 with rfl | h3
      · exact hlt
      · have := ih e.on hlt j h3; omega
theorem OkDraw.trans {ops : List Oper} (h : OkDraw ops) : ∀ i j k, Nat.testBit (preds ops i) j = true → Nat.testBit (preds ops j) k = true → Nat.testBit (preds ops i) k = true := by
  intro i
  induction i using Nat.strongRecOn with
  | _ i ih =>
    intro j k hj hk
    cases ho : ops[i]? with
    | none => rw [preds_none ho] at hj; simp at hj
    | some o =>
      obtain ⟨e, h1, h2, h3⟩ := (preds_iff ho (h.edges i o ho) j).1 hj
      refine (preds_iff ho (h.edges i o ho) k).2 ⟨e, h1, h2, .inr ?_⟩
      rcases h3 with rfl | h3
      · exact hk
      · exact ih e.on (okEdges_spec (h.edges i o ho) e h1 h2) j k h3 hk
end Go.Ev
