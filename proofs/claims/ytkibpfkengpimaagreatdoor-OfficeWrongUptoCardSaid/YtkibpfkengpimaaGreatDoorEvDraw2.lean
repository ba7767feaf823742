/-
  A part of a verified evaluator of the model's code, or of its use at this seat; see the text YtkibpfkengpimaaGreatDoorEvCard.
-/
import Derived.Test.YtkibpfkengpimaaGreatDoorEvDraw1
noncomputable section
namespace Go.Ev
section
variable {C : Ctx}
/-- One new thing, in a group of its own. -/
def layA (s : St) (k : ABlk) : St := { heap := s.heap.put s.nx (some k), grps := bif k.isCells then s.grps.put s.nx (some [s.nx]) else s.grps, nx := s.nx + 1, lo := s.lo }

structure Lays (C : Ctx) (e : Env) (s : St) (o : Oper) (nx : Nx) (v : AV) (k : ABlk) : Prop where
  is : nx = .val v (layA s k)
  own : ∀ t sz g p w rows, k = .cells t sz g p w rows → g = s.nx
  all : ∀ s2 : St, s2.nx = s.nx → opA C e s2 o = some (.val v (layA s2 k))

theorem newRow_lay (s : St) (e : TypeId) (sz : Nat) (w : Bool) (rows : List (List AV)) : s.newRow e sz w rows = layA s (.cells e sz s.nx 0 w rows) := rfl
theorem newObj_lay (s : St) (k : ABlk) (h : k.isCells = false) : s.newObj k = layA s k := by unfold St.newObj layA; rw [h]; rfl

theorem lays_any {e : Env} {s : St} {o : Oper} {nx : Nx} (hs : sortOf C o = .lays) (h : opA C e s o = some nx) : ∃ v k, Lays C e s o nx v k := by
  unfold sortOf at hs
  have key : ∀ (f : St → Option (AV × St)), (∀ s2, opA C e s2 o = valSt (f s2)) → (∃ v k, f s = some (v, layA s k) ∧ (∀ t sz g p w rows, k = .cells t sz g p w rows → g = s.nx) ∧ ∀ s2 : St, s2.nx = s.nx → f s2 = some (v, layA s2 k)) → ∃ v k, Lays C e s o nx v k := by
    rintro f hf ⟨v, k, h1, h2, h3⟩
    refine ⟨v, k, ?_, h2, fun s2 hn => ?_⟩
    · rw [hf, h1] at h; cases h; rfl
    · rw [hf, h3 s2 hn]; rfl
  cases ho : o.op <;> rw [ho] at hs <;> (try dsimp only at hs) <;> try (cases hs; done)
  case slice t x lo hi mx => cases ha : arrT C t <;> rw [ha] at hs <;> cases hs
  case alloc t =>
    have hf : ∀ s2, opA C e s2 o = valSt (allocA C s2 t) := fun s2 => by unfold opA; rw [ho]
    refine key _ hf ?_
    have h' := h
    rw [hf] at h'
    obtain ⟨v, s', h1, rfl⟩ := valSt_some h'
    unfold allocA at h1 ⊢
    cases hi : C.types.get t with
    | none => rw [hi] at h1; cases h1
    | some i =>
      rw [hi] at h1
      dsimp only at h1 ⊢
      cases h0 : Nat.beq i.size 0 with
      | true => rw [h0] at h1; cases h1
      | false => exact ⟨_, _, rfl, by rintro _ _ _ _ _ _ ⟨⟩; rfl, fun s2 hn => by rw [← hn]; rfl⟩
  case box t x =>
    have hf : ∀ s2, opA C e s2 o = valSt (boxA C s2 t (ev C e x)) := fun s2 => by unfold opA; rw [ho]
    refine key _ hf ?_
    have h' := h
    rw [hf] at h'
    obtain ⟨v, s', h1, rfl⟩ := valSt_some h'
    unfold boxA at h1 ⊢
    cases hi : C.types.get t with
    | none => rw [hi] at h1; cases h1
    | some i =>
      cases hx : ev C e x with
      | none => rw [hi, hx] at h1; cases h1
      | some xv =>
        rw [hi, hx] at h1
        dsimp only at h1 ⊢
        cases hc : xv.cells with
        | none => rw [hc] at h1; cases h1
        | some cs =>
          rw [hc] at h1
          dsimp only at h1 ⊢
          cases h0 : Nat.beq i.size 0 with
          | true => rw [h0] at h1; cases h1
          | false =>
            cases h2 : Nat.beq cs.length i.size with
            | false => rw [h0, h2] at h1; cases h1
            | true => exact ⟨_, _, rfl, by rintro _ _ _ _ _ _ ⟨⟩; rfl, fun s2 hn => by rw [← hn]; rfl⟩
  case buildSlice t n ps =>
    have hf : ∀ s2, opA C e s2 o = valSt (buildSliceA C s2 t n (evParts C e ps.toList)) := fun s2 => by unfold opA; rw [ho]
    refine key _ hf ?_
    have h' := h
    rw [hf] at h'
    obtain ⟨v, s', h1, rfl⟩ := valSt_some h'
    unfold buildSliceA at h1 ⊢
    cases hi : C.elemT t with
    | none => rw [hi] at h1; cases h1
    | some p =>
      cases hx : evParts C e ps.toList with
      | none => rw [hi, hx] at h1; cases h1
      | some xv =>
        rw [hi, hx] at h1
        obtain ⟨et, ei⟩ := p
        dsimp only at h1 ⊢
        cases h0 : Nat.ble (n * ei.size) 16777216 with
        | false => rw [h0] at h1; cases h1
        | true =>
          rw [h0] at h1
          simp only [cond_true] at h1 ⊢
          cases hr : fillRows ei.size (List.replicate n ei.zero) xv with
          | none => rw [hr] at h1; cases h1
          | some rows => exact ⟨_, _, rfl, by rintro _ _ _ _ _ _ ⟨⟩; rfl, fun s2 hn => by rw [← hn]; rfl⟩
  case makeMap t r =>
    have hf : ∀ s2, opA C e s2 o = valSt (makeMapA C s2 t (evO C e r)) := fun s2 => by unfold opA; rw [ho]
    refine key _ hf ?_
    have h' := h
    rw [hf] at h'
    obtain ⟨v, s', h1, rfl⟩ := valSt_some h'
    unfold makeMapA at h1 ⊢
    split at h1
    · exact ⟨_, _, rfl, by rintro _ _ _ _ _ _ ⟨⟩, fun s2 hn => by rw [← hn]; rfl⟩
    · exact ⟨_, _, rfl, by rintro _ _ _ _ _ _ ⟨⟩, fun s2 hn => by rw [← hn]; rfl⟩
    · cases h1
  case makeSlice t x y =>
    have hf : ∀ s2, opA C e s2 o = valSt (makeSliceA C s2 t (ev C e x) (ev C e y)) := fun s2 => by unfold opA; rw [ho]
    refine key _ hf ?_
    have h' := h
    rw [hf] at h'
    obtain ⟨v, s', h1, rfl⟩ := valSt_some h'
    unfold makeSliceA at h1 ⊢
    split at h1
    · rename_i et ei n m h2 h3 h4
      cases h0 : (Nat.ble n m && Nat.ble (m * ei.bytes) maxBytes && Nat.ble m maxBytes) with
      | false => rw [h0] at h1; cases h1
      | true => exact ⟨_, _, rfl, by rintro _ _ _ _ _ _ ⟨⟩; rfl, fun s2 hn => by rw [← hn]; rfl⟩
    · cases h1
  case range t x =>
    have hf : ∀ s2, opA C e s2 o = valSt (rangeA C s2 t (ev C e x)) := fun s2 => by unfold opA; rw [ho]
    refine key _ hf ?_
    have h' := h
    rw [hf] at h'
    obtain ⟨v, s', h1, rfl⟩ := valSt_some h'
    unfold rangeA at h1 ⊢
    split at h1
    · rename_i l _ _ _ _ h2 h3
      cases h0 : known l with
      | false => rw [h0] at h1; cases h1
      | true => exact ⟨_, _, rfl, by rintro _ _ _ _ _ _ ⟨⟩, fun s2 hn => by rw [← hn]; rfl⟩
    · cases h1
  case convert a b x =>
    have hf : ∀ s2, opA C e s2 o = valSt (convOp C a b (ev C e x) s2) := fun s2 => by unfold opA; rw [ho]
    refine key _ hf ?_
    have h' := h
    rw [hf] at h'
    obtain ⟨v, s', h1, rfl⟩ := valSt_some h'
    cases hd : isSliceT C b with
    | false => rw [hd] at hs; cases hsr : isSliceT C a <;> rw [hsr] at hs <;> cases hs
    | true =>
      cases hx : ev C e x with
      | none => rw [hx] at h1; cases h1
      | some xv =>
        rw [hx] at h1
        simp only [convOp] at h1 ⊢
        unfold convA at h1 ⊢
        split at h1
        · rename_i d sc h2 h3
          split at h1
          · rename_i hk
            exfalso; obtain ⟨kd, _, _, _, _⟩ := d; simp only at hk; subst hk; simp [isSliceT, h2] at hd
          · rename_i hk
            exfalso; obtain ⟨kd, _, _, _, _⟩ := d; simp only at hk; subst hk; simp [isSliceT, h2] at hd
          · rename_i hk
            exfalso; obtain ⟨kd, _, _, _, _⟩ := d; simp only at hk; subst hk; simp [isSliceT, h2] at hd
          · rename_i hk _
            exfalso; obtain ⟨kd, _, _, _, _⟩ := d; simp only at hk; subst hk; simp [isSliceT, h2] at hd
          · rename_i hk _
            exfalso; obtain ⟨kd, _, _, _, _⟩ := d; simp only at hk; subst hk; simp [isSliceT, h2] at hd
          · rename_i et l hk hk2
            cases h0 : (isU8 C et && known l) with
            | false => rw [h0] at h1; cases h1
            | true => exact ⟨_, _, rfl, by rintro _ _ _ _ _ _ ⟨⟩; rfl, fun s2 hn => by rw [← hn]; rfl⟩
          · cases h1
        · cases h1
  case call c =>
    obtain ⟨cl, as, ts⟩ := c
    cases cl with
    | value f => cases hs
    | invoke r n => cases hs
    | builtin b => cases b <;> cases hs
end
end Go.Ev
end
