/-
  A part of a verified evaluator of the model's code, or of its use at this seat; see the text YtkibpfkengpimaaGreatDoorEvCard.
-/
import Derived.Test.YtkibpfkengpimaaGreatDoorEvT
import Derived.Test.YtkibpfkengpimaaGreatDoorEvTold1
namespace Go.Proofs.YtkibpfkengpimaaGreatDoor
open Go.Ev
open Go.RowKit (Below)
/-- Did a call answer true? -/
def okTrue : Option (AV × St) → Bool
  | some (.bool b, _) => b
  | _ => false
/-- The numbers from 1 to n. -/
def upTo : Nat → List Int
  | 0 => []
  | n + 1 => .ofNat (n + 1) :: upTo n
/-! ### what is told -/
def tellNamed (B : Bool) : List AV → St → Option (Option (AV × St))
  | [.str [c]], s => bif Nat.beq c 256 then some (some (.bool B, s)) else none
  | _, _ => none
def pow10 : List AV := [.int .u64 (.ofNat 1), .int .u64 (.ofNat 10), .int .u64 (.ofNat 100), .int .u64 (.ofNat 1000), .int .u64 (.ofNat 10000), .int .u64 (.ofNat 100000), .int .u64 (.ofNat 1000000), .int .u64 (.ofNat 10000000), .int .u64 (.ofNat 100000000), .int .u64 (.ofNat 1000000000), .int .u64 (.ofNat 10000000000), .int .u64 (.ofNat 100000000000), .int .u64 (.ofNat 1000000000000), .int .u64 (.ofNat 10000000000000), .int .u64 (.ofNat 100000000000000), .int .u64 (.ofNat 1000000000000000), .int .u64 (.ofNat 10000000000000000), .int .u64 (.ofNat 100000000000000000), .int .u64 (.ofNat 1000000000000000000), .int .u64 (.ofNat 10000000000000000000)]
def deb32 : List AV := [.int .u8 (.ofNat 0), .int .u8 (.ofNat 1), .int .u8 (.ofNat 28), .int .u8 (.ofNat 2), .int .u8 (.ofNat 29), .int .u8 (.ofNat 14), .int .u8 (.ofNat 24), .int .u8 (.ofNat 3), .int .u8 (.ofNat 30), .int .u8 (.ofNat 22), .int .u8 (.ofNat 20), .int .u8 (.ofNat 15), .int .u8 (.ofNat 25), .int .u8 (.ofNat 17), .int .u8 (.ofNat 4), .int .u8 (.ofNat 8), .int .u8 (.ofNat 31), .int .u8 (.ofNat 27), .int .u8 (.ofNat 13), .int .u8 (.ofNat 23), .int .u8 (.ofNat 21), .int .u8 (.ofNat 19), .int .u8 (.ofNat 16), .int .u8 (.ofNat 7), .int .u8 (.ofNat 26), .int .u8 (.ofNat 12), .int .u8 (.ofNat 18), .int .u8 (.ofNat 6), .int .u8 (.ofNat 11), .int .u8 (.ofNat 5), .int .u8 (.ofNat 10), .int .u8 (.ofNat 9)]
def blk1 : ABlk := .cells 318 20 1 0 false [pow10]
def blk6 : ABlk := .cells 364 32 6 0 false [deb32]
/-- Where it begins. -/
noncomputable def s0 : St := { heap := (Tr.nil.put 1 (some blk1)).put 6 (some blk6), grps := (Tr.nil.put 1 (some [1])).put 6 (some [6]), nx := 8, lo := 8 }
noncomputable def tellAwake : List AV → St → Option (Option (AV × St))
  | [], s => bif Nat.beq s.nx 8 && Nat.beq s.lo 8 && sameBlk (s.heap.get 1) (some blk1) && sameBlk (s.heap.get 6) (some blk6) then some (some (.bool true, s)) else none
  | _, _ => none
noncomputable def told (B aw : Bool) (f : Nat) (args : List AV) (s : St) : Option (Option (AV × St)) :=
  bif Nat.beq f 66 then some (tellJoin args s) else bif Nat.beq f 17 then some (tellNames 9 args s) else bif Nat.beq f 9 && aw then tellNamed B args s else bif Nat.beq f 61 && aw then tellNamed B args s else bif Nat.beq f 4 && aw then tellAwake args s else none
noncomputable def ext (f : Nat) : Option (List AV → St → Option AV) :=
  bif Nat.beq f 169 then some extIndexByte else bif Nat.beq f 210 then some extIndexByte else bif Nat.beq f 184 then some extCount else none
noncomputable def C (B aw : Bool) : Ctx := { nglob := 8, types := types, funcs := funcs, told := told B aw, ext := ext }

theorem ext_at : ∀ g e, ext g = some e → ExtAt Tryz.prog g e := by
  intro g e h
  unfold ext at h
  cases h1 : Nat.beq g 169 with
  | true =>
    rw [h1] at h
    simp only [cond_true, Option.some.injEq] at h
    subst h
    obtain rfl := Nat.eq_of_beq_eq_true h1
    exact ext_indexByte Tryz.func169 (by kernel_rfl) (by kernel_rfl) (by kernel_rfl) (by kernel_rfl)
  | false =>
  rw [h1] at h
  cases h2 : Nat.beq g 210 with
  | true =>
    rw [h2] at h
    simp only [cond_true, cond_false, Option.some.injEq] at h
    subst h
    obtain rfl := Nat.eq_of_beq_eq_true h2
    exact ext_indexByte Tryz.func210 (by kernel_rfl) (by kernel_rfl) (by kernel_rfl) (by kernel_rfl)
  | false =>
  rw [h2] at h
  cases h3 : Nat.beq g 184 with
  | true =>
    rw [h3] at h
    simp only [cond_true, cond_false, Option.some.injEq] at h
    subst h
    obtain rfl := Nat.eq_of_beq_eq_true h3
    exact ext_count Tryz.func184 (by kernel_rfl) (by kernel_rfl) (by kernel_rfl) (by kernel_rfl)
  | false => rw [h3] at h; cases h

theorem tabOk (B aw : Bool) : TabOk Tryz.prog (C B aw) where
  types := tyok0x1.of
  funcs := fuok0x1.of
  deep := of_decide_eq_true (by kernel_rfl)
  mixed := by kernel_rfl
  ext := ext_at

section
variable {ρ : Val} {ι : Inj} {s : St} {w w' : World}
theorem told_named {B : Bool} {f : FuncId} (hρ : Short ρ) (hB : isName (ρ 0) = B) (hN : ∀ (sb : ByteArray), sb.size ≤ 9223372036854775806 → ∀ w, Calls Tryz.prog f #[.string sb] w fun e w' => e = .returned (.bool (isName sb.data.toList)) ∧ w' = w)
    {args : List AV} {args' : Array Value} {v : AV} {s' : St} (h : tellNamed B args s = some (some (v, s'))) (H : HRel ρ ι s w) (ha : VRels ρ ι args args'.toList) : CallsIn Fence.wide 0 Tryz.prog f args' w (Back ρ s ι w v s') := by
  refine callsIn_wide.2 ?_
  unfold tellNamed at h
  split at h
  case h_2 => cases h
  rename_i c
  cases hc : Nat.beq c 256 with
  | false => rw [hc] at h; cases h
  | true =>
    rw [hc] at h
    cases h
    obtain rfl := Nat.eq_of_beq_eq_true hc
    obtain ⟨x', hxe, hx⟩ := ha.inv1
    have e : args' = #[x'] := by cases args'; simp_all
    subst e
    cases hx with
    | str _ sb hs =>
      have hb : bytesOf ρ [256] = ρ 0 := by simp [bytesOf]
      rw [hb] at hs
      have hlen := hρ 0
      have hb2 : bigS = 1048576 := rfl
      refine (hN sb (by rw [ByteArray.size, ← Array.length_toList, hs]; omega) w).mono ?_
      rintro e w' ⟨rfl, rfl⟩
      rw [hs, hB]
      exact Back.below H (Below.refl _ _) (.bool _)

theorem s0_get {b : Nat} {k : ABlk} (h : s0.heap.get b = some k) : (b = 1 ∧ k = blk1) ∨ (b = 6 ∧ k = blk6) := by
  unfold s0 at h
  simp only [Tr.get_put] at h
  split at h
  · rename_i e; cases h; exact .inr ⟨e.symm, rfl⟩
  · split at h
    · rename_i e; cases h; exact .inl ⟨e.symm, rfl⟩
    · cases h
theorem s0_rel (H : HRel ρ ι s w) (hnx : s.nx = 8) (h1 : s.heap.get 1 = some blk1) (h6 : s.heap.get 6 = some blk6) : HRel ρ ι s0 w := by
  have hsub : ∀ b k, s0.heap.get b = some k → s.heap.get b = some k := by
    intro b k h
    rcases s0_get h with ⟨rfl, rfl⟩ | ⟨rfl, rfl⟩
    · exact h1
    · exact h6
  refine ⟨fun b k h => H.blk b k (hsub b k h), fun b b' k k' g g' q1 q2 => H.sep b b' k k' g g' (hsub b k q1) (hsub b' k' q2), fun b e sz g p r rows h => ?_, fun b hb => H.fresh b (by rw [hnx]; exact hb), H.tgt⟩
  rcases s0_get h with ⟨rfl, e⟩ | ⟨rfl, e⟩
  · unfold blk1 at e
    cases e
    exact ⟨by show 1 < 8; omega, [1], by simp [s0, Tr.get_put], by simp⟩
  · unfold blk6 at e
    cases e
    exact ⟨by show 6 < 8; omega, [6], by simp [s0, Tr.get_put], by simp⟩

/-- That awake answers true, over its own piece of the memory. -/
def AwakeOk (ρ : Val) : Prop := ∀ (w : World) (ι : Inj), HRel ρ ι s0 w → Globs (C true false) ι → CallsIn Fence.wide 0 Tryz.prog 4 #[] w fun e w' => ∃ s', Back ρ s0 ι w (.bool true) s' e w'

theorem told_awake (hA : AwakeOk ρ) {args : List AV} {args' : Array Value} {v : AV} {s' : St} (h : tellAwake args s = some (some (v, s'))) (H : HRel ρ ι s w) (hg : Globs (C true false) ι) (ha : VRels ρ ι args args'.toList) : CallsIn Fence.wide 0 Tryz.prog 4 args' w (Back ρ s ι w v s') := by
  unfold tellAwake at h
  split at h
  case h_2 => cases h
  have e : args' = #[] := by
    have : args'.toList = [] := by generalize args'.toList = l at ha; cases ha; rfl
    cases args'; simp_all
  subst e
  cases hc : (Nat.beq s.nx 8 && Nat.beq s.lo 8 && sameBlk (s.heap.get 1) (some blk1) && sameBlk (s.heap.get 6) (some blk6)) with
  | false => rw [hc] at h; cases h
  | true =>
    rw [hc] at h
    cases h
    simp only [Bool.and_eq_true] at hc
    obtain ⟨⟨⟨h1, h2⟩, h3⟩, h4⟩ := hc
    have H0 := s0_rel H (Nat.eq_of_beq_eq_true h1) (sameBlk_eq h3) (sameBlk_eq h4)
    refine (hA w ι H0 hg).mono ?_
    rintro e w' ⟨s', v', ι', rfl, hv, _, K⟩
    cases hv
    obtain ⟨H1, K1⟩ := H.below (w' := w') K.size (fun k hk => K.kept k hk fun b kk g hb hkk _ _ => by
      have hb : 8 ≤ b := hb
      rcases s0_get hkk with ⟨rfl, _⟩ | ⟨rfl, _⟩ <;> omega) K.io
    exact ⟨_, ι, rfl, .bool true, H1, K1⟩

theorem toldOk {B aw : Bool} (hρ : Short ρ) (hB : aw = true → isName (ρ 0) = B) (hA : aw = true → AwakeOk ρ) : ToldOk Tryz.prog (C B aw) ρ := by
  intro g args s v s' h
  replace h : told B aw g args s = some (some (v, s')) := h
  unfold told at h
  cases h1 : Nat.beq g 66 with
  | true =>
    rw [h1] at h
    simp only [cond_true, Option.some.injEq] at h
    obtain rfl := Nat.eq_of_beq_eq_true h1
    exact ⟨enters_of Tryz.func66 (by kernel_rfl) rfl, fun w ι args' H ha _ => told_join hρ (fun a c sep w => Any.strings_Join_none Tryz.lays156 Tryz.Builder_Extra_156 a c sep w) (fun bk o c xs sep w q1 q2 q3 q4 q5 => Any.strings_Join Tryz.lays156 Tryz.Builder_Extra_156 bk o c xs sep w q1 q2 q3 q4 q5) h H ha⟩
  | false =>
  rw [h1] at h
  cases h2 : Nat.beq g 17 with
  | true =>
    rw [h2] at h
    simp only [cond_true, cond_false, Option.some.injEq] at h
    obtain rfl := Nat.eq_of_beq_eq_true h2
    exact ⟨enters_of Tryz.func17 (by kernel_rfl) rfl, fun w ι args' H ha _ => told_names h H ha⟩
  | false =>
  rw [h2] at h
  cases h3 : (Nat.beq g 9 && aw) with
  | true =>
    rw [h3] at h
    simp only [cond_true, cond_false] at h
    rw [Bool.and_eq_true] at h3
    obtain rfl := Nat.eq_of_beq_eq_true h3.1
    exact ⟨enters_of Tryz.func9 (by kernel_rfl) rfl, fun w ι args' H ha _ => told_named hρ (hB h3.2) (fun sb hs w => named9 sb hs w) h H ha⟩
  | false =>
  rw [h3] at h
  cases h4 : (Nat.beq g 61 && aw) with
  | true =>
    rw [h4] at h
    simp only [cond_true, cond_false] at h
    rw [Bool.and_eq_true] at h4
    obtain rfl := Nat.eq_of_beq_eq_true h4.1
    exact ⟨enters_of Tryz.func61 (by kernel_rfl) rfl, fun w ι args' H ha _ => told_named hρ (hB h4.2) (fun sb hs w => named61 sb hs w) h H ha⟩
  | false =>
  rw [h4] at h
  cases h5 : (Nat.beq g 4 && aw) with
  | false => rw [h5] at h; cases h
  | true =>
    rw [h5] at h
    simp only [cond_true, cond_false] at h
    rw [Bool.and_eq_true] at h5
    obtain rfl := Nat.eq_of_beq_eq_true h5.1
    exact ⟨enters_of Tryz.func4 (by kernel_rfl) rfl, fun w ι args' H ha hg => told_awake (hA h5.2) h H hg ha⟩
end
end Go.Proofs.YtkibpfkengpimaaGreatDoor
