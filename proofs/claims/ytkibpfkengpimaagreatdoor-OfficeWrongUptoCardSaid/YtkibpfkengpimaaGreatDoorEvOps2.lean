/-
  A part of a verified evaluator of the model's code, or of its use at this seat; see the text YtkibpfkengpimaaGreatDoorEvCard.
-/
import Derived.Test.YtkibpfkengpimaaGreatDoorEvOps1
import Derived.Laws.Tables
namespace Go.Ev
section
variable {P : Program} {C : Ctx} {ρ : Val} {ι : Inj} {s : St} {w : World}

theorem toNat_lit (n : Nat) : (Int.ofNat n).toNat = n := rfl

/-! ### parts -/
theorem part_rel (T : TabOk P C) {t : TypeId} {cs : List AV} {o : Nat} {v : AV} {cs' : Array Value} (h : C.part t cs o = some v) (hc : VRels ρ ι cs cs'.toList) (hf : ∀ x ∈ cs, x.flat = true) (w : World) :
    ∃ v', (part t cs' o).run P w = .ok v' w ∧ VRel ρ ι v v' := by
  unfold Ctx.part at h
  split at h
  · rename_i i hi
    split at h
    · rename_i l hl
      rw [dropN_eq] at hl
      obtain ⟨h1, h2⟩ := takeN_eq _ _ _ hl
      obtain ⟨i0, d, z, S⟩ := T.spec hi
      have hcl : VRels ρ ι l ((cs'.toList.drop o).take i.size) := by rw [h1]; exact (hc.drop o).take _
      have hfl : ∀ x ∈ l, x.flat = true := fun x hx => hf x (by rw [h1] at hx; exact List.mem_of_mem_drop (List.mem_of_mem_take hx))
      rcases aggOf_rel h hcl hfl with ⟨a1, _, a3⟩ | ⟨a1, a2, v', a3, a4⟩
      · refine ⟨_, ?_, a3⟩
        unfold Go.part
        rw [Sem.run_bind, S.run_isAgg, a1]
        simp only [Result.andThen_ok, if_true, Sem.run_bind, S.run_sizeOf, Sem.run_pure]
        congr 2
        apply Array.ext'
        simp [List.drop_take]
      · refine ⟨v', ?_, a4⟩
        unfold Go.part
        rw [Sem.run_bind, S.run_isAgg, a1]
        have hz : i.size = 1 := by
          have := congrArg List.length h1
          rw [a2] at this
          simp at this h2; omega
        rw [hz] at a3
        have hget : cs'[o]? = some v' := by
          have h3 : ((cs'.toList.drop o).take 1)[0]? = some v' := by rw [a3]; rfl
          rw [List.getElem?_take_of_lt (by omega), List.getElem?_drop] at h3
          simpa using h3
        simp [hget]
    · cases h
  · cases h

theorem fieldA_rel (T : TabOk P C) {t f : Nat} {x v : AV} {x' : Value} (h : fieldA C t (some x) f = some v) (hx : VRel ρ ι x x') (w : World) :
    ∃ v', (Instr.field t x' f).run P w = .ok v' w ∧ VRel ρ ι v v' := by
  unfold fieldA at h
  split at h
  · rename_i fs size bytes zero flat cs hi hx0
    cases hx0
    rw [nth_eq] at h
    split at h
    · rename_i fo ft hf
      obtain ⟨i0, d, z, S⟩ := T.spec hi
      have hk := S.kind
      cases d <;> simp only [mkTK, reduceCtorEq, TK.struct.injEq] at hk
      rename_i fields
      subst hk
      rw [List.getElem?_map] at hf
      cases hfl : fields.toList[f]? with
      | none => simp [hfl] at hf
      | some fld =>
        simp [hfl] at hf
        obtain ⟨rfl, rfl⟩ := hf
        cases hx with
        | agg hc hfl2 =>
          obtain ⟨v', h1, h2⟩ := part_rel T h hc hfl2 w
          refine ⟨v', ?_, h2⟩
          have hfa : fields[f]? = some fld := by simpa using hfl
          simp [Instr.field, S.run_underlying, hfa, asAgg, h1]
    · cases h
  · cases h

theorem indexA_rel (T : TabOk P C) {t : TypeId} {x ix v : AV} {x' ix' : Value} (h : indexA C t (some x) (some ix) = some v) (hx : VRel ρ ι x x') (hix : VRel ρ ι ix ix') (w : World) :
    ∃ v', (Instr.index t x' ix').run P w = .ok v' w ∧ VRel ρ ι v v' := by
  unfold indexA at h
  split at h
  · rename_i cs k n hx0 hn
    cases hx0; cases hn
    cases hix
    split at h
    · rename_i len e size bytes zero flat hi
      split at h
      · rename_i ei hei
        cases hb : Nat.blt n len with
        | false => simp [hb] at h
        | true =>
          simp only [hb, cond_true] at h
          have hn : n < len := by simpa [Nat.blt_eq] using hb
          obtain ⟨i0, d, z, S⟩ := T.spec hi
          obtain ⟨j0, d2, z2, S2⟩ := T.spec hei
          have hk := S.kind
          cases d <;> simp only [mkTK, reduceCtorEq, TK.arr.injEq] at hk
          obtain ⟨rfl, rfl⟩ := hk
          cases hx with
          | agg hc hfl =>
            obtain ⟨v', h1, h2⟩ := part_rel T h hc hfl w
            refine ⟨v', ?_, h2⟩
            have : (0 : Int) ≤ Int.ofNat n ∧ Int.ofNat n < (len : Int) := ⟨Int.natCast_nonneg n, Int.ofNat_lt.2 hn⟩
            simp only [Instr.index, asIntOf, Sem.run_bind, Sem.run_pure, Result.andThen_ok, S.run_underlying, this, and_self, if_true, S2.run_sizeOf, toNat_lit, h1]
      · cases h
    · cases h
  · rename_i l k n hx0 hn
    cases hx0; cases hn
    cases hix
    split at h
    · rename_i size bytes zero flat hi
      cases hkn : known l with
      | false => simp [hkn] at h
      | true =>
        simp only [hkn, cond_true] at h
        rw [nth_eq] at h
        split at h
        · rename_i c hc
          cases h
          obtain ⟨i0, d, z, S⟩ := T.spec hi
          have hk := S.kind
          cases d <;> simp only [mkTK, reduceCtorEq] at hk
          cases hx with
          | str _ sb hs =>
            have hb := known_bytes ρ hkn
            rw [hb] at hs
            have hget : sb[n]? = some (UInt8.ofNat c) ∧ c < 256 := by
              have h1 : (sb.data.toList)[n]? = some (UInt8.ofNat c) := by rw [hs, List.getElem?_map, hc]; rfl
              have h2 : n < sb.data.toList.length := (List.getElem?_eq_some_iff.1 h1).1
              have h2' : n < sb.size := by simpa using h2
              refine ⟨?_, known_lt hkn (List.mem_of_getElem? hc)⟩
              rw [getElem?_pos sb n h2']
              congr 1
              have := (List.getElem?_eq_some_iff.1 h1).2
              rw [← this]; rfl
            refine ⟨_, ?_, .int .u8 (.ofNat c)⟩
            have hge : (0 : Int) ≤ Int.ofNat n := Int.natCast_nonneg n
            simp only [Instr.index, asIntOf, Sem.run_bind, Sem.run_pure, Result.andThen_ok, S.run_underlying, hge, if_true, toNat_lit, hget.1]
            have : (UInt8.ofNat c).toNat = c := by simp [UInt8.toNat_ofNat]; omega
            simp [this]
        · cases h
    · cases h
  · cases h
end
end Go.Ev
