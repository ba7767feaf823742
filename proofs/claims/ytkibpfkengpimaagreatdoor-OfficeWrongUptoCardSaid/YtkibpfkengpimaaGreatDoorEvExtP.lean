/-
  A part of a verified evaluator of the model's code, or of its use at this seat; see the text YtkibpfkengpimaaGreatDoorEvCard.
-/
import Derived.Test.YtkibpfkengpimaaGreatDoorEvSeat
import Derived.Lib.BytesEntry
import Derived.Laws.StandIn
namespace Go.Ev
section
variable {P : Program} {ρ : Val} {ι : Inj} {s : St} {w : World}

theorem codes_ints {l : List Nat} (h : ∀ c ∈ l, c < 256) : Lib.bytesOf (l.map Int.ofNat) = l.map UInt8.ofNat := by
  unfold Lib.bytesOf
  rw [List.map_map]
  apply List.map_congr_left
  intro c hc
  have := h c hc
  simp [Function.comp, Nat.toUInt8]

theorem bytesA_run (H : HRel ρ ι s w) {x : AV} {x' : Value} {l : List Nat} (h : bytesA s x = some l) (hx : VRel ρ ι x x') :
    (∀ c ∈ l, c < 256) ∧ ∃ ba : ByteArray, (Extern.Bytes.bytesOf x').run P w = .ok ba w ∧ ba.data.toList = l.map UInt8.ofNat := by
  unfold bytesA at h
  split at h
  · rename_i l0
    cases hk : known l0 with
    | false => rw [hk] at h; cases h
    | true =>
      rw [hk] at h
      simp only [cond_true, Option.some.injEq] at h
      subst h
      cases hx with
      | str _ sb hs => exact ⟨fun c hc => known_lt hk hc, sb, rfl, by rw [hs, known_bytes ρ hk]⟩
  · cases h
    cases hx
    exact ⟨by simp, .empty, rfl, rfl⟩
  · rename_i b o n sz
    cases hx with
    | @slice _ g _ _ _ cap a hg hlen ha hroom =>
      cases hn : Nat.beq n 0 with
      | true =>
        rw [hn] at h
        simp only [cond_true, Option.some.injEq] at h
        subst h
        have : n = 0 := Nat.eq_of_beq_eq_true hn
        subst this
        exact ⟨by simp, .empty, rfl, rfl⟩
      | false =>
        rw [hn] at h
        simp only [cond_false] at h
        split at h
        · rename_i rows hrows
          obtain ⟨q1, q2, cs, q3, q4⟩ := slice_cells H (.slice hg hlen ha hroom) hrows
          obtain ⟨rfl, hlt⟩ := codesOf_spec h
          have hcs := byteCells_vals q3
          subst hcs
          have hl := Lib.run_loadBytesX (P := P) w (l.map Int.ofNat) a .empty (fun j x hj => q4 j _ (by
            unfold byteVals
            rw [List.getElem?_map] at hj ⊢
            cases hlj : l[j]? with
            | none => rw [hlj] at hj; cases hj
            | some c => rw [hlj] at hj; cases hj; rfl))
          rw [List.length_map, ← (byteCells_rows l).2, q1] at hl
          refine ⟨hlt, _, hl, ?_⟩
          rw [codes_ints hlt]
          have he : ByteArray.empty.data = #[] := rfl
          simp [he]
        · cases h
  · cases h

theorem findC_spec {c : Nat} (hc : c < 256) : ∀ {l : List Nat} (_ : ∀ x ∈ l, x < 256) (i : Nat), (match findC c l i with | some j => (.ofNat j : Int) | none => .negSucc 0) = if Lib.indexByte (l.map UInt8.ofNat) (UInt8.ofNat c) = -1 then -1 else Lib.indexByte (l.map UInt8.ofNat) (UInt8.ofNat c) + i := by
  intro l
  induction l with
  | nil => intro _ i; simp [findC, Lib.indexByte]
  | cons x l ih =>
    intro h i
    have hx := h x (by simp)
    have ih := ih (fun y hy => h y (by simp [hy]))
    have hge := Lib.indexByte_ge (l.map UInt8.ofNat) (UInt8.ofNat c)
    have heq : (UInt8.ofNat x == UInt8.ofNat c) = Nat.beq x c := by
      rw [nbeq]
      by_cases e : x = c
      · subst e; simp
      · have : UInt8.ofNat x ≠ UInt8.ofNat c := by
          intro h2
          have := congrArg UInt8.toNat h2
          simp only [UInt8.toNat_ofNat'] at this
          omega
        simp [e, this]
    simp only [findC, List.map_cons, Lib.indexByte]
    rw [heq]
    cases hb : Nat.beq x c with
    | true => simp
    | false =>
      simp only [cond_false, Bool.false_eq_true, if_false]
      rw [ih (i + 1)]
      by_cases e : Lib.indexByte (l.map UInt8.ofNat) (UInt8.ofNat c) = -1
      · simp [e]
      · have e2 : (Lib.indexByte (l.map UInt8.ofNat) (UInt8.ofNat c) == -1) = false := by simpa using e
        simp only [e, if_false, e2, Bool.false_eq_true]
        rw [if_neg (by omega)]
        push_cast
        omega

theorem countC_spec {c : Nat} (hc : c < 256) : ∀ {l : List Nat} (_ : ∀ x ∈ l, x < 256) (n : Nat), countC c l n = n + Lib.countByte (l.map UInt8.ofNat) (UInt8.ofNat c) := by
  intro l
  induction l with
  | nil => intro _ n; simp [countC, Lib.countByte]
  | cons x l ih =>
    intro h n
    have hx := h x (by simp)
    have ih := ih (fun y hy => h y (by simp [hy]))
    have heq : (UInt8.ofNat x == UInt8.ofNat c) = Nat.beq x c := by
      rw [nbeq]
      by_cases e : x = c
      · subst e; simp
      · have : UInt8.ofNat x ≠ UInt8.ofNat c := by
          intro h2
          have := congrArg UInt8.toNat h2
          simp only [UInt8.toNat_ofNat'] at this
          omega
        simp [e, this]
    simp only [countC, List.map_cons]
    rw [ih]
    unfold Lib.countByte
    rw [List.count_cons, heq]
    cases hb : Nat.beq x c with
    | true => simp; omega
    | false => simp

/-- What is asked of a function without a Go text. -/
def ExtAt (P : Program) (g : Nat) (e : List AV → St → Option AV) : Prop := ∀ (ρ : Val) (ι : Inj) (s : St) (w : World) (args : List AV) (v : AV) (args' : Array Value), e args s = some v → HRel ρ ι s w → VRels ρ ι args args'.toList →
    ∃ v', (callFunc g args').run P w = .ok (.value v') w ∧ VRel ρ ι v v'

theorem ext_indexByte {f : FuncId} {fn : Func} (hf : P.funcs[f]? = some fn) (hname : (fn.name == "runtime.NumGoroutine") = false) (hb : fn.body.isNone = true) (hn : Extern.findNext fn = none)
    (he : Extern.find fn = some Extern.BytealgIndexByte.indexByte) : ExtAt P f extIndexByte := by
  intro ρ ι s w args v args' h H ha
  unfold extIndexByte at h
  split at h
  · rename_i x c
    obtain ⟨x', y', hxy, hx, hy⟩ := ha.inv2
    cases hc : Nat.ble c 255 with
    | false => rw [hc] at h; cases h
    | true =>
      rw [hc] at h
      simp only [cond_true] at h
      split at h
      · rename_i l hl
        cases h
        cases hy
        have hc' : c < 256 := by have := Nat.le_of_ble_eq_true hc; omega
        obtain ⟨h1, ba, h2, h3⟩ := bytesA_run (P := P) H hl hx
        have e : args' = #[x', .int .u8 (.ofNat c)] := by cases args'; simp_all
        subst e
        have hrun : (Extern.BytealgIndexByte.indexByte #[x', .int .u8 (.ofNat c)]).run P w = .ok (.int .i64 (Lib.indexByte (l.map UInt8.ofNat) (UInt8.ofNat c))) w := by
          have h4 := Lib.run_indexByteString (P := P) ba (.ofNat c) w
          rw [h3] at h4
          have h5 : (Int.ofNat c).toNat.toUInt8 = UInt8.ofNat c := rfl
          rw [h5] at h4
          rw [← h4]
          change Sem.run P (do
            let b ← Extern.Bytes.bytesOf x'
            let c' ← Extern.Bytes.asByte (.int .u8 (.ofNat c))
            match (List.range b.size).find? fun i => b[i]! == c' with
            | some i => pure (goInt i)
            | none => pure (goInt (-1))) w = Sem.run P (do
            let b ← Extern.Bytes.bytesOf (.string ba)
            let c' ← Extern.Bytes.asByte (.int .u8 (.ofNat c))
            match (List.range b.size).find? fun i => b[i]! == c' with
            | some i => pure (goInt i)
            | none => pure (goInt (-1))) w
          rw [Sem.run_bind, h2, Sem.run_bind]
          rfl
        refine ⟨.int .i64 (Lib.indexByte (l.map UInt8.ofNat) (UInt8.ofNat c)), ?_, ?_⟩
        · rw [run_callFunc_indexByte hf hname hb hn he, hrun]; rfl
        · have hs := findC_spec hc' h1 0
          have hge := Lib.indexByte_ge (l.map UInt8.ofNat) (UInt8.ofNat c)
          have e : Lib.indexByte (l.map UInt8.ofNat) (UInt8.ofNat c) = match findC c l 0 with | some j => (.ofNat j : Int) | none => .negSucc 0 := by
            rw [hs]
            by_cases e : Lib.indexByte (l.map UInt8.ofNat) (UInt8.ofNat c) = -1
            · simp [e]
            · simp [e]
          rw [e]
          cases findC c l 0 <;> exact .int _ _
      · cases h
  · cases h

theorem ext_count {f : FuncId} {fn : Func} (hf : P.funcs[f]? = some fn) (hname : (fn.name == "runtime.NumGoroutine") = false) (hb : fn.body.isNone = true) (hn : Extern.findNext fn = none)
    (he : Extern.find fn = some Extern.BytealgCount.count) : ExtAt P f extCount := by
  intro ρ ι s w args v args' h H ha
  unfold extCount at h
  split at h
  · rename_i x c
    obtain ⟨x', y', hxy, hx, hy⟩ := ha.inv2
    cases hc : Nat.ble c 255 with
    | false => rw [hc] at h; cases h
    | true =>
      rw [hc] at h
      simp only [cond_true] at h
      split at h
      · rename_i l hl
        cases h
        cases hy
        have hc' : c < 256 := by have := Nat.le_of_ble_eq_true hc; omega
        obtain ⟨h1, ba, h2, h3⟩ := bytesA_run (P := P) H hl hx
        have e : args' = #[x', .int .u8 (.ofNat c)] := by cases args'; simp_all
        subst e
        have hrun : (Extern.BytealgCount.count #[x', .int .u8 (.ofNat c)]).run P w = .ok (.int .i64 (Lib.countByte (l.map UInt8.ofNat) (UInt8.ofNat c))) w := by
          have h4 := Lib.run_countString (P := P) ba (.ofNat c) w
          rw [h3] at h4
          have h5 : (Int.ofNat c).toNat.toUInt8 = UInt8.ofNat c := rfl
          rw [h5] at h4
          rw [← h4]
          change Sem.run P (do
            let b ← Extern.Bytes.bytesOf x'
            let c' ← Extern.Bytes.asByte (.int .u8 (.ofNat c))
            pure (goInt (b.foldl (fun n x => if x == c' then n + 1 else n) (0 : Nat)))) w = Sem.run P (do
            let b ← Extern.Bytes.bytesOf (.string ba)
            let c' ← Extern.Bytes.asByte (.int .u8 (.ofNat c))
            pure (goInt (b.foldl (fun n x => if x == c' then n + 1 else n) (0 : Nat)))) w
          rw [Sem.run_bind, h2, Sem.run_bind]
          rfl
        refine ⟨.int .i64 (Lib.countByte (l.map UInt8.ofNat) (UInt8.ofNat c)), ?_, ?_⟩
        · rw [run_callFunc_standIn hf hname hb hn he, hrun]; rfl
        · rw [countC_spec hc' h1 0, Nat.zero_add]
          exact .int _ _
      · cases h
  · cases h
end
end Go.Ev
