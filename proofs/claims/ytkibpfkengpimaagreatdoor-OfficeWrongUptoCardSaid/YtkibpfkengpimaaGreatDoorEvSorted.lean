/-
  A part of a verified evaluator of the model's code, or of its use at this seat; see the text YtkibpfkengpimaaGreatDoorEvCard.
-/
import Derived.Test.YtkibpfkengpimaaGreatDoorEvBack
import Derived.Test.YtkibpfkengpimaaGreatDoorEvShelf
import Derived.Sort.Walk0
import Derived.Sort.KeysCollected
import Derived.StringKeys
namespace Go.Ev
section
variable {P : Program} {ρ : Val} {ι : Inj} {s : St} {w w' : World}
theorem insL_perm (x : List Nat) : ∀ l, (insL x l).Perm (x :: l) := by
  intro l
  induction l with
  | nil => exact .refl _
  | cons y l ih =>
    simp only [insL]
    cases strLt x y with
    | true => exact .refl _
    | false => exact (ih.cons y).trans (.swap _ _ _)
/-- What keys there are. -/
theorem keysA_spec : ∀ {es : List (AV × AV × Nat)} {ks : List (List Nat)}, keysA es = some ks → ∃ l : List (List Nat), es.map (·.1) = l.map AV.str ∧ (∀ t ∈ l, known t = true ∧ t.length ≤ 1048576) ∧ ks.Perm l := by
  intro es
  induction es with
  | nil => intro ks h; simp [keysA] at h; subst h; exact ⟨[], rfl, by simp, .refl _⟩
  | cons p es ih =>
    intro ks h
    unfold keysA at h
    split at h
    · rename_i h0; cases h0
    · rename_i k v n r h0
      cases h0
      cases hk : (known k && Nat.ble k.length 1048576) with
      | false => rw [hk] at h; cases h
      | true =>
        rw [hk] at h
        rw [Bool.and_eq_true] at hk
        have hk := And.intro hk.1 (Nat.le_of_ble_eq_true hk.2)
        simp only [cond_true] at h
        split at h
        · rename_i m hm
          cases h
          obtain ⟨l, h1, h2, h3⟩ := ih hm
          refine ⟨k :: l, by simp [h1], fun t ht => ?_, (insL_perm k m).trans (h3.cons k)⟩
          rcases List.mem_cons.1 ht with rfl | ht
          · exact hk
          · exact h2 t ht
        · cases h
    · cases h
def byt (t : List Nat) : List UInt8 := t.map UInt8.ofNat
theorem strLt_byt {a b : List Nat} (ha : known a = true) (hb : known b = true) : strLt a b = decide (byt a < byt b) := by
  rw [← Go.Proofs.bytesLess_eq, byt, byt, bytes_less (fun c hc => known_lt ha hc) (fun c hc => known_lt hb hc)]
theorem lessAll_spec {x : List Nat} : ∀ {l : List (List Nat)}, lessAll x l = true → ∀ y ∈ l, strLt x y = true := by
  intro l
  induction l with
  | nil => intro _ y hy; cases hy
  | cons z l ih =>
    intro h y hy
    simp only [lessAll] at h
    cases hz : strLt x z with
    | false => rw [hz] at h; cases h
    | true =>
      rw [hz] at h
      rcases List.mem_cons.1 hy with rfl | hy
      · exact hz
      · exact ih h y hy
theorem ascA_spec : ∀ {l : List (List Nat)}, ascA l = true → (∀ t ∈ l, known t = true) → (l.map byt).Pairwise (fun x y => x < y) := by
  intro l
  induction l with
  | nil => intro _ _; exact .nil
  | cons x l ih =>
    intro h hk
    simp only [ascA] at h
    cases hz : lessAll x l with
    | false => rw [hz] at h; cases h
    | true =>
      rw [hz] at h
      rw [List.map_cons, List.pairwise_cons]
      refine ⟨fun y hy => ?_, ih h fun t ht => hk t (by simp [ht])⟩
      obtain ⟨t, ht, rfl⟩ := List.mem_map.1 hy
      have := lessAll_spec hz t ht
      rw [strLt_byt (hk x (by simp)) (hk t (by simp [ht]))] at this
      simpa using this
theorem ascN_spec {clock : Nat} : ∀ {es : List (AV × AV × Nat)} {lo : Nat}, ascN clock lo es = true → (∀ n ∈ es.map (·.2.2), lo ≤ n ∧ n < clock) ∧ (es.map (·.2.2)).Nodup := by
  intro es
  induction es with
  | nil => intro lo _; exact ⟨fun n hn => (by cases hn), List.nodup_nil⟩
  | cons p es ih =>
    intro lo h
    obtain ⟨k, v, n⟩ := p
    simp only [ascN] at h
    cases hc : (Nat.ble lo n && Nat.ble (n + 1) clock) with
    | false => rw [hc] at h; cases h
    | true =>
      rw [hc] at h
      rw [Bool.and_eq_true] at hc
      have h1 := Nat.le_of_ble_eq_true hc.1
      have h2 := Nat.le_of_ble_eq_true hc.2
      obtain ⟨q1, q2⟩ := ih h
      refine ⟨fun m hm => ?_, ?_⟩
      · rw [List.map_cons] at hm
        rcases List.mem_cons.1 hm with rfl | hm
        · exact ⟨h1, h2⟩
        · have := q1 m hm; omega
      · rw [List.map_cons, List.nodup_cons]
        refine ⟨fun hm => ?_, q2⟩
        have h3 := (q1 _ hm).1
        have h3 : n + 1 ≤ n := h3
        omega
theorem MRel.borns {es : List (AV × AV × Nat)} {es' : List MapEntry} (h : MRel ρ ι es es') : es'.map (·.born) = es.map (·.2.2) := by
  induction h with
  | nil => rfl
  | cons hk hv hb _ ih => simp [ih, hb]
def strV (t : List Nat) : Value := .string ⟨(byt t).toArray⟩
theorem MRel.keys {es : List (AV × AV × Nat)} {es' : List MapEntry} (h : MRel ρ ι es es') : ∀ {l : List (List Nat)}, es.map (·.1) = l.map AV.str → (∀ t ∈ l, known t = true) → es'.map (·.key) = l.map strV := by
  induction h with
  | nil => intro l h1 _; cases l with
    | nil => rfl
    | cons => cases h1
  | @cons k v n e l0 l0' hk hv hb _ ih =>
    intro l h1 h2
    cases l with
    | nil => cases h1
    | cons t l =>
      simp only [List.map_cons, List.cons.injEq] at h1 ⊢
      obtain ⟨rfl, h1⟩ := h1
      refine ⟨?_, ih h1 fun t ht => h2 t (by simp [ht])⟩
      generalize e.key = key at hk
      cases hk with
      | str _ sb hs =>
        unfold strV
        congr 1
        apply ByteArray.ext
        rw [known_bytes ρ (h2 t (by simp))] at hs
        have : sb.data = (byt t).toArray := by unfold byt; rw [← hs]
        exact this
theorem strV_inj {a b : List Nat} (h : strV a = strV b) : byt a = byt b := by
  unfold strV at h
  have h1 : (byt a).toArray = (byt b).toArray := by
    injection h with h
    injection h
  simpa using h1
end
end Go.Ev
