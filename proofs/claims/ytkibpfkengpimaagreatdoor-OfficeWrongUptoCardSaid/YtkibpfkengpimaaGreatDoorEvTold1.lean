/-
  A part of a verified evaluator of the model's code, or of its use at this seat; see the text YtkibpfkengpimaaGreatDoorEvCard.
-/
import Derived.Test.YtkibpfkengpimaaGreatDoorEvSorted
import Derived.Test.YtkibpfkengpimaaGreatDoorEvNames
import Derived.Test.YtkibpfkengpimaaGreatDoorEvNamed
namespace Go.Proofs.YtkibpfkengpimaaGreatDoor
open Go.Ev Go.MapKept
open Go.RowKit (Below)
open Go.WideElems (Fit rd rg)
section
variable {ρ : Val} {ι : Inj} {s : St} {w w' : World}
abbrev RR : Value → Option (DataW Unit × List MemPlace) := fun _ => some (.lit (.bool true), [])

theorem told_names {args : List AV} {args' : Array Value} {v : AV} {s' : St} (h : tellNames 9 args s = some (v, s')) (H : HRel ρ ι s w) (ha : VRels ρ ι args args'.toList) : CallsIn Fence.wide 0 Tryz.prog 17 args' w (Back ρ s ι w v s') := by
  refine callsIn_wide.2 ?_
  unfold tellNames at h
  split at h
  case h_2 => cases h
  rename_i b o
  split at h
  case h_2 => cases h
  rename_i lb lo m hrd
  split at h
  case h_2 => cases h
  rename_i es clock hm
  split at h
  case h_2 => cases h
  rename_i ks hks
  cases h
  obtain ⟨x', hxe, hx⟩ := ha.inv1
  have e : args' = #[x'] := by cases args'; simp_all
  subst e
  obtain ⟨g, hg, _, _, cs', hcs, hrange⟩ := H.rd hrd
  obtain ⟨c0, c1, rfl, hc0, hc1⟩ := hcs.inv2
  cases hx with
  | ptr o hg' =>
  rw [hg] at hg'; cases hg'
  cases hc0 with
  | @ptr _ gl _ hgl =>
  cases hc1 with
  | @map _ gm hgm =>
  have q0 := hrange 0 _ rfl
  have q1 := hrange 1 _ rfl
  obtain ⟨gm', hgm', hbm⟩ := H.blk _ _ hm
  rw [hgm] at hgm'; cases hgm'
  cases hbm with
  | @map _ _ es' hw hmr =>
  unfold keysUp at hks
  split at hks
  case h_2 => cases hks
  rename_i k0 ks0 hka
  cases hchk : (ascA (k0 :: ks0) && ascN clock 0 es && Nat.ble es.length 1048576) with
  | false => rw [hchk] at hks; cases hks
  | true =>
  rw [hchk] at hks
  cases hks
  rw [Bool.and_eq_true, Bool.and_eq_true] at hchk
  obtain ⟨⟨hasc, hborn⟩, hlen⟩ := hchk
  have hlen := Nat.le_of_ble_eq_true hlen
  obtain ⟨l, hl1, hl2, hl3⟩ := keysA_spec hka
  have hkn : ∀ t ∈ l, known t = true := fun t ht => (hl2 t ht).1
  have hkn2 : ∀ t ∈ k0 :: ks0, known t = true := fun t ht => hkn t (hl3.mem_iff.1 ht)
  have hpw := ascA_spec hasc hkn2
  have hkeys := hmr.keys hl1 hkn
  obtain ⟨hb1, hb2⟩ := ascN_spec hborn
  rw [← hmr.borns] at hb1 hb2
  have hlm := hmr.length.symm
  have u9 : Tryz.prog.underlying 9 = some .string := Tryz.underlying9
  have hnd : (l.map byt).Nodup := by
    have h1 : ((k0 :: ks0).map byt).Nodup := hpw.imp fun {a b} hab e => by subst e; exact List.lt_irrefl _ hab
    exact (hl3.map byt).nodup_iff.1 h1
  have hkey : ∀ x ∈ es'.toList, ∃ t ∈ l, x.key = strV t := by
    intro x hx
    have : x.key ∈ es'.toList.map (·.key) := List.mem_map_of_mem hx
    rw [hkeys] at this
    obtain ⟨t, ht, e⟩ := List.mem_map.1 this
    exact ⟨t, ht, e.symm⟩
  have hkof : ∀ t ∈ l, Go.keyOf Tryz.prog 9 (strV t) = some (.string (byt t)) := by
    intro t ht
    have h1 := (hl2 t ht).2
    have := Go.WideMaps.keyOf_string_mk (P := Tryz.prog) u9 (s := ⟨(byt t).toArray⟩) (by simp [ByteArray.size, byt, maxLen]; omega)
    simpa [strV] using this
  have hrd : ∀ x ∈ es'.toList, ∃ t ∈ l, x.key = strV t ∧ rd Tryz.prog 9 RR x = some (.string (byt t), .lit (.bool true)) := by
    intro x hx
    obtain ⟨t, ht, e⟩ := hkey x hx
    refine ⟨t, ht, e, ?_⟩
    unfold rd
    rw [e, hkof t ht]
    rfl
  have hfit : Fit Tryz.prog 9 RR es' clock := by
    refine ⟨?_, ⟨fun x hx => ?_, hb2, ?_⟩, fun x hx => ?_⟩
    · rw [← Array.length_toList, hlm]; unfold maxLen; omega
    · exact (hb1 _ (List.mem_map_of_mem hx)).2
    · rw [hkeys]
      have h1 : l.Pairwise fun a b => byt a ≠ byt b := List.pairwise_map.1 hnd
      exact List.pairwise_map.2 (h1.imp fun {a b} hab e => hab (strV_inj e))
    · obtain ⟨t, _, _, h2⟩ := hrd x hx
      exact ⟨_, h2⟩
  let D0 : DataW Unit := .map ((es'.toList.map (rg Tryz.prog 9 RR)).foldr DataW.insert [])
  have hown : w.ownsMap Tryz.prog 9 RR gm.blk es'.size D0 := ⟨es', clock, hw, hfit, Nat.le_refl _, rfl⟩
  have hperm := Go.WideShapes.sorted_perm (es'.toList.map (rg Tryz.prog 9 RR))
  have hsize : Go.Maps.size D0 = es.length := by
    show ((es'.toList.map (rg Tryz.prog 9 RR)).foldr DataW.insert []).length = _
    rw [hperm.length_eq, List.length_map, hlm]
  have hsk : (Go.strKeys D0).Perm ((k0 :: ks0).map byt) := by
    refine ((hperm.map _).trans ?_).trans (hl3.map byt).symm
    rw [List.map_map]
    have : es'.toList.map ((fun p => Go.strOf p.1) ∘ rg Tryz.prog 9 RR) = l.map byt := by
      have e1 : l.map byt = (l.map strV).map fun v => match v with | .string sb => sb.data.toList | _ => [] := by
        rw [List.map_map]
        apply List.map_congr_left
        intro t _
        simp [Function.comp, strV]
      rw [e1, ← hkeys, List.map_map]
      apply List.map_congr_left
      intro x hx
      obtain ⟨t, _, h1, h2⟩ := hrd x hx
      simp only [Function.comp, rg, h2, Option.getD_some, h1, strV]
      simp [Go.strOf]
    rw [this]
  refine (Tryz.Names g.blk (g.base + o) _ gm.blk es'.size D0 RR w q0 q1 hown (by rw [hsize]; unfold maxLen; omega) (by rw [hsize]; omega)).mono ?_
  rintro e w' ⟨v', ss, rfl, hss, hrow, hnil, hB⟩
  have hperm2 : ss.Perm ((k0 :: ks0).map byt) := hss.trans hsk
  have hsort : ss.mergeSort (fun x y => decide (x ≤ y)) = (k0 :: ks0).map byt := by
    have tr : ∀ a b c : List UInt8, decide (a ≤ b) = true → decide (b ≤ c) = true → decide (a ≤ c) = true := fun a b c h1 h2 => by simp only [decide_eq_true_eq] at *; exact List.le_trans h1 h2
    have to : ∀ a b : List UInt8, (decide (a ≤ b) || decide (b ≤ a)) = true := fun a b => by simp only [Bool.or_eq_true, decide_eq_true_eq]; exact List.le_total a b
    refine List.Perm.eq_of_pairwise (le := fun a b => decide (a ≤ b) = true) (fun a b _ _ h1 h2 => ?_) (List.pairwise_mergeSort tr to ss) (hpw.imp fun {a b} hab => ?_) ((List.mergeSort_perm ss _).trans hperm2)
    · simp only [decide_eq_true_eq] at h1 h2; exact List.le_antisymm h1 h2
    · simp only [decide_eq_true_eq]; exact List.le_of_lt hab
  rw [hsort] at hrow
  have hssl : ss.length = (k0 :: ks0).length := by rw [hperm2.length_eq, List.length_map]
  rcases hrow.2 with ⟨_, hn0⟩ | ⟨g2, cap, cur, rfl, hg2, hh, hncap, hcapm, hsz, htake⟩
  · rw [hssl] at hn0; simp at hn0
  · have hcells : Cells ρ ι cur 0 1 ((k0 :: ks0).map fun k => [AV.str k]) := by
      intro i row hrow'
      rw [List.getElem?_map] at hrow'
      cases hk : (k0 :: ks0)[i]? with
      | none => rw [hk] at hrow'; cases hrow'
      | some k =>
        rw [hk] at hrow'
        cases hrow'
        refine ⟨rfl, fun j v hj => ?_⟩
        cases j with
        | succ j => simp at hj
        | zero =>
          simp at hj; subst hj
          have hi : i < (k0 :: ks0).length := (List.getElem?_eq_some_iff.1 hk).1
          refine ⟨rfl, Go.Proofs.encStr (byt k), ?_, .str _ _ ?_⟩
          · have h1 : (cur.toList.take (ss.length * 1))[i]? = some (Go.Proofs.encStr (byt k)) := by
              rw [htake, List.getElem?_map, List.getElem?_map, hk]; rfl
            rw [List.getElem?_take_of_lt (by omega)] at h1
            simpa using h1
          · rw [known_bytes ρ (hkn2 k (List.mem_of_getElem? hk))]; simp [byt]
    obtain ⟨H1, K1⟩ := H.rowAt (e := 9) (row := true) (rows := (k0 :: ks0).map fun k => [AV.str k]) hB.size hB.block hg2 hh (by omega) (by rw [List.length_map]; omega) (fun o _ h => by omega) hcells ⟨hB.os, hB.output⟩
    refine ⟨_, _, rfl, ?_, H1, K1⟩
    rw [hssl]
    exact .slice (Inj.add_same _ _ _) (by omega) (.inr rfl) (fun _ => by show 0 + cap * 1 ≤ cur.size; omega)
end
end Go.Proofs.YtkibpfkengpimaaGreatDoor
