/-
  A part of a verified evaluator of the model's code, or of its use at this seat; see the text YtkibpfkengpimaaGreatDoorEvCard.
-/
import Derived.Test.YtkibpfkengpimaaGreatDoorEvExtP
import Derived.Lib.Join
import Derived.Below
namespace Go.Ev
section
variable {P : Program} {C : Ctx} {ρ : Val} {ι : Inj} {s : St} {w w' : World}

/-- Where what lay there lies as it lay. -/
theorem HRel.below (H : HRel ρ ι s w) (hsz : w.heap.size ≤ w'.heap.size) (hb : ∀ k, k < w.heap.size → w'.heap[k]? = w.heap[k]?) (hio : w'.os = w.os ∧ w'.output = w.output) : HRel ρ ι s w' ∧ Keep s ι w s ι w' := by
  refine ⟨⟨fun b k hk => ?_, H.sep, H.grp, H.fresh, fun b g hg => Nat.lt_of_lt_of_le (H.tgt b g hg) hsz⟩, ⟨.refl ι, hsz, rfl, Nat.le_refl _, fun _ _ => rfl, fun B hB _ => hb B hB, fun b k g h1 h2 h3 _ => ⟨b, k, g, h1, h2, h3, rfl⟩, fun b g h1 h2 => (by rw [H.fresh b h1] at h2; cases h2), fun _ _ h => h, fun _ l _ h => ⟨l, h, fun _ h => h⟩, hio⟩⟩
  obtain ⟨g, h1, h2⟩ := H.blk b k hk
  exact ⟨g, h1, h2.next (.refl ι) (hb _ (H.tgt _ _ h1))⟩

/-- A new row of variables, wherever it was laid. -/
theorem HRel.rowAt (H : HRel ρ ι s w) {e e' : TypeId} {sz : Nat} {row : Bool} {rows : List (List AV)} {c : Array Value} {fz : Nat × Nat} {B : Nat} (hsz : w.heap.size ≤ w'.heap.size) (hb : ∀ k, k < w.heap.size → w'.heap[k]? = w.heap[k]?)
    (hB : w.heap.size ≤ B) (hw : w'.heap[B]? = some (.cells c e' fz)) (hs0 : 0 < sz) (hlen : rows.length * sz ≤ c.size) (hfz : ∀ o, o < c.size → ¬ (fz.1 ≤ o ∧ o < fz.2)) (hc : Cells ρ ι c 0 sz rows) (hio : w'.os = w.os ∧ w'.output = w.output) :
    let g : Tgt := { blk := B, base := 0, room := c.size, esz := sz, row, grp := s.nx, pos := 0 }
    HRel ρ (ι.add s.nx g) (s.newRow e sz row rows) w' ∧ Keep s ι w (s.newRow e sz row rows) (ι.add s.nx g) w' := by
  intro g
  obtain ⟨H1, K1⟩ := H.below hsz hb hio
  have hle : ι.le (ι.add s.nx g) := Inj.le_add (H.fresh _ (Nat.le_refl _))
  have hBs : B < w'.heap.size := (Array.getElem?_eq_some_iff.1 hw).1
  have hget : ∀ x, (s.newRow e sz row rows).heap.get x = if s.nx = x then some (.cells e sz s.nx 0 row rows) else s.heap.get x := fun x => Tr.get_put _ _ _ _
  have hold : ∀ x k', s.nx ≠ x → (s.newRow e sz row rows).heap.get x = some k' → s.heap.get x = some k' := fun x k' hne hx => by rw [hget, if_neg hne] at hx; exact hx
  have hgr : ∀ x l, x < s.nx → s.grps.get x = some l → ∃ l', (s.newRow e sz row rows).grps.get x = some l' ∧ ∀ z ∈ l, z ∈ l' := fun x l hx hl => by
    refine ⟨l, ?_, fun _ h => h⟩
    show (s.grps.put s.nx (some [s.nx])).get x = some l
    rw [Tr.get_put_other _ _ (by omega)]; exact hl
  have hne_blk : ∀ x gx, x ≠ s.nx → (ι.add s.nx g) x = some gx → gx.blk < w.heap.size := fun x gx hne hx => by rw [Inj.add_other _ _ hne] at hx; exact H.tgt _ _ hx
  refine ⟨⟨?_, ?_, ?_, ?_, ?_⟩, ?_⟩
  · intro x k' hx
    by_cases hxn : s.nx = x
    · subst hxn
      rw [hget, if_pos rfl] at hx; cases hx
      exact ⟨g, Inj.add_same _ _ _, .cells hw rfl rfl rfl rfl hs0 (by simp [g]) hlen (fun o ho => hfz o (by simpa [g] using ho)) (hc.le hle)⟩
    · obtain ⟨g', h1, h2⟩ := H1.blk _ _ (hold _ _ hxn hx)
      exact ⟨g', hle _ _ h1, h2.next hle rfl⟩
  · intro x y k1 k2 g1 g2 hx hy hg1 hg2 hne hblk
    by_cases hxn : s.nx = x
    · subst hxn
      have := hne_blk y g2 (fun e => hne e.symm) hg2
      rw [Inj.add_same] at hg1; cases hg1
      have : B = g2.blk := hblk
      omega
    · by_cases hyn : s.nx = y
      · subst hyn
        have := hne_blk x g1 (fun e => hne e) hg1
        rw [Inj.add_same] at hg2; cases hg2
        have : g1.blk = B := hblk
        omega
      · rw [Inj.add_other _ _ (fun e => hxn e.symm)] at hg1
        rw [Inj.add_other _ _ (fun e => hyn e.symm)] at hg2
        exact H.sep _ _ _ _ _ _ (hold _ _ hxn hx) (hold _ _ hyn hy) hg1 hg2 hne hblk
  · intro x e1 sz1 gr p r rows1 hx
    by_cases hxn : s.nx = x
    · subst hxn
      rw [hget, if_pos rfl] at hx; cases hx
      refine ⟨Nat.lt_succ_self _, [s.nx], ?_, by simp⟩
      show (s.grps.put s.nx (some [s.nx])).get s.nx = some [s.nx]
      simp
    · obtain ⟨h0, l, h1, h2⟩ := H.grp _ _ _ _ _ _ _ (hold _ _ hxn hx)
      obtain ⟨l', q1, q2⟩ := hgr _ _ h0 h1
      exact ⟨Nat.lt_succ_of_lt h0, l', q1, q2 _ h2⟩
  · intro x hx
    have hx : s.nx + 1 ≤ x := hx
    rw [Inj.add_other _ _ (by omega)]
    exact H.fresh _ (by omega)
  · intro x g' hx
    by_cases hxn : x = s.nx
    · subst hxn; rw [Inj.add_same] at hx; cases hx; exact hBs
    · have := hne_blk x g' hxn hx; omega
  · refine ⟨hle, hsz, rfl, Nat.le_succ _, fun b hb => Inj.add_other _ _ (by omega), fun B' hB' _ => hb B' hB', fun x k' g' hx hkx hgx hB' => ?_, fun x g' hx hgx => ?_, fun x hx hd => (by rw [hget, if_neg (by omega)]; exact hd), hgr, hio⟩
    · by_cases hxn : s.nx = x
      · subst hxn; rw [Inj.add_same] at hgx; cases hgx
        have : B < w.heap.size := hB'
        omega
      · rw [Inj.add_other _ _ (fun e => hxn e.symm)] at hgx
        exact ⟨x, k', g', hx, hold _ _ hxn hkx, hgx, rfl⟩
    · by_cases hxn : x = s.nx
      · subst hxn; rw [Inj.add_same] at hgx; cases hgx; exact .inl hB
      · rw [Inj.add_other _ _ hxn, H.fresh x hx] at hgx; cases hgx

/-- What comes back, and nothing that lay there has turned. -/
theorem Back.below (H : HRel ρ ι s w) (hB : Go.RowKit.Below w.heap.size w w') {v : AV} {v' : Value} (hv : VRel ρ ι v v') : Back ρ s ι w v s (.returned v') w' :=
  let ⟨H1, K1⟩ := H.below hB.size hB.block ⟨hB.os, hB.output⟩
  ⟨v', ι, rfl, hv, H1, K1⟩

/-! ### strings.Join -/
theorem textsA_spec : ∀ {rows : List (List AV)} {l : List (List Nat)}, textsA rows = some l → rows = l.map fun t => [.str t] := by
  intro rows
  induction rows with
  | nil => intro l h; simp [textsA] at h; subst h; rfl
  | cons r rows ih =>
    intro l h
    unfold textsA at h
    split at h
    · rename_i h0; cases h0
    · rename_i t r0 h0
      cases h0
      split at h
      · rename_i m hm
        cases h
        rw [ih hm]; rfl
      · cases h
    · cases h
theorem joinL_cons (sep x y : List Nat) (r : List (List Nat)) : joinL sep (x :: y :: r) = x ++ (sep ++ joinL sep (y :: r)) := rfl
theorem joinL_spec (ρ : Val) (sep : List Nat) : ∀ l : List (List Nat), bytesOf ρ (joinL sep l) = Lib.join (l.map (bytesOf ρ)) (bytesOf ρ sep) := by
  intro l
  induction l with
  | nil => rfl
  | cons x l ih =>
    cases l with
    | nil => simp [joinL, Lib.join_one]
    | cons y r =>
      rw [joinL_cons, bytesOf_append, bytesOf_append, ih]
      simp only [List.map_cons]
      rw [Lib.join_cons, Lib.join_cons]
      simp [Lib.joinTail, List.append_assoc]
/-- Cells that are strings. -/
theorem strs_rel : ∀ {l : List (List Nat)} {cs : List Value}, VRels ρ ι (l.map fun t => [AV.str t]).flatten cs → ∃ xs : List ByteArray, cs = xs.map Value.string ∧ xs.map (·.data.toList) = l.map (bytesOf ρ) := by
  intro l
  induction l with
  | nil => intro cs h; cases h; exact ⟨[], rfl, rfl⟩
  | cons t l ih =>
    intro cs h
    cases h with
    | cons h hs =>
      cases h with
      | str _ x hx =>
        obtain ⟨xs, rfl, h2⟩ := ih hs
        exact ⟨x :: xs, rfl, by simp [hx, h2]⟩

theorem told_join (hρ : Short ρ) {f : FuncId} (hJ0 : ∀ (a : Option Addr) (c : Nat) (sep : ByteArray) (w : World), Calls P f #[.slice a 0 c, .string sep] w fun e w' => e = .returned (.string ⟨#[]⟩) ∧ w' = w)
    (hJ : ∀ (bk o c : Nat) (xs : List ByteArray) (sep : ByteArray) (w : World), (∀ (j : Nat) x, xs[j]? = some x → w.cell? ⟨bk, o + j, none⟩ = some (.string x)) → bk < w.heap.size → xs.length ≤ 140737488355328 → xs.length ≤ c → (Lib.join (xs.map (·.data.toList)) sep.data.toList).length ≤ 140737488355328 →
      Calls P f #[.slice (some ⟨bk, o, none⟩) xs.length c, .string sep] w fun e w' => e = .returned (.string ⟨(Lib.join (xs.map (·.data.toList)) sep.data.toList).toArray⟩) ∧ Go.RowKit.Below w.heap.size w w')
    {args : List AV} {args' : Array Value} {v : AV} {s' : St} (h : tellJoin args s = some (v, s')) (H : HRel ρ ι s w) (ha : VRels ρ ι args args'.toList) : CallsIn Fence.wide 0 P f args' w (Back ρ s ι w v s') := by
  refine callsIn_wide.2 ?_
  unfold tellJoin at h
  split at h
  · rename_i sep
    cases h
    obtain ⟨x', y', hxy, hx, hy⟩ := ha.inv2
    have e : args' = #[x', y'] := by cases args'; simp_all
    subst e
    cases hx
    cases hy with
    | str _ sb hs =>
      refine (hJ0 none 0 sb w).mono ?_
      rintro e w' ⟨rfl, rfl⟩
      exact Back.below H (Go.RowKit.Below.refl _ _) (.str _ _ rfl)
  · rename_i b o n sz sep
    obtain ⟨x', y', hxy, hx, hy⟩ := ha.inv2
    have e : args' = #[x', y'] := by cases args'; simp_all
    subst e
    cases hy with
    | str _ sb hs =>
    cases hn : Nat.beq n 0 with
    | true =>
      rw [hn] at h
      cases h
      have : n = 0 := Nat.eq_of_beq_eq_true hn
      subst this
      cases hx with
      | @slice _ g _ _ _ cap a hg hlen ha0 hroom =>
        refine (hJ0 (some a) cap sb w).mono ?_
        rintro e w' ⟨rfl, rfl⟩
        exact Back.below H (Go.RowKit.Below.refl _ _) (.str _ _ rfl)
    | false =>
      rw [hn] at h
      simp only [cond_false] at h
      split at h
      · rename_i rows hrows
        split at h
        · rename_i l hl
          cases hle : (Nat.ble (joinL sep l).length 1048576 && Nat.ble n 1048576) with
          | false => rw [hle] at h; cases h
          | true =>
            rw [hle] at h
            cases h
            rw [Bool.and_eq_true] at hle
            have hl1 := Nat.le_of_ble_eq_true hle.1
            have hn1 := Nat.le_of_ble_eq_true hle.2
            cases hx with
            | @slice _ g _ _ _ cap a hg hlen ha0 hroom =>
              have hn0 : n ≠ 0 := by intro e; rw [e] at hn; cases hn
              have hcap : cap ≠ 0 := by omega
              obtain rfl := ha0.resolve_left hcap
              obtain ⟨q1, q2, cs, q3, q4⟩ := slice_cells H (.slice hg hlen ha0 hroom) hrows
              have hr := textsA_spec hl
              subst hr
              obtain ⟨xs, rfl, hxs⟩ := strs_rel q3
              have hxl : xs.length = n := by
                have := congrArg List.length hxs
                simp only [List.length_map] at this q1
                omega
              have hjoin := joinL_spec ρ sep l
              have hlenb := bytesOf_length hρ (joinL sep l)
              have hbig : (joinL sep l).length * bigS ≤ 1048576 * bigS := Nat.mul_le_mul_right _ hl1
              have hb : bigS = 1048576 := rfl
              have hc := hJ g.blk (g.base + o) cap xs sb w (fun j x hj => by
                have := q4 j (.string x) (by rw [List.getElem?_map, hj]; rfl)
                rwa [addr_add] at this) (H.tgt _ _ hg) (by omega) (by omega) (by rw [hxs, hs, ← hjoin]; omega)
              rw [hxl] at hc
              refine hc.mono ?_
              rintro e w' ⟨rfl, hB⟩
              exact Back.below H hB (.str _ _ (by rw [hjoin, hxs, hs]))
        · cases h
      · cases h
  · cases h
end
end Go.Ev
