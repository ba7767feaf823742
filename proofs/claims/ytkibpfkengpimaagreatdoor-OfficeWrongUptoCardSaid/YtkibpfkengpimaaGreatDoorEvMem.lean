/-
  A part of a verified evaluator of the model's code, or of its use at this seat; see the text YtkibpfkengpimaaGreatDoorEvCard.
-/
import Derived.Test.YtkibpfkengpimaaGreatDoorEvRel
import Derived.Deep.MidRow
namespace Go.Ev

/-! ### lists -/
theorem nth_eq {α : Type} : ∀ (l : List α) (n : Nat), nth l n = l[n]? := by
  intro l
  induction l with
  | nil => intro n; simp [nth]
  | cons x l ih => intro n; cases n with
    | zero => rfl
    | succ n => simpa [nth] using ih n
theorem dropN_eq : ∀ (n : Nat) (l : List AV), dropN n l = l.drop n := by
  intro n
  induction n with
  | zero => intro l; simp [dropN]
  | succ n ih => intro l; cases l <;> simp [dropN, ih]
theorem takeN_eq : ∀ (n : Nat) (l r : List AV), takeN n l = some r → r = l.take n ∧ n ≤ l.length := by
  intro n
  induction n with
  | zero => intro l r h; simp [takeN] at h; subst h; simp
  | succ n ih =>
    intro l r h
    cases l with
    | nil => simp [takeN] at h
    | cons v l =>
      simp only [takeN] at h
      split at h
      · rename_i m hm; cases h
        obtain ⟨h1, h2⟩ := ih _ _ hm
        simp [← h1, h2]
      · cases h
theorem dropR_eq {α : Type} : ∀ (n : Nat) (l : List α), dropR n l = l.drop n := by
  intro n
  induction n with
  | zero => intro l; simp [dropR]
  | succ n ih => intro l; cases l <;> simp [dropR, ih]
theorem takeR_eq {α : Type} : ∀ (n : Nat) (l r : List α), takeR n l = some r → r = l.take n ∧ n ≤ l.length := by
  intro n
  induction n with
  | zero => intro l r h; simp [takeR] at h; subst h; simp
  | succ n ih =>
    intro l r h
    cases l with
    | nil => simp [takeR] at h
    | cons v l =>
      simp only [takeR] at h
      split at h
      · rename_i m hm; cases h
        obtain ⟨h1, h2⟩ := ih _ _ hm
        simp [← h1, h2]
      · cases h
theorem setNth_eq {α : Type} : ∀ (l : List α) (n : Nat) (y : α) (r : List α), setNth l n y = some r → n < l.length ∧ r = l.set n y := by
  intro l
  induction l with
  | nil => intro n y r h; simp [setNth] at h
  | cons x l ih =>
    intro n y r h
    cases n with
    | zero => simp [setNth] at h; subst h; simp
    | succ n =>
      simp only [setNth] at h
      split at h
      · rename_i m hm; cases h
        obtain ⟨h1, h2⟩ := ih _ _ _ hm
        exact ⟨by simpa using h1, by simp [h2]⟩
      · cases h
theorem over_eq : ∀ (l : List AV) (o : Nat) (vs r : List AV), over l o vs = some r → o + vs.length ≤ l.length ∧ r = l.take o ++ vs ++ l.drop (o + vs.length) := by
  intro l
  induction l with
  | nil =>
    intro o vs r h
    cases vs with
    | nil => cases o <;> simp [over] at h; subst h; simp
    | cons => cases o <;> simp [over] at h
  | cons x l ih =>
    intro o vs r h
    cases o with
    | zero =>
      cases vs with
      | nil => simp [over] at h; subst h; simp
      | cons v vs =>
        simp only [over] at h
        split at h
        · rename_i m hm; cases h
          obtain ⟨h1, h2⟩ := ih _ _ _ hm
          refine ⟨by simp at h1 ⊢; omega, ?_⟩
          simp at h2; simp [h2]
        · cases h
    | succ o =>
      simp only [over] at h
      split at h
      · rename_i m hm; cases h
        obtain ⟨h1, h2⟩ := ih _ _ _ hm
        refine ⟨by simp; omega, ?_⟩
        rw [h2, show o + 1 + vs.length = (o + vs.length) + 1 from by omega]
        simp
      · cases h

/-! ### reading -/
section
variable {ρ : Val} {ι : Inj} {s : St} {w : World}

theorem VRel.oneCell {v : AV} {v' : Value} (h : VRel ρ ι v v') (hf : v.flat = true) : v'.oneCell' = true := by
  cases h <;> first | rfl | cases hf

theorem Cells.range {c : Array Value} {base sz : Nat} {rows : List (List AV)} (h : Cells ρ ι c base sz rows) {o n : Nat} {cs : List AV} (hr : rdRow rows sz o n = some cs) :
    cs.length = n ∧ (∀ v ∈ cs, v.flat = true) ∧ ∃ cs', VRels ρ ι cs cs' ∧ ∀ j v, cs'[j]? = some v → c[base + o + j]? = some v := by
  unfold rdRow at hr
  rw [nth_eq] at hr
  split at hr
  case h_2 => cases hr
  rename_i row hrow
  rw [dropN_eq] at hr
  obtain ⟨rfl, hn⟩ := takeN_eq _ _ _ hr
  obtain ⟨hl, hc⟩ := h _ _ hrow
  have hdm : Nat.div o sz * sz + Nat.mod o sz = o := by
    have := Nat.div_add_mod o sz
    rw [Nat.mul_comm] at this
    exact this
  have key : ∀ (j : Nat) (v : AV), (List.take n (List.drop (Nat.mod o sz) row))[j]? = some v → v.flat = true ∧ ∃ v', c[base + o + j]? = some v' ∧ VRel ρ ι v v' := by
    intro j v hv
    rw [List.getElem?_take] at hv
    split at hv
    · rw [List.getElem?_drop] at hv
      obtain ⟨h1, v', h2, h3⟩ := hc _ _ hv
      refine ⟨h1, v', ?_, h3⟩
      rw [← h2]; congr 1; omega
    · cases hv
  have hlen : (List.take n (List.drop (Nat.mod o sz) row)).length = n := by
    simp at hn ⊢; omega
  refine ⟨hlen, ?_, ?_⟩
  · intro v hv
    obtain ⟨j, hj⟩ := List.getElem?_of_mem hv
    exact (key j v hj).1
  · refine ⟨(List.range n).map fun j => (c[base + o + j]?).getD undef, ?_, ?_⟩
    · refine VRels.of_get (by rw [hlen]; simp) fun j v hv => ?_
      obtain ⟨_, v', h2, h3⟩ := key j v hv
      have hj : j < n := by rw [← hlen]; exact (List.getElem?_eq_some_iff.1 hv).1
      exact ⟨v', by simp [hj, h2], h3⟩
    · intro j v hv
      have hj : j < n := by have := (List.getElem?_eq_some_iff.1 hv).1; simpa using this
      simp [hj] at hv
      have hj' : j < (List.take n (List.drop (Nat.mod o sz) row)).length := by rw [hlen]; exact hj
      obtain ⟨_, v', h2, _⟩ := key j _ (List.getElem?_eq_getElem hj')
      rw [h2] at hv ⊢
      simpa using hv

theorem cell_of_heap {b : Nat} {c : Array Value} {e : TypeId} {fz : Nat × Nat} (h : w.heap[b]? = some (.cells c e fz)) (o : Nat) : w.cell? ⟨b, o, none⟩ = c[o]? := by
  simp [World.cell?, h]
theorem frozen_of_heap {b : Nat} {c : Array Value} {e : TypeId} {fz : Nat × Nat} (h : w.heap[b]? = some (.cells c e fz)) (o : Nat) : w.frozen? ⟨b, o, none⟩ = (decide (fz.1 ≤ o) && decide (o < fz.2)) := by
  obtain ⟨lo, hi⟩ := fz
  simp [World.frozen?, h]

/-- What is read, lies there. -/
theorem HRel.rd (H : HRel ρ ι s w) {b o n : Nat} {cs : List AV} (h : s.rd b o n = some cs) :
    ∃ g, ι b = some g ∧ cs.length = n ∧ (∀ v ∈ cs, v.flat = true) ∧ ∃ cs', VRels ρ ι cs cs' ∧ w.rangeAt g.blk (g.base + o) cs' := by
  unfold St.rd at h
  split at h
  case h_2 => cases h
  rename_i e sz gr pos r rows hb
  obtain ⟨g, hg, hk⟩ := H.blk _ _ hb
  cases hk with
  | cells hh hsz hrow hgrp hpos hs0 hroom hlen hfz hc =>
    obtain ⟨h1, h2, cs', h3, h4⟩ := hc.range h
    refine ⟨g, hg, h1, h2, cs', h3, fun j v hv => ?_⟩
    rw [cell_of_heap hh]
    exact h4 j v hv
end

/-! ### writing -/
theorem setCells_size (b : Nat) : ∀ (vs : List Value) (o : Nat) (w : World), (w.setCells b o vs).heap.size = w.heap.size := by
  intro vs
  induction vs with
  | nil => intro o w; rfl
  | cons v vs ih => intro o w; rw [World.setCells, ih]; simp [World.setCell]
theorem setCells_io (b : Nat) : ∀ (vs : List Value) (o : Nat) (w : World), (w.setCells b o vs).os = w.os ∧ (w.setCells b o vs).output = w.output := by
  intro vs
  induction vs with
  | nil => intro o w; exact ⟨rfl, rfl⟩
  | cons v vs ih => intro o w; exact ih (o + 1) _
theorem setCells_other (b : Nat) : ∀ (vs : List Value) (o : Nat) (w : World) (B : Nat), B ≠ b → (w.setCells b o vs).heap[B]? = w.heap[B]? := by
  intro vs
  induction vs with
  | nil => intro o w B _; rfl
  | cons v vs ih =>
    intro o w B hB
    rw [World.setCells, ih _ _ _ hB]
    simp [World.setCell, Array.getElem?_modify, Ne.symm hB]
theorem setCells_same (b : Nat) : ∀ (vs : List Value) (o : Nat) (w : World) (c : Array Value) (e : TypeId) (fz : Nat × Nat), w.heap[b]? = some (.cells c e fz) →
    ∃ c', (w.setCells b o vs).heap[b]? = some (.cells c' e fz) ∧ c'.size = c.size ∧ (∀ j, j < o ∨ o + vs.length ≤ j → c'[j]? = c[j]?) ∧ (∀ (j : Nat) (v : Value), vs[j]? = some v → o + j < c.size → c'[o + j]? = some v) := by
  intro vs
  induction vs with
  | nil => intro o w c e fz h; exact ⟨c, h, rfl, fun _ _ => rfl, by simp⟩
  | cons v vs ih =>
    intro o w c e fz h
    have h1 : (w.setCell ⟨b, o, none⟩ v).heap[b]? = some (.cells (c.setIfInBounds o v) e fz) := by
      simp [World.setCell, Array.getElem?_modify, h]
    obtain ⟨c', h2, h3, h4, h5⟩ := ih (o + 1) _ _ _ _ h1
    refine ⟨c', h2, by simpa using h3, fun j hj => ?_, fun j x hx hj => ?_⟩
    · rw [h4 j (by simp at hj; omega), Array.getElem?_setIfInBounds_ne (by simp at hj; omega)]
    · cases j with
      | zero =>
        simp at hx; subst hx
        rw [h4 _ (by omega)]
        simp at hj
        simp [hj]
      | succ j =>
        have := h5 j x (by simpa using hx) (by simp; omega)
        rw [← this]; congr 1; omega

theorem killOver_spec (lo but c n : Nat) : ∀ (l : List Nat) (h h' : Tr ABlk), killOver h lo but c n l = some h' →
    (∀ b, h'.get b = h.get b ∨ (h'.get b = none ∧ lo ≤ b ∧ b ≠ but)) ∧
    (∀ b ∈ l, b ≠ but → ∀ e sz g pos r rows, h'.get b = some (.cells e sz g pos r rows) → ¬ (pos < c + n ∧ c < pos + sz * rows.length)) := by
  intro l
  induction l with
  | nil => intro h h' hk; simp [killOver] at hk; subst hk; simp
  | cons b l ih =>
    intro h h' hk
    simp only [killOver] at hk
    cases hb : Nat.beq b but with
    | true =>
      simp only [hb, cond_true] at hk
      obtain ⟨h1, h2⟩ := ih _ _ hk
      refine ⟨h1, fun x hx hne => ?_⟩
      rcases List.mem_cons.1 hx with rfl | hx
      · exact absurd (by simpa using hb) hne
      · exact h2 x hx hne
    | false =>
      have hbn : b ≠ but := by intro e; subst e; simp at hb
      simp only [hb, cond_false] at hk
      split at hk
      · rename_i e sz g pos r rows hget
        cases ho : (Nat.blt pos (c + n) && Nat.blt c (pos + sz * rows.length)) with
        | true =>
          simp only [ho, cond_true] at hk
          cases hl : Nat.ble lo b with
          | false => simp [hl] at hk
          | true =>
            simp only [hl, cond_true] at hk
            obtain ⟨h1, h2⟩ := ih _ _ hk
            have hput : h'.get b = none := by
              rcases h1 b with h3 | h3
              · rw [h3]; simp
              · exact h3.1
            refine ⟨fun x => ?_, fun x hx hne => ?_⟩
            · by_cases hxb : b = x
              · subst hxb; exact .inr ⟨hput, by simpa using hl, hbn⟩
              · have := h1 x
                rw [Tr.get_put_other _ _ hxb] at this
                exact this
            · rcases List.mem_cons.1 hx with rfl | hx
              · intro e' sz' g' pos' r' rows' hc; rw [hput] at hc; cases hc
              · exact h2 x hx hne
        | false =>
          simp only [ho, cond_false] at hk
          obtain ⟨h1, h2⟩ := ih _ _ hk
          refine ⟨h1, fun x hx hne => ?_⟩
          rcases List.mem_cons.1 hx with rfl | hx
          · intro e' sz' g' pos' r' rows' hc
            rcases h1 x with h3 | h3
            · rw [h3, hget] at hc
              cases hc
              rintro ⟨p, q⟩
              rw [show Nat.blt pos (c + n) = true from Nat.blt_eq.symm ▸ p, show Nat.blt c (pos + sz * rows.length) = true from Nat.blt_eq.symm ▸ q] at ho
              cases ho
            · rw [h3.1] at hc; cases hc
          · exact h2 x hx hne
      · rename_i hnot
        obtain ⟨h1, h2⟩ := ih _ _ hk
        refine ⟨h1, fun x hx hne => ?_⟩
        rcases List.mem_cons.1 hx with rfl | hx
        · intro e' sz' g' pos' r' rows' hc
          rcases h1 x with h3 | h3
          · exact absurd (h3 ▸ hc) (by intro hh; exact hnot _ _ _ _ _ _ hh)
          · rw [h3.1] at hc; cases hc
        · exact h2 x hx hne

section
variable {ρ : Val} {ι : Inj} {s : St} {w : World}

/-- Over a smaller memory. -/
theorem HRel.sub (H : HRel ρ ι s w) {s' : St} (hsub : ∀ b k, s'.heap.get b = some k → s.heap.get b = some k) (hg : s'.grps = s.grps) (hn : s.nx ≤ s'.nx) : HRel ρ ι s' w where
  blk := fun b k h => H.blk b k (hsub b k h)
  sep := fun b b' k k' g g' h h' => H.sep b b' k k' g g' (hsub _ _ h) (hsub _ _ h')
  grp := fun b e sz g p r rows h => ⟨Nat.lt_of_lt_of_le (H.grp b e sz g p r rows (hsub _ _ h)).1 hn, hg ▸ (H.grp b e sz g p r rows (hsub _ _ h)).2⟩
  fresh := fun b hb => H.fresh b (Nat.le_trans hn hb)
  tgt := H.tgt

theorem HRel.lt (H : HRel ρ ι s w) {b : Nat} {k : ABlk} (h : s.heap.get b = some k) : b < s.nx := by
  obtain ⟨g, hg, _⟩ := H.blk _ _ h
  rcases Nat.lt_or_ge b s.nx with h1 | h1
  · exact h1
  · rw [H.fresh _ h1] at hg; cases hg

theorem wrRow_cells {c c' : Array Value} {base sz o room : Nat} {rows rows' : List (List AV)} {vs : List AV} {vs' : List Value}
    (h : Cells ρ ι c base sz rows) (hw : wrRow rows sz o vs = some rows') (hv : VRels ρ ι vs vs') (hf : ∀ v ∈ vs, v.flat = true)
    (hroom : base + room ≤ c.size) (hlen : rows.length * sz ≤ room)
    (hout : ∀ j, j < base + o ∨ base + o + vs'.length ≤ j → c'[j]? = c[j]?) (hin : ∀ (j : Nat) (v : Value), vs'[j]? = some v → base + o + j < c.size → c'[base + o + j]? = some v) :
    Cells ρ ι c' base sz rows' ∧ rows'.length = rows.length ∧ o + vs.length ≤ rows.length * sz := by
  unfold wrRow at hw
  rw [nth_eq] at hw
  split at hw
  case h_2 => cases hw
  rename_i row hrow
  split at hw
  case h_2 => cases hw
  rename_i row' hov
  obtain ⟨hlt, rfl⟩ := setNth_eq _ _ _ _ hw
  obtain ⟨hle, rfl⟩ := over_eq _ _ _ _ hov
  obtain ⟨hl, hc⟩ := h _ _ hrow
  have hdm : Nat.div o sz * sz + Nat.mod o sz = o := by
    have := Nat.div_add_mod o sz
    rw [Nat.mul_comm] at this
    exact this
  have hdl : Nat.div o sz * sz + sz ≤ rows.length * sz := by
    have : (Nat.div o sz + 1) * sz ≤ rows.length * sz := Nat.mul_le_mul_right _ hlt
    rw [Nat.add_mul] at this; omega
  have hvl := hv.length
  refine ⟨?_, by simp, by omega⟩
  intro i r hr
  by_cases hi : Nat.div o sz = i
  · subst hi
    rw [List.getElem?_set_self hlt] at hr
    cases hr
    refine ⟨by simp; omega, fun j v hj => ?_⟩
    by_cases h1 : j < Nat.mod o sz
    · rw [List.append_assoc, List.getElem?_append_left (by simp; omega), List.getElem?_take_of_lt h1] at hj
      obtain ⟨x1, v', x2, x3⟩ := hc _ _ hj
      exact ⟨x1, v', by rw [hout _ (.inl (by omega))]; exact x2, x3⟩
    · by_cases h2 : j < Nat.mod o sz + vs.length
      · rw [List.getElem?_append_left (by simp; omega), List.getElem?_append_right (by simp; omega)] at hj
        have hlen1 : (List.take (Nat.mod o sz) row).length = Nat.mod o sz := by simp; omega
        rw [hlen1] at hj
        obtain ⟨v', x2, x3⟩ := hv.get hj
        refine ⟨hf _ (List.mem_of_getElem? hj), v', ?_, x3⟩
        have := hin _ _ x2 (by omega)
        rw [← this]; congr 1; omega
      · rw [List.getElem?_append_right (by simp; omega)] at hj
        have hlen1 : (List.take (Nat.mod o sz) row ++ vs).length = Nat.mod o sz + vs.length := by simp; omega
        rw [hlen1, List.getElem?_drop] at hj
        obtain ⟨x1, v', x2, x3⟩ := hc _ _ hj
        refine ⟨x1, v', ?_, x3⟩
        rw [hout _ (.inr (by omega)), ← x2]; congr 1; omega
  · rw [List.getElem?_set_ne hi] at hr
    obtain ⟨hl2, hc2⟩ := h _ _ hr
    refine ⟨hl2, fun j v hj => ?_⟩
    obtain ⟨x1, v', x2, x3⟩ := hc2 j v hj
    refine ⟨x1, v', ?_, x3⟩
    rw [hout _ ?_]; exact x2
    have hj' : j < sz := by rw [← hl2]; exact (List.getElem?_eq_some_iff.1 hj).1
    rcases Nat.lt_or_ge i (Nat.div o sz) with hlt' | hge
    · left
      have : (i + 1) * sz ≤ Nat.div o sz * sz := Nat.mul_le_mul_right _ hlt'
      rw [Nat.add_mul] at this; omega
    · right
      have : (Nat.div o sz + 1) * sz ≤ i * sz := Nat.mul_le_mul_right _ (by omega)
      rw [Nat.add_mul] at this; omega

/-- Cells outside of what was written. -/
theorem Cells.apart {c c' : Array Value} {base sz lo hi : Nat} {rows : List (List AV)} (h : Cells ρ ι c base sz rows) (hout : ∀ j, j < lo ∨ hi ≤ j → c'[j]? = c[j]?) (hap : hi ≤ base ∨ base + rows.length * sz ≤ lo) :
    Cells ρ ι c' base sz rows := by
  intro i row hr
  obtain ⟨h1, h2⟩ := h i row hr
  refine ⟨h1, fun j v hj => ?_⟩
  obtain ⟨x1, v', x2, x3⟩ := h2 j v hj
  refine ⟨x1, v', ?_, x3⟩
  rw [hout _ ?_]; exact x2
  have hj' : j < sz := by rw [← h1]; exact (List.getElem?_eq_some_iff.1 hj).1
  have hi' : i < rows.length := (List.getElem?_eq_some_iff.1 hr).1
  have : (i + 1) * sz ≤ rows.length * sz := Nat.mul_le_mul_right _ hi'
  rw [Nat.add_mul] at this
  omega

/-- Another block over a block that was written: it is elsewhere, or it was found apart. -/
theorem BlkRel.apart {g g0 : Tgt} {k : ABlk} {w' : World} {o n : Nat} (hk : BlkRel ρ ι w g k)
    (hother : ∀ B, B ≠ g0.blk → w'.heap[B]? = w.heap[B]?)
    (hsame : ∀ c e fz, w.heap[g0.blk]? = some (.cells c e fz) → ∃ c', w'.heap[g0.blk]? = some (.cells c' e fz) ∧ c'.size = c.size ∧ ∀ j, j < o ∨ o + n ≤ j → c'[j]? = c[j]?)
    (hap : g.blk = g0.blk → ∃ e sz gr pos r rows, k = .cells e sz gr pos r rows ∧ (o + n ≤ g.base ∨ g.base + rows.length * sz ≤ o)) : BlkRel ρ ι w' g k := by
  by_cases hb : g.blk = g0.blk
  · obtain ⟨e, sz, gr, pos, r, rows, rfl, hd⟩ := hap hb
    cases hk with
    | cells h hsz hrow hgrp hpos hs0 hroom hlen hfz hc =>
      obtain ⟨c', h1, h2, h3⟩ := hsame _ _ _ (hb ▸ h)
      exact .cells (hb ▸ h1) hsz hrow hgrp hpos hs0 (h2 ▸ hroom) hlen hfz (hc.apart h3 hd)
  · exact hk.next (.refl ι) (hother _ hb)

theorem HRel.wr (H : HRel ρ ι s w) {b o : Nat} {vs : List AV} {vs' : List Value} {s' : St} (h : s.wr b o vs = some s') (hv : VRels ρ ι vs vs') (hf : ∀ v ∈ vs, v.flat = true) :
    ∃ g, ι b = some g ∧ w.there g.blk (g.base + o) vs'.length ∧ HRel ρ ι s' (w.setCells g.blk (g.base + o) vs') ∧ Keep s ι w s' ι (w.setCells g.blk (g.base + o) vs') := by
  unfold St.wr at h
  split at h
  case h_2 => cases h
  rename_i e sz gr pos r rows hb
  cases hlo : Nat.ble s.lo b with
  | false => simp [hlo] at h
  | true =>
  simp only [hlo, cond_true] at h
  split at h
  case h_2 => cases h
  rename_i rows' hp hrows hkill
  cases h
  obtain ⟨g, hg, hk⟩ := H.blk _ _ hb
  obtain ⟨hk1, hk2⟩ := killOver_spec _ _ _ _ _ _ _ hkill
  obtain ⟨hl0, l, hl1, hl2⟩ := H.grp _ _ _ _ _ _ _ hb
  cases hk with
  | @cells _ _ _ _ _ _ c e' fz hh hsz hrow hgrp hpos hs0 hroom hlen hfz hc =>
  obtain ⟨c', hh', hsize, hout, hin⟩ := setCells_same g.blk vs' (g.base + o) w c e' fz hh
  obtain ⟨hcells, hrl, hle⟩ := wrRow_cells hc hrows hv hf hroom hlen hout hin
  have hvl := hv.length
  have hput : ∀ x, (hp.put b (some (.cells e sz gr pos r rows'))).get x = if b = x then some (.cells e sz gr pos r rows') else hp.get x := fun x => Tr.get_put _ _ _ _
  -- what lives behind, but b, lived before
  have hsub : ∀ x k, b ≠ x → (hp.put b (some (.cells e sz gr pos r rows'))).get x = some k → s.heap.get x = some k ∧ hp.get x = some k := by
    intro x k hne hx
    rw [hput, if_neg hne] at hx
    rcases hk1 x with h1 | h1
    · exact ⟨h1 ▸ hx, hx⟩
    · rw [h1.1] at hx; cases hx
  refine ⟨g, hg, ?_, ?_, ?_⟩
  · intro j hj
    have hlt : g.base + o + j < c.size := by omega
    refine ⟨?_, ?_⟩
    · rw [cell_of_heap hh]; simp [hlt]
    · rw [frozen_of_heap hh]
      have := hfz (g.base + o + j) (by omega)
      simpa using this
  · refine ⟨?_, ?_, ?_, ?_, ?_⟩
    · intro x k hx
      by_cases hbx : b = x
      · subst hbx
        rw [hput, if_pos rfl] at hx
        cases hx
        exact ⟨g, hg, .cells hh' hsz hrow hgrp hpos hs0 (hsize ▸ hroom) (hrl ▸ hlen) hfz hcells⟩
      · obtain ⟨h1, h2⟩ := hsub x k hbx hx
        obtain ⟨g', hg', hk'⟩ := H.blk _ _ h1
        refine ⟨g', hg', hk'.apart (g0 := g) (o := g.base + o) (n := vs'.length) (fun B hB => setCells_other _ _ _ _ _ hB) (fun c0 e0 fz0 hc0 => ?_) (fun hsameblk => ?_)⟩
        · obtain ⟨c1, a1, a2, a3, _⟩ := setCells_same g.blk vs' (g.base + o) w c0 e0 fz0 hc0
          exact ⟨c1, a1, a2, a3⟩
        · obtain ⟨_, q2, q3, q4⟩ := H.sep _ _ _ _ _ _ hb h1 hg hg' hbx hsameblk.symm
          cases k with
          | cells e2 sz2 gr2 pos2 r2 rows2 =>
            refine ⟨e2, sz2, gr2, pos2, r2, rows2, rfl, ?_⟩
            cases hk' with
            | cells _ _ _ hgrp2 hpos2 _ _ _ _ _ =>
              obtain ⟨_, l2, m1, m2⟩ := H.grp _ _ _ _ _ _ _ h1
              have hgr : gr2 = gr := by rw [← hgrp2, ← hgrp, q3]
              rw [hgr] at m1
              have hx2 : x ∈ (s.grps.get gr).getD [] := by rw [m1]; exact m2
              have := hk2 x hx2 (fun e => hbx e.symm) _ _ _ _ _ _ h2
              rw [Nat.mul_comm] at this
              omega
          | _ => cases q2
    · intro x y k k' gx gy hx hy hgx hgy hne hblk
      have key : ∀ x k, (hp.put b (some (.cells e sz gr pos r rows'))).get x = some k → ∃ k0, s.heap.get x = some k0 ∧ k0.isCells = k.isCells := by
        intro x k hx
        by_cases hbx : b = x
        · subst hbx; rw [hput, if_pos rfl] at hx; cases hx; exact ⟨_, hb, rfl⟩
        · exact ⟨k, (hsub x k hbx hx).1, rfl⟩
      obtain ⟨kx, e1, e2⟩ := key _ _ hx
      obtain ⟨ky, f1, f2⟩ := key _ _ hy
      obtain ⟨q1, q2, q3⟩ := H.sep _ _ _ _ _ _ e1 f1 hgx hgy hne hblk
      exact ⟨e2 ▸ q1, f2 ▸ q2, q3⟩
    · intro x e2 sz2 g2 p2 r2 rows2 hx
      by_cases hbx : b = x
      · subst hbx; rw [hput, if_pos rfl] at hx; cases hx; exact ⟨hl0, l, hl1, hl2⟩
      · exact H.grp _ _ _ _ _ _ _ (hsub x _ hbx hx).1
    · exact H.fresh
    · intro x g' hx; rw [setCells_size]; exact H.tgt _ _ hx
  · refine ⟨.refl ι, by rw [setCells_size]; exact Nat.le_refl _, rfl, Nat.le_refl _, fun _ _ => rfl, fun B hB hn => ?_, fun x k g' hx hkx hgx hB => ?_, fun x g' hx hgx => (by rw [H.fresh x hx] at hgx; cases hgx), fun x _ hd => ?_, fun _ l _ h => ⟨l, h, fun _ h => h⟩, setCells_io _ _ _ _⟩
    · exact setCells_other _ _ _ _ _ (fun e => hn b _ g (by simpa using hlo) hb hg e.symm)
    · by_cases hbx : b = x
      · subst hbx; exact ⟨b, _, g', hx, hb, hgx, rfl⟩
      · exact ⟨x, k, g', hx, (hsub x k hbx hkx).1, hgx, rfl⟩
    · show (hp.put b (some (.cells e sz gr pos r rows'))).get x = none
      by_cases hbx : b = x
      · subst hbx; rw [hb] at hd; cases hd
      · rw [hput, if_neg hbx]
        rcases hk1 x with h1 | h1
        · rw [h1]; exact hd
        · exact h1.1

/-! ### new things -/
def Inj.add (ι : Inj) (b : Nat) (g : Tgt) : Inj := fun x => if x = b then some g else ι x
theorem Inj.le_add {ι : Inj} {b : Nat} {g : Tgt} (h : ι b = none) : ι.le (ι.add b g) := fun x y hx => by
  unfold Inj.add
  split
  · rename_i e; subst e; rw [h] at hx; cases hx
  · exact hx
theorem Inj.add_same (ι : Inj) (b : Nat) (g : Tgt) : ι.add b g b = some g := by simp [Inj.add]
theorem Inj.add_other (ι : Inj) {b x : Nat} (g : Tgt) (h : x ≠ b) : ι.add b g x = ι x := by simp [Inj.add, h]

theorem push_old {α : Type} (a : Array α) (x : α) {i : Nat} (h : i < a.size) : (a.push x)[i]? = a[i]? := by
  rw [Array.getElem?_push, if_neg (by omega)]
theorem push_new {α : Type} (a : Array α) (x : α) : (a.push x)[a.size]? = some x := by simp

theorem HRel.new (H : HRel ρ ι s w) {k : ABlk} {g : Tgt} {s' : St} {w' : World} {o : Obj} (hs : s'.heap = s.heap.put s.nx (some k)) (hnx : s'.nx = s.nx + 1) (hlo : s'.lo = s.lo)
    (hgr : ∀ x l, x < s.nx → s.grps.get x = some l → ∃ l', s'.grps.get x = some l' ∧ ∀ z ∈ l, z ∈ l') (hw : w'.heap = w.heap.push o) (hg : g.blk = w.heap.size)
    (hk : BlkRel ρ (ι.add s.nx g) w' g k) (hkg : ∀ e sz gr p r rows, k = .cells e sz gr p r rows → gr < s'.nx ∧ ∃ l, s'.grps.get gr = some l ∧ s.nx ∈ l) (hio : w'.os = w.os ∧ w'.output = w.output := by exact ⟨rfl, rfl⟩) :
    HRel ρ (ι.add s.nx g) s' w' ∧ Keep s ι w s' (ι.add s.nx g) w' := by
  have hle : ι.le (ι.add s.nx g) := Inj.le_add (H.fresh _ (Nat.le_refl _))
  have hget : ∀ x, s'.heap.get x = if s.nx = x then some k else s.heap.get x := fun x => by rw [hs]; exact Tr.get_put _ _ _ _
  have hold : ∀ x k', s.nx ≠ x → s'.heap.get x = some k' → s.heap.get x = some k' := fun x k' hne hx => by rw [hget, if_neg hne] at hx; exact hx
  have hne_blk : ∀ x gx, x ≠ s.nx → (ι.add s.nx g) x = some gx → gx.blk < w.heap.size := fun x gx hne hx => by rw [Inj.add_other _ _ hne] at hx; exact H.tgt _ _ hx
  refine ⟨⟨?_, ?_, ?_, ?_, ?_⟩, ?_⟩
  · intro x k' hx
    by_cases hxn : s.nx = x
    · subst hxn; rw [hget, if_pos rfl] at hx; cases hx; exact ⟨g, Inj.add_same _ _ _, hk⟩
    · obtain ⟨g', h1, h2⟩ := H.blk _ _ (hold _ _ hxn hx)
      refine ⟨g', hle _ _ h1, h2.next hle ?_⟩
      rw [hw, push_old _ _ (H.tgt _ _ h1)]
  · intro x y k1 k2 g1 g2 hx hy hg1 hg2 hne hblk
    by_cases hxn : s.nx = x
    · subst hxn
      have := hne_blk y g2 (fun e => hne e.symm) hg2
      rw [Inj.add_same] at hg1; cases hg1
      omega
    · by_cases hyn : s.nx = y
      · subst hyn
        have := hne_blk x g1 (fun e => hne e) hg1
        rw [Inj.add_same] at hg2; cases hg2
        omega
      · rw [Inj.add_other _ _ (fun e => hxn e.symm)] at hg1
        rw [Inj.add_other _ _ (fun e => hyn e.symm)] at hg2
        exact H.sep _ _ _ _ _ _ (hold _ _ hxn hx) (hold _ _ hyn hy) hg1 hg2 hne hblk
  · intro x e sz gr p r rows hx
    by_cases hxn : s.nx = x
    · subst hxn; rw [hget, if_pos rfl] at hx; cases hx; exact hkg _ _ _ _ _ _ rfl
    · obtain ⟨h0, l, h1, h2⟩ := H.grp _ _ _ _ _ _ _ (hold _ _ hxn hx)
      obtain ⟨l', q1, q2⟩ := hgr _ _ h0 h1
      exact ⟨by omega, l', q1, q2 _ h2⟩
  · intro x hx
    rw [hnx] at hx
    rw [Inj.add_other _ _ (by omega)]
    exact H.fresh _ (by omega)
  · intro x g' hx
    rw [hw, Array.size_push]
    by_cases hxn : x = s.nx
    · subst hxn; rw [Inj.add_same] at hx; cases hx; omega
    · have := hne_blk x g' hxn hx; omega
  · refine ⟨hle, by rw [hw]; simp, hlo, by omega, fun b hb => Inj.add_other _ _ (by omega), fun B hB _ => by rw [hw, push_old _ _ hB], fun x k' g' hx hkx hgx hB => ?_, fun x g' hx hgx => ?_, fun x hx hd => (by rw [hget, if_neg (by omega)]; exact hd), hgr, hio⟩
    by_cases hxn : s.nx = x
    · subst hxn; rw [Inj.add_same] at hgx; cases hgx; omega
    · rw [Inj.add_other _ _ (fun e => hxn e.symm)] at hgx
      exact ⟨x, k', g', hx, hold _ _ hxn hkx, hgx, rfl⟩
    · by_cases hxn : x = s.nx
      · subst hxn; rw [Inj.add_same] at hgx; cases hgx; exact .inl (by omega)
      · rw [Inj.add_other _ _ hxn, H.fresh x hx] at hgx; cases hgx

/-- A new row of variables. -/
theorem HRel.newRow (H : HRel ρ ι s w) {e e' : TypeId} {sz : Nat} {row : Bool} {rows : List (List AV)} {c : Array Value} {fz : Nat × Nat} {w' : World} (hw : w'.heap = w.heap.push (.cells c e' fz))
    (hs0 : 0 < sz) (hlen : rows.length * sz ≤ c.size) (hfz : ∀ o, o < c.size → ¬ (fz.1 ≤ o ∧ o < fz.2)) (hc : Cells ρ ι c 0 sz rows) (hio : w'.os = w.os ∧ w'.output = w.output := by exact ⟨rfl, rfl⟩) :
    let g : Tgt := { blk := w.heap.size, base := 0, room := c.size, esz := sz, row, grp := s.nx, pos := 0 }
    HRel ρ (ι.add s.nx g) (s.newRow e sz row rows) w' ∧ Keep s ι w (s.newRow e sz row rows) (ι.add s.nx g) w' := by
  intro g
  refine H.new (k := .cells e sz s.nx 0 row rows) rfl rfl rfl (fun x l hx hl => ?_) hw rfl ?_ ?_ hio
  · show ∃ l', (s.grps.put s.nx (some [s.nx])).get x = some l' ∧ _
    exact ⟨l, by rw [Tr.get_put_other _ _ (by omega)]; exact hl, fun _ h => h⟩
  · exact .cells (by rw [hw]; exact push_new _ _) rfl rfl rfl rfl hs0 (by simp [g]) hlen (fun o ho => hfz o (by simpa [g] using ho)) (hc.le (Inj.le_add (H.fresh _ (Nat.le_refl _))))
  · rintro _ _ _ _ _ _ ⟨⟩
    refine ⟨Nat.lt_succ_self _, [s.nx], ?_, by simp⟩
    show (s.grps.put s.nx (some [s.nx])).get s.nx = some [s.nx]
    simp

/-- A new thing that is no row. -/
theorem HRel.newObj (H : HRel ρ ι s w) {k : ABlk} (hk0 : k.isCells = false) {o : Obj} {w' : World} (hw : w'.heap = w.heap.push o) (g : Tgt) (hg : g.blk = w.heap.size)
    (hk : BlkRel ρ (ι.add s.nx g) w' g k) (hio : w'.os = w.os ∧ w'.output = w.output := by exact ⟨rfl, rfl⟩) : HRel ρ (ι.add s.nx g) (s.newObj k) w' ∧ Keep s ι w (s.newObj k) (ι.add s.nx g) w' :=
  H.new rfl rfl rfl (fun _ l _ hl => ⟨l, hl, fun _ h => h⟩) hw hg hk (by rintro _ _ _ _ _ _ rfl; cases hk0) hio

/-- A thing that is no row, set anew. -/
theorem HRel.setObj (H : HRel ρ ι s w) {b : Nat} {k0 k : ABlk} {g : Tgt} {s' : St} (hb : s.heap.get b = some k0) (hk0 : k0.isCells = false) (hk1 : k.isCells = false) (h : s.setObj b k = some s') (hg : ι b = some g)
    {w' : World} (hsize : w'.heap.size = w.heap.size) (hother : ∀ B, B ≠ g.blk → w'.heap[B]? = w.heap[B]?) (hk : BlkRel ρ ι w' g k) (hio : w'.os = w.os ∧ w'.output = w.output := by exact ⟨rfl, rfl⟩) : HRel ρ ι s' w' ∧ Keep s ι w s' ι w' := by
  unfold St.setObj at h
  cases hlo : Nat.ble s.lo b with
  | false => simp [hlo] at h
  | true =>
  simp only [hlo, cond_true, Option.some.injEq] at h
  subst h
  have hget : ∀ x, (s.heap.put b (some k)).get x = if b = x then some k else s.heap.get x := fun x => Tr.get_put _ _ _ _
  have hold : ∀ x k', b ≠ x → (s.heap.put b (some k)).get x = some k' → s.heap.get x = some k' := fun x k' hne hx => by rw [hget, if_neg hne] at hx; exact hx
  have hsep : ∀ x k' g', b ≠ x → (s.heap.put b (some k)).get x = some k' → ι x = some g' → g'.blk ≠ g.blk := by
    intro x k' g' hne hx hg' hblk
    obtain ⟨q1, _⟩ := H.sep _ _ _ _ _ _ hb (hold _ _ hne hx) hg hg' hne hblk.symm
    rw [hk0] at q1; cases q1
  refine ⟨⟨?_, ?_, ?_, ?_, ?_⟩, ?_⟩
  · intro x k' hx
    by_cases hbx : b = x
    · subst hbx; rw [hget, if_pos rfl] at hx; cases hx; exact ⟨g, hg, hk⟩
    · obtain ⟨g', h1, h2⟩ := H.blk _ _ (hold _ _ hbx hx)
      exact ⟨g', h1, h2.next (.refl ι) (hother _ (hsep _ _ _ hbx hx h1))⟩
  · intro x y k1 k2 g1 g2 hx hy hg1 hg2 hne hblk
    by_cases hbx : b = x
    · subst hbx
      rw [hg] at hg1; cases hg1
      exact absurd hblk.symm (hsep _ _ _ hne hy hg2)
    · by_cases hby : b = y
      · subst hby
        rw [hg] at hg2; cases hg2
        exact absurd hblk (hsep _ _ _ (fun e => hne e.symm) hx hg1)
      · exact H.sep _ _ _ _ _ _ (hold _ _ hbx hx) (hold _ _ hby hy) hg1 hg2 hne hblk
  · intro x e sz gr p r rows hx
    by_cases hbx : b = x
    · subst hbx; rw [hget, if_pos rfl] at hx; cases hx; cases hk1
    · exact H.grp _ _ _ _ _ _ _ (hold _ _ hbx hx)
  · exact H.fresh
  · intro x g' hx; rw [hsize]; exact H.tgt _ _ hx
  · refine ⟨.refl ι, by omega, rfl, Nat.le_refl _, fun _ _ => rfl, fun B hB hn => hother B (fun e => hn b _ g (by simpa using hlo) hb hg e.symm), fun x k' g' hx hkx hgx hB => ?_, fun x g' hx hgx => (by rw [H.fresh x hx] at hgx; cases hgx), fun x _ hd => ?_, fun _ l _ h => ⟨l, h, fun _ h => h⟩, hio⟩
    · by_cases hbx : b = x
      · subst hbx; exact ⟨b, _, g', hx, hb, hgx, rfl⟩
      · exact ⟨x, k', g', hx, hold _ _ hbx hkx, hgx, rfl⟩
    · show (s.heap.put b (some k)).get x = none
      by_cases hbx : b = x
      · subst hbx; rw [hb] at hd; cases hd
      · rw [hget, if_neg hbx]; exact hd


/-! ### elements -/
theorem flatten_get {sz : Nat} : ∀ {rows : List (List AV)}, (∀ r ∈ rows, r.length = sz) → ∀ {i j : Nat} {row : List AV}, rows[i]? = some row → j < sz → rows.flatten[i * sz + j]? = row[j]? := by
  intro rows
  induction rows with
  | nil => intro _ i j row h; simp at h
  | cons r rows ih =>
    intro hl i j row h hj
    have hr : r.length = sz := hl r (by simp)
    cases i with
    | zero =>
      simp at h; subst h
      simp only [List.flatten_cons, Nat.zero_mul, Nat.zero_add]
      rw [List.getElem?_append_left (by omega)]
    | succ i =>
      simp only [List.flatten_cons]
      have h0 : (i + 1) * sz = i * sz + sz := by rw [Nat.add_mul]; omega
      rw [List.getElem?_append_right (by omega), show (i + 1) * sz + j - r.length = i * sz + j from by omega]
      exact ih (fun x hx => hl x (by simp [hx])) (by simpa using h) hj
theorem flatten_length {sz : Nat} : ∀ {rows : List (List AV)}, (∀ r ∈ rows, r.length = sz) → rows.flatten.length = rows.length * sz := by
  intro rows
  induction rows with
  | nil => intro _; simp
  | cons r rows ih =>
    intro h
    have h1 := ih (fun x hx => h x (by simp [hx]))
    have h2 := h r (by simp)
    rw [List.flatten_cons, List.length_append, h1, h2, List.length_cons, Nat.add_mul]; omega

/-- Rows of one length whose cells have one cell each. -/
structure Rows (sz : Nat) (rows : List (List AV)) : Prop where
  len : ∀ r ∈ rows, r.length = sz
  flat : ∀ r ∈ rows, ∀ v ∈ r, v.flat = true
theorem Rows.append {sz : Nat} {a b : List (List AV)} (h : Rows sz a) (h' : Rows sz b) : Rows sz (a ++ b) :=
  ⟨fun r hr => (List.mem_append.1 hr).elim (h.len r) (h'.len r), fun r hr => (List.mem_append.1 hr).elim (h.flat r) (h'.flat r)⟩

theorem Cells.of_range {c : Array Value} {base sz : Nat} {rows : List (List AV)} {cs : List Value} (hr : Rows sz rows) (hv : VRels ρ ι rows.flatten cs) (hc : ∀ (j : Nat) (v : Value), cs[j]? = some v → c[base + j]? = some v) :
    Cells ρ ι c base sz rows := by
  intro i row hi
  have hmem := List.mem_of_getElem? hi
  refine ⟨hr.len _ hmem, fun j v hj => ?_⟩
  have hjl : j < sz := by rw [← hr.len _ hmem]; exact (List.getElem?_eq_some_iff.1 hj).1
  have := flatten_get hr.len hi hjl
  rw [hj] at this
  obtain ⟨v', h1, h2⟩ := hv.get this
  exact ⟨hr.flat _ hmem _ (List.mem_of_getElem? hj), v', hc _ _ h1, h2⟩

theorem Cells.rows {c : Array Value} {base sz : Nat} {rows : List (List AV)} (h : Cells ρ ι c base sz rows) : Rows sz rows :=
  ⟨fun r hr => let ⟨i, hi⟩ := List.getElem?_of_mem hr; (h i r hi).1, fun r hr v hv => let ⟨i, hi⟩ := List.getElem?_of_mem hr; let ⟨j, hj⟩ := List.getElem?_of_mem hv; ((h i r hi).2 j v hj).1⟩

theorem Cells.flat_range {c : Array Value} {base sz : Nat} {rows : List (List AV)} (h : Cells ρ ι c base sz rows) : ∃ cs, VRels ρ ι rows.flatten cs ∧ ∀ (j : Nat) (v : Value), cs[j]? = some v → c[base + j]? = some v := by
  have hr := h.rows
  have hl := flatten_length hr.len
  have key : ∀ (n : Nat) (v : AV), rows.flatten[n]? = some v → ∃ v', c[base + n]? = some v' ∧ VRel ρ ι v v' := by
    intro n v hv
    have hn : n < rows.length * sz := by rw [← hl]; exact (List.getElem?_eq_some_iff.1 hv).1
    have hs0 : 0 < sz := by
      rcases Nat.eq_zero_or_pos sz with h0 | h0
      · subst h0; omega
      · exact h0
    have hi : n / sz < rows.length := by rw [Nat.div_lt_iff_lt_mul hs0]; exact hn
    have hrow := List.getElem?_eq_getElem hi
    have hj : n % sz < sz := Nat.mod_lt _ hs0
    have h1 := flatten_get hr.len hrow hj
    have hdm : n / sz * sz + n % sz = n := by rw [Nat.mul_comm]; exact Nat.div_add_mod n sz
    rw [hdm, hv] at h1
    obtain ⟨_, v', h2, h3⟩ := (h _ _ hrow).2 _ _ h1.symm
    rw [hdm] at h2
    exact ⟨v', h2, h3⟩
  refine ⟨(List.range rows.flatten.length).map fun j => (c[base + j]?).getD undef, VRels.of_get (by simp) fun j v hv => ?_, fun j v hv => ?_⟩
  · obtain ⟨v', h1, h2⟩ := key j v hv
    have hj := (List.getElem?_eq_some_iff.1 hv).1
    exact ⟨v', by rw [List.getElem?_map, List.getElem?_range hj]; simp [h1], h2⟩
  · have hj : j < rows.flatten.length := by have := (List.getElem?_eq_some_iff.1 hv).1; simpa using this
    rw [List.getElem?_map, List.getElem?_range hj] at hv
    obtain ⟨v', h1, _⟩ := key j _ (List.getElem?_eq_getElem hj)
    simp only [Option.map_some, h1, Option.getD_some] at hv
    rw [h1]; exact hv

theorem chop_spec (sz : Nat) : ∀ (n : Nat) (l : List AV) (r : List (List AV)), chop sz n l = some r → r.length = n ∧ (∀ x ∈ r, x.length = sz) ∧ r.flatten = l.take (n * sz) ∧ n * sz ≤ l.length := by
  intro n
  induction n with
  | zero => intro l r h; simp [chop] at h; subst h; simp
  | succ n ih =>
    intro l r h
    simp only [chop] at h
    split at h
    · rename_i x r' hx hr'
      cases h
      obtain ⟨h1, h2⟩ := takeN_eq _ _ _ hx
      rw [dropN_eq] at hr'
      obtain ⟨h3, h4, h5, h6⟩ := ih _ _ hr'
      have hm : (n + 1) * sz = sz + n * sz := by rw [Nat.add_mul]; omega
      refine ⟨by simp [h3], fun y hy => ?_, ?_, ?_⟩
      · rcases List.mem_cons.1 hy with rfl | hy
        · rw [h1]; simp; omega
        · exact h4 y hy
      · rw [List.flatten_cons, h5, h1, hm, List.take_add]
      · simp at h6; omega
    · cases h

/-- The elements of a slice, where they lie. -/
theorem HRel.elems (H : HRel ρ ι s w) {size b o len : Nat} {xs : List (List AV)} (h : s.elems size b o len = some xs) :
    ∃ g, ι b = some g ∧ xs.length = len ∧ Rows size xs ∧ ∃ cs, VRels ρ ι xs.flatten cs ∧ w.rangeAt g.blk (g.base + o) cs := by
  unfold St.elems at h
  split at h
  case h_2 => cases h
  rename_i e sz gr pos r rows hb
  obtain ⟨g, hg, hk⟩ := H.blk _ _ hb
  cases hk with
  | @cells _ _ _ _ _ _ c e' fz hh hsz hrow hgrp hpos hs0 hroom hlen hfz hc =>
  have hr := hc.rows
  refine ⟨g, hg, ?_⟩
  cases hbeq : Nat.beq sz size with
  | true =>
    have hss : sz = size := by simpa using hbeq
    subst hss
    simp only [hbeq, cond_true] at h
    cases hm : Nat.beq (Nat.mod o sz) 0 with
    | false => simp [hm] at h
    | true =>
      simp only [hm, cond_true] at h
      rw [dropR_eq] at h
      obtain ⟨rfl, hle⟩ := takeR_eq _ _ _ h
      have hmod : o % sz = 0 := by
        have : Nat.mod o sz = 0 := by simpa using hm
        exact this
      have hdm : o / sz * sz = o := by have := Nat.div_add_mod o sz; rw [hmod, Nat.mul_comm] at this; omega
      have hsub : ∀ x, x ∈ List.take len (List.drop (Nat.div o sz) rows) → x ∈ rows := fun x hx => List.mem_of_mem_drop (List.mem_of_mem_take hx)
      have hrows : Rows sz (List.take len (List.drop (Nat.div o sz) rows)) := ⟨fun x hx => hr.len _ (hsub x hx), fun x hx => hr.flat _ (hsub x hx)⟩
      have hsubc : Cells ρ ι c (g.base + o) sz (List.take len (List.drop (Nat.div o sz) rows)) := by
        intro i row hi
        rw [List.getElem?_take] at hi
        split at hi
        · rw [List.getElem?_drop] at hi
          obtain ⟨h1, h2⟩ := hc _ _ hi
          refine ⟨h1, fun j v hj => ?_⟩
          obtain ⟨x1, v', x2, x3⟩ := h2 j v hj
          refine ⟨x1, v', ?_, x3⟩
          rw [← x2]; congr 1
          have : (Nat.div o sz + i) * sz = o + i * sz := by rw [Nat.add_mul]; show o / sz * sz + i * sz = _; omega
          omega
        · cases hi
      obtain ⟨cs, h1, h2⟩ := hsubc.flat_range
      refine ⟨by simp at hle ⊢; omega, hrows, cs, h1, fun j v hv => ?_⟩
      rw [cell_of_heap hh]; exact h2 j v hv
  | false =>
    simp only [hbeq, cond_false] at h
    rw [nth_eq] at h
    split at h
    case h_2 => cases h
    rename_i row hrow'
    rw [dropN_eq] at h
    obtain ⟨h1, h2, h3, h4⟩ := chop_spec _ _ _ _ h
    have hfl : ∀ x ∈ xs, ∀ v ∈ x, v.flat = true := by
      intro x hx v hv
      have hmem : v ∈ xs.flatten := List.mem_flatten.2 ⟨x, hx, hv⟩
      rw [h3] at hmem
      exact hr.flat _ (List.mem_of_getElem? hrow') _ (List.mem_of_mem_drop (List.mem_of_mem_take hmem))
    have hrd : rdRow rows sz o (len * size) = some (List.take (len * size) (List.drop (Nat.mod o sz) row)) := by
      unfold rdRow
      rw [nth_eq, hrow']
      simp only [dropN_eq]
      have : ∀ (n : Nat) (l : List AV), n ≤ l.length → takeN n l = some (l.take n) := by
        intro n
        induction n with
        | zero => intro l _; simp [takeN]
        | succ n ih => intro l hl; cases l with
          | nil => simp at hl
          | cons v l => simp [takeN, ih l (by simpa using hl)]
      exact this _ _ h4
    obtain ⟨_, _, cs, q1, q2⟩ := hc.range hrd
    refine ⟨h1, ⟨h2, hfl⟩, cs, by rw [h3]; exact q1, fun j v hv => ?_⟩
    rw [cell_of_heap hh]; exact q2 j v hv

/-! ### append where there is room -/
theorem HRel.appendIn (H : HRel ρ ι s w) {b o len : Nat} {e e2 : TypeId} {sz gr pos : Nat} {rows : List (List AV)} {old xs : List (List AV)} {hp : Tr ABlk} {g : Tgt}
    (hb : s.heap.get b = some (.cells e sz gr pos true rows)) (hg : ι b = some g) (hlo : s.lo ≤ b) (hold : s.elems sz b o len = some old)
    (hkill : killOver s.heap s.lo s.nx (pos + o + len * sz) (xs.length * sz) ((s.grps.get gr).getD []) = some hp)
    {cap : Nat} (hcap : o + cap * sz ≤ g.room) (hin : len + xs.length ≤ cap) (hxs : Rows sz xs) {cs : List Value} (hcs : VRels ρ ι xs.flatten cs) :
    let g' : Tgt := { blk := g.blk, base := g.base + o, room := g.room - o, esz := sz, row := true, grp := gr, pos := pos + o }
    let s' : St := { s with heap := hp.put s.nx (some (.cells e2 sz gr (pos + o) true (old ++ xs))), grps := s.grps.put gr (some (s.nx :: (s.grps.get gr).getD [])), nx := s.nx + 1 }
    let w' := w.setCells g.blk (g.base + o + len * sz) cs
    w.there g.blk (g.base + o + len * sz) cs.length ∧ HRel ρ (ι.add s.nx g') s' w' ∧ Keep s ι w s' (ι.add s.nx g') w' := by
  intro g' s' w'
  obtain ⟨g1, hg1, hk⟩ := H.blk _ _ hb
  rw [hg] at hg1; cases hg1
  obtain ⟨hl0, l, hl1, hl2⟩ := H.grp _ _ _ _ _ _ _ hb
  obtain ⟨hk1, hk2⟩ := killOver_spec _ _ _ _ _ _ _ hkill
  obtain ⟨g2, hg2, hol, holdR, ocs, ho1, ho2⟩ := H.elems hold
  rw [hg] at hg2; cases hg2
  have hle : ι.le (ι.add s.nx g') := Inj.le_add (H.fresh _ (Nat.le_refl _))
  have hlencs : cs.length = xs.length * sz := by rw [← hcs.length, flatten_length hxs.len]
  have hmul : (len + xs.length) * sz ≤ cap * sz := Nat.mul_le_mul_right _ hin
  rw [Nat.add_mul] at hmul
  cases hk with
  | @cells _ _ _ _ _ _ c e' fz hh hsz hrow hgrp hpos hs0 hroom hlen hfz hc =>
  obtain ⟨c', hh', hsize, hout, hinn⟩ := setCells_same g.blk cs (g.base + o + len * sz) w c e' fz hh
  have hget : ∀ x, s'.heap.get x = if s.nx = x then some (.cells e2 sz gr (pos + o) true (old ++ xs)) else hp.get x := fun x => Tr.get_put _ _ _ _
  have hsub : ∀ x k, s.nx ≠ x → s'.heap.get x = some k → s.heap.get x = some k ∧ hp.get x = some k := by
    intro x k hne hx
    rw [hget, if_neg hne] at hx
    rcases hk1 x with h1 | h1
    · exact ⟨h1 ▸ hx, hx⟩
    · rw [h1.1] at hx; cases hx
  -- coordinates of whatever lies in the same machine block
  have hco : ∀ x k gx, s.heap.get x = some k → ι x = some gx → gx.blk = g.blk → ∃ e sz2 p r rows2, k = .cells e sz2 gr p r rows2 ∧ gx.base + pos = g.base + p ∧ gx.grp = gr ∧ gx.pos = p := by
    intro x k gx hx hgx hblk
    by_cases hbx : b = x
    · subst hbx
      rw [hb] at hx; cases hx; rw [hg] at hgx; cases hgx
      exact ⟨_, _, _, _, _, rfl, rfl, hgrp, hpos⟩
    · obtain ⟨_, q2, q3, q4⟩ := H.sep _ _ _ _ _ _ hb hx hg hgx hbx hblk.symm
      obtain ⟨g3, hg3, hk3⟩ := H.blk _ _ hx
      rw [hgx] at hg3; cases hg3
      cases hk3 with
      | cells _ _ _ hgrp2 hpos2 _ _ _ _ _ =>
        subst hgrp2 hpos2
        refine ⟨_, _, _, _, _, by rw [← q3, hgrp], by omega, by omega, rfl⟩
      | _ => cases q2
  refine ⟨?_, ⟨?_, ?_, ?_, ?_, ?_⟩, ?_⟩
  · intro j hj
    have hlt : g.base + o + len * sz + j < c.size := by omega
    refine ⟨?_, ?_⟩
    · rw [cell_of_heap hh]; simp [hlt]
    · rw [frozen_of_heap hh]
      have := hfz (g.base + o + len * sz + j) (by omega)
      simpa using this
  · intro x k hx
    by_cases hxn : s.nx = x
    · subst hxn
      rw [hget, if_pos rfl] at hx; cases hx
      refine ⟨g', Inj.add_same _ _ _, .cells (c := c') (e' := e') (fz := fz) hh' rfl rfl rfl rfl hs0 (by show g.base + o + (g.room - o) ≤ _; omega) ?_ (fun j hj => hfz j (by have : j < g.base + o + (g.room - o) := hj; omega)) ?_⟩
      · show (old ++ xs).length * sz ≤ g.room - o
        rw [List.length_append, hol, Nat.add_mul]; omega
      · refine Cells.le hle (Cells.of_range (cs := ocs ++ cs) (holdR.append hxs) (by rw [List.flatten_append]; exact ho1.append hcs) fun j v hj => ?_)
        have hocs : ocs.length = len * sz := by rw [← ho1.length, flatten_length holdR.len, hol]
        show c'[g.base + o + j]? = some v
        by_cases hjo : j < len * sz
        · rw [List.getElem?_append_left (by omega)] at hj
          rw [hout _ (.inl (by omega))]
          have := ho2 j v hj
          rwa [cell_of_heap hh] at this
        · rw [List.getElem?_append_right (by omega), hocs] at hj
          have hjl := (List.getElem?_eq_some_iff.1 hj).1
          have := hinn _ _ hj (by omega)
          rw [← this]; congr 1; omega
    · obtain ⟨h1, h2⟩ := hsub x k hxn hx
      obtain ⟨gx, hgx, hkx⟩ := H.blk _ _ h1
      refine ⟨gx, hle _ _ hgx, BlkRel.next (w := w') hle (hkx.apart (g0 := g) (o := g.base + o + len * sz) (n := cs.length) (fun B hB => setCells_other _ _ _ _ _ hB) (fun c0 e0 fz0 hc0 => ?_) (fun hsameblk => ?_)) rfl⟩
      · obtain ⟨c1, a1, a2, a3, _⟩ := setCells_same g.blk cs (g.base + o + len * sz) w c0 e0 fz0 hc0
        exact ⟨c1, a1, a2, a3⟩
      · obtain ⟨e3, sz3, p3, r3, rows3, rfl, q1, q2, q3⟩ := hco x k gx h1 hgx hsameblk
        refine ⟨_, _, _, _, _, _, rfl, ?_⟩
        obtain ⟨_, l2, m1, m2⟩ := H.grp _ _ _ _ _ _ _ h1
        have hx2 : x ∈ (s.grps.get gr).getD [] := by rw [m1]; exact m2
        have := hk2 x hx2 (fun e => hxn e.symm) _ _ _ _ _ _ h2
        rw [Nat.mul_comm sz3] at this
        omega
  · intro x y kx ky gx gy hx hy hgx hgy hne hblk
    by_cases hxn : s.nx = x
    · subst hxn
      rw [Inj.add_same] at hgx; cases hgx
      rw [hget, if_pos rfl] at hx; cases hx
      have hyn : s.nx ≠ y := hne
      rw [Inj.add_other _ _ (fun e => hyn e.symm)] at hgy
      obtain ⟨h1, _⟩ := hsub y ky hyn hy
      obtain ⟨e3, sz3, p3, r3, rows3, rfl, q1, q2, q3⟩ := hco y ky gy h1 hgy hblk.symm
      refine ⟨rfl, rfl, by show gr = _; omega, ?_⟩
      show g.base + o + gy.pos = gy.base + (pos + o)
      omega
    · rw [Inj.add_other _ _ (fun e => hxn e.symm)] at hgx
      obtain ⟨h1, _⟩ := hsub x kx hxn hx
      by_cases hyn : s.nx = y
      · subst hyn
        rw [Inj.add_same] at hgy; cases hgy
        rw [hget, if_pos rfl] at hy; cases hy
        obtain ⟨e3, sz3, p3, r3, rows3, rfl, q1, q2, q3⟩ := hco x kx gx h1 hgx hblk
        refine ⟨rfl, rfl, by show _ = gr; omega, ?_⟩
        show gx.base + (pos + o) = g.base + o + gx.pos
        omega
      · rw [Inj.add_other _ _ (fun e => hyn e.symm)] at hgy
        exact H.sep _ _ _ _ _ _ h1 (hsub y ky hyn hy).1 hgx hgy hne hblk
  · intro x e3 sz3 g3 p3 r3 rows3 hx
    have hgrps : ∀ y ly, s.grps.get y = some ly → ∃ l', s'.grps.get y = some l' ∧ ∀ z ∈ ly, z ∈ l' := by
      intro y ly hy
      show ∃ l', (s.grps.put gr _).get y = some l' ∧ _
      by_cases hgy : gr = y
      · subst hgy
        refine ⟨_, Tr.get_put_same _ _ _, fun z hz => ?_⟩
        rw [hy]; simp [hz]
      · exact ⟨ly, by rw [Tr.get_put_other _ _ hgy]; exact hy, fun z hz => hz⟩
    by_cases hxn : s.nx = x
    · subst hxn
      rw [hget, if_pos rfl] at hx; cases hx
      exact ⟨by show gr < s.nx + 1; omega, _, Tr.get_put_same _ _ _, by simp⟩
    · obtain ⟨h0, l3, h1, h2⟩ := H.grp _ _ _ _ _ _ _ (hsub x _ hxn hx).1
      obtain ⟨l4, h3, h4⟩ := hgrps _ _ h1
      exact ⟨by show g3 < s.nx + 1; omega, l4, h3, h4 _ h2⟩
  · intro x hx
    have : s.nx + 1 ≤ x := hx
    rw [Inj.add_other _ _ (by omega)]
    exact H.fresh _ (by omega)
  · intro x gx hx
    rw [setCells_size]
    by_cases hxn : x = s.nx
    · subst hxn; rw [Inj.add_same] at hx; cases hx; exact H.tgt b g hg
    · rw [Inj.add_other _ _ hxn] at hx; exact H.tgt _ _ hx
  · refine ⟨hle, by rw [setCells_size]; exact Nat.le_refl _, rfl, Nat.le_succ _, fun x hx => Inj.add_other _ _ (by omega), fun B hB hn => ?_, fun x k gx hx hkx hgx hB => ?_, fun x gx hx hgx => ?_, fun x hx hd => ?_, fun y ly _ hy => ?_, setCells_io _ _ _ _⟩
    · exact setCells_other _ _ _ _ _ (fun e => hn b _ g hlo hb hg e.symm)
    · by_cases hxn : s.nx = x
      · subst hxn; rw [Inj.add_same] at hgx; cases hgx
        exact ⟨b, _, g, hlo, hb, hg, rfl⟩
      · rw [Inj.add_other _ _ (fun e => hxn e.symm)] at hgx
        exact ⟨x, k, gx, hx, (hsub x k hxn hkx).1, hgx, rfl⟩
    · by_cases hxn : x = s.nx
      · subst hxn; rw [Inj.add_same] at hgx; cases hgx
        exact .inr ⟨b, g, H.lt hb, hg, rfl⟩
      · rw [Inj.add_other _ _ hxn, H.fresh x hx] at hgx; cases hgx
    · rw [hget, if_neg (by omega)]
      rcases hk1 x with h1 | h1
      · rw [h1]; exact hd
      · exact h1.1
    · show ∃ l', (s.grps.put gr _).get y = some l' ∧ _
      by_cases hgy : gr = y
      · subst hgy
        refine ⟨_, Tr.get_put_same _ _ _, fun z hz => ?_⟩
        rw [hy]; simp [hz]
      · exact ⟨ly, by rw [Tr.get_put_other _ _ hgy]; exact hy, fun z hz => hz⟩
end
end Go.Ev
