/-
  A part of a verified evaluator of the model's code, or of its use at this seat; see the text YtkibpfkengpimaaGreatDoorEvCard.
-/
import Derived.Test.YtkibpfkengpimaaGreatDoorEvOps3
namespace Go.Ev
section
variable {P : Program} {C : Ctx} {ρ : Val} {ι : Inj} {s : St} {w : World}

/-! ### aggregates -/
theorem foldl_set (off : Nat) : ∀ (vs : List Value) (k : Nat) (cs : Array Value), off + k + vs.length ≤ cs.size →
    ((vs.zipIdx k).foldl (fun cs (c, j) => cs.setIfInBounds (off + j) c) cs).toList = cs.toList.take (off + k) ++ vs ++ cs.toList.drop (off + k + vs.length) := by
  intro vs
  induction vs with
  | nil => intro k cs _; simp
  | cons v vs ih =>
    intro k cs h
    simp only [List.zipIdx_cons, List.foldl_cons]
    rw [ih (k + 1) _ (by simp at h ⊢; omega)]
    have hlt : off + k < cs.toList.length := by simp at h ⊢; omega
    have h1 : (cs.setIfInBounds (off + k) v).toList = cs.toList.set (off + k) v := by simp
    rw [h1]
    have h2 : List.take (off + (k + 1)) (cs.toList.set (off + k) v) = cs.toList.take (off + k) ++ [v] := by
      rw [show off + (k + 1) = off + k + 1 from by omega, List.take_succ_eq_append_getElem (by simpa using hlt)]
      simp [List.take_set_of_le]
    have h3 : List.drop (off + (k + 1) + vs.length) (cs.toList.set (off + k) v) = cs.toList.drop (off + k + (vs.length + 1)) := by
      rw [List.drop_set_of_lt (by omega)]; congr 1; omega
    rw [h2, h3]
    simp

theorem over_rel {cs vs r : List AV} {o : Nat} {cs' vs' : List Value} (h : over cs o vs = some r) (hc : VRels ρ ι cs cs') (hv : VRels ρ ι vs vs') : VRels ρ ι r (cs'.take o ++ vs' ++ cs'.drop (o + vs'.length)) := by
  obtain ⟨_, rfl⟩ := over_eq _ _ _ _ h
  rw [← hv.length]
  exact ((hc.take o).append hv).append (hc.drop _)

inductive PRel (ρ : Val) (ι : Inj) : List (Nat × AV) → List (Nat × Value) → Prop
  | nil : PRel ρ ι [] []
  | cons {i : Nat} {v : AV} {v' : Value} {l : List (Nat × AV)} {l' : List (Nat × Value)} (h : VRel ρ ι v v') (hs : PRel ρ ι l l') : PRel ρ ι ((i, v) :: l) ((i, v') :: l')

theorem fillA_rel {places : Nat → Option (Nat × Nat)} {places' : Nat → Option (Nat × Nat)} (hp : ∀ i o n, places i = some (o, n) → places' i = some (o, n)) :
    ∀ {parts : List (Nat × AV)} {cs r : List AV} {parts' : List (Nat × Value)} {cs' : Array Value}, fillA places cs parts = some r → VRels ρ ι cs cs'.toList → (∀ x ∈ cs, x.flat = true) → PRel ρ ι parts parts' →
      ∃ r', Instr.fill places' cs' parts' = some r' ∧ VRels ρ ι r r'.toList ∧ (∀ x ∈ r, x.flat = true) := by
  intro parts
  induction parts with
  | nil =>
    intro cs r parts' cs' h hc hf hp
    cases hp
    simp [fillA] at h
    subst h
    exact ⟨cs', rfl, hc, hf⟩
  | cons p parts ih =>
    intro cs r parts' cs' h hc hf hps
    cases hps with
    | @cons i v v' _ l' hv hs =>
      simp only [fillA] at h
      split at h
      · rename_i o n hpl
        split at h
        · rename_i vs hvs
          cases hb : Nat.beq vs.length n with
          | false => simp [hb] at h
          | true =>
            simp only [hb, cond_true] at h
            split at h
            · rename_i cs2 hov
              obtain ⟨hvc, hvf⟩ := AV.cells_rel hvs hv
              have hn := Nat.eq_of_beq_eq_true hb
              obtain ⟨hle, hcs2⟩ := over_eq _ _ _ _ hov
              have hl1 := hc.length
              have hl2 := hvc.length
              have hsz : v'.cells.size = n := by simp at hl2; omega
              have hroom : o + v'.cells.size ≤ cs'.size := by simp at hl1; omega
              obtain ⟨arr, harr⟩ : ∃ arr : Array Value, arr = v'.cells.zipIdx.foldl (fun cs (c, j) => cs.setIfInBounds (o + j) c) cs' := ⟨_, rfl⟩
              have harrl : arr.toList = cs'.toList.take o ++ v'.cells.toList ++ cs'.toList.drop (o + v'.cells.toList.length) := by
                have := foldl_set o v'.cells.toList 0 cs' (by simpa using hroom)
                rw [harr, ← Array.foldl_toList]
                simpa using this
              obtain ⟨r', h1, h2, h3⟩ := ih (cs' := arr) h (by rw [harrl]; exact over_rel hov hc hvc) (fun x hx => by
                rw [hcs2] at hx
                simp only [List.mem_append] at hx
                rcases hx with (hx | hx) | hx
                · exact hf x (List.mem_of_mem_take hx)
                · exact hvf x hx
                · exact hf x (List.mem_of_mem_drop hx)) hs
              refine ⟨r', ?_, h2, h3⟩
              simp only [Instr.fill, hp _ _ _ hpl]
              rw [if_neg (by simp; omega), ← harr]
              exact h1
            · cases h
        · cases h
      · cases h

theorem buildA_rel (T : TabOk P C) {t : TypeId} {parts : List (Nat × AV)} {parts' : Array (Nat × Value)} {v : AV} (h : buildA C t parts = some v) (hp : PRel ρ ι parts parts'.toList) (w : World) :
    ∃ v', (Instr.build t parts').run P w = .ok v' w ∧ VRel ρ ι v v' := by
  unfold buildA at h
  split at h
  · rename_i ti hti
    obtain ⟨i, d, z, S⟩ := T.spec hti
    have hk := S.kind
    split at h
    · rename_i fs hfs
      rw [hfs] at hk
      cases d <;> simp only [mkTK, reduceCtorEq, TK.struct.injEq] at hk
      rename_i fields
      subst hk
      unfold aggV at h
      split at h
      · rename_i cs hcs
        cases h
        have hknown := S.known
        simp only [knownT, List.all_eq_true] at hknown
        obtain ⟨places, hpl⟩ : ∃ places, fields.toList.mapM (fun f => (P.info? f.type).map fun i => (f.offset, i.size)) = some places := by
          have : ∀ l : List Field, (∀ f ∈ l, (P.info? f.type).isSome = true) → ∃ r, l.mapM (fun f => (P.info? f.type).map fun i => (f.offset, i.size)) = some r := by
            intro l
            induction l with
            | nil => intro _; exact ⟨[], rfl⟩
            | cons f l ih =>
              intro hl
              obtain ⟨r, hr⟩ := ih fun x hx => hl x (by simp [hx])
              obtain ⟨i, hi⟩ := Option.isSome_iff_exists.1 (hl f (by simp))
              exact ⟨(f.offset, i.size) :: r, by simp [List.mapM_cons, hi, hr]⟩
          exact this _ hknown
        have hget : ∀ (j : Nat) (f : Field), fields.toList[j]? = some f → ∃ i, P.info? f.type = some i ∧ places[j]? = some (f.offset, i.size) := by
          have : ∀ (l : List Field) (r : List (Nat × Nat)), l.mapM (fun f => (P.info? f.type).map fun i => (f.offset, i.size)) = some r → ∀ (j : Nat) (f : Field), l[j]? = some f → ∃ i, P.info? f.type = some i ∧ r[j]? = some (f.offset, i.size) := by
            intro l
            induction l with
            | nil => intro r _ j f hf; simp at hf
            | cons x l ih =>
              intro r hr j f hf
              simp only [List.mapM_cons, Option.bind_eq_bind, Option.bind_eq_some_iff] at hr
              obtain ⟨y, hy, r', hr', hr⟩ := hr
              simp at hr; subst hr
              cases j with
              | zero =>
                simp at hf; subst hf
                simp only [Option.map_eq_some_iff] at hy
                obtain ⟨i, hi, rfl⟩ := hy
                exact ⟨i, hi, rfl⟩
              | succ j => simpa using ih r' hr' j f (by simpa using hf)
          exact this _ _ hpl
        obtain ⟨r', h1, h2, h3⟩ := fillA_rel (ρ := ρ) (ι := ι) (places' := fun j => places.toArray[j]?) (fun j o n hj => by
          unfold fieldAt at hj
          rw [nth_eq, List.getElem?_map] at hj
          split at hj
          · rename_i o0 ft hoft
            cases hfl : fields.toList[j]? with
            | none => simp [hfl] at hoft
            | some f =>
              simp [hfl] at hoft
              obtain ⟨rfl, rfl⟩ := hoft
              split at hj
              · rename_i fi hfi
                cases hj
                obtain ⟨i2, d2, z2, S2⟩ := T.spec hfi
                obtain ⟨i3, a1, a2⟩ := hget j f hfl
                rw [S2.info] at a1; cases a1
                simp [a2, S2.size]
              · cases hj
          · cases hj) hcs (S.zeroRel) S.zeroFlat hp
        refine ⟨_, run_build w t parts' r' ?_, .agg h2 h3⟩
        simp [Program.built, S.info, S.und, S.zero, hpl]
        simpa using h1
      · cases h
    · rename_i n e hfs
      rw [hfs] at hk
      cases d <;> simp only [mkTK, reduceCtorEq, TK.arr.injEq] at hk
      obtain ⟨rfl, rfl⟩ := hk
      split at h
      · rename_i ei hei
        obtain ⟨i2, d2, z2, S2⟩ := T.spec hei
        unfold aggV at h
        split at h
        · rename_i cs hcs
          cases h
          obtain ⟨r', h1, h2, h3⟩ := fillA_rel (ρ := ρ) (ι := ι) (places' := fun i => some (i * ei.size, ei.size)) (fun _ _ _ hj => hj) hcs (S.zeroRel) S.zeroFlat hp
          refine ⟨_, run_build w t parts' r' ?_, .agg h2 h3⟩
          simp [Program.built, S.info, S.und, S.zero, S2.info, ← S2.size]
          exact h1
        · cases h
      · cases h
    · cases h
  · cases h

theorem evParts_rel {env : Env} {a : Act} (hE : EnvRel ρ ι env a.tmps) (hg : Globs C ι) : ∀ {l : List (Nat × Operand)} {vs : List (Nat × AV)}, evParts C env l = some vs → PRel ρ ι vs (l.map fun p => (p.1, a.eval p.2)) := by
  intro l
  induction l with
  | nil => intro vs h; simp [evParts] at h; subst h; exact .nil
  | cons x l ih =>
    intro vs h
    obtain ⟨i, x⟩ := x
    simp only [evParts] at h
    split at h
    · rename_i v r hv hr; cases h; exact .cons (ev_rel hE hg hv) (ih hr)
    · cases h

/-! ### new rows of a slice -/
theorem zeros_rel {zero : List AV} {z : List Value} (hz : VRels ρ ι zero z) (hf : ∀ x ∈ zero, x.flat = true) (n : Nat) :
    Rows zero.length (List.replicate n zero) ∧ VRels ρ ι (List.replicate n zero).flatten (List.replicate n z).flatten := by
  refine ⟨⟨fun r hr => by rw [(List.mem_replicate.1 hr).2], fun r hr => by rw [(List.mem_replicate.1 hr).2]; exact hf⟩, ?_⟩
  induction n with
  | zero => exact .nil
  | succ n ih => simpa [List.replicate_succ] using hz.append ih

theorem zero_range (z : Array Value) (m : Nat) (h0 : 0 < z.size) : ((Array.range (m * z.size)).map (z[· % z.size]!)).toList = (List.replicate m z.toList).flatten := by
  apply List.ext_getElem?
  intro i
  have hl : (List.replicate m z.toList).flatten.length = m * z.size := by simp
  by_cases hi : i < m * z.size
  · have hd : i / z.size < m := by rw [Nat.div_lt_iff_lt_mul h0]; exact hi
    have hmod : i % z.size < z.size := Nat.mod_lt _ h0
    have hflat : ∀ (m : Nat) (q r : Nat), q < m → r < z.size → (List.replicate m z.toList).flatten[q * z.size + r]? = z.toList[r]? := by
      intro m
      induction m with
      | zero => intro q r hq; omega
      | succ m ih =>
        intro q r hq hr
        rw [List.replicate_succ, List.flatten_cons]
        cases q with
        | zero => rw [List.getElem?_append_left (by simp; omega)]; simp
        | succ q =>
          have : (q + 1) * z.size = q * z.size + z.size := by rw [Nat.add_mul]; omega
          rw [List.getElem?_append_right (by simp; omega)]
          simp only [Array.length_toList]
          rw [show (q + 1) * z.size + r - z.size = q * z.size + r from by omega]
          exact ih q r (by omega) hr
    have hdm : i / z.size * z.size + i % z.size = i := by rw [Nat.mul_comm]; exact Nat.div_add_mod i z.size
    rw [← hdm, hflat m _ _ hd hmod, hdm]
    simp [hi, hmod]
  · rw [List.getElem?_eq_none (l := (List.replicate m z.toList).flatten) (by rw [hl]; omega), List.getElem?_eq_none (by simp; omega)]

theorem newSlice_rel (H : HRel ρ ι s w) {e : TypeId} {sz n cap : Nat} {rows : List (List AV)} {c : Array Value} {cs : List Value} {fz : Nat × Nat} {w' : World} {e' : TypeId} (hw : w'.heap = w.heap.push (.cells c e' fz)) (hs0 : 0 < sz) (hr : Rows sz rows)
    (hv : VRels ρ ι rows.flatten cs) (hc : ∀ (j : Nat) (v : Value), cs[j]? = some v → c[j]? = some v) (hn : rows.length = n) (hcap : n ≤ cap) (hroom : cap * sz ≤ c.size) (hfz : ∀ o, o < c.size → ¬ (fz.1 ≤ o ∧ o < fz.2)) (hio : w'.os = w.os ∧ w'.output = w.output := by exact ⟨rfl, rfl⟩) :
    ∃ ι', VRel ρ ι' (.slice s.nx 0 n sz) (.slice (some ⟨w.heap.size, 0, none⟩) n cap) ∧ HRel ρ ι' (s.newRow e sz true rows) w' ∧ Keep s ι w (s.newRow e sz true rows) ι' w' := by
  have hle : rows.length * sz ≤ c.size := by
    have : rows.length * sz ≤ cap * sz := Nat.mul_le_mul_right _ (by omega)
    omega
  obtain ⟨h1, h2⟩ := H.newRow (e := e) (e' := e') (row := true) (rows := rows) (c := c) (fz := fz) hw hs0 hle hfz (Cells.of_range hr hv (by simpa using hc)) hio
  refine ⟨_, ?_, h1, h2⟩
  exact VRel.slice (g := { blk := w.heap.size, base := 0, room := c.size, esz := sz, row := true, grp := s.nx, pos := 0 }) (Inj.add_same _ _ _) hcap (.inr rfl) (fun _ => by show 0 + cap * sz ≤ c.size; omega)

theorem makeSliceA_rel (T : TabOk P C) (H : HRel ρ ι s w) {t : TypeId} {l c v : AV} {l' c' : Value} {s' : St} (h : makeSliceA C s t (some l) (some c) = some (v, s')) (hl : VRel ρ ι l l') (hc : VRel ρ ι c c') :
    ∃ v' w' ι', (Instr.makeSlice t l' c').run P w = .ok v' w' ∧ VRel ρ ι' v v' ∧ HRel ρ ι' s' w' ∧ Keep s ι w s' ι' w' := by
  unfold makeSliceA at h
  split at h
  · rename_i e ei n m he hn hm
    cases hn; cases hm
    cases hl; cases hc
    cases hb : (Nat.ble n m && Nat.ble (m * ei.bytes) maxBytes && Nat.ble m maxBytes) with
    | false => simp [hb] at h
    | true =>
      simp only [hb, cond_true, Option.some.injEq, Prod.mk.injEq] at h
      obtain ⟨rfl, rfl⟩ := h
      simp only [Bool.and_eq_true] at hb
      have b1 := Nat.le_of_ble_eq_true hb.1.1
      have b2 := Nat.le_of_ble_eq_true hb.1.2
      have b3 := Nat.le_of_ble_eq_true hb.2
      simp only [maxBytes] at b2 b3
      obtain ⟨ti, i, d, z, S, rfl, hei, hpos⟩ := elemT_spec T he
      obtain ⟨j0, d2, z2, S2⟩ := T.spec hei
      have hzs : z2.cells.size = ei.size := by
        have := (S2.zeroRel (ρ := ρ) (ι := ι)).length
        rw [S2.zlen, ← S2.size] at this; simpa using this.symm
      have wr : ∀ k : Nat, k ≤ 140737488355328 → IntKind.i64.wrap (Int.ofNat k) = (k : Int) := by
        intro k hk
        have h1 : (Int.ofNat k) % (2 ^ 64 : Int) = (k : Int) := by
          show (k : Int) % 18446744073709551616 = k
          omega
        have h2 : ¬ ((k : Int) ≥ 9223372036854775808) := by omega
        simp only [IntKind.wrap, IntKind.bits, IntKind.signed, h1]
        simp
        intro h; omega
      obtain ⟨arr, harr⟩ : ∃ arr : Array Value, arr = (Array.range (m * ei.size)).map (z2.cells[· % z2.cells.size]!) := ⟨_, rfl⟩
      have harrl : arr.toList = (List.replicate m z2.cells.toList).flatten := by rw [harr, ← hzs]; exact zero_range _ _ (by omega)
      have hsize : arr.size = m * ei.size := by rw [harr]; simp
      obtain ⟨q1, q2⟩ := zeros_rel (S2.zeroRel (ρ := ρ) (ι := ι)) S2.zeroFlat n
      rw [S2.zlen, ← S2.size] at q1
      obtain ⟨ι', r1, r2, r3⟩ := newSlice_rel (e := e) (e' := e) (cap := m) (n := n) (c := arr) (fz := (0, 0)) (w' := { w with heap := w.heap.push (.cells arr e) }) H rfl hpos q1 q2 (fun j v hj => by
        have hj2 : arr.toList[j]? = some v := by
          rw [harrl]
          have hmn : m = n + (m - n) := by omega
          rw [hmn, ← List.replicate_append_replicate, List.flatten_append]
          rw [List.getElem?_append_left (List.getElem?_eq_some_iff.1 hj).1]; exact hj
        simpa using hj2) (by simp) b1 (by omega) (by intro o _; omega)
      refine ⟨_, _, ι', ?_, r1, r2, r3⟩
      have t1 : ¬ ((m : Int) < 0) := by omega
      have t2 : ¬ ((ei.bytes : Int) * (m : Int) > 2 ^ 48) := by
        have : ((ei.bytes * m : Nat) : Int) ≤ 140737488355328 := by rw [Nat.mul_comm]; exact Int.ofNat_le.2 b2
        rw [Int.natCast_mul] at this
        have h48 : (2 ^ 48 : Int) = 281474976710656 := by decide
        omega
      have t3 : ¬ ((n : Int) < 0) := by omega
      have t4 : ¬ ((n : Int) > (m : Int)) := by omega
      have hroom : askRoom (m * ei.bytes) = pure () := by
        unfold askRoom roomBytes
        rw [if_neg (by omega)]
      have hrun : (Instr.makeSlice t (.int .i64 (.ofNat n)) (.int .i64 (.ofNat m))).run P w = .ok (.slice (some ⟨w.heap.size, 0, none⟩) n m) { w with heap := w.heap.push (.cells arr e) } := by
        unfold Instr.makeSlice
        simp only [Sem.run_bind, S.run_underlying, Result.andThen_ok, asInt, asIntOf, Sem.run_pure, S2.run_typeInfo, wr m b3, wr n (by omega), ← S2.bytes]
        simp only [t1, t2, t3, t4, decide_false, Bool.or_false, Bool.false_eq_true, if_false, Int.toNat_natCast, Sem.run_bind, hroom, Sem.run_pure, Result.andThen_ok, S2.run_sizeOf]
        by_cases hm0 : m * ei.size = 0
        · have hm1 : m = 0 := by
            rcases Nat.mul_eq_zero.1 hm0 with h | h
            · exact h
            · omega
          subst hm1
          have harr0 : arr = #[] := by
            apply Array.ext'
            rw [harrl]; simp
          simp [hm0, newRow_run, harr0, show Array.range 0 = #[] from rfl]
        · simp only [hm0, if_false, Sem.run_bind, S2.run_zeroValue, Result.andThen_ok, Sem.run_pure, ← harr, newRow_run]
      exact hrun
  · cases h
end
end Go.Ev
