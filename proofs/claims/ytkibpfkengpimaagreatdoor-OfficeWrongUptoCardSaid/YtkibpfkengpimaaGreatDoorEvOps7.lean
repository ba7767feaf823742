/-
  A part of a verified evaluator of the model's code, or of its use at this seat; see the text YtkibpfkengpimaaGreatDoorEvCard.
-/
import Derived.Test.YtkibpfkengpimaaGreatDoorEvOps6
import Derived.Laws.IdiomStrings
import Derived.Deep.Upon
namespace Go.Ev
section
variable {P : Program} {C : Ctx} {ρ : Val} {ι : Inj} {s : St} {w : World}

theorem VRels.nil_iff {l : List Value} (h : VRels ρ ι [] l) : l = [] := by cases h; rfl

/-- The cells behind a slice. -/
theorem slice_cells (H : HRel ρ ι s w) {size b o len sz cap : Nat} {xs : List (List AV)} {a : Addr} (hv : VRel ρ ι (.slice b o len sz) (.slice (some a) len cap)) (h : s.elems size b o len = some xs) :
    xs.length = len ∧ Rows size xs ∧ ∃ cs, VRels ρ ι xs.flatten cs ∧ ∀ (j : Nat) (v : Value), cs[j]? = some v → w.cell? (a.add j) = some v := by
  obtain ⟨g, hg, hl, hr, cs, h1, h2⟩ := H.elems h
  refine ⟨hl, hr, cs, h1, fun j v hj => ?_⟩
  cases hv with
  | slice hg' hlen ha hroom =>
    rw [hg] at hg'; cases hg'
    rcases ha with ha | rfl
    · have : len = 0 := by omega
      subst this
      have : xs = [] := by cases xs with
        | nil => rfl
        | cons => simp at hl
      subst this
      have := VRels.nil_iff (by simpa using h1)
      subst this
      simp at hj
    · rw [addr_add]; exact h2 j v hj

theorem isU8_spec (T : TabOk P C) {t : TypeId} (h : isU8 C t = true) : P.underlying t = some (.int .u8) := by
  unfold isU8 at h
  split at h
  · rename_i size bytes zero flat ht
    obtain ⟨i, d, z, S⟩ := T.spec ht
    have hk := S.kind
    cases d <;> simp only [mkTK, reduceCtorEq, TK.int.injEq] at hk
    subst hk
    exact S.und
  · cases h

theorem codesOf_spec : ∀ {rows : List (List AV)} {l : List Nat}, codesOf rows = some l → rows = byteCells l ∧ ∀ c ∈ l, c < 256 := by
  intro rows
  induction rows with
  | nil => intro l h; simp [codesOf] at h; subst h; exact ⟨rfl, by simp⟩
  | cons r rows ih =>
    intro l h
    unfold codesOf at h
    split at h
    · rename_i h0; cases h0
    · rename_i n r0 h0
      cases h0
      cases hb : Nat.ble n 255 with
      | false => simp [hb] at h
      | true =>
        simp only [hb, cond_true] at h
        split at h
        · rename_i m hm
          cases h
          obtain ⟨h1, h2⟩ := ih hm
          have := Nat.le_of_ble_eq_true hb
          refine ⟨by rw [h1]; rfl, fun c hc => ?_⟩
          rcases List.mem_cons.1 hc with rfl | hc
          · omega
          · exact h2 c hc
        · cases h
    · cases h
theorem byteCells_rows (l : List Nat) : Rows 1 (byteCells l) ∧ (byteCells l).length = l.length := by
  induction l with
  | nil => exact ⟨⟨by simp [byteCells], by simp [byteCells]⟩, rfl⟩
  | cons c l ih =>
    refine ⟨⟨fun r hr => ?_, fun r hr => ?_⟩, by simp [byteCells, ih.2]⟩
    · rcases List.mem_cons.1 hr with rfl | hr
      · rfl
      · exact ih.1.len r hr
    · rcases List.mem_cons.1 hr with rfl | hr
      · simp [AV.flat]
      · exact ih.1.flat r hr
/-- A row of bytes as the machine has it. -/
def byteVals (l : List Nat) : List Value := l.map fun (c : Nat) => Value.int .u8 (Int.ofNat c)
theorem byteCells_rel (l : List Nat) : VRels ρ ι (byteCells l).flatten (byteVals l) := by
  induction l with
  | nil => exact .nil
  | cons c l ih => exact .cons (.int _ _) ih
theorem byteCells_vals : ∀ {l : List Nat} {cs : List Value}, VRels ρ ι (byteCells l).flatten cs → cs = byteVals l := by
  intro l
  induction l with
  | nil => intro cs h; cases h; rfl
  | cons c l ih =>
    intro cs h
    cases h with
    | cons h hs =>
      cases h
      rw [ih hs]; rfl
theorem bytes_of_known {l : List Nat} {sb : ByteArray} (hk : known l = true) (hs : sb.data.toList = bytesOf ρ l) : sb.size = l.length ∧ sb.data.toList.map (fun b => Value.int .u8 (b.toNat : Int)) = byteVals l := by
  rw [known_bytes ρ hk] at hs
  refine ⟨by rw [ByteArray.size, ← Array.length_toList, hs, List.length_map], ?_⟩
  rw [hs, List.map_map]
  unfold byteVals
  apply List.map_congr_left
  intro c hc
  have := known_lt hk hc
  simp only [Function.comp, UInt8.toNat_ofNat']
  rw [Nat.mod_eq_of_lt (by omega)]
  rfl

theorem convA_rel (T : TabOk P C) (H : HRel ρ ι s w) {src dst : TypeId} {x v : AV} {x' : Value} {s' : St} (h : convA C src dst x s = some (v, s')) (hx : VRel ρ ι x x') :
    ∃ v' w' ι', (convert src dst x').run P w = .ok v' w' ∧ VRel ρ ι' v v' ∧ HRel ρ ι' s' w' ∧ Keep s ι w s' ι' w' := by
  unfold convA at h
  split at h
  case h_2 => cases h
  rename_i dt sc hd hsrc
  obtain ⟨i1, d1, z1, S1⟩ := T.spec hd
  obtain ⟨i2, d2, z2, S2⟩ := T.spec hsrc
  have hk1 := S1.kind
  have hk2 := S2.kind
  split at h
  · rename_i k k0 n hk
    rw [hk] at hk1
    cases h; cases hx
    cases d1 <;> simp only [mkTK, reduceCtorEq, TK.int.injEq] at hk1
    subst hk1
    rw [wrapI_eq]
    refine ⟨_, w, ι, ?_, .int _ _, H, .refl _ _ _ H.fresh⟩
    unfold convert
    rw [Sem.run_bind, S2.run_underlying, Result.andThen_ok, Sem.run_bind, S1.run_underlying, Result.andThen_ok]
    rfl
  · rename_i k k0 l hk
    rw [hk] at hk1
    split at h
    · rename_i r hr
      cases h
      cases hx with
      | oneOf _ _ n hn =>
        obtain ⟨r, h3, h4⟩ := joinA_mem (ρ := ρ) (ι := ι) hr (List.mem_map_of_mem hn)
        cases h3
        cases d1 <;> simp only [mkTK, reduceCtorEq, TK.int.injEq] at hk1
        subst hk1
        refine ⟨_, w, ι, ?_, h4 _ (.int _ _), H, .refl _ _ _ H.fresh⟩
        rw [wrapI_eq]
        unfold convert
        rw [Sem.run_bind, S2.run_underlying, Result.andThen_ok, Sem.run_bind, S1.run_underlying, Result.andThen_ok]
        rfl
    · cases h
  · rename_i l hk
    rw [hk] at hk1
    cases h
    cases hx with
    | str _ sb hs =>
      cases d1 <;> simp only [mkTK, reduceCtorEq] at hk1
      refine ⟨_, w, ι, ?_, .str _ _ hs, H, .refl _ _ _ H.fresh⟩
      unfold convert
      rw [Sem.run_bind, S2.run_underlying, Result.andThen_ok, Sem.run_bind, S1.run_underlying, Result.andThen_ok]
      rfl
  · rename_i e hk hks
    rw [hk] at hk1
    rw [hks] at hk2
    cases hx
    cases d1 <;> simp only [mkTK, reduceCtorEq] at hk1
    cases d2 <;> simp only [mkTK, reduceCtorEq, TK.slice.injEq] at hk2
    subst hk2
    cases hb : isU8 C e with
    | false => simp [hb] at h
    | true =>
      simp only [hb, cond_true, Option.some.injEq, Prod.mk.injEq] at h
      obtain ⟨rfl, rfl⟩ := h
      refine ⟨.string .empty, w, ι, ?_, .str _ _ rfl, H, .refl _ _ _ H.fresh⟩
      unfold convert
      rw [Sem.run_bind, S2.run_underlying, Result.andThen_ok, Sem.run_bind, S1.run_underlying, Result.andThen_ok]
      simp [run_underlying (isU8_spec T hb), Conv.bytesToString]
  · rename_i b o len k e hk hks
    rw [hk] at hk1
    rw [hks] at hk2
    cases d1 <;> simp only [mkTK, reduceCtorEq] at hk1
    cases d2 <;> simp only [mkTK, reduceCtorEq, TK.slice.injEq] at hk2
    subst hk2
    cases hb : isU8 C e with
    | false => simp [hb] at h
    | true =>
      simp only [hb, cond_true] at h
      split at h
      · rename_i rows hrows
        split at h
        · rename_i l hl
          cases h
          obtain ⟨rfl, hlt⟩ := codesOf_spec hl
          have hx0 := hx
          cases hx with
          | @slice _ g _ _ _ cap a hg hlen ha hroom =>
            obtain ⟨q1, q2, cs, q3, q4⟩ := slice_cells H hx0 hrows
            have hcs := byteCells_vals q3
            have hk := known_all hlt
            have hload := run_loadCells_list (P := P) w a cs q4
            have hlen2 : cs.length = len := by rw [hcs, byteVals, List.length_map, ← (byteCells_rows l).2, q1]
            rw [hlen2] at hload
            have hns : cs = (l.map fun (c : Nat) => Int.ofNat c).map (Value.int .u8) := by rw [hcs, byteVals, List.map_map]; rfl
            rw [hns] at hload
            refine ⟨.string ((l.map fun (c : Nat) => Int.ofNat c).foldl (fun r n => r.push (UInt8.ofNat n.toNat)) ByteArray.empty), w, ι, ?_, .str _ _ ?_, H, .refl _ _ _ H.fresh⟩
            · rw [run_convert_bytes_string w src dst e (some a) len cap S2.und (isU8_spec T hb) S1.und]
              exact run_bytesToString w a len cap _ hload
            · have := foldl_push_byteCells (l.map UInt8.ofNat) ByteArray.empty
              rw [List.map_map] at this
              have hmap : l.map ((fun b : UInt8 => (b.toNat : Int)) ∘ UInt8.ofNat) = l.map fun (c : Nat) => Int.ofNat c := by
                apply List.map_congr_left
                intro c hc
                have := hlt c hc
                simp only [Function.comp, UInt8.toNat_ofNat']
                rw [Nat.mod_eq_of_lt (by omega)]
                rfl
              rw [hmap] at this
              rw [this, known_bytes ρ hk]
              simp
        · cases h
      · cases h
  · rename_i e l hk hks
    rw [hk] at hk1
    rw [hks] at hk2
    cases d1 <;> simp only [mkTK, reduceCtorEq, TK.slice.injEq] at hk1
    cases d2 <;> simp only [mkTK, reduceCtorEq] at hk2
    subst hk1
    cases hb : (isU8 C e && known l) with
    | false => simp [hb] at h
    | true =>
      simp only [hb, cond_true, Option.some.injEq, Prod.mk.injEq] at h
      obtain ⟨rfl, rfl⟩ := h
      simp only [Bool.and_eq_true] at hb
      cases hx with
      | str _ sb hs =>
        obtain ⟨p1, p2⟩ := bytes_of_known hb.2 hs
        have hrun := run_bytes_of_string (P := P) w src dst e sb S2.und S1.und (isU8_spec T hb.1)
        have hge : sb.size ≤ grownCap w sb.size 0 e := by
          have := grownCap_ge w sb.size 0 e; omega
        have hbl : (bytesRow sb (grownCap w sb.size 0 e)).toList = byteVals l ++ List.replicate (grownCap w sb.size 0 e - sb.size) (.int .u8 0) := by
          unfold bytesRow
          rw [Array.toList_append, Array.toList_map, p2, Array.toList_replicate]
        have hbs : (bytesRow sb (grownCap w sb.size 0 e)).size = grownCap w sb.size 0 e := by
          rw [← Array.length_toList, hbl]
          simp [byteVals]
          omega
        obtain ⟨r1, r2⟩ := byteCells_rows l
        obtain ⟨ι', n1, n2, n3⟩ := newSlice_rel (e := e) (e' := e) (cap := grownCap w sb.size 0 e) (n := sb.size) (c := bytesRow sb (grownCap w sb.size 0 e)) (fz := ((bytesRow sb (grownCap w sb.size 0 e)).size, (bytesRow sb (grownCap w sb.size 0 e)).size + 1))
          (w' := w.drew.alloc (.cells (bytesRow sb (grownCap w sb.size 0 e)) e ((bytesRow sb (grownCap w sb.size 0 e)).size, (bytesRow sb (grownCap w sb.size 0 e)).size + 1))) H rfl (Nat.lt_succ_self 0) r1 (byteCells_rel l) (fun j v hj => by
            rw [← Array.getElem?_toList, hbl, List.getElem?_append_left (List.getElem?_eq_some_iff.1 hj).1]; exact hj) (r2.trans p1.symm) (by omega) (by omega) (by intro o ho; omega)
        exact ⟨_, _, ι', hrun, by rw [← p1]; exact n1, n2, n3⟩
  · cases h

/-! ### len -/
theorem arrLen_rel (T : TabOk P C) {t : TypeId} {v : AV} (h : arrLen C t = some v) (ty : TypeId) (ts : List TypeId) (x : Value) (w : World) :
    ∃ v', (Builtin.len_ (t :: ts).toArray ty #[x]).run P w = .ok v' w ∧ VRel ρ ι v v' := by
  unfold arrLen at h
  split at h
  · rename_i n e size bytes zero flat ht
    cases h
    obtain ⟨i, d, z, S⟩ := T.spec ht
    have hk := S.kind
    cases d <;> simp only [mkTK, reduceCtorEq, TK.arr.injEq] at hk
    obtain ⟨rfl, rfl⟩ := hk
    exact ⟨_, by simp [Builtin.len_, S.run_underlying]; rfl, .int _ _⟩
  · rename_i e size bytes zero flat ht
    obtain ⟨i, d, z, S⟩ := T.spec ht
    have hk := S.kind
    cases d <;> simp only [mkTK, reduceCtorEq, TK.ptr.injEq] at hk
    subst hk
    split at h
    · rename_i n e size bytes zero flat ht2
      cases h
      obtain ⟨i2, d2, z2, S2⟩ := T.spec ht2
      have hk2 := S2.kind
      cases d2 <;> simp only [mkTK, reduceCtorEq, TK.arr.injEq] at hk2
      obtain ⟨rfl, rfl⟩ := hk2
      exact ⟨_, by simp [Builtin.len_, S.run_underlying, S2.run_underlying]; rfl, .int _ _⟩
    · cases h
  · cases h

theorem MRel.length {l : List (AV × AV × Nat)} {l' : List MapEntry} (h : MRel ρ ι l l') : l.length = l'.length := by
  induction h with
  | nil => rfl
  | cons _ _ _ _ ih => simp [ih]

theorem ilen_rel (T : TabOk P C) (H : HRel ρ ι s w) {t : TypeId} {x v : AV} {x' : Value} (h : ilen C t x s = some v) (hx : VRel ρ ι x x') (ty : TypeId) (ts : List TypeId) :
    ∃ v', (Builtin.len_ (t :: ts).toArray ty #[x']).run P w = .ok v' w ∧ VRel ρ ι v v' := by
  unfold ilen at h
  split at h
  · rename_i l
    cases hb : (isStrT C t && known l) with
    | false => simp [hb] at h
    | true =>
      simp only [hb, cond_true, Option.some.injEq] at h
      subst h
      simp only [Bool.and_eq_true] at hb
      cases hx with
      | str _ sb hs =>
        have := (bytes_of_known hb.2 hs).1
        refine ⟨goInt sb.size, by simp [Builtin.len_, run_underlying (isStrT_spec T hb.1)], ?_⟩
        rw [this]; exact .int _ _
  · rename_i b o n k
    cases hb : isSliceT C t with
    | false => simp [hb] at h
    | true =>
      simp only [hb, cond_true, Option.some.injEq] at h
      subst h
      obtain ⟨e, hu⟩ := isSliceT_spec T hb
      cases hx
      exact ⟨_, by simp [Builtin.len_, run_underlying hu]; rfl, .int _ _⟩
  · cases hb : isSliceT C t with
    | false => simp [hb] at h
    | true =>
      simp only [hb, cond_true, Option.some.injEq] at h
      subst h
      obtain ⟨e, hu⟩ := isSliceT_spec T hb
      cases hx
      exact ⟨_, by simp [Builtin.len_, run_underlying hu]; rfl, .int _ _⟩
  · cases hb : isMapT C t with
    | false => simp [hb] at h
    | true =>
      simp only [hb, cond_true, Option.some.injEq] at h
      subst h
      obtain ⟨e, e2, hu⟩ := isMapT_spec T hb
      cases hx
      exact ⟨_, by simp [Builtin.len_, run_underlying hu]; rfl, .int _ _⟩
  · rename_i m
    cases hb : isMapT C t with
    | false => simp [hb] at h
    | true =>
      simp only [hb, cond_true] at h
      split at h
      · rename_i es cl hm
        cases h
        obtain ⟨e, e2, hu⟩ := isMapT_spec T hb
        obtain ⟨g, hg, hk⟩ := H.blk _ _ hm
        cases hk with
        | map hh hmr =>
          cases hx with
          | map hg' =>
            rw [hg] at hg'; cases hg'
            have hl := hmr.length
            refine ⟨_, by simp [Builtin.len_, run_underlying hu, MapKept.run_getObj_map hh]; rfl, ?_⟩
            rw [hl, Array.length_toList]
            exact .int _ _
      · cases h
  · exact arrLen_rel T h ty ts x' w

/-! ### slices built -/
theorem flatten_set {sz : Nat} : ∀ {rows : List (List AV)} {i : Nat} {vs : List AV}, (∀ r ∈ rows, r.length = sz) → vs.length = sz → i < rows.length → (rows.set i vs).flatten = rows.flatten.take (i * sz) ++ vs ++ rows.flatten.drop (i * sz + sz) := by
  intro rows
  induction rows with
  | nil => intro i vs _ _ h; simp at h
  | cons r rows ih =>
    intro i vs hr hv hi
    have h0 := hr r (by simp)
    cases i with
    | zero =>
      simp only [List.set_cons_zero, List.flatten_cons, Nat.zero_mul, List.take_zero, List.nil_append, Nat.zero_add]
      rw [← h0, List.drop_left]
    | succ i =>
      simp only [List.set_cons_succ, List.flatten_cons]
      rw [ih (fun x hx => hr x (by simp [hx])) hv (by simpa using hi)]
      have hm : (i + 1) * sz = r.length + i * sz := by rw [Nat.add_mul]; omega
      rw [hm, List.take_length_add_append, show r.length + i * sz + sz = r.length + (i * sz + sz) from by omega, List.drop_length_add_append]
      simp only [List.append_assoc]

theorem fillRows_rel {sz : Nat} : ∀ {parts : List (Nat × AV)} {rows rows' : List (List AV)} {parts' : List (Nat × Value)} {cs : Array Value}, fillRows sz rows parts = some rows' → VRels ρ ι rows.flatten cs.toList → Rows sz rows → PRel ρ ι parts parts' →
      ∃ cs', Instr.fill (fun i => some (i * sz, sz)) cs parts' = some cs' ∧ VRels ρ ι rows'.flatten cs'.toList ∧ Rows sz rows' ∧ rows'.length = rows.length := by
  intro parts
  induction parts with
  | nil =>
    intro rows rows' parts' cs h hc hr hp
    cases hp
    simp [fillRows] at h
    subst h
    exact ⟨cs, rfl, hc, hr, rfl⟩
  | cons p parts ih =>
    intro rows rows' parts' cs h hc hr hps
    cases hps with
    | @cons i v v' _ l' hv hs =>
      simp only [fillRows] at h
      split at h
      · rename_i vs hvs
        cases hb : Nat.beq vs.length sz with
        | false => simp [hb] at h
        | true =>
          simp only [hb, cond_true] at h
          split at h
          · rename_i rows2 hset
            obtain ⟨hvc, hvf⟩ := AV.cells_rel hvs hv
            have hn := Nat.eq_of_beq_eq_true hb
            obtain ⟨hlt, rfl⟩ := setNth_eq _ _ _ _ hset
            have hl1 := hc.length
            have hl2 := hvc.length
            have hfl := flatten_length hr.len
            have hsz : v'.cells.size = sz := by simp at hl2; omega
            have hmul : i * sz + sz ≤ rows.length * sz := by
              have : (i + 1) * sz ≤ rows.length * sz := Nat.mul_le_mul_right _ hlt
              rw [Nat.add_mul] at this; omega
            have hroom : i * sz + v'.cells.size ≤ cs.size := by simp at hl1; simp only [← List.length_flatten] at hl1; omega
            obtain ⟨arr, harr⟩ : ∃ arr : Array Value, arr = v'.cells.zipIdx.foldl (fun cs (c, j) => cs.setIfInBounds (i * sz + j) c) cs := ⟨_, rfl⟩
            have harrl : arr.toList = cs.toList.take (i * sz) ++ v'.cells.toList ++ cs.toList.drop (i * sz + v'.cells.toList.length) := by
              have := foldl_set (i * sz) v'.cells.toList 0 cs (by simpa using hroom)
              rw [harr, ← Array.foldl_toList]
              simpa using this
            have hr2 : Rows sz (rows.set i vs) := by
              refine ⟨fun r hr' => ?_, fun r hr' => ?_⟩
              · rcases List.mem_or_eq_of_mem_set hr' with h | h
                · exact hr.len r h
                · subst h; exact hn
              · rcases List.mem_or_eq_of_mem_set hr' with h | h
                · exact hr.flat r h
                · subst h; exact hvf
            obtain ⟨cs', h1, h2, h3, h4⟩ := ih (cs := arr) h (by
              rw [harrl, flatten_set hr.len hn hlt, Array.length_toList, hsz]
              exact ((hc.take _).append hvc).append (hc.drop _)) hr2 hs
            refine ⟨cs', ?_, h2, h3, by simpa using h4⟩
            simp only [Instr.fill]
            rw [if_neg (by simp; omega), ← harr]
            exact h1
          · cases h
      · cases h

theorem buildSliceA_rel (T : TabOk P C) (H : HRel ρ ι s w) {t : TypeId} {len : Nat} {ps : List (Nat × AV)} {ps' : Array (Nat × Value)} {v : AV} {s' : St} (h : buildSliceA C s t len (some ps) = some (v, s')) (hp : PRel ρ ι ps ps'.toList) :
    ∃ v' w' ι', (Instr.buildSlice t len ps').run P w = .ok v' w' ∧ VRel ρ ι' v v' ∧ HRel ρ ι' s' w' ∧ Keep s ι w s' ι' w' := by
  unfold buildSliceA at h
  split at h
  · rename_i e ei ps0 he hps0
    cases hps0
    cases hb : Nat.ble (len * ei.size) 16777216 with
    | false => simp [hb] at h
    | true =>
      simp only [hb, cond_true] at h
      split at h
      · rename_i rows hrows
        simp only [Option.some.injEq, Prod.mk.injEq] at h
        obtain ⟨rfl, rfl⟩ := h
        have hle := Nat.le_of_ble_eq_true hb
        obtain ⟨ti, i, d, z, S, rfl, hei, hpos⟩ := elemT_spec T he
        obtain ⟨j0, d2, z2, S2⟩ := T.spec hei
        have hzs : z2.cells.size = ei.size := by
          have := (S2.zeroRel (ρ := ρ) (ι := ι)).length
          rw [S2.zlen, ← S2.size] at this; simpa using this.symm
        obtain ⟨q1, q2⟩ := zeros_rel (S2.zeroRel (ρ := ρ) (ι := ι)) S2.zeroFlat len
        rw [S2.zlen, ← S2.size] at q1
        obtain ⟨zs, hzs0, hzs1⟩ : ∃ zs : Array Value, ((len * ei.size = 0 ∧ zs = #[]) ∨ (len * ei.size ≠ 0 ∧ zs = z2.cells)) ∧
            ((Array.range (len * ei.size)).map (zs[· % zs.size]!)).toList = (List.replicate len z2.cells.toList).flatten := by
          by_cases h0 : len * ei.size = 0
          · have hl0 : len = 0 := by
              rcases Nat.mul_eq_zero.1 h0 with h | h
              · exact h
              · omega
            subst hl0
            exact ⟨#[], .inl ⟨h0, rfl⟩, by simp⟩
          · refine ⟨z2.cells, .inr ⟨h0, rfl⟩, ?_⟩
            have := zero_range z2.cells len (by omega)
            rw [hzs] at this ⊢
            exact this
        obtain ⟨arr, harr⟩ : ∃ arr : Array Value, arr = (Array.range (len * ei.size)).map (zs[· % zs.size]!) := ⟨_, rfl⟩
        rw [← harr] at hzs1
        obtain ⟨cs', f1, f2, f3, f4⟩ := fillRows_rel (cs := arr) hrows (by rw [hzs1]; exact q2) q1 hp
        have hcl : cs'.size = len * ei.size := by
          have := f2.length
          rw [flatten_length f3.len, f4] at this
          simp at this
          exact this.symm
        obtain ⟨ι', n1, n2, n3⟩ := newSlice_rel (e := e) (e' := e) (cap := len) (n := len) (c := cs') (fz := (0, 0)) (w' := { w with heap := w.heap.push (.cells cs' e) }) H rfl hpos f3 f2 (fun j v hj => by simpa using hj) (by rw [f4]; simp) (Nat.le_refl _) (by omega) (by intro o _; omega)
        refine ⟨_, _, ι', ?_, n1, n2, n3⟩
        have h24 : ¬ (len * ei.size > 2 ^ 24) := by omega
        unfold Instr.buildSlice
        rcases hzs0 with ⟨h0, rfl⟩ | ⟨h0, rfl⟩
        · simp only [Sem.run_bind, S.run_underlying, Result.andThen_ok, S2.run_sizeOf, h24, if_false]
          rw [if_pos h0]
          simp only [Sem.run_bind, Result.andThen_ok, Sem.run_pure, ← harr, f1, newRow_run]
        · simp only [Sem.run_bind, S.run_underlying, Result.andThen_ok, S2.run_sizeOf, h24, if_false]
          rw [if_neg h0]
          simp only [Sem.run_bind, Result.andThen_ok, Sem.run_pure, S2.run_zeroValue, ← harr, f1, newRow_run]
      · cases h
  · cases h

/-! ### maps made, strings ranged over, nil checks -/
theorem keyOk_spec (T : TabOk P C) {t : TypeId} {ki ei : TI} (h : keyOk C t = some (ki, ei)) : ∃ k e, P.underlying t = some (.map k e) ∧ C.types.get k = some ki ∧ C.types.get e = some ei := by
  unfold keyOk at h
  split at h
  · rename_i k e size bytes zero flat ht
    obtain ⟨i, d, z, S⟩ := T.spec ht
    have hk := S.kind
    cases d <;> simp only [mkTK, reduceCtorEq, TK.map.injEq] at hk
    obtain ⟨rfl, rfl⟩ := hk
    split at h
    · rename_i ki0 ei0 h1 h2
      cases h
      exact ⟨_, _, S.und, h1, h2⟩
    · cases h
  · cases h

theorem newMap_rel (H : HRel ρ ι s w) : ∃ w' ι', (newObj (.map #[] 0)).run P w = .ok w.heap.size w' ∧ VRel ρ ι' (.map s.nx) (.map (some w.heap.size)) ∧ HRel ρ ι' (s.newObj (.map [] 0)) w' ∧ Keep s ι w (s.newObj (.map [] 0)) ι' w' := by
  obtain ⟨h1, h2⟩ := H.newObj (k := .map [] 0) rfl (o := .map #[] 0) (w' := { w with heap := w.heap.push (.map #[] 0) }) rfl { blk := w.heap.size, base := 0, room := 0, esz := 0, row := false, grp := 0, pos := 0 } rfl (.map (by exact push_new _ _) .nil)
  exact ⟨_, _, by simp [newObj, Sem.run], .map (Inj.add_same _ _ _), h1, h2⟩

theorem makeMapA_rel (T : TabOk P C) (H : HRel ρ ι s w) {t : TypeId} {r : Option AV} {r' : Option Value} {v : AV} {s' : St} (h : makeMapA C s t (some r) = some (v, s')) (hr : ORel ρ ι r r') :
    ∃ v' w' ι', (Instr.makeMap t r').run P w = .ok v' w' ∧ VRel ρ ι' v v' ∧ HRel ρ ι' s' w' ∧ Keep s ι w s' ι' w' := by
  unfold makeMapA at h
  obtain ⟨w', ι', h1, h2, h3, h4⟩ := newMap_rel (P := P) H
  split at h
  · rename_i p hk hr0
    cases hr0; cases hr
    cases h
    exact ⟨_, w', ι', by simp [Instr.makeMap, h1], h2, h3, h4⟩
  · rename_i p k n hk hr0
    cases hr0
    cases hr with
    | some hv =>
      cases hv
      cases h
      obtain ⟨ki, ei⟩ := p
      obtain ⟨k, e, hu, _, _⟩ := keyOk_spec T hk
      exact ⟨_, w', ι', by simp [Instr.makeMap, run_underlying hu, asInt, asIntOf, h1], h2, h3, h4⟩
  · cases h

theorem nilCheckA_rel {x v : AV} {x' : Value} (h : nilCheckA (some x) = some v) (hx : VRel ρ ι x x') : VRel ρ ι v x' ∧ (x' ≠ .pointer none ∧ x' ≠ .nilIface ∧ x' ≠ .nilFunc ∧ ∀ n a b, x' ≠ .func (.method n) a b) := by
  unfold nilCheckA at h
  split at h
  · rename_i v0 h0
    cases h0
    split at h
    · cases h; cases hx with | ptr _ hg => exact ⟨.ptr _ hg, by simp⟩
    · cases h; cases hx with | slice a b c d => exact ⟨.slice a b c d, by simp⟩
    · cases h; cases hx with | map a => exact ⟨.map a, by simp⟩
    · cases h; cases hx with | iface _ a => exact ⟨.iface _ a, by simp⟩
    · cases h
      cases hx with
      | func hf ha hc =>
        cases hf
        exact ⟨.func (.func _) ha hc, by simp⟩
    · cases h
  · cases h

theorem rangeA_rel (T : TabOk P C) (H : HRel ρ ι s w) {t : TypeId} {x v : AV} {x' : Value} {s' : St} (h : rangeA C s t (some x) = some (v, s')) (hx : VRel ρ ι x x') :
    ∃ v' w' ι', (Instr.range t x').run P w = .ok v' w' ∧ VRel ρ ι' v v' ∧ HRel ρ ι' s' w' ∧ Keep s ι w s' ι' w' := by
  unfold rangeA at h
  split at h
  · rename_i l size bytes zero flat h0 ht
    cases h0
    obtain ⟨i, d, z, S⟩ := T.spec ht
    have hk := S.kind
    cases d <;> simp only [mkTK, reduceCtorEq] at hk
    cases hb : known l with
    | false => simp [hb] at h
    | true =>
      simp only [hb, cond_true, Option.some.injEq, Prod.mk.injEq] at h
      obtain ⟨rfl, rfl⟩ := h
      cases hx with
      | str _ sb hs =>
        obtain ⟨h1, h2⟩ := H.newObj (k := .siter l 0) rfl (o := .stringIter sb 0) (w' := { w with heap := w.heap.push (.stringIter sb 0) }) rfl { blk := w.heap.size, base := 0, room := 0, esz := 0, row := false, grp := 0, pos := 0 } rfl
          (.siter (by exact push_new _ _) hs hb rfl)
        refine ⟨_, _, _, ?_, VRel.ptr (g := { blk := w.heap.size, base := 0, room := 0, esz := 0, row := false, grp := 0, pos := 0 }) 0 (Inj.add_same _ _ _), h1, h2⟩
        simp [Instr.range, S.run_underlying, newObj, Sem.run]
  · cases h

theorem nextA_rel (H : HRel ρ ι s w) {x v : AV} {x' : Value} {s' : St} (h : nextA s (some x) = some (v, s')) (hx : VRel ρ ι x x') (ty : TypeId) :
    ∃ v' w', (Instr.next x' true ty).run P w = .ok v' w' ∧ VRel ρ ι v v' ∧ HRel ρ ι s' w' ∧ Keep s ι w s' ι w' := by
  unfold nextA at h
  split at h
  · rename_i b h0
    cases h0
    split at h
    · rename_i l pos hb
      obtain ⟨g, hg, hk⟩ := H.blk _ _ hb
      cases hk with
      | @siter _ _ sb hh hs hkn hbase =>
        cases hx with
        | ptr _ hg' =>
          rw [hg] at hg'; cases hg'
          obtain ⟨hsz, _⟩ := bytes_of_known hkn hs
          have hget : (getObj g.blk).run P w = .ok (.stringIter sb pos) w := by simp [getObj, Sem.run, hh]
          rw [nth_eq] at h
          split at h
          · rename_i hn
            cases h
            have hn2 : ¬ (pos < sb.size) := by
              rw [hsz]
              intro hlt
              rw [List.getElem?_eq_getElem hlt] at hn
              cases hn
            refine ⟨.tuple #[.bool false], w, ?_, .tuple (.cons (.bool _) .nil), H, .refl _ _ _ H.fresh⟩
            simp [Instr.next, hbase, hget, hn2]
          · rename_i c hn
            cases hc : Nat.ble c 127 with
            | false => simp [hc] at h
            | true =>
              simp only [hc, cond_true] at h
              split at h
              · rename_i s2 hset
                cases h
                have hlt : pos < l.length := (List.getElem?_eq_some_iff.1 hn).1
                have hc := Nat.le_of_ble_eq_true hc
                have hbyte : (sb.get! pos).toNat = c := by
                  have h1 : sb.data.toList[pos]? = some (UInt8.ofNat c) := by rw [hs, known_bytes ρ hkn, List.getElem?_map, hn]; rfl
                  have h2 : sb.data[pos]? = some (UInt8.ofNat c) := by simpa using h1
                  have h3 : sb.get! pos = UInt8.ofNat c := by
                    show sb.data[pos]! = _
                    rw [getElem!_def, h2]
                  rw [h3, UInt8.toNat_ofNat', Nat.mod_eq_of_lt (by omega)]
                have hdec : Utf8.decode sb pos = (c, 1) := by
                  unfold Utf8.decode
                  simp only [Nat.add_zero, hbyte]
                  rw [if_pos (by omega)]
                have hsize : g.blk < w.heap.size := H.tgt _ _ hg
                obtain ⟨h1, h2⟩ := H.setObj hb rfl rfl hset hg (w' := { w with heap := w.heap.setIfInBounds g.blk (.stringIter sb (pos + 1)) }) (by simp) (fun B hB => by simp [Ne.symm hB]) (.siter (by simp [hsize]) hs hkn hbase)
                refine ⟨.tuple #[.bool true, goInt pos, .int .i32 c], _, ?_, .tuple (.cons (.bool _) (.cons (.int _ _) (.cons (.int _ _) .nil))), h1, h2⟩
                have hsetrun : (setObj g.blk (.stringIter sb (pos + 1))).run P w = .ok () { w with heap := w.heap.setIfInBounds g.blk (.stringIter sb (pos + 1)) } := by
                  simp [setObj, Sem.run, hh]
                simp [Instr.next, hbase, hget, hsz, hlt, hdec, hsetrun]
              · cases h
    · cases h
  · cases h
end
end Go.Ev
