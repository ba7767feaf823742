/-
  A part of a verified evaluator of the model's code, or of its use at this seat; see the text YtkibpfkengpimaaGreatDoorEvCard.
-/
import Derived.Test.YtkibpfkengpimaaGreatDoorEvTr
import Derived.CallsIn
namespace Go.Ev

/-! ### how abstract memory lies in the machine's -/
/-- Where an abstract block lies: the block, the first cell, how many cells it may use; its elements' size; whether it is a slice's row; its group, its place in it. -/
structure Tgt where
  blk : Nat
  base : Nat
  room : Nat
  esz : Nat
  row : Bool
  grp : Nat
  pos : Nat

abbrev Inj := Nat → Option Tgt
/-- What the unknown strings are. -/
abbrev Val := Nat → List UInt8

def bytesOf (ρ : Val) : List Nat → List UInt8
  | [] => []
  | c :: r => (if c < 256 then [UInt8.ofNat c] else ρ (c - 256)) ++ bytesOf ρ r

inductive FnRel (ι : Inj) : Fn → Fn → Prop
  | func (f : FuncId) : FnRel ι (.func f) (.func f)
  | yield {l : Nat} {g : Tgt} (h : ι l = some g) : FnRel ι (.yield l) (.yield g.blk)

mutual
inductive VRel (ρ : Val) (ι : Inj) : AV → Value → Prop
  | bool (b : Bool) : VRel ρ ι (.bool b) (.bool b)
  | int (k : IntKind) (n : Int) : VRel ρ ι (.int k n) (.int k n)
  | str (l : List Nat) (s : ByteArray) (h : s.data.toList = bytesOf ρ l) : VRel ρ ι (.str l) (.string s)
  | ptr {b : Nat} {g : Tgt} (o : Nat) (h : ι b = some g) : VRel ρ ι (.ptr b o) (.pointer (some ⟨g.blk, g.base + o, none⟩))
  | nilPtr : VRel ρ ι .nilPtr (.pointer none)
  | slice {b : Nat} {g : Tgt} {o len sz cap : Nat} {a : Addr} (h : ι b = some g) (hlen : len ≤ cap) (ha : cap = 0 ∨ a = ⟨g.blk, g.base + o, none⟩)
      (hroom : g.row = true → o + cap * sz ≤ g.room) : VRel ρ ι (.slice b o len sz) (.slice (some a) len cap)
  | nilSlice : VRel ρ ι .nilSlice (.slice none 0 0)
  | map {m : Nat} {g : Tgt} (h : ι m = some g) : VRel ρ ι (.map m) (.map (some g.blk))
  | nilMap : VRel ρ ι .nilMap (.map none)
  | func {fn fn' : Fn} {a c : List AV} {a' c' : Array Value} (h : FnRel ι fn fn') (ha : VRels ρ ι a a'.toList) (hc : VRels ρ ι c c'.toList) : VRel ρ ι (.func fn a c) (.func fn' a' c')
  | nilFunc : VRel ρ ι .nilFunc .nilFunc
  | iface (t : TypeId) {v : AV} {v' : Value} (h : VRel ρ ι v v') : VRel ρ ι (.iface t v) (.iface t v')
  | nilIface : VRel ρ ι .nilIface .nilIface
  | agg {cs : List AV} {cs' : Array Value} (h : VRels ρ ι cs cs'.toList) (hf : ∀ v ∈ cs, v.flat = true) : VRel ρ ι (.agg cs) (.agg cs')
  | tuple {vs : List AV} {vs' : Array Value} (h : VRels ρ ι vs vs'.toList) : VRel ρ ι (.tuple vs) (.tuple vs')
  | oneOf (k : IntKind) (l : List Int) (n : Int) (h : n ∈ l) : VRel ρ ι (.oneOf k l) (.int k n)
inductive VRels (ρ : Val) (ι : Inj) : List AV → List Value → Prop
  | nil : VRels ρ ι [] []
  | cons {v : AV} {v' : Value} {vs : List AV} {vs' : List Value} (h : VRel ρ ι v v') (hs : VRels ρ ι vs vs') : VRels ρ ι (v :: vs) (v' :: vs')
end

/-- One memory map goes on from another. -/
def Inj.le (ι ι' : Inj) : Prop := ∀ b g, ι b = some g → ι' b = some g
theorem Inj.le.refl (ι : Inj) : ι.le ι := fun _ _ h => h
theorem Inj.le.trans {a b c : Inj} (h : a.le b) (h' : b.le c) : a.le c := fun _ _ x => h' _ _ (h _ _ x)

theorem FnRel.le {ι ι' : Inj} (hι : ι.le ι') {f f' : Fn} (h : FnRel ι f f') : FnRel ι' f f' := by
  cases h with
  | func f => exact .func f
  | yield h => exact .yield (hι _ _ h)
mutual
theorem VRel.le {ρ : Val} {ι ι' : Inj} (hι : ι.le ι') {v : AV} {v' : Value} (h : VRel ρ ι v v') : VRel ρ ι' v v' := by
  cases h with
  | bool b => exact .bool b
  | int k n => exact .int k n
  | str l s h => exact .str l s h
  | ptr o h => exact .ptr o (hι _ _ h)
  | nilPtr => exact .nilPtr
  | slice h hl ha hr => exact .slice (hι _ _ h) hl ha hr
  | nilSlice => exact .nilSlice
  | map h => exact .map (hι _ _ h)
  | nilMap => exact .nilMap
  | func h ha hc => exact .func (h.le hι) (VRels.le hι ha) (VRels.le hι hc)
  | nilFunc => exact .nilFunc
  | iface t h => exact .iface t (VRel.le hι h)
  | nilIface => exact .nilIface
  | agg h hf => exact .agg (VRels.le hι h) hf
  | tuple h => exact .tuple (VRels.le hι h)
  | oneOf k l n h => exact .oneOf k l n h
theorem VRels.le {ρ : Val} {ι ι' : Inj} (hι : ι.le ι') {v : List AV} {v' : List Value} (h : VRels ρ ι v v') : VRels ρ ι' v v' := by
  cases h with
  | nil => exact .nil
  | cons h hs => exact .cons (VRel.le hι h) (VRels.le hι hs)
end

section lists
variable {ρ : Val} {ι : Inj}
theorem VRels.length {l : List AV} {l' : List Value} (h : VRels ρ ι l l') : l.length = l'.length := by
  induction l generalizing l' with
  | nil => cases h; rfl
  | cons v l ih => cases h with | cons h hs => simp [ih hs]
theorem VRels.get {l : List AV} {l' : List Value} (h : VRels ρ ι l l') {i : Nat} {v : AV} (hv : l[i]? = some v) : ∃ v', l'[i]? = some v' ∧ VRel ρ ι v v' := by
  induction l generalizing l' i with
  | nil => simp at hv
  | cons x l ih =>
    cases h with
    | cons h hs =>
      cases i with
      | zero => simp at hv; subst hv; exact ⟨_, rfl, h⟩
      | succ i => simp at hv; simpa using ih hs hv
theorem VRels.append {a b : List AV} {a' b' : List Value} (h : VRels ρ ι a a') (h' : VRels ρ ι b b') : VRels ρ ι (a ++ b) (a' ++ b') := by
  induction a generalizing a' with
  | nil => cases h; exact h'
  | cons v a ih => cases h with | cons h hs => exact .cons h (ih hs)
theorem VRels.drop {l : List AV} {l' : List Value} (h : VRels ρ ι l l') (n : Nat) : VRels ρ ι (l.drop n) (l'.drop n) := by
  induction n generalizing l l' with
  | zero => simpa using h
  | succ n ih => cases h with
    | nil => simpa using VRels.nil
    | cons h hs => simpa using ih hs
theorem VRels.take {l : List AV} {l' : List Value} (h : VRels ρ ι l l') (n : Nat) : VRels ρ ι (l.take n) (l'.take n) := by
  induction n generalizing l l' with
  | zero => simpa using VRels.nil
  | succ n ih => cases h with
    | nil => simpa using VRels.nil
    | cons h hs => simpa using VRels.cons h (ih hs)
/-- Out of the cells one by one. -/
theorem VRels.of_get {l : List AV} {l' : List Value} (hl : l.length = l'.length) (h : ∀ (i : Nat) (v : AV), l[i]? = some v → ∃ v', l'[i]? = some v' ∧ VRel ρ ι v v') : VRels ρ ι l l' := by
  induction l generalizing l' with
  | nil => cases l' with
    | nil => exact .nil
    | cons => simp at hl
  | cons v l ih => cases l' with
    | nil => simp at hl
    | cons v' l' =>
      obtain ⟨x, hx, hv⟩ := h 0 v rfl
      simp at hx; subst hx
      exact .cons hv (ih (by simpa using hl) fun i w hw => by
        obtain ⟨y, hy, hr⟩ := h (i + 1) w (by simpa using hw)
        exact ⟨y, by simpa using hy, hr⟩)
end lists

/-! ### code whose open orders are of no weight -/
def opTmps (o : Oper) : List Nat := o.op.operands.toList.filterMap fun | .tmp t => some t | _ => none
def okEdges (i : Nat) : List Edge → Bool
  | [] => true
  | e :: r => match e.ground with
    | .textOnly _ | .gcOnly _ => okEdges i r
    | _ => bif Nat.blt e.on i then okEdges i r else false
/-- Whoever writes a temporary comes before, or behind. -/
def okTmp (ms : List Nat) (i t : Nat) : List Oper → Nat → Bool
  | [], _ => true
  | o :: r, j => match o.dst with
    | some d => bif Nat.beq d t then (bif Nat.testBit ((nth ms i).getD 0) j || Nat.testBit ((nth ms j).getD 0) i then okTmp ms i t r (j + 1) else false) else okTmp ms i t r (j + 1)
    | none => okTmp ms i t r (j + 1)
def okTmps (ms : List Nat) (i : Nat) (ops : List Oper) : List Nat → Bool
  | [] => true
  | t :: r => bif okTmp ms i t ops 0 then okTmps ms i ops r else false
def okGuard (m : Nat) (o : Oper) : Bool := match o.guard with | none => true | some (j, _) => Nat.testBit m j
def okOps (ops : List Oper) (ms : List Nat) : List Oper → Nat → Bool
  | [], _ => true
  | o :: r, i => bif okEdges i o.after.toList then (bif okGuard ((nth ms i).getD 0) o then (bif okTmps ms i ops (opTmps o) then okOps ops ms r (i + 1) else false) else false) else false
def notIn (d : Nat) : List Oper → Bool
  | [] => true
  | o :: r => match o.dst with
    | some e => bif Nat.beq d e then false else notIn d r
    | none => notIn d r
def okDsts : List Oper → Bool
  | [] => true
  | o :: r => match o.dst with
    | some d => bif notIn d r then okDsts r else false
    | none => okDsts r
def okDraw (ops : List Oper) : Bool := okDsts ops && okOps ops (masks ops) ops 0
def okC : Code → Bool
  | .region _ ops draw => !draw || okDraw ops.toList
  | .seq a b => okC a && okC b
  | .cond _ a b => okC a && okC b
  | .block _ b => okC b
  | .loop b => okC b
  | .rangeFunc _ _ a b => okC a && okC b
  | _ => true

/-! ### blocks -/
def EnvRel (ρ : Val) (ι : Inj) (env : Env) (tmps : Array Value) : Prop := ∀ t v, env.get t = some v → ∃ v', tmps[t]? = some v' ∧ VRel ρ ι v v'

inductive MRel (ρ : Val) (ι : Inj) : List (AV × AV × Nat) → List MapEntry → Prop
  | nil : MRel ρ ι [] []
  | cons {k v : AV} {n : Nat} {e : MapEntry} {l : List (AV × AV × Nat)} {l' : List MapEntry} (hk : VRel ρ ι k e.key) (hv : VRel ρ ι v e.val) (hb : e.born = n) (h : MRel ρ ι l l') : MRel ρ ι ((k, v, n) :: l) (e :: l')

/-- The cells of a row, at their places. -/
def Cells (ρ : Val) (ι : Inj) (c : Array Value) (base sz : Nat) (rows : List (List AV)) : Prop :=
  ∀ i row, rows[i]? = some row → row.length = sz ∧ ∀ j v, row[j]? = some v → v.flat = true ∧ ∃ v', c[base + (i * sz + j)]? = some v' ∧ VRel ρ ι v v'

inductive BlkRel (ρ : Val) (ι : Inj) (w : World) (g : Tgt) : ABlk → Prop
  | cells {e : TypeId} {sz grp pos : Nat} {row : Bool} {rows : List (List AV)} {c : Array Value} {e' : TypeId} {fz : Nat × Nat}
      (h : w.heap[g.blk]? = some (.cells c e' fz)) (hsz : g.esz = sz) (hrow : g.row = row) (hgrp : g.grp = grp) (hpos : g.pos = pos) (hs0 : 0 < sz)
      (hroom : g.base + g.room ≤ c.size) (hlen : rows.length * sz ≤ g.room) (hfz : ∀ o, o < g.base + g.room → ¬ (fz.1 ≤ o ∧ o < fz.2)) (hc : Cells ρ ι c g.base sz rows) :
      BlkRel ρ ι w g (.cells e sz grp pos row rows)
  | map {es : List (AV × AV × Nat)} {clock : Nat} {es' : Array MapEntry} (h : w.heap[g.blk]? = some (.map es' clock)) (hm : MRel ρ ι es es'.toList) : BlkRel ρ ι w g (.map es clock)
  | siter {l : List Nat} {pos : Nat} {s : ByteArray} (h : w.heap[g.blk]? = some (.stringIter s pos)) (hs : s.data.toList = bytesOf ρ l) (hk : known l = true) (hb : g.base = 0) : BlkRel ρ ι w g (.siter l pos)
  | loop {r : LoopB} {r' : Loop} (h : w.heap[g.blk]? = some (.loop r')) (hst : r'.state = r.state) (hp : r'.pending = r.pending) (hsz : r'.tmps.size = r.size)
      (henv : EnvRel ρ ι r.env r'.tmps) (hps : r'.params.toList = r.params) (ha : r'.assign = r.assign) (hb : r'.body = r.body) (hok : okC r.assign = true ∧ okC r.body = true) : BlkRel ρ ι w g (.loop r)

def ABlk.isCells : ABlk → Bool
  | .cells .. => true
  | _ => false

structure HRel (ρ : Val) (ι : Inj) (s : St) (w : World) : Prop where
  blk : ∀ b k, s.heap.get b = some k → ∃ g, ι b = some g ∧ BlkRel ρ ι w g k
  sep : ∀ b b' k k' g g', s.heap.get b = some k → s.heap.get b' = some k' → ι b = some g → ι b' = some g' → b ≠ b' → g.blk = g'.blk →
    k.isCells = true ∧ k'.isCells = true ∧ g.grp = g'.grp ∧ g.base + g'.pos = g'.base + g.pos
  grp : ∀ b e sz g p r rows, s.heap.get b = some (.cells e sz g p r rows) → g < s.nx ∧ ∃ l, s.grps.get g = some l ∧ b ∈ l
  fresh : ∀ b, s.nx ≤ b → ι b = none
  tgt : ∀ b g, ι b = some g → g.blk < w.heap.size

/-- What a step keeps. -/
structure Keep (s : St) (ι : Inj) (w : World) (s' : St) (ι' : Inj) (w' : World) : Prop where
  le : ι.le ι'
  size : w.heap.size ≤ w'.heap.size
  lo : s'.lo = s.lo
  nx : s.nx ≤ s'.nx
  old : ∀ b, b < s.nx → ι' b = ι b
  kept : ∀ B, B < w.heap.size → (∀ b k g, s.lo ≤ b → s.heap.get b = some k → ι b = some g → g.blk ≠ B) → w'.heap[B]? = w.heap[B]?
  writes : ∀ b k g, s.lo ≤ b → s'.heap.get b = some k → ι' b = some g → g.blk < w.heap.size → ∃ b0 k0 g0, s.lo ≤ b0 ∧ s.heap.get b0 = some k0 ∧ ι b0 = some g0 ∧ g0.blk = g.blk
  new : ∀ b g, s.nx ≤ b → ι' b = some g → w.heap.size ≤ g.blk ∨ ∃ b0 g0, b0 < s.nx ∧ ι b0 = some g0 ∧ g0.blk = g.blk
  dead : ∀ b, b < s.nx → s.heap.get b = none → s'.heap.get b = none
  grps : ∀ x l, x < s.nx → s.grps.get x = some l → ∃ l', s'.grps.get x = some l' ∧ ∀ z ∈ l, z ∈ l'
  io : w'.os = w.os ∧ w'.output = w.output

theorem Keep.refl (s : St) (ι : Inj) (w : World) (h : ∀ b, s.nx ≤ b → ι b = none) : Keep s ι w s ι w :=
  ⟨.refl ι, Nat.le_refl _, rfl, Nat.le_refl _, fun _ _ => rfl, fun _ _ _ => rfl, fun b k g hb hk hg _ => ⟨b, k, g, hb, hk, hg, rfl⟩, fun b g hb hg => (by rw [h b hb] at hg; cases hg), fun _ _ h => h, fun _ l _ h => ⟨l, h, fun _ h => h⟩, ⟨rfl, rfl⟩⟩

theorem Keep.trans {s₁ s₂ s₃ : St} {ι₁ ι₂ ι₃ : Inj} {w₁ w₂ w₃ : World} (h : Keep s₁ ι₁ w₁ s₂ ι₂ w₂) (h' : Keep s₂ ι₂ w₂ s₃ ι₃ w₃) : Keep s₁ ι₁ w₁ s₃ ι₃ w₃ where
  le := h.le.trans h'.le
  size := Nat.le_trans h.size h'.size
  lo := h'.lo.trans h.lo
  nx := Nat.le_trans h.nx h'.nx
  old := fun b hb => (h'.old b (Nat.lt_of_lt_of_le hb h.nx)).trans (h.old b hb)
  kept := fun B hB hn => by
    rw [← h.kept B hB hn]
    refine h'.kept B (Nat.lt_of_lt_of_le hB h.size) fun b k g hb hk hg hgB => ?_
    obtain ⟨b0, k0, g0, h1, h2, h3, h4⟩ := h.writes b k g (h.lo ▸ hb) hk hg (hgB ▸ hB)
    exact hn b0 k0 g0 h1 h2 h3 (h4.trans hgB)
  writes := fun b k g hb hk hg hB => by
    obtain ⟨b0, k0, g0, h1, h2, h3, h4⟩ := h'.writes b k g (h.lo.symm ▸ hb) hk hg (Nat.lt_of_lt_of_le hB h.size)
    obtain ⟨b1, k1, g1, e1, e2, e3, e4⟩ := h.writes b0 k0 g0 (h.lo ▸ h1) h2 h3 (h4.symm ▸ hB)
    exact ⟨b1, k1, g1, e1, e2, e3, e4.trans h4⟩
  new := fun b g hb hg => by
    have key : ∀ b g, s₁.nx ≤ b → ι₂ b = some g → w₁.heap.size ≤ g.blk ∨ ∃ b0 g0, b0 < s₁.nx ∧ ι₁ b0 = some g0 ∧ g0.blk = g.blk := h.new
    rcases Nat.lt_or_ge b s₂.nx with hlt | hge
    · rw [h'.old b hlt] at hg
      exact key b g hb hg
    · rcases h'.new b g hge hg with h1 | ⟨b0, g0, h1, h2, h3⟩
      · exact .inl (Nat.le_trans h.size h1)
      · rcases Nat.lt_or_ge b0 s₁.nx with h4 | h4
        · exact .inr ⟨b0, g0, h4, by rw [← h.old b0 h4]; exact h2, h3⟩
        · rcases key b0 g0 h4 h2 with h5 | ⟨b1, g1, h5, h6, h7⟩
          · exact .inl (h3 ▸ h5)
          · exact .inr ⟨b1, g1, h5, h6, h7.trans h3⟩
  dead := fun b hb hd => h'.dead b (Nat.lt_of_lt_of_le hb h.nx) (h.dead b hb hd)
  grps := fun x l hx hl => by
    obtain ⟨l1, h1, h2⟩ := h.grps x l hx hl
    obtain ⟨l2, h3, h4⟩ := h'.grps x l1 (Nat.lt_of_lt_of_le hx h.nx) h1
    exact ⟨l2, h3, fun z hz => h4 z (h2 z hz)⟩
  io := ⟨h'.io.1.trans h.io.1, h'.io.2.trans h.io.2⟩

theorem EnvRel.le {ρ : Val} {ι ι' : Inj} (hι : ι.le ι') {env : Env} {tmps : Array Value} (h : EnvRel ρ ι env tmps) : EnvRel ρ ι' env tmps :=
  fun t v hv => let ⟨v', h1, h2⟩ := h t v hv; ⟨v', h1, h2.le hι⟩
theorem MRel.le {ρ : Val} {ι ι' : Inj} (hι : ι.le ι') {l : List (AV × AV × Nat)} {l' : List MapEntry} (h : MRel ρ ι l l') : MRel ρ ι' l l' := by
  induction h with
  | nil => exact .nil
  | cons hk hv hb _ ih => exact .cons (hk.le hι) (hv.le hι) hb ih
theorem Cells.le {ρ : Val} {ι ι' : Inj} (hι : ι.le ι') {c : Array Value} {base sz : Nat} {rows : List (List AV)} (h : Cells ρ ι c base sz rows) : Cells ρ ι' c base sz rows :=
  fun i row hr => ⟨(h i row hr).1, fun j v hv => let ⟨h1, v', h2, h3⟩ := (h i row hr).2 j v hv; ⟨h1, v', h2, h3.le hι⟩⟩

/-- A block's relation goes on where its own machine block is as it was. -/
theorem BlkRel.next {ρ : Val} {ι ι' : Inj} (hι : ι.le ι') {w w' : World} {g : Tgt} {k : ABlk} (h : BlkRel ρ ι w g k) (hw : w'.heap[g.blk]? = w.heap[g.blk]?) : BlkRel ρ ι' w' g k := by
  cases h with
  | cells h hsz hrow hgrp hpos hs0 hroom hlen hfz hc => exact .cells (hw.trans h) hsz hrow hgrp hpos hs0 hroom hlen hfz (hc.le hι)
  | map h hm => exact .map (hw.trans h) (hm.le hι)
  | siter h hs hk hb => exact .siter (hw.trans h) hs hk hb
  | loop h hst hp hsz henv hps ha hb hok => exact .loop (hw.trans h) hst hp hsz (henv.le hι) hps ha hb hok

/-! ### operands -/
theorem VRels.map_toArray {ρ : Val} {ι : Inj} {l : List AV} {l' : List Value} (h : VRels ρ ι l l') : VRels ρ ι l l'.toArray.toList := by simpa using h

theorem bytesOf_map (ρ : Val) (l : List UInt8) : bytesOf ρ (l.map fun c => c.toNat) = l := by
  induction l with
  | nil => rfl
  | cons c l ih =>
    have : c.toNat < 256 := c.toNat_lt
    simp [bytesOf, this, ih]

theorem known_lt {l : List Nat} (h : known l = true) {c : Nat} (hc : c ∈ l) : c < 256 := by
  induction l with
  | nil => simp at hc
  | cons x l ih =>
    simp only [known] at h
    cases hx : Nat.ble x 255 with
    | false => simp [hx] at h
    | true =>
      simp only [hx, cond_true] at h
      rcases List.mem_cons.1 hc with rfl | hc
      · have := Nat.le_of_ble_eq_true hx; omega
      · exact ih h hc
theorem known_bytes (ρ : Val) {l : List Nat} (h : known l = true) : bytesOf ρ l = l.map UInt8.ofNat := by
  induction l with
  | nil => rfl
  | cons x l ih =>
    have hx : x < 256 := known_lt h (by simp)
    simp only [known] at h
    cases hb : Nat.ble x 255 with
    | false => simp [hb] at h
    | true =>
      simp only [hb, cond_true] at h
      simp [bytesOf, hx, ih h]

theorem mapA_rel {ρ : Val} {ι : Inj} {f : Value → Option AV} (hf : ∀ v a, f v = some a → VRel ρ ι a v) : ∀ {l : List Value} {r : List AV}, mapA f l = some r → VRels ρ ι r l := by
  intro l
  induction l with
  | nil => intro r h; simp [mapA] at h; subst h; exact .nil
  | cons x l ih =>
    intro r h
    simp only [mapA] at h
    split at h
    · rename_i a m ha hm
      cases h
      exact .cons (hf _ _ ha) (ih hm)
    · cases h

theorem constA_rel (ρ : Val) (ι : Inj) : ∀ {n : Nat} {v : Value} {a : AV}, constA n v = some a → VRel ρ ι a v := by
  intro n
  induction n with
  | zero =>
    intro v a h
    unfold constA at h
    split at h
    · cases h; exact .bool _
    · cases h; exact .int _ _
    · cases h; exact .str _ _ (bytesOf_map ρ _).symm
    · cases h; exact .nilPtr
    · simp [Bool.cond_eq_ite] at h; obtain ⟨⟨rfl, rfl⟩, rfl⟩ := h; exact .nilSlice
    · cases h; exact .nilMap
    · cases h; exact .nilFunc
    · cases h; exact .nilIface
    · simp [Bool.cond_eq_ite] at h; obtain ⟨⟨rfl, rfl⟩, rfl⟩ := h; exact .func (.func _) .nil .nil
    · cases h
    · cases h
    · cases h
  | succ n ih =>
    intro v a h
    unfold constA at h
    split at h
    · cases h; exact .bool _
    · cases h; exact .int _ _
    · cases h; exact .str _ _ (bytesOf_map ρ _).symm
    · cases h; exact .nilPtr
    · simp [Bool.cond_eq_ite] at h; obtain ⟨⟨rfl, rfl⟩, rfl⟩ := h; exact .nilSlice
    · cases h; exact .nilMap
    · cases h; exact .nilFunc
    · cases h; exact .nilIface
    · simp [Bool.cond_eq_ite] at h; obtain ⟨⟨rfl, rfl⟩, rfl⟩ := h; exact .func (.func _) .nil .nil
    · simp only at h
      split at h
      · rename_i l hl
        cases hf : l.all AV.flat with
        | false => simp [hf] at h
        | true =>
          simp [hf] at h; subst h
          exact .agg (mapA_rel (fun v a => ih) hl) (fun v hv => List.all_eq_true.1 hf v hv)
      · cases h
    · simp only at h
      split at h
      · rename_i a' ha; cases h; exact .iface _ (ih ha)
      · cases h
    · cases h

/-- The slots of a frame. -/
structure FrRel (ρ : Val) (ι : Inj) (env : Env) (fr : Fr) (a : Act) : Prop where
  size : a.tmps.size = fr.size
  env : EnvRel ρ ι env a.tmps

/-- The package-level variables lie at their own places. -/
def Globs (C : Ctx) (ι : Inj) : Prop := ∀ g, g < C.nglob → ∃ t, ι g = some t ∧ t.blk = g ∧ t.base = 0
theorem Globs.le {C : Ctx} {ι ι' : Inj} (h : Globs C ι) (hι : ι.le ι') : Globs C ι' := fun g hg => let ⟨t, h1, h2⟩ := h g hg; ⟨t, hι _ _ h1, h2⟩

theorem ev_rel {ρ : Val} {ι : Inj} {C : Ctx} {env : Env} {a : Act} (hE : EnvRel ρ ι env a.tmps) (hg : Globs C ι) {x : Operand} {v : AV} (h : ev C env x = some v) :
    VRel ρ ι v (a.eval x) := by
  cases x with
  | tmp t =>
    obtain ⟨v', h1, h2⟩ := hE t v h
    simpa [Act.eval, Array.getD_eq_getD_getElem?, h1] using h2
  | const c => exact constA_rel ρ ι h
  | global g =>
    simp only [ev] at h
    cases hb : Nat.blt g C.nglob with
    | false => simp [hb] at h
    | true =>
      simp [hb] at h; subst h
      obtain ⟨t, h1, h2, h3⟩ := hg g (by simpa [Nat.blt_eq] using hb)
      have := VRel.ptr (ρ := ρ) 0 h1
      rw [h2, h3] at this
      exact this
  | func f => simp [ev] at h; subst h; exact .func (.func f) .nil .nil
theorem evs_rel {ρ : Val} {ι : Inj} {C : Ctx} {env : Env} {a : Act} (hE : EnvRel ρ ι env a.tmps) (hg : Globs C ι) : ∀ {l : List Operand} {vs : List AV}, evs C env l = some vs → VRels ρ ι vs (l.map a.eval) := by
  intro l
  induction l with
  | nil => intro vs h; simp [evs] at h; subst h; exact .nil
  | cons x l ih =>
    intro vs h
    simp only [evs] at h
    split at h
    · rename_i v r hv hr; cases h; exact .cons (ev_rel hE hg hv) (ih hr)
    · cases h

end Go.Ev
