/-
  Proved here: whatever the strings name and b are, finesselaw43.OfficeWrong returns true, and both arguments read behind the call as they read before it.
  Conditions: those of the card's second form (what is read is of bulk at most 1048576), for the pinned program; the started variables are the program's own.
  How: a verified evaluator of the model's code (texts EvDef to EvDraw15) runs the law once in the kernel, with the two strings left open (texts EvRunA, EvRun1 to EvRun4).
-/
import Derived.Test.YtkibpfkengpimaaGreatDoorEvMain1
import Derived.Test.YtkibpfkengpimaaGreatDoorCards
import Derived.Test.YtkibpfkengpimaaGreatDoorTie
import Derived.ProofKit
import Derived.OpenShut
import Derived.Deep.DeepHandedRow
import Derived.LaidMore
import Derived.Lay
import Derived.SevenTiedAt
import Derived.Stop.Joined
namespace Go.Proofs.YtkibpfkengpimaaGreatDoor
open Go.ChangeShapes Go.WideShapes Go.ChangeAt Go.RowKit Go.ChangeMaps

theorem own : ownKnob Tryz.prog.godebug = none := by kernel_rfl
theorem g6 : Tryz.prog.globalNamed "math/bits.deBruijn32tab" = some 6 := by kernel_rfl
theorem g1 : Tryz.prog.globalNamed "internal/strconv.uint64pow10" = some 1 := by kernel_rfl

/-- What the row's list gives. -/
theorem tables {W : World} (h : laidMetH Tryz.prog Rows.officeWrongUptoRow.laid W) : Lib.TabIs Tryz.prog W "internal/strconv.uint64pow10" .u64 zs1 ∧ Lib.TabIs Tryz.prog W "math/bits.deBruijn32tab" .u8 zs6 := by
  have h' : laidMet Tryz.prog Rows.officeWrongUptoRow.laid W := h
  obtain ⟨ps, hps, _⟩ := h'
  have tab : ∀ {name : String} {k : IntKind} {zs : List Int} {rest : List (String × DataW Unit)} {ps : List MemPlace} {g t e n : Nat}, Tryz.prog.globalNamed name = some g → (Tryz.prog.globals[g]?).map (·.type) = some t → Tryz.prog.underlying t = some (.array n e) → Tryz.prog.underlying e = some (.int k) → Tryz.prog.cellsOf e = 1 → Tryz.prog.cellsOf t = n →
      DataW.LaidVars Tryz.prog W ((name, Lib.tabData k zs) :: rest) ps → Lib.TabIs Tryz.prog W name k zs := by
    intro name k zs rest ps g t e n hg hty ht he hce hct hh
    obtain ⟨g', t', cs, fuel, p, q, hg', ht', hvar, hd, _, _⟩ := hh
    obtain rfl := Option.some.inj (hg.symm.trans hg')
    obtain rfl := Option.some.inj (hty.symm.trans ht')
    unfold Lib.TabIs
    rw [hvar, ← Lib.cells_of_tab ht he hce hct hd]
  have skip : ∀ {x : String × DataW Unit} {rest : List (String × DataW Unit)} {ps : List MemPlace}, DataW.LaidVars Tryz.prog W (x :: rest) ps → ∃ q, DataW.LaidVars Tryz.prog W rest q := by
    rintro ⟨n, d⟩ rest ps ⟨_, _, _, _, _, q, _, _, _, _, hq, _⟩
    exact ⟨q, hq⟩
  refine ⟨?_, tab (zs := zs6) (t := 364) (e := 5) g6 (by kernel_rfl) Tryz.underlying364 Tryz.underlying5 (by kernel_rfl) (by kernel_rfl) hps⟩
  obtain ⟨q1, hq1⟩ := skip hps
  obtain ⟨q2, hq2⟩ := skip hq1
  exact tab (zs := zs1) (t := 318) (e := 246) g1 (by kernel_rfl) Tryz.underlying318 (by kernel_rfl) (by kernel_rfl) (by kernel_rfl) hq2

set_option maxRecDepth 100000 in
/-- What the walk gives, for every argument that is not too long, and every world that holds the tables. -/
theorem contract (H : Type) (enc : TypeId × Value → H) (W : World) (base : Nat) (args : Array Value) (ds gs : List (DataW H)) (before : List MemPlace)
    (hval : ∀ (j : Nat) t v, Tryz.f3.params[j]? = some t → args[j]? = some v → Value.okWide Tryz.prog W .any base t v)
    (hW : DataW.Whole enc Tryz.prog Tryz.f3.params.toList Rows.officeWrongSpec.vars false W args.toList ds gs before) (hk : Rows.uptoSmall H (ds ++ gs) = true) (hL : laidMetH Tryz.prog Rows.officeWrongUptoRow.laid W) (hS : W.ShapedOpen Tryz.prog) :
    Calls Tryz.prog 3 args W fun e W' => ∃ v, e = .returned v ∧ Rows.officeWrongSpec.post enc Tryz.prog Tryz.f3 false true false false W args v W' := by
  have hW' := hW
  obtain ⟨p, q, hA0, hV, rfl, hfz, hnd⟩ := hW
  have hA : DataW.TrodAll enc Tryz.prog W 0 (fun _ => true) true Tryz.f3.params.toList args.toList ds p := hA0
  rw [Tryz.params3] at hA hval
  obtain ⟨v0, v1, d0, d1, p0, p1, rfl, rfl, rfl, h0, h1⟩ := trodAll_two hA
  obtain ⟨rfl, rfl⟩ := trodVars_none hV
  obtain ⟨sb, rfl, rfl, rfl, ws⟩ := open_string Tryz.underlying9 (hval 0 9 v0 rfl rfl) h0
  obtain ⟨n, rfl, rfl, rfl, wn⟩ := open_int Tryz.underlying5 (hval 1 5 v1 rfl rfl) h1
  clear hA0
  simp only [List.append_nil] at hW' hk
  have hsb : sb.size ≤ 1048576 := by
    have h := of_decide_eq_true hk
    simp only [Rows.uptoBulkAll, Rows.uptoBulk] at h
    have hl : sb.data.toList.length = sb.size := Array.length_toList
    omega
  obtain ⟨hn0, hn1⟩ : 0 ≤ n ∧ n ≤ 255 := by
    simp only [Lit.wf, Bool.and_eq_true, decide_eq_true_eq] at wn
    have e1 : IntKind.u8.min = 0 := rfl
    have e2 : IntKind.u8.max = 255 := rfl
    omega
  obtain ⟨m, rfl⟩ : ∃ m : Nat, n = Int.ofNat m := ⟨n.toNat, by simp; omega⟩
  have hm : m ≤ 255 := by
    have : (m : Int) ≤ 255 := hn1
    omega
  obtain ⟨t1, t6⟩ := tables hL
  refine (law sb m hm hsb W hS t1 t6).mono ?_
  rintro e W' ⟨rfl, hos, hout, hsz, hkeep⟩
  refine ⟨_, rfl, _, _, _, [], [], [], hW', ?_, ?_, ?_, ⟨hos, hout, fun i hi => ?_⟩, fun h => by cases h⟩
  · exact trodAll_mk1 (shut_bool Tryz.underlying4 true)
  · rw [Tryz.params3]
    exact trodAll_mk2 (shut_string Tryz.underlying9 ws) (shut_int Tryz.underlying5 wn)
  · rfl
  · rw [hkeep i hi]
    split <;> simp_all

/-! ### the witness: the settled world, the listed variables holding what their initialisers lay -/
noncomputable def witW (os : Os) : World := World.laidAll Tryz.prog os Rows.officeWrongUptoRow.laid
def witA : Array Value := #[.string ⟨#[]⟩, .int .u8 0]
theorem laid_met (os : Os) : laidMet Tryz.prog Rows.officeWrongUptoRow.laid ((witW os).forCall (fun _ _ => 0) ⟨#[], witA, []⟩).memory := laidMet_laidAll _ (by kernel_rfl) (by kernel_rfl)
theorem reads (os : Os) {H : Type} (enc : TypeId × Value → H) : ∃ places, DataW.whole enc Tryz.prog ((witW os).forCall (fun _ _ => 0) ⟨#[], witA, []⟩).memory Tryz.f3.params.toList Rows.officeWrongSpec.vars false witA.toList 8 = some ([.lit (.string []), .lit (.int .u8 0)], [], places) :=
  ⟨[], by kernel_rfl⟩

set_option maxRecDepth 100000 in
theorem lifted (os : Os) (started : os.Started) (H : Type) (enc : TypeId × Value → H) (F : Stop.Interp) :
    ReturnsInHanded {} Tryz.checked os 3 .any ((Rows.OpenSpec.upto Rows.officeWrongSpec).preRow enc Tryz.prog Tryz.f3 Rows.officeWrongUptoRow.domain false Rows.officeWrongUptoRow.laid) (((Rows.OpenSpec.upto Rows.officeWrongSpec).at F).post enc Tryz.prog Tryz.f3 false true false false) := by
  obtain ⟨places, hx⟩ := reads os enc
  have hok : Input.okWideB Tryz.prog ((witW os).forCall (fun _ _ => 0) ⟨#[], witA, []⟩) 3 ⟨#[], witA, []⟩ = true := by kernel_rfl
  refine returnsInHanded_of_row (C := Tryz.checked) (s := Rows.OpenSpec.upto Rows.officeWrongSpec) own started (by kernel_rfl) Tryz.func3
    ⟨witW os, fun _ _ => 0, ⟨#[], witA, []⟩, World.laidAll_os _ _ _, World.shaped_of_ZipB (by kernel_rfl) (by kernel_rfl), (Input.okWide_of_okWideB (base := 0) hok).1, (Input.okWide_of_okWideB hok).2,
      OpenSpec.preRow_of_cond 8 hx (by kernel_rfl) (fun k hk => by cases hk; kernel_rfl) (by kernel_rfl) (laid_met os), by
        simp only [Assume.holds]
        exact ⟨by simp, by simp, fun _ => Modest.zero, by simp, by simp⟩⟩ ?_
  intro W base args ds gs before hval hW _ hcond _ hL hS _
  exact contract H enc W base args ds gs before hval hW (hcond _ rfl) hL hS

theorem said : Rows.OfficeWrongUptoSaid :=
  OpenClaim.holds_of_cond 3 Tryz.f3 rfl rfl rfl rfl rfl rfl rfl ⟨rfl, rfl, rfl, rfl, rfl⟩ rfl rfl rfl rfl rfl (by kernel_rfl) Tryz.func3 (by kernel_rfl)
    (of_decide_eq_true (by kernel_rfl)) (by unfold Func.isWrapper; first | (rw [if_pos (by decide +kernel)]; kernel_rfl) | (rw [if_neg (by decide +kernel)]; exact ⟨rfl, rfl⟩))
    (fun os started H enc _ F => by rw [OpenClaim.pre_eq_preRow]; exact lifted os started H enc F)

theorem plain (f : FuncId) (fn : Func) (hf : Tryz.pinned.checked.prog.funcNamed "finesse/finesselaw43.OfficeWrong" = some f) (hfn : Tryz.pinned.checked.prog.funcs[f]? = some fn) :
    true = Tryz.pinned.checked.prog.looks [] ∧ ∀ (j : Nat) t, fn.params[j]? = some t → Tryz.pinned.checked.prog.wantsStandIn t = false := by
  obtain rfl : f = 3 := Option.some.inj ((show Tryz.prog.funcNamed "finesse/finesselaw43.OfficeWrong" = some 3 by kernel_rfl).symm.trans hf) |>.symm
  obtain rfl : fn = Tryz.f3 := (Option.some.inj (Tryz.func3.symm.trans hfn)).symm
  refine ⟨by kernel_rfl, fun j t ht => ?_⟩
  rw [Tryz.params3] at ht
  have hm : t ∈ [9, 5] := by simpa using Array.mem_of_getElem? ht
  have hall : ([9, 5].all fun u => !Tryz.prog.wantsStandIn u) = true := by kernel_rfl
  exact (show Tryz.prog.wantsStandIn t = false by simpa using List.all_eq_true.1 hall t hm)

/-- THE CARD. -/
theorem card : Rows.OfficeWrongUptoCardSaid :=
  Claim7.holds_tied_plain_at .later [] _ _ _ _ said (fun _ h => by cases h) (by kernel_rfl) (fun _ h => by cases h) officeWrongUpto_row_tie rfl ⟨rfl, rfl⟩ (by kernel_rfl) rfl plain (by kernel_rfl)
#print axioms card
end Go.Proofs.YtkibpfkengpimaaGreatDoor
