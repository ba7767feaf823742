/-
  A part of a verified evaluator of the model's code, or of its use at this seat; see the text YtkibpfkengpimaaGreatDoorEvCard.
-/
import Derived.Test.YtkibpfkengpimaaGreatDoorEvRunA
import Derived.Test.YtkibpfkengpimaaGreatDoorEvRun1
import Derived.Test.YtkibpfkengpimaaGreatDoorEvRun2
import Derived.Test.YtkibpfkengpimaaGreatDoorEvRun3
import Derived.Test.YtkibpfkengpimaaGreatDoorEvRun4
import Derived.Test.YtkibpfkengpimaaGreatDoorRows
import Derived.Lib.LaidTab
namespace Go.Proofs.YtkibpfkengpimaaGreatDoor
open Go.Ev
/-! ### from the evaluation to the call -/
theorem okTrue_some {x : Option (AV × St)} (h : okTrue x = true) : ∃ s', x = some (.bool true, s') := by
  unfold okTrue at h
  split at h
  · rename_i b s'; subst h; exact ⟨s', rfl⟩
  · cases h
theorem call_of {P : Program} {n : Nat} {w : World} {g : FuncId} {args' : Array Value} {R : Ending → World → Prop} (h : CallOut P n w (.func (.func g) #[] #[]) args' R) : CallsIn Fence.wide n P g args' w R := by
  rcases h with ⟨g', first, captured, he, _, hc⟩ | ⟨l, first, captured, fn, tmps, asg, bd, he, _⟩
  · cases he
    simpa using hc
  · cases he
theorem awakeOk (ρ : Val) (hρ : Short ρ) : AwakeOk ρ := by
  intro w ι H hg
  obtain ⟨s', hs⟩ := okTrue_some run_awake
  have hev := (evaluated (tabOk true false) hρ (toldOk hρ (fun h => by cases h) (fun h => by cases h)) 3000).2
  have := call_of (hev _ _ _ _ _ hs 0 w ι (.func (.func 4) #[] #[]) #[] H (.func (.func 4) .nil .nil) .nil hg)
  exact this.mono fun e w' hb => ⟨s', hb⟩
theorem mem_upTo : ∀ (N : Nat) (n : Nat), 1 ≤ n → n ≤ N → Int.ofNat n ∈ upTo N := by
  intro N
  induction N with
  | zero => intro n h1 h2; omega
  | succ N ih =>
    intro n h1 h2
    unfold upTo
    rcases Nat.lt_or_ge n (N + 1) with h | h
    · exact List.mem_cons_of_mem _ (ih n h1 (by omega))
    · have : n = N + 1 := by omega
      subst this
      exact List.mem_cons_self

/-- Whatever the name, whatever the number. -/
theorem runs (B : Bool) (n : Nat) (hn : n ≤ 255) : ∃ v s', (selfOf (C B true) 3000).call (.func (.func 3) [] []) [.str [256], v] s0 = some (.bool true, s') ∧ ∀ (ρ : Val) (ι : Inj), VRel ρ ι v (.int .u8 (.ofNat n)) := by
  rcases Nat.eq_zero_or_pos n with rfl | h
  · cases B
    · obtain ⟨s', h⟩ := okTrue_some run_3; exact ⟨_, s', h, fun ρ ι => .int _ _⟩
    · obtain ⟨s', h⟩ := okTrue_some run_1; exact ⟨_, s', h, fun ρ ι => .int _ _⟩
  · cases B
    · obtain ⟨s', h'⟩ := okTrue_some run_4; exact ⟨_, s', h', fun ρ ι => .oneOf _ _ _ (mem_upTo 255 n h hn)⟩
    · obtain ⟨s', h'⟩ := okTrue_some run_2; exact ⟨_, s', h', fun ρ ι => .oneOf _ _ _ (mem_upTo 255 n h hn)⟩

/-! ### where it begins -/
def tgt0 (b : Nat) : Tgt := { blk := b, base := 0, room := if b = 1 then 20 else 32, esz := if b = 1 then 20 else 32, row := false, grp := b, pos := 0 }
def inj0 : Inj := fun b => if b < 8 then some (tgt0 b) else none
def zs1 : List Int := [1, 10, 100, 1000, 10000, 100000, 1000000, 10000000, 100000000, 1000000000, 10000000000, 100000000000, 1000000000000, 10000000000000, 100000000000000, 1000000000000000, 10000000000000000, 100000000000000000, 1000000000000000000, 10000000000000000000]
def zs6 : List Int := [0, 1, 28, 2, 29, 14, 24, 3, 30, 22, 20, 15, 25, 17, 4, 8, 31, 27, 13, 23, 21, 19, 16, 7, 26, 12, 18, 6, 11, 5, 10, 9]
theorem ints_rel {ρ : Val} {ι : Inj} (k : IntKind) : ∀ zs : List Int, VRels ρ ι (zs.map (AV.int k)) (zs.map (Value.int k)) := by
  intro zs
  induction zs with
  | nil => exact .nil
  | cons z zs ih => exact .cons (.int _ _) ih
theorem blk_rel {ρ : Val} {W : World} {g : Tgt} {e : TypeId} {sz : Nat} {k : IntKind} {zs : List Int} {e' : TypeId} (hz : zs.length = sz) (h0 : 0 < sz) (h : W.heap[g.blk]? = some (.cells (zs.map (Value.int k)).toArray e' (0, 0))) (hb : g.base = 0) (hr : g.room = sz) (he : g.esz = sz) (hrow : g.row = false) (hp : g.pos = 0) :
    BlkRel ρ inj0 W g (.cells e sz g.grp 0 false [zs.map (AV.int k)]) := by
  have hsz : (zs.map (Value.int k)).toArray.size = sz := by simp [hz]
  refine .cells h he hrow rfl hp h0 (by omega) (by simp; omega) (fun o _ h => by omega) ?_
  rw [hb]
  refine Cells.of_range ⟨fun r hr => ?_, fun r hr => ?_⟩ (by simpa using ints_rel k zs) (fun j v hj => by simpa using hj)
  · simp only [List.mem_singleton] at hr; subst hr; simp [hz]
  · simp only [List.mem_singleton] at hr; subst hr
    intro v hv
    obtain ⟨z, _, rfl⟩ := List.mem_map.1 hv
    rfl

theorem glob_cells {W : World} (hS : W.ShapedOpen Tryz.prog) {g : Nat} (hg : g < Tryz.prog.globals.size) (h : (((begin Tryz.prog (fun _ _ => 0) default).world.heap[g]?).bind Obj.row?).isSome = true) : ∃ cs t, W.heap[g]? = some (.cells cs t (0, 0)) := by
  obtain ⟨⟨z, t⟩, hz⟩ := Option.isSome_iff_exists.1 h
  obtain ⟨cs, h1, _⟩ := hS.1 g z t hg hz
  exact ⟨cs, t, h1⟩
theorem tab_cells {W : World} (hS : W.ShapedOpen Tryz.prog) {g : Nat} {name : String} {k : IntKind} {zs : List Int} (hg : g < Tryz.prog.globals.size) (h : (((begin Tryz.prog (fun _ _ => 0) default).world.heap[g]?).bind Obj.row?).isSome = true)
    (hn : Tryz.prog.globalNamed name = some g) (ht : Lib.TabIs Tryz.prog W name k zs) : ∃ t, W.heap[g]? = some (.cells (zs.map (Value.int k)).toArray t (0, 0)) := by
  obtain ⟨cs, t, h1⟩ := glob_cells hS hg h
  unfold Lib.TabIs World.var? at ht
  rw [hn] at ht
  simp only [Option.bind_some, h1, Option.some.injEq] at ht
  subst ht
  exact ⟨t, h1⟩

theorem start {ρ : Val} {W : World} (hS : W.ShapedOpen Tryz.prog) (h1 : Lib.TabIs Tryz.prog W "internal/strconv.uint64pow10" .u64 zs1) (h6 : Lib.TabIs Tryz.prog W "math/bits.deBruijn32tab" .u8 zs6) : HRel ρ inj0 s0 W ∧ ∀ B aw, Globs (C B aw) inj0 := by
  obtain ⟨t1, q1⟩ := tab_cells hS (g := 1) (of_decide_eq_true (by kernel_rfl)) (by kernel_rfl) (by kernel_rfl) h1
  obtain ⟨t6, q6⟩ := tab_cells hS (g := 6) (of_decide_eq_true (by kernel_rfl)) (by kernel_rfl) (by kernel_rfl) h6
  obtain ⟨c7, t7, q7⟩ := glob_cells hS (g := 7) (of_decide_eq_true (by kernel_rfl)) (by kernel_rfl)
  have hsz : 7 < W.heap.size := (Array.getElem?_eq_some_iff.1 q7).1
  refine ⟨⟨fun b k h => ?_, fun b b' k k' g g' hb hb' hg hg' hne hblk => ?_, fun b e sz g p r rows h => ?_, fun b hb => ?_, fun b g hg => ?_⟩, fun B aw g hg => ⟨tgt0 g, ?_, rfl, rfl⟩⟩
  · rcases s0_get h with ⟨rfl, rfl⟩ | ⟨rfl, rfl⟩
    · exact ⟨tgt0 1, rfl, blk_rel (ρ := ρ) (g := tgt0 1) (e := 318) (sz := 20) (k := .u64) (zs := zs1) rfl (by omega) q1 rfl rfl rfl rfl rfl⟩
    · exact ⟨tgt0 6, rfl, blk_rel (ρ := ρ) (g := tgt0 6) (e := 364) (sz := 32) (k := .u8) (zs := zs6) rfl (by omega) q6 rfl rfl rfl rfl rfl⟩
  · exfalso
    rcases s0_get hb with ⟨rfl, _⟩ | ⟨rfl, _⟩ <;> rcases s0_get hb' with ⟨rfl, _⟩ | ⟨rfl, _⟩ <;> cases hg <;> cases hg' <;> first | exact hne rfl | cases hblk
  · rcases s0_get h with ⟨rfl, e⟩ | ⟨rfl, e⟩
    · unfold blk1 at e
      cases e
      exact ⟨by show 1 < 8; omega, [1], by simp [s0, Tr.get_put], by simp⟩
    · unfold blk6 at e
      cases e
      exact ⟨by show 6 < 8; omega, [6], by simp [s0], by simp⟩
  · have hb : 8 ≤ b := hb
    exact if_neg (by omega)
  · unfold inj0 at hg
    split at hg
    · rename_i hb; cases hg; show b < _; omega
    · cases hg
  · have hg : g < 8 := hg
    exact if_pos hg

/-- THE WALK: the law answers true, and nothing that lay there has turned. -/
theorem law (sb : ByteArray) (n : Nat) (hn : n ≤ 255) (hsb : sb.size ≤ 1048576) (W : World) (hS : W.ShapedOpen Tryz.prog) (h1 : Lib.TabIs Tryz.prog W "internal/strconv.uint64pow10" .u64 zs1) (h6 : Lib.TabIs Tryz.prog W "math/bits.deBruijn32tab" .u8 zs6) :
    Calls Tryz.prog 3 #[.string sb, .int .u8 (.ofNat n)] W fun e W' => e = .returned (.bool true) ∧ W'.os = W.os ∧ W'.output = W.output ∧ W.heap.size ≤ W'.heap.size ∧ ∀ k, k < W.heap.size → W'.heap[k]? = W.heap[k]? := by
  have hl : sb.data.toList.length = sb.size := Array.length_toList
  have hρ : Short (fun i => if i = 0 then sb.data.toList else []) := by
    intro i
    have hb : bigS = 1048576 := rfl
    dsimp only
    split
    · omega
    · simp
  obtain ⟨v, s', hrun, hv⟩ := runs (isName sb.data.toList) n hn
  obtain ⟨H, hG⟩ := start (ρ := fun i => if i = 0 then sb.data.toList else []) hS h1 h6
  have hev := (evaluated (tabOk (isName sb.data.toList) true) hρ (toldOk hρ (fun _ => rfl) (fun _ => awakeOk _ hρ)) 3000).2
  have hc := call_of (hev _ _ _ _ _ hrun 0 W inj0 (.func (.func 3) #[] #[]) #[.string sb, .int .u8 (.ofNat n)] H (.func (.func 3) .nil .nil) (.cons (.str _ _ (by simp [bytesOf])) (.cons (hv _ _) .nil)) (hG _ _))
  refine (callsIn_wide.1 hc).mono ?_
  rintro e W' ⟨v', ι', rfl, hvr, _, K⟩
  cases hvr
  refine ⟨rfl, K.io.1, K.io.2, K.size, fun k hk => K.kept k hk fun b kk g hb hkk _ _ => ?_⟩
  have hb : 8 ≤ b := hb
  rcases s0_get hkk with ⟨rfl, _⟩ | ⟨rfl, _⟩ <;> omega
end Go.Proofs.YtkibpfkengpimaaGreatDoor
