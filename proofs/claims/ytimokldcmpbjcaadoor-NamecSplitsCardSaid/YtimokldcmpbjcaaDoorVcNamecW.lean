/- A part of the proof: lemmas. -/
import Derived.Test.YtimokldcmpbjcaaDoorCards
import Derived.Test.YtimokldcmpbjcaaDoorTie
import Derived.Test.YtimokldcmpbjcaaDoorVcNamecM
import Derived.Test.YtimokldcmpbjcaaDoorVcRead
import Derived.SizedLaws
import Derived.Lib.LaidIn
import Derived.Lib.LaidU8T
import Derived.PinnedBridge
import Derived.Deep.DeepHandedRow
import Derived.Deep.DeepWitnessRowRef
import Derived.SevenTiedAt
namespace Go.Proofs.YtimokldcmpbjcaaDoor
open Go Go.Vc Go.RowKit Go.ChangeShapes Go.WideShapes Go.ChangeAt
set_option maxRecDepth 100000
set_option linter.unusedVariables false

theorem own : ownKnob Tryd.prog.godebug = none := by kernel_rfl
theorem laidOut : laidOutB Tryd.prog = true := by kernel_rfl

/-- The variable MaxLen holds a number. -/
theorem maxLen_of {W : World} (h : W.ShapedOpen Tryd.prog) : MaxLen (fun k => W.heap[k]?) := by
  obtain ⟨cs, h1, h2, h3⟩ := h.1 0 #[.int .i64 0] 3 (of_decide_eq_true (by kernel_rfl)) (by kernel_rfl)
  obtain ⟨ts, hts, _, hcell⟩ := h3 (by kernel_rfl)
  have hts2 : Tryd.prog.cellTypes Tryd.prog.depth 3 = some [3] := by kernel_rfl
  rw [hts2] at hts
  cases hts
  have h2' : cs.size = 1 := h2
  have h0 : cs[0]? = some cs[0] := by simp
  obtain ⟨u, hu, hok⟩ := hcell 0 _ h0
  simp at hu
  subst hu
  unfold Cell.ok at hok
  rw [Tryd.underlying3] at hok
  refine ⟨cs, 3, (0, 0), ?_⟩
  cases hv : cs[0] with
  | int k n =>
    rw [hv] at hok h0
    obtain ⟨rfl, _⟩ := hok
    exact ⟨n, h1, h0⟩
  | _ => rw [hv] at hok; exact hok.elim

/-- A world for the witness: the two tables hold what their initialisers lay. -/
noncomputable def laidWorld (os : Os) : World :=
  let w0 := World.holding Tryd.prog os ⟨#[], #[], []⟩
  let put (h : Array Obj) (g : Nat) (cs : Array Value) : Array Obj := h.modify g fun
    | .cells _ t frozen => .cells cs t frozen
    | o => o
  let h1 := put w0.heap 1 (Lib.firstTab.map fun z => Value.int .u8 z).toArray
  let h2 := put h1 2 ((List.range 16).flatMap fun i => [Value.int .u8 (Lib.accLo i), Value.int .u8 (Lib.accHi i)]).toArray
  { w0 with heap := h2 }
theorem laid_met (os : Os) (args : Array Value) : laidMet Tryd.prog Rows.namecSplitsRow.laid ((laidWorld os).forCall (fun _ _ => 0) ⟨#[], args, []⟩).memory :=
  (LaidIn.of_run (l := [("unicode/utf8.acceptRanges", Lib.acceptData), ("unicode/utf8.first", Lib.firstData)]) [2, 1] 8 (by kernel_rfl) (by kernel_rfl) (by kernel_rfl) (by kernel_rfl)).met

/-! ### NamecSplits -/
def shSplits : Sh := .cons .str .unit
theorem calls_splits (W : World) (args : Array Value) (hm : MaxLen (fun k => W.heap[k]?)) (y : Dat shSplits) (hr : RdArgs (fun i => W.heap[i]?) shSplits y args.toList) :
    Calls Tryd.prog 3 args W fun e W' => e = .returned (.bool true) ∧ Below W.heap.size W W' := by
  obtain ⟨v0, r0, e0, h0, h1⟩ := hr
  rw [show r0 = [] from h1] at e0
  have h0' : v0 = .string y.1 := by have := h0.1; simpa using this
  subst h0'
  obtain rfl : args = #[.string y.1] := by cases args; simpa using e0
  exact s3 (Own.start W) hm y.1 fun w' ho' => ⟨rfl, ho'.below (Mem.le_refl _)⟩
theorem splits_witness (os : Os) {H : Type} (enc : TypeId × Value → H) :
    (OpenSpec.ofChange Rows.namecSplitsSpec).preRow enc Tryd.prog Tryd.f3 Rows.namecSplitsRow.domain false Rows.namecSplitsRow.laid ((laidWorld os).forCall (fun _ _ => 0) ⟨#[], #[.string ⟨#[]⟩], []⟩).memory #[.string ⟨#[]⟩] := by
  have hw : (DataW.whole enc Tryd.prog ((laidWorld os).forCall (fun _ _ => 0) ⟨#[], #[.string ⟨#[]⟩], []⟩).memory Tryd.f3.params.toList Rows.namecSplitsSpec.vars false #[Value.string ⟨#[]⟩].toList 8).map (fun x => (x.1, x.2.1)) =
      some ([.lit (.string [])], []) := by kernel_rfl
  obtain ⟨⟨x1, x2, x3⟩, hx, hx1⟩ := Option.map_eq_some_iff.1 hw
  simp only [Prod.mk.injEq] at hx1
  obtain ⟨rfl, rfl⟩ := hx1
  exact OpenSpec.preRow_of_cond 8 hx (by kernel_rfl) (fun k hk => by cases hk) (by kernel_rfl) (laid_met os _)
theorem splits_lifted (os : Os) (started : os.Started) (H : Type) (enc : TypeId × Value → H) (F : Stop.Interp) :
    ReturnsInHanded {} Tryd.checked os 3 .any ((OpenSpec.ofChange Rows.namecSplitsSpec).preRow enc Tryd.prog Tryd.f3 Rows.namecSplitsRow.domain false Rows.namecSplitsRow.laid) (((OpenSpec.ofChange Rows.namecSplitsSpec).at F).post enc Tryd.prog Tryd.f3 false true false false) := by
  refine returnsInHanded_of_row (C := Tryd.checked) (s := OpenSpec.ofChange Rows.namecSplitsSpec) own started (by kernel_rfl) Tryd.func3
    (witness_row_atRef (enc := enc) (C := Tryd.checked) false (laidWorld os) #[.string ⟨#[]⟩] rfl (by kernel_rfl) (by kernel_rfl) (by kernel_rfl) (splits_witness os enc)) ?_
  intro W base args ds gs before hval hW _ _ hwt hL hsh _
  refine contract_sized (s := Rows.namecSplitsSpec) (S := shSplits) (k := 8) (tb := 4) laidOut (by rw [Tryd.params3]; decide +kernel) rfl rfl (by kernel_rfl) Tryd.underlying4 ?_ (by kernel_rfl) hval hW hwt fun y hr hfit => calls_splits W args (maxLen_of hsh) y hr
  intro gs hg hl
  subst hg
  rw [List.append_nil]
  match ds, hl with
  | [d1], _ => rfl
theorem splits_said : Rows.NamecSplitsSaid :=
  OpenClaim.holds_of_cond 3 Tryd.f3 rfl rfl rfl rfl rfl rfl rfl ⟨rfl, rfl, rfl, rfl, rfl⟩ rfl rfl rfl rfl rfl (by kernel_rfl) Tryd.func3 (by kernel_rfl)
    (of_decide_eq_true (by kernel_rfl)) (by unfold Func.isWrapper; first | (rw [if_pos (by decide +kernel)]; kernel_rfl) | (rw [if_neg (by decide +kernel)]; exact ⟨rfl, rfl⟩))
    (fun os started H enc _ F => by rw [OpenClaim.pre_eq_preRow]; exact splits_lifted os started H enc F)
theorem splits_plain (f : FuncId) (fn : Func) (hf : Tryd.pinned.checked.prog.funcNamed "parapet/parapetlaw19.NamecSplits" = some f) (hfn : Tryd.pinned.checked.prog.funcs[f]? = some fn) :
    false = Tryd.pinned.checked.prog.looks [] ∧ ∀ (j : Nat) t, fn.params[j]? = some t → Tryd.pinned.checked.prog.wantsStandIn t = false := by
  obtain rfl : f = 3 := Option.some.inj ((show Tryd.prog.funcNamed "parapet/parapetlaw19.NamecSplits" = some 3 by kernel_rfl).symm.trans hf) |>.symm
  obtain rfl : fn = Tryd.f3 := (Option.some.inj (Tryd.func3.symm.trans hfn)).symm
  refine ⟨by kernel_rfl, fun j t ht => ?_⟩
  have h : Tryd.f3.params.all fun t => !Tryd.prog.wantsStandIn t := by kernel_rfl
  have := Array.all_eq_true'.1 h t (Array.mem_of_getElem? ht)
  exact (show Tryd.prog.wantsStandIn t = false by simpa using this)
theorem namecSplits : Rows.NamecSplitsCardSaid :=
  Claim7.holds_tied_plain_at .later [] _ _ _ _ splits_said (fun _ h => by cases h) (by kernel_rfl) (fun _ h => by cases h) namecSplits_row_tie rfl ⟨rfl, rfl⟩ (by kernel_rfl) rfl splits_plain (by kernel_rfl)
end Go.Proofs.YtimokldcmpbjcaaDoor
#print axioms Go.Proofs.YtimokldcmpbjcaaDoor.namecSplits
