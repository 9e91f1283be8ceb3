/- PROVED: NamecKeeps answers true at every input (Rows.NamecKeepsCardSaid). No condition of ours; the card ties the library's two listed tables to their text. -/
import Derived.Test.YtimokldcmpbjcaaDoorVcNamecV
import Derived.Test.YtimokldcmpbjcaaDoorVcNamecN
namespace Go.Proofs.YtimokldcmpbjcaaDoor
open Go Go.Vc Go.RowKit Go.ChangeShapes Go.WideShapes Go.ChangeAt
set_option maxRecDepth 100000
set_option linter.unusedVariables false
def sh_keeps : Sh := .cons (.int .i64) (.cons (.sl 40 (.cons (.int .i64) (.cons (.cons (.int .i64) (.cons .str .unit)) (.cons (.int .i64) .unit)))) .unit)
def shOp : Sh := .cons (.int .i64) (.cons (.cons (.int .i64) (.cons .str .unit)) (.cons (.int .i64) .unit))
def toOp (x : Dat shOp) : Op := ⟨x.1, (x.2.1.1, x.2.1.2.1), x.2.2.1⟩
theorem op_cells (Im : Mem) (x : Dat shOp) (ws : List Value) (h : Rd Im shOp x ws) : ws = opC (toOp x) := by
  obtain ⟨c1, d1, rfl, ⟨rfl, _⟩, c2, d2, rfl, ⟨e1, f1, rfl, ⟨rfl, _⟩, e2, f2, rfl, ⟨rfl, _⟩, hu1⟩, c3, d3, rfl, ⟨rfl, _⟩, hu2⟩ := h
  rw [show f2 = [] from hu1, show d3 = [] from hu2]
  rfl
theorem calls_keeps (W : World) (args : Array Value) (hsh : W.ShapedOpen Tryd.prog) (hL : laidMetH Tryd.prog Rows.namecKeepsRow.laid W) (y : Dat sh_keeps) (hr : RdArgs (fun i => W.heap[i]?) sh_keeps y args.toList) (hf : fit sh_keeps y) :
    Calls Tryd.prog 4 args W fun e W' => e = .returned (.bool true) ∧ Below W.heap.size W W' := by
  obtain ⟨v0, r0, e0, h0, v1, r1, rfl, h1, h2⟩ := hr
  rw [show r1 = [] from h2] at e0
  have h0' : v0 = .int .i64 y.1 := by have := h0.1; simpa using this
  obtain ⟨a, l, k, rfl, hl, ho⟩ := inE_of_rd (f := opC) (g := toOp) (op_cells _) h1
  subst h0'
  obtain rfl : args = #[.int .i64 y.1, .slice a l k] := by cases args; simpa using e0
  have hb : l * 40 ≤ reachBytes := by rw [hl]; exact hf.2.1.1
  unfold reachBytes at hb
  exact s4 (Own.start W) (maxLen_of hsh) ho (by omega) fun w' ho' => ⟨rfl, ho'.below (Mem.le_refl _)⟩

theorem keeps_witness (os : Os) {H : Type} (enc : TypeId × Value → H) :
    (OpenSpec.ofChange Rows.namecKeepsSpec).preRow enc Tryd.prog Tryd.f4 Rows.namecKeepsRow.domain false Rows.namecKeepsRow.laid ((laidWorld os).forCall (fun _ _ => 0) ⟨#[], #[.int .i64 0, .slice none 0 0], []⟩).memory #[.int .i64 0, .slice none 0 0] := by
  have hw : (DataW.whole enc Tryd.prog ((laidWorld os).forCall (fun _ _ => 0) ⟨#[], #[.int .i64 0, .slice none 0 0], []⟩).memory Tryd.f4.params.toList Rows.namecKeepsSpec.vars false (#[.int .i64 0, .slice none 0 0] : Array Value).toList 8).map (fun x => (x.1, x.2.1)) =
      some ([.lit (.int .i64 0), .nil], []) := by kernel_rfl
  obtain ⟨⟨x1, x2, x3⟩, hx, hx1⟩ := Option.map_eq_some_iff.1 hw
  simp only [Prod.mk.injEq] at hx1
  obtain ⟨rfl, rfl⟩ := hx1
  exact OpenSpec.preRow_of_cond 8 hx (by kernel_rfl) (fun k hk => by cases hk) (by kernel_rfl) (laid_met os _)
theorem keeps_lifted (os : Os) (started : os.Started) (H : Type) (enc : TypeId × Value → H) (F : Stop.Interp) :
    ReturnsInHanded {} Tryd.checked os 4 .any ((OpenSpec.ofChange Rows.namecKeepsSpec).preRow enc Tryd.prog Tryd.f4 Rows.namecKeepsRow.domain false Rows.namecKeepsRow.laid) (((OpenSpec.ofChange Rows.namecKeepsSpec).at F).post enc Tryd.prog Tryd.f4 false true false false) := by
  refine returnsInHanded_of_row (C := Tryd.checked) (s := OpenSpec.ofChange Rows.namecKeepsSpec) own started (by kernel_rfl) Tryd.func4
    (witness_row_atRef (enc := enc) (C := Tryd.checked) false (laidWorld os) #[.int .i64 0, .slice none 0 0] rfl (by kernel_rfl) (by kernel_rfl) (by kernel_rfl) (keeps_witness os enc)) ?_
  intro W base args ds gs before hval hW _ _ hwt hL hsh _
  refine contract_sized (s := Rows.namecKeepsSpec) (S := sh_keeps) (k := 12) (tb := 4) laidOut (by rw [Tryd.params4]; decide +kernel) rfl rfl (by kernel_rfl) Tryd.underlying4 ?_ (by kernel_rfl) hval hW hwt fun y hr hfit => calls_keeps W args hsh hL y hr hfit
  intro gs hg hl
  subst hg
  rw [List.append_nil]
  match ds, hl with
  | [d1, d2], _ => rfl
theorem keeps_said : Rows.NamecKeepsSaid :=
  OpenClaim.holds_of_cond 4 Tryd.f4 rfl rfl rfl rfl rfl rfl rfl ⟨rfl, rfl, rfl, rfl, rfl⟩ rfl rfl rfl rfl rfl (by kernel_rfl) Tryd.func4 (by kernel_rfl)
    (of_decide_eq_true (by kernel_rfl)) (by unfold Func.isWrapper; first | (rw [if_pos (by decide +kernel)]; kernel_rfl) | (rw [if_neg (by decide +kernel)]; exact ⟨rfl, rfl⟩))
    (fun os started H enc _ F => by rw [OpenClaim.pre_eq_preRow]; exact keeps_lifted os started H enc F)
theorem keeps_plain (f : FuncId) (fn : Func) (hf : Tryd.pinned.checked.prog.funcNamed "parapet/parapetlaw19.NamecKeeps" = some f) (hfn : Tryd.pinned.checked.prog.funcs[f]? = some fn) :
    false = Tryd.pinned.checked.prog.looks [] ∧ ∀ (j : Nat) t, fn.params[j]? = some t → Tryd.pinned.checked.prog.wantsStandIn t = false := by
  obtain rfl : f = 4 := Option.some.inj ((show Tryd.prog.funcNamed "parapet/parapetlaw19.NamecKeeps" = some 4 by kernel_rfl).symm.trans hf) |>.symm
  obtain rfl : fn = Tryd.f4 := (Option.some.inj (Tryd.func4.symm.trans hfn)).symm
  refine ⟨by kernel_rfl, fun j t ht => ?_⟩
  have h : Tryd.f4.params.all fun t => !Tryd.prog.wantsStandIn t := by kernel_rfl
  have := Array.all_eq_true'.1 h t (Array.mem_of_getElem? ht)
  exact (show Tryd.prog.wantsStandIn t = false by simpa using this)
theorem namecKeeps : Rows.NamecKeepsCardSaid :=
  Claim7.holds_tied_plain_at .later [] _ _ _ _ keeps_said (fun _ h => by cases h) (by kernel_rfl) (fun _ h => by cases h) namecKeeps_row_tie rfl ⟨rfl, rfl⟩ (by kernel_rfl) rfl keeps_plain (by kernel_rfl)
end Go.Proofs.YtimokldcmpbjcaaDoor
#print axioms Go.Proofs.YtimokldcmpbjcaaDoor.namecKeeps
