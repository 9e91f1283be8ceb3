/- PROVED: NamecNobody answers true at every input (Rows.NamecNobodyCardSaid). No condition of ours; the card ties the library's two listed tables to their text. -/
import Derived.Test.YtimokldcmpbjcaaDoorVcNamecV
import Derived.Test.YtimokldcmpbjcaaDoorVcNamecR
namespace Go.Proofs.YtimokldcmpbjcaaDoor
open Go Go.Vc Go.RowKit Go.ChangeShapes Go.WideShapes Go.ChangeAt
set_option maxRecDepth 100000
set_option linter.unusedVariables false
def sh_nobody : Sh := .cons (.cons (.int .i64) (.cons .str .unit)) (.cons (.int .i64) (.cons .str .unit))
theorem calls_nobody (W : World) (args : Array Value) (hsh : W.ShapedOpen Tryd.prog) (hL : laidMetH Tryd.prog Rows.namecNobodyRow.laid W) (y : Dat sh_nobody) (hr : RdArgs (fun i => W.heap[i]?) sh_nobody y args.toList) (hf : fit sh_nobody y) :
    Calls Tryd.prog 6 args W fun e W' => e = .returned (.bool true) ∧ Below W.heap.size W W' := by
  obtain ⟨v0, r0, e0, ⟨w0, ev0, c1, d1, rfl, ⟨rfl, _⟩, c2, d2, rfl, ⟨rfl, _⟩, hu⟩, v1, r1, rfl, h1, v2, r2, rfl, h2, h3⟩ := hr
  rw [show r2 = [] from h3] at e0
  rw [show d2 = [] from hu] at ev0
  have h1' : v1 = .int .i64 y.2.1 := by have := h1.1; simpa using this
  have h2' : v2 = .string y.2.2.1 := by have := h2.1; simpa using this
  subst h1' h2'
  obtain rfl : args = #[.agg #[.int .i64 y.1.1, .string y.1.2.1], .int .i64 y.2.1, .string y.2.2.1] := by subst ev0; cases args; simpa using e0
  exact s6 (Own.start W) (maxLen_of hsh) fun w' ho' => ⟨rfl, ho'.below (Mem.le_refl _)⟩


theorem nobody_witness (os : Os) {H : Type} (enc : TypeId × Value → H) :
    (OpenSpec.ofChange Rows.namecNobodySpec).preRow enc Tryd.prog Tryd.f6 Rows.namecNobodyRow.domain false Rows.namecNobodyRow.laid ((laidWorld os).forCall (fun _ _ => 0) ⟨#[], #[.agg #[.int .i64 0, .string ⟨#[]⟩], .int .i64 0, .string ⟨#[]⟩], []⟩).memory #[.agg #[.int .i64 0, .string ⟨#[]⟩], .int .i64 0, .string ⟨#[]⟩] := by
  have hw : (DataW.whole enc Tryd.prog ((laidWorld os).forCall (fun _ _ => 0) ⟨#[], #[.agg #[.int .i64 0, .string ⟨#[]⟩], .int .i64 0, .string ⟨#[]⟩], []⟩).memory Tryd.f6.params.toList Rows.namecNobodySpec.vars false (#[.agg #[.int .i64 0, .string ⟨#[]⟩], .int .i64 0, .string ⟨#[]⟩] : Array Value).toList 8).map (fun x => (x.1, x.2.1)) =
      some ([.agg [.lit (.int .i64 0), .lit (.string [])], .lit (.int .i64 0), .lit (.string [])], []) := by kernel_rfl
  obtain ⟨⟨x1, x2, x3⟩, hx, hx1⟩ := Option.map_eq_some_iff.1 hw
  simp only [Prod.mk.injEq] at hx1
  obtain ⟨rfl, rfl⟩ := hx1
  exact OpenSpec.preRow_of_cond 8 hx (by kernel_rfl) (fun k hk => by cases hk) (by kernel_rfl) (laid_met os _)
theorem nobody_lifted (os : Os) (started : os.Started) (H : Type) (enc : TypeId × Value → H) (F : Stop.Interp) :
    ReturnsInHanded {} Tryd.checked os 6 .any ((OpenSpec.ofChange Rows.namecNobodySpec).preRow enc Tryd.prog Tryd.f6 Rows.namecNobodyRow.domain false Rows.namecNobodyRow.laid) (((OpenSpec.ofChange Rows.namecNobodySpec).at F).post enc Tryd.prog Tryd.f6 false true false false) := by
  refine returnsInHanded_of_row (C := Tryd.checked) (s := OpenSpec.ofChange Rows.namecNobodySpec) own started (by kernel_rfl) Tryd.func6
    (witness_row_atRef (enc := enc) (C := Tryd.checked) false (laidWorld os) #[.agg #[.int .i64 0, .string ⟨#[]⟩], .int .i64 0, .string ⟨#[]⟩] rfl (by kernel_rfl) (by kernel_rfl) (by kernel_rfl) (nobody_witness os enc)) ?_
  intro W base args ds gs before hval hW _ _ hwt hL hsh _
  refine contract_sized (s := Rows.namecNobodySpec) (S := sh_nobody) (k := 12) (tb := 4) laidOut (by rw [Tryd.params6]; decide +kernel) rfl rfl (by kernel_rfl) Tryd.underlying4 ?_ (by kernel_rfl) hval hW hwt fun y hr hfit => calls_nobody W args hsh hL y hr hfit
  intro gs hg hl
  subst hg
  rw [List.append_nil]
  match ds, hl with
  | [d1, d2, d3], _ => rfl
theorem nobody_said : Rows.NamecNobodySaid :=
  OpenClaim.holds_of_cond 6 Tryd.f6 rfl rfl rfl rfl rfl rfl rfl ⟨rfl, rfl, rfl, rfl, rfl⟩ rfl rfl rfl rfl rfl (by kernel_rfl) Tryd.func6 (by kernel_rfl)
    (of_decide_eq_true (by kernel_rfl)) (by unfold Func.isWrapper; first | (rw [if_pos (by decide +kernel)]; kernel_rfl) | (rw [if_neg (by decide +kernel)]; exact ⟨rfl, rfl⟩))
    (fun os started H enc _ F => by rw [OpenClaim.pre_eq_preRow]; exact nobody_lifted os started H enc F)
theorem nobody_plain (f : FuncId) (fn : Func) (hf : Tryd.pinned.checked.prog.funcNamed "parapet/parapetlaw19.NamecNobody" = some f) (hfn : Tryd.pinned.checked.prog.funcs[f]? = some fn) :
    false = Tryd.pinned.checked.prog.looks [] ∧ ∀ (j : Nat) t, fn.params[j]? = some t → Tryd.pinned.checked.prog.wantsStandIn t = false := by
  obtain rfl : f = 6 := Option.some.inj ((show Tryd.prog.funcNamed "parapet/parapetlaw19.NamecNobody" = some 6 by kernel_rfl).symm.trans hf) |>.symm
  obtain rfl : fn = Tryd.f6 := (Option.some.inj (Tryd.func6.symm.trans hfn)).symm
  refine ⟨by kernel_rfl, fun j t ht => ?_⟩
  have h : Tryd.f6.params.all fun t => !Tryd.prog.wantsStandIn t := by kernel_rfl
  have := Array.all_eq_true'.1 h t (Array.mem_of_getElem? ht)
  exact (show Tryd.prog.wantsStandIn t = false by simpa using this)
theorem namecNobody : Rows.NamecNobodyCardSaid :=
  Claim7.holds_tied_plain_at .later [] _ _ _ _ nobody_said (fun _ h => by cases h) (by kernel_rfl) (fun _ h => by cases h) namecNobody_row_tie rfl ⟨rfl, rfl⟩ (by kernel_rfl) rfl nobody_plain (by kernel_rfl)
end Go.Proofs.YtimokldcmpbjcaaDoor
#print axioms Go.Proofs.YtimokldcmpbjcaaDoor.namecNobody
