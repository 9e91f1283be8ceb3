/- PROVED: BufHolds answers true at every input (Rows.BufHoldsSaid): a cache never keeps more blocks than it has room, none twice, and what is dirty is never given up. No condition. -/
import Derived.Test.YtgkcckghmlccnaaVcBufK
import Derived.Test.YtgkcckghmlccnaaVcBufM
namespace Go.Proofs.Ytgkcckghmlccnaa
open Go Go.Vc Go.RowKit Go.ChangeShapes Go.WideShapes Go.ChangeAt
set_option maxRecDepth 100000
set_option linter.unusedVariables false

def shHolds : Sh := .cons (.int .i64) (.cons (.sl 32 shOp) .unit)

theorem calls_holds (W : World) (args : Array Value) (y : Dat shHolds) (hr : RdArgs (fun i => W.heap[i]?) shHolds y args.toList) (hf : fit shHolds y) :
    Calls Try.prog 4 args W fun e W' => e = .returned (.bool true) ∧ Below W.heap.size W W' := by
  obtain ⟨v0, r0, e0, h0, v1, r1, rfl, h1, h2⟩ := hr
  rw [show r1 = [] from h2] at e0
  have h0' : v0 = .int .i64 y.1 := by have := h0.1; simpa using this
  obtain ⟨a, l, k, rfl, hl, ho⟩ := opsIn h1
  subst h0'
  obtain rfl : args = #[.int .i64 y.1, .slice a l k] := by cases args; simpa using e0
  have hb : l * 32 ≤ reachBytes := by rw [hl]; exact hf.2.1.1
  unfold reachBytes at hb
  refine s4 (Own.start W) ho (by omega) fun Im' w' hle ho' => ⟨rfl, ho'.below hle⟩

theorem holds_contract (H : Type) (enc : TypeId × Value → H) (W : World) (base : Nat) (args : Array Value) (ds gs : List (DataW H)) (before : List MemPlace)
    (hval : ∀ (j : Nat) t v, Try.f4.params[j]? = some t → args[j]? = some v → Value.okWide Try.prog W .any base t v)
    (hW : DataW.Whole enc Try.prog Try.f4.params.toList Rows.bufHoldsSpec.vars false W args.toList ds gs before)
    (hwt : (DataW.weightsEach Try.prog (Try.f4.params.toList ++ Rows.bufHoldsSpec.plain.varTypes Try.prog) (ds ++ gs)).all (· ≤ reachBytes) = true) :
    Calls Try.prog 4 args W fun e W' => ∃ v, e = .returned v ∧ Rows.bufHoldsSpec.post enc Try.prog Try.f4 false true false false W args v W' := by
  refine contract_sized (S := shHolds) (k := 8) (tb := 4) laidOut (by rw [Try.params4]; decide +kernel) rfl rfl (by kernel_rfl) Try.underlying4 ?_ (by kernel_rfl) hval hW hwt fun y hr hfit => calls_holds W args y hr hfit
  intro gs hg hl
  subst hg
  rw [List.append_nil]
  match ds, hl with
  | [d1, d2], _ => rfl

theorem holds_lifted (os : Os) (started : os.Started) (H : Type) (enc : TypeId × Value → H) :
    ReturnsInHanded {} Try.checked os 4 .any (Rows.bufHoldsSpec.pre6 enc Try.prog Try.f4 Rows.bufHoldsRow.domain false) (Rows.bufHoldsSpec.post enc Try.prog Try.f4 false true false false) :=
  returnsInHanded_of_change_sized (C := Try.checked) own started (by kernel_rfl) Try.func4
    (ChangeSpec.witness6 (enc := enc) (C := Try.checked) false ⟨#[], #[.int .i64 0, .slice none 0 0], []⟩ 8 (by kernel_rfl) (by kernel_rfl) (by kernel_rfl) (by kernel_rfl))
    fun W base args ds gs before hval hW _ hwt _ => holds_contract H enc W base args ds gs before hval hW hwt

theorem bufHolds : Rows.BufHoldsSaid :=
  OpenClaim.holds_of_wide 4 Try.f4 rfl rfl rfl rfl rfl rfl rfl ⟨rfl, rfl, rfl, rfl, rfl⟩ rfl rfl rfl rfl rfl (by kernel_rfl) Try.func4 (by kernel_rfl)
    (of_decide_eq_true (by kernel_rfl)) (by unfold Func.isWrapper; first | (rw [if_pos (by decide +kernel)]; kernel_rfl) | (rw [if_neg (by decide +kernel)]; exact ⟨rfl, rfl⟩))
    (fun os started H enc _ => holds_lifted os started H enc)
end Go.Proofs.Ytgkcckghmlccnaa
#print axioms Go.Proofs.Ytgkcckghmlccnaa.bufHolds
