/- PROVED: BufBack answers true at every input (Rows.BufBackSaid): what was written last is read, and behind Back of all that is dirty, and a flush, the disk has it behind a crash. No condition. -/
import Derived.Test.YtgkcckghmlccnaaVcBufK
import Derived.Test.YtgkcckghmlccnaaVcBufQ
namespace Go.Proofs.Ytgkcckghmlccnaa
open Go Go.Vc Go.RowKit Go.ChangeShapes Go.WideShapes Go.ChangeAt
set_option maxRecDepth 100000
set_option linter.unusedVariables false

def shBack : Sh := .cons (.int .i64) (.cons (.sl 32 shOp) .unit)

theorem calls_back (W : World) (args : Array Value) (y : Dat shBack) (hr : RdArgs (fun i => W.heap[i]?) shBack y args.toList) (hf : fit shBack y) :
    Calls Try.prog 5 args W fun e W' => e = .returned (.bool true) ∧ Below W.heap.size W W' := by
  obtain ⟨v0, r0, e0, h0, v1, r1, rfl, h1, h2⟩ := hr
  rw [show r1 = [] from h2] at e0
  have h0' : v0 = .int .i64 y.1 := by have := h0.1; simpa using this
  obtain ⟨a, l, k, rfl, hl, ho⟩ := opsIn h1
  subst h0'
  obtain rfl : args = #[.int .i64 y.1, .slice a l k] := by cases args; simpa using e0
  have hb : l * 32 ≤ reachBytes := by rw [hl]; exact hf.2.1.1
  unfold reachBytes at hb
  refine s5 (Own.start W) ho (by omega) fun Im' w' hle ho' => ⟨rfl, ho'.below hle⟩

theorem back_contract (H : Type) (enc : TypeId × Value → H) (W : World) (base : Nat) (args : Array Value) (ds gs : List (DataW H)) (before : List MemPlace)
    (hval : ∀ (j : Nat) t v, Try.f5.params[j]? = some t → args[j]? = some v → Value.okWide Try.prog W .any base t v)
    (hW : DataW.Whole enc Try.prog Try.f5.params.toList Rows.bufBackSpec.vars false W args.toList ds gs before)
    (hwt : (DataW.weightsEach Try.prog (Try.f5.params.toList ++ Rows.bufBackSpec.plain.varTypes Try.prog) (ds ++ gs)).all (· ≤ reachBytes) = true) :
    Calls Try.prog 5 args W fun e W' => ∃ v, e = .returned v ∧ Rows.bufBackSpec.post enc Try.prog Try.f5 false true false false W args v W' := by
  refine contract_sized (S := shBack) (k := 8) (tb := 4) laidOut (by rw [Try.params5]; decide +kernel) rfl rfl (by kernel_rfl) Try.underlying4 ?_ (by kernel_rfl) hval hW hwt fun y hr hfit => calls_back W args y hr hfit
  intro gs hg hl
  subst hg
  rw [List.append_nil]
  match ds, hl with
  | [d1, d2], _ => rfl

theorem back_lifted (os : Os) (started : os.Started) (H : Type) (enc : TypeId × Value → H) :
    ReturnsInHanded {} Try.checked os 5 .any (Rows.bufBackSpec.pre6 enc Try.prog Try.f5 Rows.bufBackRow.domain false) (Rows.bufBackSpec.post enc Try.prog Try.f5 false true false false) :=
  returnsInHanded_of_change_sized (C := Try.checked) own started (by kernel_rfl) Try.func5
    (ChangeSpec.witness6 (enc := enc) (C := Try.checked) false ⟨#[], #[.int .i64 0, .slice none 0 0], []⟩ 8 (by kernel_rfl) (by kernel_rfl) (by kernel_rfl) (by kernel_rfl))
    fun W base args ds gs before hval hW _ hwt _ => back_contract H enc W base args ds gs before hval hW hwt

theorem bufBack : Rows.BufBackSaid :=
  OpenClaim.holds_of_wide 5 Try.f5 rfl rfl rfl rfl rfl rfl rfl ⟨rfl, rfl, rfl, rfl, rfl⟩ rfl rfl rfl rfl rfl (by kernel_rfl) Try.func5 (by kernel_rfl)
    (of_decide_eq_true (by kernel_rfl)) (by unfold Func.isWrapper; first | (rw [if_pos (by decide +kernel)]; kernel_rfl) | (rw [if_neg (by decide +kernel)]; exact ⟨rfl, rfl⟩))
    (fun os started H enc _ => back_lifted os started H enc)
end Go.Proofs.Ytgkcckghmlccnaa
#print axioms Go.Proofs.Ytgkcckghmlccnaa.bufBack
