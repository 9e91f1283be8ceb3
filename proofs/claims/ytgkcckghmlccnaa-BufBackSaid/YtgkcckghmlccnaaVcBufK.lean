/- PROVED: BufSame answers true at every input (Rows.BufSameSaid): whatever room two caches of equal disks have, what they read is the same as long as nobody is refused. No condition. -/
import Derived.Test.YtgkcckghmlccnaaRows
import Derived.Test.YtgkcckghmlccnaaVcRead
import Derived.Test.YtgkcckghmlccnaaVcBufJ
import Derived.SizedLaws
namespace Go.Proofs.Ytgkcckghmlccnaa
open Go Go.Vc Go.RowKit Go.ChangeShapes Go.WideShapes Go.ChangeAt
set_option maxRecDepth 100000
set_option linter.unusedVariables false

theorem own : ownKnob Try.prog.godebug = none := by kernel_rfl
theorem laidOut : laidOutB Try.prog = true := by kernel_rfl
def shOp : Sh := .cons (.int .i64) (.cons (.int .i64) (.cons (.int .u8) (.cons (.int .i64) .unit)))
def shSame : Sh := .cons (.int .i64) (.cons (.int .i64) (.cons (.sl 32 shOp) .unit))
def toOp (x : Dat shOp) : Op := ⟨x.1, x.2.1, x.2.2.1, x.2.2.2.1⟩

theorem opsIn {Im : Mem} {xs : List (Dat shOp)} {v : Value} (h : Rd Im (.sl 32 shOp) xs [v]) : ∃ a l k, v = .slice a l k ∧ l = xs.length ∧ OpsIn Im a l (xs.map toOp) := by
  obtain ⟨a, l, k, hv, hl, _, _, _, hx⟩ := h
  have hv : v = .slice a l k := by simpa using hv
  refine ⟨a, l, k, hv, hl.symm, by simp [hl], fun i op hop => ?_⟩
  rw [List.getElem?_map] at hop
  cases hxi : xs[i]? with
  | none => rw [hxi] at hop; cases hop
  | some x =>
    rw [hxi] at hop
    simp only [Option.map_some, Option.some.injEq] at hop
    subst hop
    obtain ⟨b, o, ws, row, T, z, ea, hwl, hr, hb, hc⟩ := hx i x hxi
    refine ⟨b, o, row, T, z, ea, hb, ?_⟩
    have e : ws = (toOp x).cells := by
      obtain ⟨c1, d1, rfl, ⟨rfl, _⟩, c2, d2, rfl, ⟨rfl, _⟩, c3, d3, rfl, ⟨rfl, _⟩, c4, d4, rfl, ⟨rfl, _⟩, hu⟩ := hr
      rw [show d4 = [] from hu]
      rfl
    rw [← e]
    exact hc

theorem calls_same (W : World) (args : Array Value) (y : Dat shSame) (hr : RdArgs (fun i => W.heap[i]?) shSame y args.toList) (hf : fit shSame y) :
    Calls Try.prog 3 args W fun e W' => e = .returned (.bool true) ∧ Below W.heap.size W W' := by
  obtain ⟨v0, r0, e0, h0, v1, r1, rfl, h1, v2, r2, rfl, h2, h3⟩ := hr
  rw [show r2 = [] from h3] at e0
  have h0' : v0 = .int .i64 y.1 := by have := h0.1; simpa using this
  have h1' : v1 = .int .i64 y.2.1 := by have := h1.1; simpa using this
  obtain ⟨a, l, k, rfl, hl, ho⟩ := opsIn h2
  subst h0' h1'
  obtain rfl : args = #[.int .i64 y.1, .int .i64 y.2.1, .slice a l k] := by cases args; simpa using e0
  have hb : l * 32 ≤ reachBytes := by rw [hl]; exact hf.2.2.1.1
  unfold reachBytes at hb
  refine s3 (Own.start W) ho (by omega) fun Im' w' hle ho' => ⟨rfl, ho'.below hle⟩

theorem same_contract (H : Type) (enc : TypeId × Value → H) (W : World) (base : Nat) (args : Array Value) (ds gs : List (DataW H)) (before : List MemPlace)
    (hval : ∀ (j : Nat) t v, Try.f3.params[j]? = some t → args[j]? = some v → Value.okWide Try.prog W .any base t v)
    (hW : DataW.Whole enc Try.prog Try.f3.params.toList Rows.bufSameSpec.vars false W args.toList ds gs before)
    (hwt : (DataW.weightsEach Try.prog (Try.f3.params.toList ++ Rows.bufSameSpec.plain.varTypes Try.prog) (ds ++ gs)).all (· ≤ reachBytes) = true) :
    Calls Try.prog 3 args W fun e W' => ∃ v, e = .returned v ∧ Rows.bufSameSpec.post enc Try.prog Try.f3 false true false false W args v W' := by
  refine contract_sized (S := shSame) (k := 8) (tb := 4) laidOut (by rw [Try.params3]; decide +kernel) rfl rfl (by kernel_rfl) Try.underlying4 ?_ (by kernel_rfl) hval hW hwt fun y hr hfit => calls_same W args y hr hfit
  intro gs hg hl
  subst hg
  rw [List.append_nil]
  match ds, hl with
  | [d1, d2, d3], _ => rfl

theorem same_lifted (os : Os) (started : os.Started) (H : Type) (enc : TypeId × Value → H) :
    ReturnsInHanded {} Try.checked os 3 .any (Rows.bufSameSpec.pre6 enc Try.prog Try.f3 Rows.bufSameRow.domain false) (Rows.bufSameSpec.post enc Try.prog Try.f3 false true false false) :=
  returnsInHanded_of_change_sized (C := Try.checked) own started (by kernel_rfl) Try.func3
    (ChangeSpec.witness6 (enc := enc) (C := Try.checked) false ⟨#[], #[.int .i64 0, .int .i64 0, .slice none 0 0], []⟩ 8 (by kernel_rfl) (by kernel_rfl) (by kernel_rfl) (by kernel_rfl))
    fun W base args ds gs before hval hW _ hwt _ => same_contract H enc W base args ds gs before hval hW hwt

theorem bufSame : Rows.BufSameSaid :=
  OpenClaim.holds_of_wide 3 Try.f3 rfl rfl rfl rfl rfl rfl rfl ⟨rfl, rfl, rfl, rfl, rfl⟩ rfl rfl rfl rfl rfl (by kernel_rfl) Try.func3 (by kernel_rfl)
    (of_decide_eq_true (by kernel_rfl)) (by unfold Func.isWrapper; first | (rw [if_pos (by decide +kernel)]; kernel_rfl) | (rw [if_neg (by decide +kernel)]; exact ⟨rfl, rfl⟩))
    (fun os started H enc _ => same_lifted os started H enc)
end Go.Proofs.Ytgkcckghmlccnaa
#print axioms Go.Proofs.Ytgkcckghmlccnaa.bufSame
