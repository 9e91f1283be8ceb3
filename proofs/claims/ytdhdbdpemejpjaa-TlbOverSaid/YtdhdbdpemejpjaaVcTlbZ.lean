/- PROVED: TlbOver answers true at every input (Rows.TlbOverSaid). No condition. -/
import Derived.Test.YtdhdbdpemejpjaaRows
import Derived.Test.YtdhdbdpemejpjaaVcRead
import Derived.Test.YtdhdbdpemejpjaaVcTlbI
import Derived.SizedLaws
namespace Go.Proofs.Ytdhdbdpemejpjaa
open Go Go.Vc Go.RowKit Go.ChangeShapes Go.WideShapes Go.ChangeAt
set_option maxRecDepth 100000
set_option linter.unusedVariables false

theorem own : ownKnob Try.prog.godebug = none := by kernel_rfl
theorem laidOut : laidOutB Try.prog = true := by kernel_rfl
def sh_over : Sh := .cons (.sl 72 (.cons (.int .i64) (.cons (.int .i64) (.cons (.cons (.int .i64) (.cons (.int .i64) .unit)) (.cons (.int .u32) (.cons (.int .i64) (.cons (.sl 8 (.int .i64)) .unit))))))) (.cons (.int .i64) (.cons (.sl 8 (.int .i64)) (.cons (.sl 8 (.int .i64)) .unit)))
def shOp : Sh := .cons (.int .i64) (.cons (.int .i64) (.cons (.cons (.int .i64) (.cons (.int .i64) .unit)) (.cons (.int .u32) (.cons (.int .i64) (.cons (.sl 8 (.int .i64)) .unit)))))
theorem op_cells (Im : Mem) (x : Dat shOp) (ws : List Value) (h : Rd Im shOp x ws) : ∃ o, ws = opC o ∧ True := by
  obtain ⟨c1, d1, rfl, ⟨rfl, _⟩, c2, d2, rfl, ⟨rfl, _⟩, c3, d3, rfl, ⟨e1, f1, rfl, ⟨rfl, _⟩, e2, f2, rfl, ⟨rfl, _⟩, hu1⟩, c4, d4, rfl, ⟨rfl, _⟩, c5, d5, rfl, ⟨rfl, _⟩, c6, d6, rfl, ⟨a, l, k, rfl, _⟩, hu2⟩ := h
  rw [show f2 = [] from hu1, show d6 = [] from hu2]
  exact ⟨⟨x.1, x.2.1, (x.2.2.1.1, x.2.2.1.2.1), x.2.2.2.1, x.2.2.2.2.1, a, l, k⟩, rfl, trivial⟩
theorem int_cells (Im : Mem) (x : Dat (.int .i64)) (ws : List Value) (h : Rd Im (.int .i64) x ws) : ∃ o, ws = intC o ∧ True := ⟨x, h.1, trivial⟩
theorem calls_over (W : World) (args : Array Value) (y : Dat sh_over) (hr : RdArgs (fun i => W.heap[i]?) sh_over y args.toList) (hf : fit sh_over y) :
    Calls Try.prog 3 args W fun e W' => e = .returned (.bool true) ∧ Below W.heap.size W W' := by
  obtain ⟨v0, r0, e0, h0, v1, r1, rfl, h1, v2, r2, rfl, h2, v3, r3, rfl, h3, h4⟩ := hr
  rw [show r3 = [] from h4] at e0
  have h1' : v1 = .int .i64 y.2.1 := by have := h1.1; simpa using this
  obtain ⟨a, l, k, os, rfl, hl, ho, _, _⟩ := inE_of_rd' (f := opC) (op_cells _) h0
  obtain ⟨ta, tl, tk, ts, rfl, htl, ht, _, _⟩ := inE_of_rd' (f := intC) (int_cells _) h2
  obtain ⟨oa, ol, ok, us, rfl, hol, hu, _, _⟩ := inE_of_rd' (f := intC) (int_cells _) h3
  subst h1'
  obtain rfl : args = #[.slice a l k, .int .i64 y.2.1, .slice ta tl tk, .slice oa ol ok] := by cases args; simpa using e0
  have hb : l * 72 ≤ reachBytes := by rw [hl]; exact hf.1.1
  have hb2 : tl * 8 ≤ reachBytes := by rw [htl]; exact hf.2.2.1.1
  have hb3 : ol * 8 ≤ reachBytes := by rw [hol]; exact hf.2.2.2.1.1
  unfold reachBytes at hb hb2 hb3
  exact s3 (Own.start W) ho (by omega) ht (by omega) hu (by omega) fun w' ho' => ⟨rfl, ho'.below (Mem.le_refl _)⟩

theorem over_lifted (os : Os) (started : os.Started) (H : Type) (enc : TypeId × Value → H) :
    ReturnsInHanded {} Try.checked os 3 .any (Rows.tlbOverSpec.pre6 enc Try.prog Try.f3 Rows.tlbOverRow.domain false) (Rows.tlbOverSpec.post enc Try.prog Try.f3 false true false false) := by
  refine returnsInHanded_of_change_sized (C := Try.checked) own started (by kernel_rfl) Try.func3
    (ChangeSpec.witness6 (enc := enc) (C := Try.checked) false ⟨#[], #[.slice none 0 0, .int .i64 0, .slice none 0 0, .slice none 0 0], []⟩ 8 (by kernel_rfl) (by kernel_rfl) (by kernel_rfl) (by kernel_rfl)) ?_
  intro W base args ds gs before hval hW _ hwt _
  refine contract_sized (S := sh_over) (k := 12) (tb := 4) laidOut (by rw [Try.params3]; decide +kernel) rfl rfl (by kernel_rfl) Try.underlying4 ?_ (by kernel_rfl) hval hW hwt fun y hr hfit => calls_over W args y hr hfit
  intro gs hg hl
  subst hg
  rw [List.append_nil]
  match ds, hl with
  | [d1, d2, d3, d4], _ => rfl
theorem tlbOver : Rows.TlbOverSaid :=
  OpenClaim.holds_of_wide 3 Try.f3 rfl rfl rfl rfl rfl rfl rfl ⟨rfl, rfl, rfl, rfl, rfl⟩ rfl rfl rfl rfl rfl (by kernel_rfl) Try.func3 (by kernel_rfl)
    (of_decide_eq_true (by kernel_rfl)) (by unfold Func.isWrapper; first | (rw [if_pos (by decide +kernel)]; kernel_rfl) | (rw [if_neg (by decide +kernel)]; exact ⟨rfl, rfl⟩))
    (fun os started H enc _ => over_lifted os started H enc)
end Go.Proofs.Ytdhdbdpemejpjaa
#print axioms Go.Proofs.Ytdhdbdpemejpjaa.tlbOver
