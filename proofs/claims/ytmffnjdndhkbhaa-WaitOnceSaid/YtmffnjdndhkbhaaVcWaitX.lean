/- PROVED: WaitOnce answers true at every input (Rows.WaitOnceSaid). No condition. -/
import Derived.Test.YtmffnjdndhkbhaaRows
import Derived.Test.YtmffnjdndhkbhaaVcRead
import Derived.Test.YtmffnjdndhkbhaaVcWaitI
import Derived.SizedLaws
namespace Go.Proofs.Ytmffnjdndhkbhaa
open Go Go.Vc Go.RowKit Go.ChangeShapes Go.WideShapes Go.ChangeAt
set_option maxRecDepth 100000
set_option linter.unusedVariables false

theorem own : ownKnob Try.prog.godebug = none := by kernel_rfl
theorem laidOut : laidOutB Try.prog = true := by kernel_rfl
def sh_once : Sh := .cons (.sl 96 (.cons (.int .i64) (.cons (.int .i64) (.cons (.sl 24 (.cons (.int .i64) (.cons (.int .i64) (.cons (.int .i64) .unit)))) (.cons (.cons (.int .i64) (.cons (.int .i64) (.cons (.int .i64) .unit))) (.cons (.cons (.int .i64) (.cons (.int .i64) (.cons (.int .i64) .unit))) (.cons (.int .i64) .unit))))))) .unit
def shChan : Sh := .cons (.int .i64) (.cons (.int .i64) (.cons (.int .i64) .unit))
def shOp : Sh := .cons (.int .i64) (.cons (.int .i64) (.cons (.sl 24 shChan) (.cons shChan (.cons shChan (.cons (.int .i64) .unit)))))
theorem chan_cells (Im : Mem) (x : Dat shChan) (ws : List Value) (h : Rd Im shChan x ws) : ∃ o : Chan, ws = chanC o ∧ True := by
  obtain ⟨c1, d1, rfl, ⟨rfl, _⟩, c2, d2, rfl, ⟨rfl, _⟩, c3, d3, rfl, ⟨rfl, _⟩, hu⟩ := h
  rw [show d3 = [] from hu]
  exact ⟨(x.1, x.2.1, x.2.2.1), rfl, trivial⟩
theorem wf_hi {n : Int} (h : (Lit.int .i64 n).wf = true) : n ≤ 9223372036854775807 := by
  have h : (decide (IntKind.min .i64 ≤ n) && decide (n ≤ IntKind.max .i64)) = true := h
  rw [Bool.and_eq_true] at h
  have := of_decide_eq_true h.2
  rw [show IntKind.max .i64 = 9223372036854775807 from rfl] at this
  exact this
theorem op_cells (Im : Mem) (x : Dat shOp) (ws : List Value) (h : Rd Im shOp x ws) : ∃ o : Op, ws = opC o ∧ o.tid ≤ 9223372036854775807 ∧ ∃ on, InE Im chanC 3 o.oa o.ol on ∧ on.length = x.2.2.1.length ∧ on.length ≤ o.oc := by
  obtain ⟨c1, d1, rfl, ⟨rfl, _⟩, c2, d2, rfl, ⟨rfl, hw⟩, c3, d3, rfl, h3, c4, d4, rfl, h4, c5, d5, rfl, h5, c6, d6, rfl, ⟨rfl, _⟩, hu⟩ := h
  rw [show d6 = [] from hu]
  obtain ⟨f, rfl, _⟩ := chan_cells Im _ _ h4
  obtain ⟨t, rfl, _⟩ := chan_cells Im _ _ h5
  have h3c := h3
  obtain ⟨a', l', k', e', hlen, hcap, _⟩ := h3c
  subst e'
  obtain ⟨a, l, k, os, hv, hl, ho, hol, _⟩ := inE_of_rd' (f := chanC) (chan_cells _) h3
  cases hv
  exact ⟨⟨x.1, x.2.1, a', l', k', f, t, x.2.2.2.2.2.1⟩, rfl, wf_hi hw, os, ho, hol, by have := ho.len; show os.length ≤ k'; omega⟩
theorem calls_once (W : World) (args : Array Value) (y : Dat sh_once) (hr : RdArgs (fun i => W.heap[i]?) sh_once y args.toList) (hf : fit sh_once y) :
    Calls Try.prog 3 args W fun e W' => e = .returned (.bool true) ∧ Below W.heap.size W W' := by
  obtain ⟨v0, r0, e0, h0, h1⟩ := hr
  rw [show r0 = [] from h1] at e0
  obtain ⟨a, l, k, os, rfl, hl, ho, hol, hQ⟩ := inE_of_rd' (f := opC) (op_cells _) h0
  obtain rfl : args = #[.slice a l k] := by cases args; simpa using e0
  obtain ⟨xs, hxs⟩ : ∃ xs : List (Dat shOp), xs = y.1 := ⟨_, rfl⟩
  have hl' : l = xs.length := by rw [hxs]; exact hl
  have hol' : os.length = xs.length := by rw [hxs]; exact hol
  have hQ' : ∀ i (h : i < xs.length) (h2 : i < os.length), os[i].tid ≤ 9223372036854775807 ∧ ∃ on, InE (fun i => W.heap[i]?) chanC 3 os[i].oa os[i].ol on ∧ on.length = xs[i].2.2.1.length ∧ on.length ≤ os[i].oc := by rw [hxs]; exact hQ
  have hb : xs.length * 96 ≤ reachBytes := by rw [hxs]; exact hf.1.1
  have hf' : ∀ x ∈ xs, x.2.2.1.length * 24 ≤ reachBytes := fun x hx => ((hf.1.2 x (by rw [← hxs]; exact hx)).2.2.1.1 : _)
  unfold reachBytes at hb
  refine s3 (Own.start W) ho (by omega) (fun o ho' => ?_) fun w' ho' => ⟨rfl, ho'.below (Mem.le_refl _)⟩
  obtain ⟨i, hi, rfl⟩ := List.mem_iff_getElem.1 ho'
  obtain ⟨h1, on, h2, h3, h4⟩ := hQ' i (by omega) hi
  refine ⟨h1, on, h2, ?_, h4⟩
  have hfx := hf' xs[i] (List.getElem_mem _)
  unfold reachBytes at hfx
  rw [h3]
  omega


theorem once_lifted (os : Os) (started : os.Started) (H : Type) (enc : TypeId × Value → H) :
    ReturnsInHanded {} Try.checked os 3 .any (Rows.waitOnceSpec.pre6 enc Try.prog Try.f3 Rows.waitOnceRow.domain false) (Rows.waitOnceSpec.post enc Try.prog Try.f3 false true false false) := by
  refine returnsInHanded_of_change_sized (C := Try.checked) own started (by kernel_rfl) Try.func3
    (ChangeSpec.witness6 (enc := enc) (C := Try.checked) false ⟨#[], #[.slice none 0 0], []⟩ 8 (by kernel_rfl) (by kernel_rfl) (by kernel_rfl) (by kernel_rfl)) ?_
  intro W base args ds gs before hval hW _ hwt _
  refine contract_sized (S := sh_once) (k := 12) (tb := 4) laidOut (by rw [Try.params3]; decide +kernel) rfl rfl (by kernel_rfl) Try.underlying4 ?_ (by kernel_rfl) hval hW hwt fun y hr hfit => calls_once W args y hr hfit
  intro gs hg hl
  subst hg
  rw [List.append_nil]
  match ds, hl with
  | [d1], _ => rfl
theorem waitOnce : Rows.WaitOnceSaid :=
  OpenClaim.holds_of_wide 3 Try.f3 rfl rfl rfl rfl rfl rfl rfl ⟨rfl, rfl, rfl, rfl, rfl⟩ rfl rfl rfl rfl rfl (by kernel_rfl) Try.func3 (by kernel_rfl)
    (of_decide_eq_true (by kernel_rfl)) (by unfold Func.isWrapper; first | (rw [if_pos (by decide +kernel)]; kernel_rfl) | (rw [if_neg (by decide +kernel)]; exact ⟨rfl, rfl⟩))
    (fun os started H enc _ => once_lifted os started H enc)
end Go.Proofs.Ytmffnjdndhkbhaa
#print axioms Go.Proofs.Ytmffnjdndhkbhaa.waitOnce
