/- PROVED: TlbPlays answers true at every input of bulk at most 1048576 (Rows.TlbPlaysUptoSaid). No other condition. -/
import Derived.Test.YtdhdbdpemejpjaaRows
import Derived.Test.YtdhdbdpemejpjaaVcRead
import Derived.Test.YtdhdbdpemejpjaaVcTlbQ
import Derived.SizedLaws
import Derived.Deep.DeepHandedRow
import Derived.Deep.DeepWitnessRowRef
namespace Go.Proofs.Ytdhdbdpemejpjaa
open Go Go.Vc Go.RowKit Go.ChangeShapes Go.WideShapes Go.ChangeAt
set_option maxRecDepth 100000
set_option linter.unusedVariables false

theorem own : ownKnob Try.prog.godebug = none := by kernel_rfl
theorem laidOut : laidOutB Try.prog = true := by kernel_rfl
theorem uptoLaw {H : Type} : BulkLaw (H := H) Rows.uptoBulk Rows.uptoBulkAll where
  str l := by simp [Rows.uptoBulk]
  lit l := by cases l <;> simp [Rows.uptoBulk]
  nil := by simp [Rows.uptoBulk]
  agg l := by simp [Rows.uptoBulk]
  sl l m := by simp only [Rows.uptoBulk]; omega
  nil' := by simp [Rows.uptoBulkAll]
  cons d l := by simp [Rows.uptoBulkAll]
def sh_plays : Sh := .cons (.int .i64) (.cons (.int .i64) (.cons (.sl 72 (.cons (.int .i64) (.cons (.int .i64) (.cons (.cons (.int .i64) (.cons (.int .i64) .unit)) (.cons (.int .u32) (.cons (.int .i64) (.cons (.sl 8 (.int .i64)) .unit))))))) .unit))
def shOp : Sh := .cons (.int .i64) (.cons (.int .i64) (.cons (.cons (.int .i64) (.cons (.int .i64) .unit)) (.cons (.int .u32) (.cons (.int .i64) (.cons (.sl 8 (.int .i64)) .unit)))))
theorem int_cells (Im : Mem) (x : Dat (.int .i64)) (ws : List Value) (h : Rd Im (.int .i64) x ws) : ∃ o, ws = intC o ∧ True := ⟨x, h.1, trivial⟩
theorem op_cells (Im : Mem) (x : Dat shOp) (ws : List Value) (h : Rd Im shOp x ws) : ∃ o : Op, ws = opC o ∧ ∃ ts, InE Im intC 1 o.ta o.tl ts ∧ ts.length = x.2.2.2.2.2.1.length := by
  obtain ⟨c1, d1, rfl, ⟨rfl, _⟩, c2, d2, rfl, ⟨rfl, _⟩, c3, d3, rfl, ⟨e1, f1, rfl, ⟨rfl, _⟩, e2, f2, rfl, ⟨rfl, _⟩, hu1⟩, c4, d4, rfl, ⟨rfl, _⟩, c5, d5, rfl, ⟨rfl, _⟩, c6, d6, rfl, h6, hu2⟩ := h
  rw [show f2 = [] from hu1, show d6 = [] from hu2]
  obtain ⟨v, hv⟩ : ∃ v, c6 = [v] := by obtain ⟨a, l, k, e, _⟩ := h6; exact ⟨_, e⟩
  subst hv
  obtain ⟨a, l, k, os, rfl, hl, ho, hol, _⟩ := inE_of_rd' (f := intC) (int_cells _) h6
  exact ⟨⟨x.1, x.2.1, (x.2.2.1.1, x.2.2.1.2.1), x.2.2.2.1, x.2.2.2.2.1, a, l, k⟩, rfl, os, ho, hol⟩
theorem calls_plays (W : World) (args : Array Value) (y : Dat sh_plays) (hr : RdArgs (fun i => W.heap[i]?) sh_plays y args.toList) (hb : bulk sh_plays y ≤ 1048576) (hf : fit sh_plays y) :
    Calls Try.prog 6 args W fun e W' => e = .returned (.bool true) ∧ Below W.heap.size W W' := by
  obtain ⟨v0, r0, e0, h0, v1, r1, rfl, h1, v2, r2, rfl, h2, h3⟩ := hr
  rw [show r2 = [] from h3] at e0
  have h0' : v0 = .int .i64 y.1 := by have := h0.1; simpa using this
  have h1' : v1 = .int .i64 y.2.1 := by have := h1.1; simpa using this
  obtain ⟨a, l, k, os, rfl, hl, ho, hol, hQ⟩ := inE_of_rd' (f := opC) (op_cells _) h2
  subst h0' h1'
  obtain rfl : args = #[.int .i64 y.1, .int .i64 y.2.1, .slice a l k] := by cases args; simpa using e0
  have hpos : ∀ x : Dat shOp, 1 ≤ bulk shOp x := fun x => by simp only [shOp, bulk]; omega
  have hsum : ∀ xs : List (Dat shOp), xs.length ≤ (xs.map (bulk shOp)).sum := fun xs => by
    induction xs with
    | nil => simp
    | cons x t ih => have := hpos x; simp only [List.map_cons, List.sum_cons, List.length_cons]; omega
  obtain ⟨xs, hxs⟩ : ∃ xs : List (Dat shOp), xs = y.2.2.1 := ⟨_, rfl⟩
  have hl' : l = xs.length := by rw [hxs]; exact hl
  have hol' : os.length = xs.length := by rw [hxs]; exact hol
  have hQ' : ∀ i (h : i < xs.length) (h2 : i < os.length), ∃ ts, InE (fun i => W.heap[i]?) intC 1 os[i].ta os[i].tl ts ∧ ts.length = xs[i].2.2.2.2.2.1.length := by rw [hxs]; exact hQ
  have hf' : ∀ x ∈ xs, x.2.2.2.2.2.1.length * 8 ≤ reachBytes := fun x hx => ((hf.2.2.1.2 x (by rw [← hxs]; exact hx)).2.2.2.2.2.1.1 : _)
  have hb' : (xs.map (bulk shOp)).sum + 3 ≤ 1048576 := by
    rw [hxs]
    have h2 : bulk sh_plays y = 1 + (1 + (((List.map (bulk shOp) y.2.2.1).sum + 1) + 0)) := rfl
    rw [h2] at hb
    exact Nat.le_trans (Nat.le_of_eq (by omega)) hb
  have h1 := hsum xs
  refine s6 (Own.start W) ho (by omega) (fun o ho' => ?_) fun w' ho' => ⟨rfl, ho'.below (Mem.le_refl _)⟩
  obtain ⟨i, hi, rfl⟩ := List.mem_iff_getElem.1 ho'
  obtain ⟨ts, h1, h2⟩ := hQ' i (by omega) hi
  refine ⟨ts, h1, ?_⟩
  have hfx := hf' xs[i] (List.getElem_mem _)
  unfold reachBytes at hfx
  rw [h2]
  omega


theorem plays_witness (os : Os) {H : Type} (enc : TypeId × Value → H) :
    (Rows.OpenSpec.upto Rows.tlbPlaysSpec).preRow enc Try.prog Try.f6 Rows.tlbPlaysUptoRow.domain false Rows.tlbPlaysUptoRow.laid ((World.holding Try.prog os ⟨#[], #[], []⟩).forCall (fun _ _ => 0) ⟨#[], #[.int .i64 0, .int .i64 0, .slice none 0 0], []⟩).memory #[.int .i64 0, .int .i64 0, .slice none 0 0] := by
  have hw : (DataW.whole enc Try.prog ((World.holding Try.prog os ⟨#[], #[], []⟩).forCall (fun _ _ => 0) ⟨#[], #[.int .i64 0, .int .i64 0, .slice none 0 0], []⟩).memory Try.f6.params.toList Rows.tlbPlaysSpec.vars false (#[.int .i64 0, .int .i64 0, .slice none 0 0] : Array Value).toList 8).map (fun x => (x.1, x.2.1)) =
      some ([.lit (.int .i64 0), .lit (.int .i64 0), .nil], []) := by kernel_rfl
  obtain ⟨⟨x1, x2, x3⟩, hx, hx1⟩ := Option.map_eq_some_iff.1 hw
  simp only [Prod.mk.injEq] at hx1
  obtain ⟨rfl, rfl⟩ := hx1
  exact OpenSpec.preRow_of_cond 8 hx (by kernel_rfl) (fun k hk => by cases hk; rfl) (by kernel_rfl) (laidMetH_nil _ _)
theorem plays_lifted (os : Os) (started : os.Started) (H : Type) (enc : TypeId × Value → H) (F : Stop.Interp) :
    ReturnsInHanded {} Try.checked os 6 .any ((Rows.OpenSpec.upto Rows.tlbPlaysSpec).preRow enc Try.prog Try.f6 Rows.tlbPlaysUptoRow.domain false Rows.tlbPlaysUptoRow.laid) (((Rows.OpenSpec.upto Rows.tlbPlaysSpec).at F).post enc Try.prog Try.f6 false true false false) := by
  refine returnsInHanded_of_row (C := Try.checked) (s := (Rows.OpenSpec.upto Rows.tlbPlaysSpec)) own started (by kernel_rfl) Try.func6
    (witness_row_atRef (enc := enc) (C := Try.checked) false (World.holding Try.prog os ⟨#[], #[], []⟩) #[.int .i64 0, .int .i64 0, .slice none 0 0] rfl (by kernel_rfl) (by kernel_rfl) (by kernel_rfl) (plays_witness os enc)) ?_
  intro W base args ds gs before hval hW _ hk hwt _ _ _
  have hgs : gs = [] := by
    obtain ⟨_, _, _, hV, _⟩ := hW
    exact (trodVars_none hV).1
  subst hgs
  have hsmall : Rows.uptoBulkAll ds ≤ 1048576 := by
    have := hk _ rfl
    unfold Rows.uptoSmall at this
    rw [List.append_nil] at this
    exact of_decide_eq_true this
  refine contract_of (s := Rows.tlbPlaysSpec) (S := sh_plays) (k := 12) (tb := 4) uptoLaw laidOut (by rw [Try.params6]; decide +kernel) rfl (by kernel_rfl) Try.underlying4 ?_ (by kernel_rfl) hval hW fun y hr hb hfit => calls_plays W args y hr (Nat.le_trans hb hsmall) (hfit ?_)
  · intro gs hg hl
    subst hg
    rw [List.append_nil]
    match ds, hl with
    | [d1, d2, d3], _ => rfl
  · have hvt : Rows.tlbPlaysSpec.plain.varTypes Try.prog = [] := rfl
    have hwt' : (DataW.weightsEach Try.prog (Try.f6.params.toList ++ Rows.tlbPlaysSpec.plain.varTypes Try.prog) (ds ++ [])).all (· ≤ reachBytes) = true := hwt
    rw [hvt, List.append_nil, List.append_nil] at hwt'
    intro v hv
    simpa using List.all_eq_true.1 hwt' v hv
theorem tlbPlaysUpto : Rows.TlbPlaysUptoSaid :=
  OpenClaim.holds_of_cond 6 Try.f6 rfl rfl rfl rfl rfl rfl rfl ⟨rfl, rfl, rfl, rfl, rfl⟩ rfl rfl rfl rfl rfl (by kernel_rfl) Try.func6 (by kernel_rfl)
    (of_decide_eq_true (by kernel_rfl)) (by unfold Func.isWrapper; first | (rw [if_pos (by decide +kernel)]; kernel_rfl) | (rw [if_neg (by decide +kernel)]; exact ⟨rfl, rfl⟩))
    (fun os started H enc _ F => by rw [OpenClaim.pre_eq_preRow]; exact plays_lifted os started H enc F)
end Go.Proofs.Ytdhdbdpemejpjaa
#print axioms Go.Proofs.Ytdhdbdpemejpjaa.tlbPlaysUpto
