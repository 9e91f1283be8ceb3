/- A part of the proof: lemmas. -/
import Derived.Test.YtimokldcmpbjcaaDoorCards
import Derived.Test.YtimokldcmpbjcaaDoorTie
import Derived.Test.YtimokldcmpbjcaaDoorVcNamecB
import Derived.Test.YtimokldcmpbjcaaDoorVcRead
import Derived.SizedLaws
import Derived.Lib.LaidIn
import Derived.Lib.LaidU8T
import Derived.PinnedBridge
import Derived.Deep.DeepHandedRow
import Derived.Deep.DeepWitnessRowRef
import Derived.SevenTiedAt
namespace Go.Proofs.YtimokldcmpbjcaaDoor
open Go Go.Vc Go.RowKit Go.ChangeShapes Go.WideShapes Go.ChangeAt
set_option maxRecDepth 100000
set_option linter.unusedVariables false

theorem own : ownKnob Tryd.prog.godebug = none := by kernel_rfl
theorem laidOut : laidOutB Tryd.prog = true := by kernel_rfl

/-- The variable MaxLen holds a number. -/
theorem maxLen_of {W : World} (h : W.ShapedOpen Tryd.prog) : MaxLen (fun k => W.heap[k]?) := by
  obtain ⟨cs, h1, h2, h3⟩ := h.1 0 #[.int .i64 0] 3 (of_decide_eq_true (by kernel_rfl)) (by kernel_rfl)
  obtain ⟨ts, hts, _, hcell⟩ := h3 (by kernel_rfl)
  have hts2 : Tryd.prog.cellTypes Tryd.prog.depth 3 = some [3] := by kernel_rfl
  rw [hts2] at hts
  cases hts
  have h2' : cs.size = 1 := h2
  have h0 : cs[0]? = some cs[0] := by simp
  obtain ⟨u, hu, hok⟩ := hcell 0 _ h0
  simp at hu
  subst hu
  unfold Cell.ok at hok
  rw [Tryd.underlying3] at hok
  refine ⟨cs, 3, (0, 0), ?_⟩
  cases hv : cs[0] with
  | int k n =>
    rw [hv] at hok h0
    obtain ⟨rfl, _⟩ := hok
    exact ⟨n, h1, h0⟩
  | _ => rw [hv] at hok; exact hok.elim

/-- A world for the witness: the two tables hold what their initialisers lay. -/
noncomputable def laidWorld (os : Os) : World :=
  let w0 := World.holding Tryd.prog os ⟨#[], #[], []⟩
  let put (h : Array Obj) (g : Nat) (cs : Array Value) : Array Obj := h.modify g fun
    | .cells _ t frozen => .cells cs t frozen
    | o => o
  let h1 := put w0.heap 1 (Lib.firstTab.map fun z => Value.int .u8 z).toArray
  let h2 := put h1 2 ((List.range 16).flatMap fun i => [Value.int .u8 (Lib.accLo i), Value.int .u8 (Lib.accHi i)]).toArray
  { w0 with heap := h2 }
theorem laid_met (os : Os) (args : Array Value) : laidMet Tryd.prog Rows.namecSplitsRow.laid ((laidWorld os).forCall (fun _ _ => 0) ⟨#[], args, []⟩).memory :=
  (LaidIn.of_run (l := [("unicode/utf8.acceptRanges", Lib.acceptData), ("unicode/utf8.first", Lib.firstData)]) [2, 1] 8 (by kernel_rfl) (by kernel_rfl) (by kernel_rfl) (by kernel_rfl)).met

end Go.Proofs.YtimokldcmpbjcaaDoor
