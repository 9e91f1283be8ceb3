/-
  No cell of these rows narrows 'for every input' (looked for: loops, veiled, ifaces, maps, wideKeys, modest, calm, conditions, laid).
  DERIVED. THE GIVEN ROWS OF THIS SEAT. 3 by the template 'for every input the law returns true; each argument reads behind the call as it read before'; 0 by the template 'total and deterministic' (their statements: YtgkcckghmlccnaaTotals.lean).
  GIVEN WITH THE SEED: the statements are not yours to turn. If you find one false, say at which input.
  Laid BY PROGRAM, IN A SANDBOX (cutbox-rows.mjs): the forced cells as the released guide's own fill.sh prints them over the translation 21cdde55bda6b5aa… (all of the seat's roots in one cut). By AI agents, Wed Nov 11 2026. No macro, syntax, notation, axiom, sorry.
-/
import Derived.Test.YtgkcckghmlccnaaChecked
import GoSem.Claim
import GoSem.ClaimJoined
import GoSem.ClaimMapViews
import Derived.JoinedTies
import Derived.KernelRfl
namespace Go.Proofs.Ytgkcckghmlccnaa
/- THE CELL 'sum', in the pinned program and in every row, IS THE sha256 OF THE DUMP (.gsa) THAT YtgkcckghmlccnaaProg.lean LOADS. Nothing in Lean hashes anything: it is a label: what it is worth is what the hold of that sum in a sandbox is worth. -/
noncomputable def Try.pinned : Pinned := { name := "ytgkcckghmlccnaa", sum := "21cdde55bda6b5aa3e952925f5fc5a2b341b33f75fc1d419706a2825f6437c96", checked := Try.checked }
namespace Rows
def none {H : Type} : Left H := { results := [], args := [] }

/-- 'parapetlaw15.BufSame': WHATEVER THE INPUT: true; the input reads as it did. -/
def bufSameSpec : ChangeSpec := { name := "bufSame", fn := fun _ => fun
  | [d1, d2, d3] => { results := [.lit (.bool true)], args := [d1, d2, d3] }
  | _ => none }
def bufSameRow : OpenClaim := { program := "ytgkcckghmlccnaa", sum := "21cdde55bda6b5aa3e952925f5fc5a2b341b33f75fc1d419706a2825f6437c96", func := "parapet/parapetlaw15.BufSame", spec := "bufSame", unfollowed := true, recurses := true, apart := false }
def BufSameSaid : Prop := bufSameRow.holds Try.pinned (OpenSpec.ofChange bufSameSpec)

/-- ITS FALSE NEIGHBOUR: 'it returns false'. Refute it at one input. -/
def bufSameWrong : ChangeSpec := { name := "bufSame", fn := fun _ => fun
  | [d1, d2, d3] => { results := [.lit (.bool false)], args := [d1, d2, d3] }
  | _ => none }
def BufSameWrongFalsely : Prop := bufSameRow.holds Try.pinned (OpenSpec.ofChange bufSameWrong)

/-- 'parapetlaw15.BufHolds': WHATEVER THE INPUT: true; the input reads as it did. -/
def bufHoldsSpec : ChangeSpec := { name := "bufHolds", fn := fun _ => fun
  | [d1, d2] => { results := [.lit (.bool true)], args := [d1, d2] }
  | _ => none }
def bufHoldsRow : OpenClaim := { program := "ytgkcckghmlccnaa", sum := "21cdde55bda6b5aa3e952925f5fc5a2b341b33f75fc1d419706a2825f6437c96", func := "parapet/parapetlaw15.BufHolds", spec := "bufHolds", unfollowed := true, recurses := true, apart := false }
def BufHoldsSaid : Prop := bufHoldsRow.holds Try.pinned (OpenSpec.ofChange bufHoldsSpec)

/-- ITS FALSE NEIGHBOUR: 'it returns false'. Refute it at one input. -/
def bufHoldsWrong : ChangeSpec := { name := "bufHolds", fn := fun _ => fun
  | [d1, d2] => { results := [.lit (.bool false)], args := [d1, d2] }
  | _ => none }
def BufHoldsWrongFalsely : Prop := bufHoldsRow.holds Try.pinned (OpenSpec.ofChange bufHoldsWrong)

/-- 'parapetlaw15.BufBack': WHATEVER THE INPUT: true; the input reads as it did. -/
def bufBackSpec : ChangeSpec := { name := "bufBack", fn := fun _ => fun
  | [d1, d2] => { results := [.lit (.bool true)], args := [d1, d2] }
  | _ => none }
def bufBackRow : OpenClaim := { program := "ytgkcckghmlccnaa", sum := "21cdde55bda6b5aa3e952925f5fc5a2b341b33f75fc1d419706a2825f6437c96", func := "parapet/parapetlaw15.BufBack", spec := "bufBack", unfollowed := true, recurses := true, apart := false }
def BufBackSaid : Prop := bufBackRow.holds Try.pinned (OpenSpec.ofChange bufBackSpec)

/-- ITS FALSE NEIGHBOUR: 'it returns false'. Refute it at one input. -/
def bufBackWrong : ChangeSpec := { name := "bufBack", fn := fun _ => fun
  | [d1, d2] => { results := [.lit (.bool false)], args := [d1, d2] }
  | _ => none }
def BufBackWrongFalsely : Prop := bufBackRow.holds Try.pinned (OpenSpec.ofChange bufBackWrong)

/- THE SECOND FORM. 'bulk': how many values and letters a reading holds, each counted each time it is reached (what is shared counts as often as it is met; a slice's spare places count too). A statement '..UptoSaid' is the law's where the arguments, and the package variables that the reading takes, are together of bulk at most 1048576: NARROWER than '..Said'. Prove '..Said' where nothing that the law and all that it calls make is longer than what came in: it says more and counts as full. Else prove '..UptoSaid'. A law counts once. -/
mutual
def uptoBulk {H : Type} : DataW H → Nat
  | .lit (.string bytes) => bytes.length + 1
  | .lit _ => 1
  | .nil => 1
  | .ptr d => uptoBulk d + 1
  | .slice elems spare => uptoBulkAll elems + uptoBulkAll spare + 1
  | .agg parts => uptoBulkAll parts + 1
  | .iface _ d => uptoBulk d + 1
  | .map entries => uptoBulkEntries entries + 1
  | .held _ => 1
def uptoBulkAll {H : Type} : List (DataW H) → Nat
  | [] => 0
  | d :: r => uptoBulk d + uptoBulkAll r
def uptoBulkEntries {H : Type} : List (Lit × DataW H) → Nat
  | [] => 0
  | x :: r => uptoBulkEntry x + uptoBulkEntries r
def uptoBulkEntry {H : Type} : Lit × DataW H → Nat
  | (.string bytes, d) => bytes.length + uptoBulk d + 1
  | (_, d) => uptoBulk d + 1
 end
def uptoSmall : (H : Type) → List (DataW H) → Bool := fun _ ds => decide (uptoBulkAll ds ≤ 1048576)
def OpenSpec.upto (s : _root_.Go.ChangeSpec) : _root_.Go.OpenSpec := { _root_.Go.OpenSpec.ofChange s with cond := some uptoSmall }

/-- 'parapetlaw15.BufSame', WHERE WHAT IT READS IS OF BULK AT MOST 1048576: true; the input reads as it did. -/
def bufSameUptoRow : OpenClaim := { program := "ytgkcckghmlccnaa", sum := "21cdde55bda6b5aa3e952925f5fc5a2b341b33f75fc1d419706a2825f6437c96", func := "parapet/parapetlaw15.BufSame", spec := "bufSame", unfollowed := true, recurses := true, apart := false, narrowed := true }
def BufSameUptoSaid : Prop := bufSameUptoRow.holds Try.pinned (OpenSpec.upto bufSameSpec)

/-- 'parapetlaw15.BufHolds', WHERE WHAT IT READS IS OF BULK AT MOST 1048576: true; the input reads as it did. -/
def bufHoldsUptoRow : OpenClaim := { program := "ytgkcckghmlccnaa", sum := "21cdde55bda6b5aa3e952925f5fc5a2b341b33f75fc1d419706a2825f6437c96", func := "parapet/parapetlaw15.BufHolds", spec := "bufHolds", unfollowed := true, recurses := true, apart := false, narrowed := true }
def BufHoldsUptoSaid : Prop := bufHoldsUptoRow.holds Try.pinned (OpenSpec.upto bufHoldsSpec)

/-- 'parapetlaw15.BufBack', WHERE WHAT IT READS IS OF BULK AT MOST 1048576: true; the input reads as it did. -/
def bufBackUptoRow : OpenClaim := { program := "ytgkcckghmlccnaa", sum := "21cdde55bda6b5aa3e952925f5fc5a2b341b33f75fc1d419706a2825f6437c96", func := "parapet/parapetlaw15.BufBack", spec := "bufBack", unfollowed := true, recurses := true, apart := false, narrowed := true }
def BufBackUptoSaid : Prop := bufBackUptoRow.holds Try.pinned (OpenSpec.upto bufBackSpec)

end Rows
end Go.Proofs.Ytgkcckghmlccnaa
