/-
  DERIVED. GIVEN WITH THE SEED: THE CARDS: each row of YtimokldcmpbjcaaDoorRows.lean that lists a variable, with what it lists TIED to the program's text (the seventh form; the later family's looks); each row that meets fmt, with fmt's text TOLD by the authors' own Lean function (tested against real Go, not proved from fmt's source: count such statements apart). THE CARD IS WHAT COUNTS. Prove the row's statement (the work); the ties are given (YtimokldcmpbjcaaDoorTie.lean); close each card by the builder's one call (the guide's Derived/Test/ToyasCard.lean, 'card_holds'). Laid BY PROGRAM, IN A SANDBOX (cutbox-door.mjs). By AI agents, Wed Nov 11 2026. No macro, syntax, notation, axiom, sorry.
-/
import Derived.Test.YtimokldcmpbjcaaDoorRows
import GoSem.ClaimSeven
namespace Go.Proofs.YtimokldcmpbjcaaDoor
namespace Rows

/-- THE TIED CARD OF 'parapetlaw19.NamecSplits'. -/
def namecSplitsCard : Claim7 := { stood := { row := namecSplitsRow, standIns := [], harness := (true, "f676313efec9de1e98b2fd6f78a33d66df2af4c9a1e61b4aa35c037fbd534bec"), looks := false }, kinds := [], alts := [], laidByText := true, laidKinds := [.data, .pinned], laidTests := true, laidLooks := .later }
def NamecSplitsCardSaid : Prop := Claim7.holds Tryd.pinned (.plain (OpenSpec.ofChange namecSplitsSpec)) namecSplitsCard

/-- THE TIED CARD OF 'parapetlaw19.NamecKeeps'. -/
def namecKeepsCard : Claim7 := { stood := { row := namecKeepsRow, standIns := [], harness := (true, "f676313efec9de1e98b2fd6f78a33d66df2af4c9a1e61b4aa35c037fbd534bec"), looks := false }, kinds := [], alts := [], laidByText := true, laidKinds := [.data, .pinned], laidTests := true, laidLooks := .later }
def NamecKeepsCardSaid : Prop := Claim7.holds Tryd.pinned (.plain (OpenSpec.ofChange namecKeepsSpec)) namecKeepsCard

/-- THE TIED CARD OF 'parapetlaw19.NamecReaders'. -/
def namecReadersCard : Claim7 := { stood := { row := namecReadersRow, standIns := [], harness := (true, "f676313efec9de1e98b2fd6f78a33d66df2af4c9a1e61b4aa35c037fbd534bec"), looks := false }, kinds := [], alts := [], laidByText := true, laidKinds := [.data, .pinned], laidTests := true, laidLooks := .later }
def NamecReadersCardSaid : Prop := Claim7.holds Tryd.pinned (.plain (OpenSpec.ofChange namecReadersSpec)) namecReadersCard

/-- THE TIED CARD OF 'parapetlaw19.NamecNobody'. -/
def namecNobodyCard : Claim7 := { stood := { row := namecNobodyRow, standIns := [], harness := (true, "f676313efec9de1e98b2fd6f78a33d66df2af4c9a1e61b4aa35c037fbd534bec"), looks := false }, kinds := [], alts := [], laidByText := true, laidKinds := [.data, .pinned], laidTests := true, laidLooks := .later }
def NamecNobodyCardSaid : Prop := Claim7.holds Tryd.pinned (.plain (OpenSpec.ofChange namecNobodySpec)) namecNobodyCard

/-- THE SECOND FORM's CARD OF 'parapetlaw19.NamecSplits'. -/
def namecSplitsUptoCard : Claim7 := { stood := { row := namecSplitsUptoRow, standIns := [], harness := (true, "f676313efec9de1e98b2fd6f78a33d66df2af4c9a1e61b4aa35c037fbd534bec"), looks := false }, kinds := [], alts := [], laidByText := true, laidKinds := [.data, .pinned], laidTests := true, laidLooks := .later }
def NamecSplitsUptoCardSaid : Prop := Claim7.holds Tryd.pinned (.plain (OpenSpec.upto namecSplitsSpec)) namecSplitsUptoCard

/-- THE SECOND FORM's CARD OF 'parapetlaw19.NamecKeeps'. -/
def namecKeepsUptoCard : Claim7 := { stood := { row := namecKeepsUptoRow, standIns := [], harness := (true, "f676313efec9de1e98b2fd6f78a33d66df2af4c9a1e61b4aa35c037fbd534bec"), looks := false }, kinds := [], alts := [], laidByText := true, laidKinds := [.data, .pinned], laidTests := true, laidLooks := .later }
def NamecKeepsUptoCardSaid : Prop := Claim7.holds Tryd.pinned (.plain (OpenSpec.upto namecKeepsSpec)) namecKeepsUptoCard

/-- THE SECOND FORM's CARD OF 'parapetlaw19.NamecReaders'. -/
def namecReadersUptoCard : Claim7 := { stood := { row := namecReadersUptoRow, standIns := [], harness := (true, "f676313efec9de1e98b2fd6f78a33d66df2af4c9a1e61b4aa35c037fbd534bec"), looks := false }, kinds := [], alts := [], laidByText := true, laidKinds := [.data, .pinned], laidTests := true, laidLooks := .later }
def NamecReadersUptoCardSaid : Prop := Claim7.holds Tryd.pinned (.plain (OpenSpec.upto namecReadersSpec)) namecReadersUptoCard

/-- THE SECOND FORM's CARD OF 'parapetlaw19.NamecNobody'. -/
def namecNobodyUptoCard : Claim7 := { stood := { row := namecNobodyUptoRow, standIns := [], harness := (true, "f676313efec9de1e98b2fd6f78a33d66df2af4c9a1e61b4aa35c037fbd534bec"), looks := false }, kinds := [], alts := [], laidByText := true, laidKinds := [.data, .pinned], laidTests := true, laidLooks := .later }
def NamecNobodyUptoCardSaid : Prop := Claim7.holds Tryd.pinned (.plain (OpenSpec.upto namecNobodySpec)) namecNobodyUptoCard
end Rows
end Go.Proofs.YtimokldcmpbjcaaDoor
