/-
  DERIVED. GIVEN WITH THE SEED: THE CARDS: each row of YtaahjmkjdcikcaaDoorRows.lean that lists a variable, with what it lists TIED to the program's text (the seventh form; the later family's looks); each row that meets fmt, with fmt's text TOLD by the authors' own Lean function (tested against real Go, not proved from fmt's source: count such statements apart). THE CARD IS WHAT COUNTS. Prove the row's statement (the work); the ties are given (YtaahjmkjdcikcaaDoorTie.lean); close each card by the builder's one call (the guide's Derived/Test/ToyasCard.lean, 'card_holds'). Laid BY PROGRAM, IN A SANDBOX (cutbox-door.mjs). By AI agents, Wed Nov 11 2026. No macro, syntax, notation, axiom, sorry.
-/
import Derived.Test.YtaahjmkjdcikcaaDoorRows
import GoSem.ClaimSeven
namespace Go.Proofs.YtaahjmkjdcikcaaDoor
namespace Rows

/-- THE TIED CARD OF 'compradorlaw57.LockTexts'. -/
def lockTextsCard : Claim7 := { stood := { row := lockTextsRow, standIns := [], harness := (true, "3324512f7e3733d9bfb454d60c7b21bd2bd9dbf6afe521f9cd9343ee70b202df"), looks := false }, kinds := [], alts := [], laidByText := true, laidKinds := [.data, .data, .data, .data, .pinned], laidTests := true, laidLooks := .later }
def LockTextsCardSaid : Prop := Claim7.holds Tryd.pinned (.plain (OpenSpec.ofChange lockTextsSpec)) lockTextsCard

/-- THE TIED CARD OF 'compradorlaw07.RuleReads'. -/
def ruleReadsCard : Claim7 := { stood := { row := ruleReadsRow, standIns := [], harness := (true, "3324512f7e3733d9bfb454d60c7b21bd2bd9dbf6afe521f9cd9343ee70b202df"), looks := false }, kinds := [], alts := [], laidByText := true, laidKinds := [.data, .data, .data], laidTests := true, laidLooks := .later }
def RuleReadsCardSaid : Prop := Claim7.holds Tryd.pinned (.plain (OpenSpec.ofChange ruleReadsSpec)) ruleReadsCard

/-- THE TIED CARD OF 'compradorlaw07.RuleShows'. -/
def ruleShowsCard : Claim7 := { stood := { row := ruleShowsRow, standIns := [], harness := (true, "3324512f7e3733d9bfb454d60c7b21bd2bd9dbf6afe521f9cd9343ee70b202df"), looks := false }, kinds := [], alts := [], laidByText := true, laidKinds := [.data, .data, .data], laidTests := true, laidLooks := .later }
def RuleShowsCardSaid : Prop := Claim7.holds Tryd.pinned (.plain (OpenSpec.ofChange ruleShowsSpec)) ruleShowsCard

/-- THE TIED CARD OF 'compradorlaw07.RuleJoins'. -/
def ruleJoinsCard : Claim7 := { stood := { row := ruleJoinsRow, standIns := [], harness := (true, "3324512f7e3733d9bfb454d60c7b21bd2bd9dbf6afe521f9cd9343ee70b202df"), looks := false }, kinds := [], alts := [], laidByText := true, laidKinds := [.data, .data, .data], laidTests := true, laidLooks := .later }
def RuleJoinsCardSaid : Prop := Claim7.holds Tryd.pinned (.plain (OpenSpec.ofChange ruleJoinsSpec)) ruleJoinsCard

/-- THE SECOND FORM's CARD OF 'compradorlaw57.LockTexts'. -/
def lockTextsUptoCard : Claim7 := { stood := { row := lockTextsUptoRow, standIns := [], harness := (true, "3324512f7e3733d9bfb454d60c7b21bd2bd9dbf6afe521f9cd9343ee70b202df"), looks := false }, kinds := [], alts := [], laidByText := true, laidKinds := [.data, .data, .data, .data, .pinned], laidTests := true, laidLooks := .later }
def LockTextsUptoCardSaid : Prop := Claim7.holds Tryd.pinned (.plain (OpenSpec.upto lockTextsSpec)) lockTextsUptoCard

/-- THE SECOND FORM's CARD OF 'compradorlaw07.RuleReads'. -/
def ruleReadsUptoCard : Claim7 := { stood := { row := ruleReadsUptoRow, standIns := [], harness := (true, "3324512f7e3733d9bfb454d60c7b21bd2bd9dbf6afe521f9cd9343ee70b202df"), looks := false }, kinds := [], alts := [], laidByText := true, laidKinds := [.data, .data, .data], laidTests := true, laidLooks := .later }
def RuleReadsUptoCardSaid : Prop := Claim7.holds Tryd.pinned (.plain (OpenSpec.upto ruleReadsSpec)) ruleReadsUptoCard

/-- THE SECOND FORM's CARD OF 'compradorlaw07.RuleShows'. -/
def ruleShowsUptoCard : Claim7 := { stood := { row := ruleShowsUptoRow, standIns := [], harness := (true, "3324512f7e3733d9bfb454d60c7b21bd2bd9dbf6afe521f9cd9343ee70b202df"), looks := false }, kinds := [], alts := [], laidByText := true, laidKinds := [.data, .data, .data], laidTests := true, laidLooks := .later }
def RuleShowsUptoCardSaid : Prop := Claim7.holds Tryd.pinned (.plain (OpenSpec.upto ruleShowsSpec)) ruleShowsUptoCard

/-- THE SECOND FORM's CARD OF 'compradorlaw07.RuleJoins'. -/
def ruleJoinsUptoCard : Claim7 := { stood := { row := ruleJoinsUptoRow, standIns := [], harness := (true, "3324512f7e3733d9bfb454d60c7b21bd2bd9dbf6afe521f9cd9343ee70b202df"), looks := false }, kinds := [], alts := [], laidByText := true, laidKinds := [.data, .data, .data], laidTests := true, laidLooks := .later }
def RuleJoinsUptoCardSaid : Prop := Claim7.holds Tryd.pinned (.plain (OpenSpec.upto ruleJoinsSpec)) ruleJoinsUptoCard
end Rows
end Go.Proofs.YtaahjmkjdcikcaaDoor
