/- A machine of plain values: contracts of calls that say what the world is behind them, taken as calls that only compute. No program in sight. -/
import Derived.Test.YtaahjmkjdcikcaaDoorV
namespace Go.Proofs.YtaahjmkjdcikcaaDoor.AI
open Go.RowKit
set_option linter.unusedVariables false
set_option linter.unusedSimpArgs false
set_option linter.unusedSectionVars false
variable [Glob]
section
variable {P : Program}

/-- Arguments that are values of one cell. -/
theorem lits_of {w : World} {I : Imm} {args : List Value} {us : List Value} (hlen : us.length = (args.map V.lit).length) (h : ∀ (j : Nat) x, (args.map V.lit)[j]? = some x → ∃ u, us[j]? = some u ∧ RepV w I x u) : us = args := by
  apply List.ext_getElem?
  intro j
  by_cases hj : j < args.length
  · obtain ⟨u, hu, hr⟩ := h j (.lit args[j]) (by simp [hj])
    rw [hu, hr.lit_eq, List.getElem?_eq_getElem hj]
  · simp at hlen
    rw [List.getElem?_eq_none (by omega), List.getElem?_eq_none (by omega)]

/-- A call of values, to a value, by its contract. -/
theorem apure_lit {f : FuncId} {args : List Value} {v : Value} (hname : hasBody P f = true) (hv : v.oneCell' = true)
    (h : ∀ (w : World) (I : Imm), GOk w I → GRow w w.heap.size → Calls P f args.toArray w fun e w' => e = .returned v ∧ Below w.heap.size w w') : APure P f (args.map .lit) (.pv (.lit v)) := by
  intro w I us hI hG hR hlen hrep
  obtain rfl := lits_of hlen hrep
  refine .inl ⟨hname, (h w I hG hR).mono fun e w' he => ?_⟩
  exact ⟨v, he.1, he.2, .mk v hv⟩
end
end Go.Proofs.YtaahjmkjdcikcaaDoor.AI
