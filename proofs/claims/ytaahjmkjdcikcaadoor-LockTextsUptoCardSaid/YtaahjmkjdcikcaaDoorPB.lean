/- Plain laws: the rows of a lock. No program in sight. -/
import Derived.Test.YtaahjmkjdcikcaaDoorPA
namespace Go.Proofs.YtaahjmkjdcikcaaDoor.AI
open Go.RowKit
set_option linter.unusedVariables false
set_option linter.unusedSimpArgs false
theorem getD_map {α : Type} [Inhabited α] (f : α → V) (l : List α) (i : Nat) (h : i < l.length) : (l.map f).getD i default = f (l.getD i default) := by
  simp [List.getD, h]
theorem drop_getD {α : Type} [Inhabited α] (l : List α) (i : Nat) (h : i < l.length) : l.drop i = l.getD i default :: l.drop (i + 1) := by
  rw [List.drop_eq_getElem_cons h]
  simp [List.getD, h]
structure Row where
  name : List UInt8
  ver : Int
  stamp : Int
  deriving Inhabited, DecidableEq
/-- A row as the program has it, as the document has it. -/
def rowL (r : Row) : V := .agg [.lit (.string (str r.name)), .lit (.int .i64 r.ver), .lit (.int .u32 r.stamp)]
def rowR (r : Row) : V := .agg [.lit (.string (str r.name)), .lit (.int .i64 r.ver), .lit (.int .i64 r.stamp)]
theorem rowL_cells (r : Row) : (rowL r).cells = [.lit (.string (str r.name)), .lit (.int .i64 r.ver), .lit (.int .u32 r.stamp)] := rfl
theorem rowR_cells (r : Row) : (rowR r).cells = [.lit (.string (str r.name)), .lit (.int .i64 r.ver), .lit (.int .i64 r.stamp)] := rfl
def largeF : List Row → Bool
  | [] => false
  | r :: rs => decide (200 < r.name.length) || largeF rs
def largeR (rs : List Row) : Bool := decide (60 < rs.length) || largeF rs
def verFit (n : Int) : Bool := decide (0 ≤ n ∧ n < 1000000000)
/-- May a row be, behind a name? -/
def rowFit (r : Row) (last : List UInt8) : Bool := fitR (runes r.name) 0 && !(Op.bytesLess r.name last || decide (r.name = last)) && decide (0 ≤ r.ver) && decide (r.ver < 1000000000)
def checkL : List Row → List UInt8 → Bool
  | [], _ => true
  | r :: rs, last => rowFit r last && checkL rs r.name
/-- May the row at a place be, as the document says it? -/
def refRowAt (rs : List Row) (i : Nat) : Bool :=
  !((!refFit (rs.getD i default).name || !verFit (rs.getD i default).ver) || (decide (0 < i) && (Op.bytesLess (rs.getD i default).name (rs.getD (i - 1) default).name || decide ((rs.getD i default).name = (rs.getD (i - 1) default).name))))
def refCheck (rs : List Row) : Bool := (List.range rs.length).all (refRowAt rs)
end Go.Proofs.YtaahjmkjdcikcaaDoor.AI
