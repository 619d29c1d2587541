/- A machine of plain values: operations on numbers, truths and texts. No program in sight. -/
import Derived.Test.YtaahjmkjdcikcaaDoorB
namespace Go.Proofs.YtaahjmkjdcikcaaDoor.AI
open Go.RowKit
set_option linter.unusedVariables false
set_option linter.unusedSimpArgs false

/-- One text stands ahead of another. -/
def sless (a b : ByteArray) : Bool := Op.bytesLess a.toList b.toList
/-- A text's byte. -/
def byteAt (s : ByteArray) (i : Int) : Int := if h : i.toNat < s.size then ((s[i.toNat]'h).toNat : Int) else 0

def bitsOf (op : BinOp) (k : IntKind) (x y : Int) : Int :=
  let a := BitVec.ofInt k.bits x
  let b := BitVec.ofInt k.bits y
  match op with
  | .and => k.wrap (a &&& b).toNat
  | .or => k.wrap (a ||| b).toNat
  | .xor => k.wrap (a ^^^ b).toNat
  | _ => k.wrap (a &&& ~~~b).toNat

def binP (P : Program) (op : BinOp) (t : TypeId) (x y : Value) (K : Value → Prop) : Prop :=
  match x, y with
  | .int k a, .int k' b =>
    match op with
    | .add => k = k' ∧ K (.int k (k.wrap (a + b)))
    | .sub => k = k' ∧ K (.int k (k.wrap (a - b)))
    | .mul => k = k' ∧ K (.int k (k.wrap (a * b)))
    | .quo => k = k' ∧ b ≠ 0 ∧ K (.int k (k.wrap (a.tdiv b)))
    | .rem => k = k' ∧ b ≠ 0 ∧ K (.int k (a.tmod b))
    | .eql => k = k' ∧ K (.bool (decide (a = b)))
    | .neq => k = k' ∧ K (.bool (!decide (a = b)))
    | .lss => k = k' ∧ K (.bool (decide (a < b)))
    | .leq => k = k' ∧ K (.bool (decide (a ≤ b)))
    | .gtr => k = k' ∧ K (.bool (decide (b < a)))
    | .geq => k = k' ∧ K (.bool (decide (b ≤ a)))
    | .shl => 0 ≤ b ∧ K (.int k (k.wrap (a * 2 ^ min b.toNat k.bits)))
    | .shr => 0 ≤ b ∧ K (.int k (a.fdiv (2 ^ min b.toNat k.bits)))
    | .and => k = k' ∧ K (.int k (bitsOf .and k a b))
    | .or => k = k' ∧ K (.int k (bitsOf .or k a b))
    | .xor => k = k' ∧ K (.int k (bitsOf .xor k a b))
    | .andNot => k = k' ∧ K (.int k (bitsOf .andNot k a b))
  | .string a, .string b =>
    match op with
    | .add => a.size + b.size ≤ 9223372036854775807 ∧ K (.string (a ++ b))
    | .eql => K (.bool (decide (a = b)))
    | .neq => K (.bool (!decide (a = b)))
    | .lss => K (.bool (sless a b))
    | .leq => K (.bool (sless a b || decide (a = b)))
    | .gtr => K (.bool (!(sless a b || decide (a = b))))
    | .geq => K (.bool (!sless a b))
    | _ => False
  | .bool a, .bool b =>
    match op with
    | .eql => isBool P t = true ∧ K (.bool (a == b))
    | .neq => isBool P t = true ∧ K (.bool (!(a == b)))
    | _ => False
  | _, _ => False

theorem bytes_eq (a b : ByteArray) : (a.toList == b.toList) = decide (a = b) := by
  rw [Bool.eq_iff_iff]
  simp only [beq_iff_eq, decide_eq_true_eq, ByteArray.toList_eq]
  constructor
  · intro h
    cases a; cases b
    simp at h
    simp [h]
  · intro h; rw [h]

theorem isBool_eq {P : Program} {t : TypeId} (h : isBool P t = true) : P.underlying t = some .bool := by
  unfold isBool at h
  split at h
  · assumption
  · cases h

theorem equalIn_bool {P : Program} {t : TypeId} (h : isBool P t = true) (d : Nat) (a b : Bool) (w : World) : (Op.equalIn (d + 1) t (.bool a) (.bool b)).run P w = .ok (a == b) w := by
  simp [Op.equalIn, run_underlying (isBool_eq h)]
theorem equal_bool {P : Program} {t : TypeId} (h : isBool P t = true) (a b : Bool) (w : World) : (Op.equal t (.bool a) (.bool b)).run P w = .ok (a == b) w :=
  equalIn_bool h 9999 a b w

set_option maxHeartbeats 1000000 in
theorem binP_run {P : Program} {op : BinOp} {t : TypeId} {x y : Value} {K : Value → Prop} (h : binP P op t x y K) (X Y : Operand) (w : World) :
    ∃ v, ((do eqGuard op t X Y x y; binOp op t x y : Sem Value)).run P w = .ok v w ∧ v.oneCell' = true ∧ K v := by
  unfold binP at h
  split at h
  · rename_i k a k' b
    split at h
    all_goals first
      | exact h.elim
      | (obtain ⟨rfl, h⟩ := h; refine ⟨_, ?_, rfl, h⟩; simp [eqGuard, binOp, Op.intArith, Op.intCmp, Op.intBits, bitsOf]; done)
      | (obtain ⟨rfl, h0, h⟩ := h; refine ⟨_, ?_, rfl, h⟩; simp [eqGuard, binOp, Op.intDiv, h0]; done)
      | (obtain ⟨h0, h⟩ := h; refine ⟨_, ?_, rfl, h⟩; simp [eqGuard, binOp, Op.shift, show ¬ b < 0 by omega]; done)
      | skip
    · obtain ⟨rfl, h⟩ := h
      refine ⟨_, ?_, rfl, h⟩
      simp only [eqGuard, binOp, Op.intCmp]
      simp
      rw [Bool.eq_iff_iff]; simp
    · obtain ⟨rfl, h⟩ := h
      refine ⟨_, ?_, rfl, h⟩
      simp only [eqGuard, binOp, Op.intCmp]
      simp
      rw [Bool.eq_iff_iff]; simp
  · rename_i a b
    split at h
    · obtain ⟨h0, h⟩ := h
      refine ⟨_, ?_, rfl, h⟩
      simp [eqGuard, binOp, Op.stringOp]
      omega
    all_goals first
      | exact h.elim
      | (refine ⟨_, ?_, rfl, h⟩; simp [eqGuard, binOp, Op.stringOp, bytes_eq, sless]; done)
  · rename_i a b
    split at h
    · obtain ⟨ht, h⟩ := h
      refine ⟨_, ?_, rfl, h⟩
      simp [eqGuard, binOp, equal_bool ht]
    · obtain ⟨ht, h⟩ := h
      refine ⟨_, ?_, rfl, h⟩
      simp [eqGuard, binOp, equal_bool ht]
    · exact h.elim
  · exact h.elim

end Go.Proofs.YtaahjmkjdcikcaaDoor.AI
