/- A machine of plain values that stands for the model's machine: operations that look at values alone. No program in sight. -/
import Derived.Test.YtaahjmkjdcikcaaDoorA
namespace Go.Proofs.YtaahjmkjdcikcaaDoor.AI
open Go.RowKit
set_option linter.unusedVariables false
set_option linter.unusedSimpArgs false

abbrev Env := Nat → AV
def Env.put (env : Env) (d : Option Nat) (x : AV) : Env :=
  match d with
  | some t => fun j => if j = t then x else env j
  | none => env

/-- A constant's cell. -/
def constV : Value → V
  | .slice none 0 0 => .list []
  | v => .lit v
def constA : Value → AV
  | .slice none 0 0 => .e0
  | .agg cs => if cs.toList.all (fun c => c.oneCell') then .pv (.agg (cs.toList.map constV)) else .any
  | .tuple vs => if vs.isEmpty then .undef else .any
  | v => .pv (.lit v)

def ev (env : Env) : Operand → AV
  | .tmp t => env t
  | .const c => constA c
  | .global _ => .any
  | .func f => .pv (.lit (.func (.func f) #[] #[]))

theorem constV_rep (w : World) (I : Imm) (v : Value) (h1 : v.oneCell' = true) : RepV w I (constV v) v := by
  unfold constV
  split
  · exact .list 0 [] none 0 (fun _ => undef) (Nat.zero_le _) (fun _ h => by cases h) (fun j hj => by simp [flat] at hj) (fun h => absurd rfl h) (fun j hj => by simp [flat] at hj) (fun j x h => by simp [flat] at h)
  · exact .lit _ h1

theorem constA_rep (w : World) (E : Ghost) (v : Value) : Rep w E (constA v) v := by
  unfold constA
  split
  · exact .e0
  · rename_i cs
    split
    case isFalse => exact .any _
    case isTrue hall =>
    rw [List.all_eq_true] at hall
    refine .pv _ _ (.agg _ cs (fun j => (cs.toList[j]?).getD undef) (by simp) (fun j hj => ?_) (fun j hj => ?_) (fun j x hx => ?_))
    · simp at hj; simp [hj]
    · simp at hj
      simp only [Array.getElem?_toList, hj, Array.getElem?_eq_getElem, Option.getD_some]
      exact hall _ (by simp)
    · simp only [List.getElem?_map, Option.map_eq_some_iff] at hx
      obtain ⟨v, hv, rfl⟩ := hx
      rw [hv]
      exact constV_rep w _ v (hall _ (List.mem_of_getElem? hv))
  · rename_i vs
    split
    · rename_i h
      rw [Array.isEmpty_iff] at h
      subst h
      exact .undef
    · exact .any _
  · rename_i h1 h2 h3
    refine .pv _ _ (.lit _ ?_)
    cases v <;> first | rfl | exact absurd rfl (h2 _) | exact absurd rfl (h3 _)

/-- The frame's slots are what the environment tells of them. -/
def EnvRep (w : World) (E : Ghost) (env : Env) (a : Act) : Prop := ∀ t, Rep w E (env t) (a.tmps.getD t undef)

theorem EnvRep.later {w w' : World} {E E' : Ghost} {env : Env} {a : Act} (h : EnvRep w E env a) (hk : Later w E w' E') : EnvRep w' E' env a := fun t => (h t).later hk

theorem EnvRep.ev {w : World} {E : Ghost} {env : Env} {a : Act} (h : EnvRep w E env a) (x : Operand) : Rep w E (ev env x) (a.eval x) := by
  cases x with
  | tmp t => exact h t
  | const c => exact constA_rep w E c
  | global g => exact .any _
  | func f => exact .pv _ _ (.lit _ rfl)

theorem EnvRep.put {w : World} {E : Ghost} {env : Env} {a : Act} (h : EnvRep w E env a) (d : Option Nat) {x : AV} {v : Value} (hx : Rep w E x v)
    (hd : ∀ t, d = some t → t < a.tmps.size) : EnvRep w E (env.put d x) (a.put d v) := by
  cases d with
  | none => exact h
  | some t =>
    intro j
    simp only [Env.put, Act.put]
    by_cases e : j = t
    · subst e
      have := hd j rfl
      simp [this, hx]
    · rw [if_neg e]
      have := h j
      simp only [Array.getD_eq_getD_getElem?] at this ⊢
      rw [Array.getElem?_setIfInBounds_ne (fun h => e h.symm)]
      exact this

/-! ### What the types say -/
def isAggD : TypeDesc → Bool
  | .struct _ | .array _ _ => true
  | _ => false
/-- A type's cells; is it a struct or an array? -/
def shapeOf (P : Program) (t : TypeId) : Option (Nat × Bool) :=
  match P.info? t, P.underlying t with
  | some i, some d => some (i.size, isAggD d)
  | _, _ => none
def fieldAt (P : Program) (t : TypeId) (f : Nat) : Option (Nat × Nat × Bool) :=
  match P.underlying t with
  | some (.struct fs) => (fs[f]?).bind fun x => (shapeOf P x.type).map fun s => (x.offset, s)
  | _ => none
/-- An array's length, its elements' shape. -/
def arrayOf (P : Program) (t : TypeId) : Option (Nat × Nat × Bool) :=
  match P.underlying t with
  | some (.array n e) => (shapeOf P e).map fun s => (n, s)
  | _ => none
/-- A slice's elements: their type, their cells. -/
def sliceOf (P : Program) (t : TypeId) : Option (TypeId × Nat) :=
  match P.underlying t with
  | some (.slice e) => (P.info? e).map fun i => (e, i.size)
  | _ => none
def isStr (P : Program) (t : TypeId) : Bool := match P.underlying t with | some .string => true | _ => false
def isBool (P : Program) (t : TypeId) : Bool := match P.underlying t with | some .bool => true | _ => false
def intOfT (P : Program) (t : TypeId) : Option IntKind := match P.underlying t with | some (.int k) => some k | _ => none

end Go.Proofs.YtaahjmkjdcikcaaDoor.AI
