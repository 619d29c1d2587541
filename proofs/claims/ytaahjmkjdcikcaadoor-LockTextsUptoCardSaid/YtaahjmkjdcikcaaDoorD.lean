/- A machine of plain values: operations that look at values alone. No program in sight. -/
import Derived.Test.YtaahjmkjdcikcaaDoorC
namespace Go.Proofs.YtaahjmkjdcikcaaDoor.AI
open Go.RowKit
set_option linter.unusedVariables false
set_option linter.unusedSimpArgs false

/-! ### What stands for what -/
theorem Rep.lit_eq {w : World} {E : Ghost} {v u : Value} (h : Rep w E (.pv (.lit v)) u) : u = v := by
  cases h with | pv _ _ h => cases h; rfl
theorem RepV.lit_eq {w : World} {I : Imm} {v u : Value} (h : RepV w I (.lit v) u) : u = v := by
  cases h; rfl
theorem Rep.ofV {w : World} {E : Ghost} {x : V} {u : Value} (h : Rep w E (.pv x) u) : RepV w E.imm x u := by
  cases h; assumption
theorem Rep.mk {w : World} {E : Ghost} (v : Value) (h1 : v.oneCell' = true := by rfl) : Rep w E (.pv (.lit v)) v := .pv _ _ (.lit v h1)

/-- A slice's list, whatever it is. -/
def listOf : AV → Option (List V)
  | .pv (.list xs) => some xs
  | .own _ xs => some xs
  | .e0 => some []
  | _ => none

theorem RepV.listNil (w : World) (I : Imm) (A : Option Addr) (c : Nat) : RepV w I (.list []) (.slice A 0 c) :=
  .list 0 [] A c (fun _ => undef) (Nat.zero_le _) (fun _ h => by cases h) (fun j hj => by simp [flat] at hj) (fun h => absurd rfl h) (fun j hj => by simp [flat] at hj) (fun j x h => by simp [flat] at h)

theorem listOf_rep {w : World} {E : Ghost} {x : AV} {u : Value} {xs : List V} (hl : listOf x = some xs) (h : Rep w E x u) : RepV w E.imm (.list xs) u := by
  cases h with
  | pv x u h => cases x <;> simp [listOf] at hl; subst hl; exact h
  | own id xs u _ _ _ _ h => simp [listOf] at hl; subst hl; exact h
  | e0 => simp [listOf] at hl; subst hl; exact .listNil _ _ _ _
  | _ => simp [listOf] at hl

theorem RepV.list_slice {w : World} {I : Imm} {xs : List V} {u : Value} (h : RepV w I (.list xs) u) : ∃ A c, u = .slice A xs.length c ∧ xs.length ≤ c := by
  cases h; exact ⟨_, _, rfl, by assumption⟩

theorem flat_length {xs : List V} {sz : Nat} (h : ∀ x ∈ xs, x.cells.length = sz) : (flat xs).length = xs.length * sz := by
  induction xs with
  | nil => simp [flat]
  | cons x xs ih =>
    have h1 := h x (by simp)
    have h2 := ih (fun y hy => h y (by simp [hy]))
    simp only [flat, List.flatMap_cons, List.length_append] at h2 ⊢
    rw [h2, h1, List.length_cons, Nat.add_mul]
    omega

theorem flat_get {xs : List V} {sz : Nat} (h : ∀ x ∈ xs, x.cells.length = sz) (i j : Nat) {x : V} (hi : xs[i]? = some x) (hj : j < sz) : (flat xs)[i * sz + j]? = x.cells[j]? := by
  induction xs generalizing i with
  | nil => simp at hi
  | cons y xs ih =>
    have h1 := h y (by simp)
    simp only [flat, List.flatMap_cons]
    cases i with
    | zero =>
      simp at hi; subst hi
      rw [List.getElem?_append_left (by omega)]
      simp
    | succ i =>
      simp at hi
      rw [List.getElem?_append_right (by rw [h1, Nat.add_mul]; omega)]
      have := ih (fun z hz => h z (by simp [hz])) i hi
      rw [← this]
      simp only [flat]
      congr 1
      rw [h1, Nat.add_mul]
      omega

theorem RepV.size_of {w : World} {I : Imm} {xs : List V} {u : Value} (h : RepV w I (.list xs) u) : ∃ sz, ∀ x ∈ xs, x.cells.length = sz := by
  cases h with | list sz xs A c cv hc hs ha hn h1 hr => exact ⟨sz, hs⟩

/-- An element's place. -/
theorem RepV.elem {w : World} {I : Imm} {xs : List V} {u : Value} (h : RepV w I (.list xs) u) (i : Nat) {x : V} (hi : xs[i]? = some x) :
    ∃ a c, u = .slice (some a) xs.length c ∧ RepV w I (.vptr x.cells) (.pointer (some (a.add (i * x.cells.length)))) := by
  cases h with
  | list sz xs A c cv hc hs ha hn h1 hr =>
    have hx : x.cells.length = sz := hs x (List.mem_of_getElem? hi)
    have hlt : i < xs.length := (List.getElem?_eq_some_iff.1 hi).1
    have hne : xs ≠ [] := by intro e; subst e; simp at hi
    cases A with
    | none => exact absurd rfl (hn hne)
    | some a =>
      refine ⟨a, c, rfl, ?_⟩
      rw [hx]
      have hb : ∀ j, j < x.cells.length → i * sz + j < (flat xs).length := fun j hj => by
        rw [flat_length hs]
        have : (i + 1) * sz ≤ xs.length * sz := Nat.mul_le_mul_right _ (by omega)
        rw [Nat.add_mul] at this; omega
      refine .vptr _ _ (fun j => cv (i * sz + j)) (fun j hj => ?_) (fun j hj => h1 _ (hb j hj)) (fun j y hy => ?_)
      · have hb := hb j hj
        obtain ⟨a', e, hi', hc'⟩ := ha _ hb
        cases e
        rw [Addr.add_add]
        exact ⟨hi', hc'⟩
      · have hj : j < sz := by have := (List.getElem?_eq_some_iff.1 hy).1; omega
        exact hr (i * sz + j) y (by rw [flat_get hs i j hi hj]; exact hy)

theorem RepV.drop_ptr {w : World} {I : Imm} {cs : List V} {a : Addr} (h : RepV w I (.vptr cs) (.pointer (some a))) (d : Nat) : RepV w I (.vptr (cs.drop d)) (.pointer (some (a.add d))) := by
  cases h with
  | vptr cs a cv ha h1 hr =>
    refine .vptr _ _ (fun j => cv (d + j)) (fun j hj => ?_) (fun j hj => h1 _ (by simp at hj; omega)) (fun j x hx => ?_)
    · rw [Addr.add_add]
      simp at hj
      exact ha (d + j) (by omega)
    · simp at hx
      exact hr (d + j) x hx

/-! ### Structs and arrays of plain parts, compared -/
/-- Types of one cell that compare by what it holds. -/
def leafOk (P : Program) (t : TypeId) : Bool :=
  match shapeOf P t, P.underlying t with
  | some (1, false), some (.int _) => true
  | some (1, false), some .bool => true
  | some (1, false), some .string => true
  | _, _ => false
/-- The parts' types, where each part is one cell, in their order. -/
def leavesOf (P : Program) (t : TypeId) : Option (List TypeId) :=
  match P.underlying t with
  | some (.struct fs) => if (!P.stoodInHeld t && !P.eqGuardType P.depth t && (fs.toList.zipIdx.all fun p => p.1.name != "_" && p.1.offset == p.2 && leafOk P p.1.type)) = true then some (fs.toList.map (·.type)) else none
  | some (.array n e) => if (!P.eqGuardType P.depth t && leafOk P e) = true then some (List.replicate n e) else none
  | _ => none
def leafEq (P : Program) (t : TypeId) (x y : V) : Option Bool :=
  match P.underlying t, x, y with
  | some (.int _), .lit (.int k a), .lit (.int k' b) => if k = k' then some (decide (a = b)) else none
  | some .bool, .lit (.bool a), .lit (.bool b) => some (a == b)
  | some .string, .lit (.string a), .lit (.string b) => some (decide (a = b))
  | _, _, _ => none
def leavesEq (P : Program) : List TypeId → List V → List V → Option Bool
  | [], [], [] => some true
  | t :: ts, x :: xs, y :: ys => (leafEq P t x y).bind fun b => (leavesEq P ts xs ys).map fun c => b && c
  | _, _, _ => none
def aggEq (P : Program) (op : BinOp) (t : TypeId) (xs ys : List V) : Option Bool :=
  match leavesOf P t with
  | some ts => match op with
    | .eql => leavesEq P ts xs ys
    | .neq => (leavesEq P ts xs ys).map (!·)
    | _ => none
  | none => none

end Go.Proofs.YtaahjmkjdcikcaaDoor.AI
