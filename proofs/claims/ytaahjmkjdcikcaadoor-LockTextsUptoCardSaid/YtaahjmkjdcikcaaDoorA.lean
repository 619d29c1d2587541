/- A machine of plain values that stands for the model's machine: its values, and what it is that they stand for. No program in sight. -/
import Derived.WalkKit
import Derived.Below
import Derived.KernelRfl
import Derived.ChangeKeysEq
namespace Go.Proofs.YtaahjmkjdcikcaaDoor.AI
open Go.RowKit
set_option linter.unusedVariables false
set_option linter.unusedSimpArgs false

/-- A value that hangs on no memory that may turn: a slice is the list of what it holds. -/
inductive V where
  | lit (v : Value)
  | list (xs : List V)
  | agg (cs : List V)
  | vptr (cs : List V)
  | iface (t : TypeId) (v : V)
  | fn (f : Fn) (first captured : List V)
  deriving Inhabited

def V.cells : V → List V
  | .agg cs => cs
  | v => [v]

/-- All cells of a list's elements. -/
def flat (xs : List V) : List V := xs.flatMap V.cells

/-- What a slot may hold. -/
inductive AV where
  | any
  | undef
  | pv (x : V)
  | e0
  | own (id : Nat) (xs : List V)
  | box (id off : Nat)
  | map (id : Nat)
  | iter (id : Nat)
  | fn (f : Fn) (first captured : List AV)
  | agg (cs : List AV)
  | tuple (xs : List AV)
  | cnd (b : Bool) (x : AV)
  deriving Inhabited

def AV.cells : AV → List AV
  | .agg cs => cs
  | .pv (.agg cs) => cs.map .pv
  | v => [v]

/-- Which places must not turn any more. -/
abbrev Imm := Nat → Nat → Prop

/-- 'cv' are the cells at 'a', none of which turns any more. -/
def At (w : World) (I : Imm) (a : Addr) (n : Nat) (cv : Nat → Value) : Prop :=
  ∀ j, j < n → I (a.add j).block (a.add j).off ∧ w.cell? (a.add j) = some (cv j)

inductive RepV (w : World) (I : Imm) : V → Value → Prop where
  | lit (v : Value) (h1 : v.oneCell' = true) : RepV w I (.lit v) v
  | list (sz : Nat) (xs : List V) (A : Option Addr) (c : Nat) (cv : Nat → Value) (hc : xs.length ≤ c) (hs : ∀ x ∈ xs, x.cells.length = sz)
      (ha : ∀ j, j < (flat xs).length → ∃ a, A = some a ∧ I (a.add j).block (a.add j).off ∧ w.cell? (a.add j) = some (cv j))
      (hn : xs ≠ [] → A ≠ none) (h1 : ∀ j, j < (flat xs).length → (cv j).oneCell' = true)
      (hr : ∀ j x, (flat xs)[j]? = some x → RepV w I x (cv j)) : RepV w I (.list xs) (.slice A xs.length c)
  | agg (cs : List V) (vs : Array Value) (cv : Nat → Value) (hn : vs.size = cs.length) (hv : ∀ j, j < cs.length → vs[j]? = some (cv j))
      (h1 : ∀ j, j < cs.length → (cv j).oneCell' = true) (hr : ∀ j x, cs[j]? = some x → RepV w I x (cv j)) : RepV w I (.agg cs) (.agg vs)
  | vptr (cs : List V) (a : Addr) (cv : Nat → Value) (ha : At w I a cs.length cv)
      (h1 : ∀ j, j < cs.length → (cv j).oneCell' = true) (hr : ∀ j x, cs[j]? = some x → RepV w I x (cv j)) : RepV w I (.vptr cs) (.pointer (some a))
  | iface (t : TypeId) (x : V) (v : Value) (h : RepV w I x v) : RepV w I (.iface t x) (.iface t v)
  | fn (f : Fn) (xs ys : List V) (a b : Array Value) (cv dv : Nat → Value) (hn : a.size = xs.length) (hm : b.size = ys.length)
      (hv : ∀ j, j < xs.length → a[j]? = some (cv j)) (hu : ∀ j, j < ys.length → b[j]? = some (dv j))
      (hr : ∀ j x, xs[j]? = some x → RepV w I x (cv j)) (hq : ∀ j x, ys[j]? = some x → RepV w I x (dv j)) : RepV w I (.fn f xs ys) (.func f a b)

/-- What has been kept: no place of I has turned, and I has not lost any. -/
structure Keeps (w : World) (I : Imm) (w' : World) (I' : Imm) : Prop where
  imm : ∀ b o, I b o → I' b o
  cell : ∀ a : Addr, I a.block a.off → ∀ v, w.cell? a = some v → w'.cell? a = some v

theorem Keeps.refl (w : World) (I : Imm) : Keeps w I w I := ⟨fun _ _ h => h, fun _ _ _ h => h⟩
theorem Keeps.trans {w w1 w2 : World} {I I1 I2 : Imm} (h : Keeps w I w1 I1) (k : Keeps w1 I1 w2 I2) : Keeps w I w2 I2 :=
  ⟨fun b o hb => k.imm b o (h.imm b o hb), fun a ha v hv => k.cell a (h.imm _ _ ha) v (h.cell a ha v hv)⟩

theorem RepV.keep {w w' : World} {I I' : Imm} (hk : Keeps w I w' I') {x : V} {v : Value} (h : RepV w I x v) : RepV w' I' x v := by
  induction h with
  | lit v h1 => exact .lit v h1
  | list sz xs A c cv hc hs ha hn h1 hr ih =>
    refine .list sz xs A c cv hc hs (fun j hj => ?_) hn h1 ih
    obtain ⟨a, e, hi, hcl⟩ := ha j hj
    exact ⟨a, e, hk.imm _ _ hi, hk.cell _ hi _ hcl⟩
  | agg cs vs cv hn hv h1 hr ih => exact .agg cs vs cv hn hv h1 ih
  | vptr cs a cv ha h1 hr ih => exact .vptr cs a cv (fun j hj => ⟨hk.imm _ _ (ha j hj).1, hk.cell _ (ha j hj).1 _ (ha j hj).2⟩) h1 ih
  | iface t x v h ih => exact .iface t x v ih
  | fn f xs ys a b cv dv hn hm hv hu hr hq ih1 ih2 => exact .fn f xs ys a b cv dv hn hm hv hu ih1 ih2

/-- What the program's own variables hold, as far as it is told: all turn no more. -/
class Glob where
  cells : Nat → Option (List V)
  rows : Nat → Option (Array Value)
def GOk [Glob] (w : World) (I : Imm) : Prop := ∀ g cs, Glob.cells g = some cs → RepV w I (.vptr cs) (.pointer (some ⟨g, 0, none⟩))
/-- .. and of some all that there is. -/
def GRow [Glob] (w : World) (base : Nat) : Prop := ∀ g cs, Glob.rows g = some cs → g < base ∧ ∃ t fr, w.heap[g]? = some (.cells cs t fr)
theorem GRow.at [Glob] {w w' : World} {base base' : Nat} (h : GRow w base) (hb : Below base w w') (hle : base ≤ base') : GRow w' base' := fun g cs e => by
  obtain ⟨h1, t, fr, h2⟩ := h g cs e
  exact ⟨by omega, t, fr, (hb.block g h1).trans h2⟩
theorem GOk.keep [Glob] {w w' : World} {I I' : Imm} (h : GOk w I) (hk : Keeps w I w' I') : GOk w' I' := fun g cs e => (h g cs e).keep hk

/-- What is beside the machine: where the objects lie, which places turn no more. -/
structure Ghost where
  base : Nat
  used : Nat → Prop
  blk : Nat → Nat
  ov : Nat → Value
  on : Nat → Nat
  osz : Nat → Nat
  imm : Imm

inductive Rep (w : World) (E : Ghost) : AV → Value → Prop where
  | any (v : Value) : Rep w E .any v
  | undef : Rep w E .undef Go.undef
  | pv (x : V) (u : Value) (h : RepV w E.imm x u) : Rep w E (.pv x) u
  | e0 : Rep w E .e0 (.slice none 0 0)
  | own (id : Nat) (xs : List V) (u : Value) (hu : E.used id) (hl : xs.length ≤ E.on id) (he : xs.length = E.on id → u = E.ov id) (hz : ∀ x ∈ xs, x.cells.length = E.osz id)
      (h : RepV w E.imm (.list xs) u) : Rep w E (.own id xs) u
  | box (id off : Nat) (hu : E.used id) : Rep w E (.box id off) (.pointer (some ⟨E.blk id, off, none⟩))
  | map (id : Nat) (hu : E.used id) : Rep w E (.map id) (.map (some (E.blk id)))
  | iter (id : Nat) (hu : E.used id) : Rep w E (.iter id) (.pointer (some ⟨E.blk id, 0, none⟩))
  | fn (f : Fn) (xs ys : List AV) (a b : Array Value) (cv dv : Nat → Value) (hn : a.size = xs.length) (hm : b.size = ys.length)
      (hv : ∀ j, j < xs.length → a[j]? = some (cv j)) (hu : ∀ j, j < ys.length → b[j]? = some (dv j))
      (hr : ∀ j x, xs[j]? = some x → Rep w E x (cv j)) (hq : ∀ j x, ys[j]? = some x → Rep w E x (dv j)) : Rep w E (.fn f xs ys) (.func f a b)
  | agg (cs : List AV) (vs : Array Value) (cv : Nat → Value) (hn : vs.size = cs.length) (hv : ∀ j, j < cs.length → vs[j]? = some (cv j))
      (h1 : ∀ j, j < cs.length → (cv j).oneCell' = true) (hr : ∀ j x, cs[j]? = some x → Rep w E x (cv j)) : Rep w E (.agg cs) (.agg vs)
  | tuple (cs : List AV) (vs : Array Value) (cv : Nat → Value) (hn : vs.size = cs.length) (hv : ∀ j, j < cs.length → vs[j]? = some (cv j))
      (hr : ∀ j x, cs[j]? = some x → Rep w E x (cv j)) : Rep w E (.tuple cs) (.tuple vs)
  | cnd (b : Bool) (x : AV) (u : Value) (h : b = true → Rep w E x u) (k : b = false → u = Go.undef) : Rep w E (.cnd b x) u

/-- From one moment of a call to a later one. -/
structure Later (w : World) (E : Ghost) (w' : World) (E' : Ghost) : Prop where
  base : E'.base = E.base
  keeps : Keeps w E.imm w' E'.imm
  new : ∀ b o, E'.imm b o → E.imm b o ∨ E.base ≤ b
  used : ∀ id, E.used id → E'.used id
  blk : ∀ id, E.used id → E'.blk id = E.blk id
  on : ∀ id, E.used id → E.on id ≤ E'.on id
  ov : ∀ id, E.used id → E'.on id = E.on id → E'.ov id = E.ov id
  osz : ∀ id, E.used id → E'.osz id = E.osz id

theorem Later.refl (w : World) (E : Ghost) : Later w E w E :=
  ⟨rfl, .refl _ _, fun _ _ h => .inl h, fun _ h => h, fun _ _ => rfl, fun _ _ => Nat.le_refl _, fun _ _ _ => rfl, fun _ _ => rfl⟩
theorem Later.trans {w w1 w2 : World} {E E1 E2 : Ghost} (h : Later w E w1 E1) (k : Later w1 E1 w2 E2) : Later w E w2 E2 := by
  refine ⟨k.base.trans h.base, h.keeps.trans k.keeps, fun b o hb => ?_, fun id hu => k.used id (h.used id hu), fun id hu => (k.blk id (h.used id hu)).trans (h.blk id hu),
    fun id hu => Nat.le_trans (h.on id hu) (k.on id (h.used id hu)), fun id hu he => ?_, fun id hu => (k.osz id (h.used id hu)).trans (h.osz id hu)⟩
  · rcases k.new b o hb with h1 | h1
    · exact h.new b o h1
    · exact .inr (by rw [← h.base]; exact h1)
  have h1 := h.on id hu
  have h2 := k.on id (h.used id hu)
  exact (k.ov id (h.used id hu) (by omega)).trans (h.ov id hu (by omega))

theorem Rep.later {w w' : World} {E E' : Ghost} (hk : Later w E w' E') {x : AV} {v : Value} (h : Rep w E x v) : Rep w' E' x v := by
  induction h with
  | any v => exact .any v
  | undef => exact .undef
  | pv x u h => exact .pv x u (h.keep hk.keeps)
  | e0 => exact .e0
  | own id xs u hu hl he hz h =>
    have h1 := hk.on id hu
    exact .own id xs u (hk.used id hu) (by omega) (fun e => (he (by omega)).trans (hk.ov id hu (by omega)).symm) (by rw [hk.osz id hu]; exact hz) (h.keep hk.keeps)
  | box id off hu => rw [← hk.blk id hu]; exact .box id off (hk.used id hu)
  | map id hu => rw [← hk.blk id hu]; exact .map id (hk.used id hu)
  | iter id hu => rw [← hk.blk id hu]; exact .iter id (hk.used id hu)
  | fn f xs ys a b cv dv hn hm hv hu hr hq ih1 ih2 => exact .fn f xs ys a b cv dv hn hm hv hu ih1 ih2
  | agg cs vs cv hn hv h1 hr ih => exact .agg cs vs cv hn hv h1 ih
  | tuple cs vs cv hn hv hr ih => exact .tuple cs vs cv hn hv ih
  | cnd b x u h k ih => exact .cnd b x u ih k

/-- The objects that a call has in hand. -/
inductive AObj where
  | dead
  | box (t : TypeId) (cs : List AV)
  | tok (e : TypeId) (sz n : Nat)
  | siter (s : ByteArray) (pos : Nat)
  | map (es : List (Value × V))
  deriving Inhabited

abbrev St := Nat → Option AObj
def St.set (σ : St) (id : Nat) (o : AObj) : St := fun j => if j = id then some o else σ j

/-- The block that an object lies in. -/
def blockOf (E : Ghost) (id : Nat) : AObj → Option Nat
  | .dead => none
  | .tok .. => (E.ov id).ownBlock
  | _ => some (E.blk id)

def MapRep (w : World) (E : Ghost) (es : Array MapEntry) (xs : List (Value × V)) : Prop :=
  es.size = xs.length ∧ (∀ (j : Nat) (k : Value) (x : V), xs[j]? = some (k, x) → ∃ e : MapEntry, es[j]? = some e ∧ e.key = k ∧ RepV w E.imm x e.val)

def ObjRep (w : World) (E : Ghost) (id : Nat) : AObj → Prop
  | .dead => True
  | .box t (cs : List AV) => E.base ≤ E.blk id ∧ ∃ vs : Array Value, w.heap[E.blk id]? = some (.cells vs t (0, 0)) ∧ vs.size = cs.length ∧ ∀ (j : Nat) (x : AV), cs[j]? = some x → ∃ v, vs[j]? = some v ∧ v.oneCell' = true ∧ Rep w E x v
  | .tok e sz n => E.on id = n ∧ E.osz id = sz ∧ ∃ cs, w.ownsRow E.base e sz (E.ov id) n cs
  | .siter s pos => E.base ≤ E.blk id ∧ w.heap[E.blk id]? = some (.stringIter s pos)
  | .map xs => E.base ≤ E.blk id ∧ ∃ (es : Array MapEntry) (clock : Nat), w.heap[E.blk id]? = some (.map es clock) ∧ MapRep w E es xs

/-- The world 'w', met behind 'w0' in a call that began with blocks below 'base', has the objects of 'σ'. -/
structure Holds [Glob] (E : Ghost) (σ : St) (w0 w : World) : Prop where
  glob : GOk w E.imm
  rows : GRow w0 E.base
  below : Below E.base w0 w
  base : E.base ≤ w.heap.size
  used : ∀ id, E.used id ↔ (σ id).isSome = true
  obj : ∀ id o, σ id = some o → ObjRep w E id o
  inj : ∀ id id' o o' b, σ id = some o → σ id' = some o' → blockOf E id o = some b → blockOf E id' o' = some b → id = id'
  imm : ∀ b o, E.imm b o → b < w.heap.size ∧ ∀ id x, σ id = some x → blockOf E id x = some b → ∃ e sz n, x = .tok e sz n ∧ o < n * sz

end Go.Proofs.YtaahjmkjdcikcaaDoor.AI
