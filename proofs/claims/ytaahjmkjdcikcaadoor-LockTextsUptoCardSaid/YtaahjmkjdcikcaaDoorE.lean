/- A machine of plain values: operations that look at values alone, and what they are in the model. No program in sight. -/
import Derived.Test.YtaahjmkjdcikcaaDoorD
namespace Go.Proofs.YtaahjmkjdcikcaaDoor.AI
open Go.RowKit
set_option linter.unusedVariables false
set_option linter.unusedSimpArgs false

/-- A part of a struct's or an array's cells. -/
def partP (cs : List V) (off sz : Nat) (ag : Bool) (K : AV → Prop) : Prop :=
  if ag then off + sz ≤ cs.length ∧ K (.pv (.agg ((cs.drop off).take sz)))
  else match cs[off]? with
    | some x => K (.pv x)
    | none => False
def partA (cs : List AV) (off sz : Nat) (ag : Bool) (K : AV → Prop) : Prop :=
  if ag then off + sz ≤ cs.length ∧ K (.agg ((cs.drop off).take sz))
  else match cs[off]? with
    | some x => K x
    | none => False

def convP (P : Program) (src dst : TypeId) (x : AV) (K : AV → Prop) : Prop :=
  match x with
  | .pv (.lit (.int k n)) => match intOfT P dst with
    | some k' => (P.underlying src).isSome = true ∧ K (.pv (.lit (.int k' (k'.wrap n))))
    | none => (P.underlying src).isSome = true ∧ isStr P dst = true ∧ K (.pv (.lit (.string (Utf8.encode n))))
  | .pv (.lit (.string s)) => isStr P src = true ∧ isStr P dst = true ∧ K (.pv (.lit (.string s)))
  | _ => False

def unP (op : UnOp) (x : AV) (K : AV → Prop) : Prop :=
  match op, x with
  | .not, .pv (.lit (.bool b)) => K (.pv (.lit (.bool !b)))
  | .neg, .pv (.lit (.int k n)) => K (.pv (.lit (.int k (k.wrap (0 - n)))))
  | _, _ => False

def fieldP (P : Program) (t : TypeId) (f : Nat) (x : AV) (K : AV → Prop) : Prop :=
  match fieldAt P t f, x with
  | some (off, sz, ag), .pv (.agg cs) => partP cs off sz ag K
  | some (off, sz, ag), .agg cs => partA cs off sz ag K
  | _, _ => False

def fieldAddrP (P : Program) (t : TypeId) (f : Nat) (x : AV) (K : AV → Prop) : Prop :=
  match fieldAt P t f, x with
  | some (off, sz, _), .box id o => sz ≠ 0 ∧ K (.box id (o + off))
  | some (off, sz, _), .pv (.vptr cs) => sz ≠ 0 ∧ K (.pv (.vptr (cs.drop off)))
  | _, _ => False

def indexAddrP (P : Program) (t : TypeId) (x i : AV) (K : AV → Prop) : Prop :=
  match i with
  | .pv (.lit (.int _ n)) =>
    match x with
    | .box id o => match arrayOf P t with
      | some (len, sz, _) => (0 ≤ n ∧ n < len) ∧ K (.box id (o + n.toNat * sz))
      | none => False
    | _ => match listOf x, sliceOf P t with
      | some xs, some (_, sz) => (0 ≤ n ∧ n < xs.length) ∧ (xs.getD n.toNat default).cells.length = sz ∧ K (.pv (.vptr (xs.getD n.toNat default).cells))
      | _, _ => False
  | _ => False

def indexP (P : Program) (t : TypeId) (x i : AV) (K : AV → Prop) : Prop :=
  match x, i with
  | .pv (.lit (.string s)), .pv (.lit (.int _ n)) => isStr P t = true ∧ (0 ≤ n ∧ n < s.size) ∧ K (.pv (.lit (.int .u8 (byteAt s n))))
  | .pv (.agg cs), .pv (.lit (.int _ n)) => match arrayOf P t with
    | some (len, sz, ag) => (0 ≤ n ∧ n < len) ∧ partP cs (n.toNat * sz) sz ag K
    | none => False
  | .agg cs, .pv (.lit (.int _ n)) => match arrayOf P t with
    | some (len, sz, ag) => (0 ≤ n ∧ n < len) ∧ partA cs (n.toNat * sz) sz ag K
    | none => False
  | _, _ => False

/-- The bounds of a slicing: the low one, the high one. -/
def boundP (n : Nat) (x : Option AV) (d : Nat) (K : Nat → Prop) : Prop :=
  match x with
  | none => K d
  | some (.pv (.lit (.int _ i))) => (0 ≤ i ∧ i ≤ n) ∧ K i.toNat
  | _ => False

def sliceP (P : Program) (t : TypeId) (x : AV) (lo hi mx : Option AV) (K : AV → Prop) : Prop :=
  mx.isNone = true ∧
  match x with
  | .pv (.lit (.string s)) => isStr P t = true ∧ boundP s.size hi s.size fun h => boundP h lo 0 fun l => K (.pv (.lit (.string (s.extract l h))))
  | _ => match listOf x, sliceOf P t with
    | some xs, some (_, sz) => (∀ y ∈ xs, y.cells.length = sz) ∧ boundP xs.length hi xs.length fun h => boundP h lo 0 fun l => K (.pv (.list ((xs.take h).drop l)))
    | _, _ => False

def nilCheckP (x : AV) (K : AV → Prop) : Prop :=
  match x with
  | .box .. | .pv (.vptr _) | .iter _ | .pv (.lit (.func (.func _) _ _)) => K x
  | .fn (.func f) a b => K x
  | .pv (.fn (.func f) a b) => K x
  | _ => False

def lenP (P : Program) (t : TypeId) (x : AV) (K : AV → Prop) : Prop :=
  match x with
  | .pv (.lit (.string s)) => isStr P t = true ∧ K (.pv (.lit (.int .i64 s.size)))
  | _ => match listOf x, sliceOf P t with
    | some xs, some _ => K (.pv (.lit (.int .i64 xs.length)))
    | _, _ => False

/-- The greater, the smaller of two numbers, as Go has them. -/
def maxI (x y : Int) : Int := if x < y then y else x
def minI (x y : Int) : Int := if y < x then y else x

def loadP (P : Program) (t : TypeId) (x : AV) (K : AV → Prop) : Prop :=
  match shapeOf P t, x with
  | some (sz, ag), .pv (.vptr cs) => partP cs 0 sz ag K
  | _, _ => False

def pureP (P : Program) (o : Oper) (env : Env) (K : AV → Prop) : Prop :=
  match o.op with
  | .move x | .assign x => K (ev env x)
  | .pick c a b => match ev env c with
    | .pv (.lit (.bool t)) => K (if t = true then ev env a else ev env b)
    | _ => False
  | .binOp op t x y _ => match ev env x, ev env y with
    | .pv (.lit a), .pv (.lit b) => binP P op t a b fun v => K (.pv (.lit v))
    | .pv (.agg xs), .pv (.agg ys) => match aggEq P op t xs ys with
      | some b => K (.pv (.lit (.bool b)))
      | none => False
    | _, _ => False
  | .unOp op _ x => unP op (ev env x) K
  | .convert src dst x => convP P src dst (ev env x) K
  | .extract x i => match ev env x with
    | .tuple xs => match xs[i]? with
      | some y => K y
      | none => False
    | _ => False
  | .field t x f => fieldP P t f (ev env x) K
  | .fieldAddr t x f => fieldAddrP P t f (ev env x) K
  | .indexAddr t x i => indexAddrP P t (ev env x) (ev env i) K
  | .index t x i => indexP P t (ev env x) (ev env i) K
  | .slice t x lo hi mx => sliceP P t (ev env x) (lo.map (ev env)) (hi.map (ev env)) (mx.map (ev env)) K
  | .nilCheck x => nilCheckP (ev env x) K
  | .load t x => loadP P t (ev env x) K
  | .makeFunc fn first cap => K (.fn fn (first.toList.map (ev env)) (cap.toList.map (ev env)))
  | .makeInterface t x => P.concrete t = true ∧ match ev env x with
    | .pv y => K (.pv (.iface t y))
    | _ => False
  | .call c => match c.callee with
    | .builtin .len => match c.args.toList, c.argTypes.toList with
      | [x], [t] => lenP P t (ev env x) K
      | _, _ => False
    | .builtin .max => match c.args.toList with
      | [x, y] => match ev env x, ev env y with
        | .pv (.lit (.int k a)), .pv (.lit (.int _ b)) => K (.pv (.lit (.int k (maxI a b))))
        | _, _ => False
      | _ => False
    | .builtin .min => match c.args.toList with
      | [x, y] => match ev env x, ev env y with
        | .pv (.lit (.int k a)), .pv (.lit (.int _ b)) => K (.pv (.lit (.int k (minI a b))))
        | _, _ => False
      | _ => False
    | _ => False
  | _ => False

/-! ### What they are in the model -/
/-- In this world the operation yields a value that one of K's stands for. -/
def Yields1 (P : Program) (w : World) (E : Ghost) (s : Sem Value) (K : AV → Prop) : Prop := ∃ v x, s.run P w = .ok v w ∧ Rep w E x v ∧ K x

section
variable {P : Program} {w : World} {E : Ghost} {K : AV → Prop}

theorem RepV.agg_at {I : Imm} {cs : List V} {u : Value} (h : RepV w I (.agg cs) u) : ∃ vs : Array Value, u = .agg vs ∧ vs.size = cs.length ∧ ∀ (j : Nat) x, cs[j]? = some x → ∃ v, vs[j]? = some v ∧ v.oneCell' = true ∧ RepV w I x v := by
  cases h with
  | agg cs vs cv hn hv h1 hr => exact ⟨vs, rfl, hn, fun j x hx => ⟨_, hv j (List.getElem?_eq_some_iff.1 hx).1, h1 j (List.getElem?_eq_some_iff.1 hx).1, hr j x hx⟩⟩
theorem RepV.agg_mk {w : World} {I : Imm} {cs : List V} {vs : Array Value} (hn : vs.size = cs.length) (h : ∀ (j : Nat) x, cs[j]? = some x → ∃ v, vs[j]? = some v ∧ v.oneCell' = true ∧ RepV w I x v) : RepV w I (.agg cs) (.agg vs) := by
  refine .agg cs vs (fun j => (vs[j]?).getD Go.undef) hn (fun j hj => ?_) (fun j hj => ?_) (fun j x hx => ?_)
  · have : j < vs.size := by omega
    simp [this]
  · obtain ⟨v, hv, ho, hr⟩ := h j cs[j] (by simp [hj])
    simp only [hv]; exact ho
  · obtain ⟨v, hv, ho, hr⟩ := h j x hx
    simp only [hv]; exact hr
theorem Rep.agg_at {cs : List AV} {u : Value} (h : Rep w E (.agg cs) u) : ∃ vs : Array Value, u = .agg vs ∧ vs.size = cs.length ∧ ∀ (j : Nat) x, cs[j]? = some x → ∃ v, vs[j]? = some v ∧ v.oneCell' = true ∧ Rep w E x v := by
  cases h with
  | agg cs vs cv hn hv h1 hr => exact ⟨vs, rfl, hn, fun j x hx => ⟨_, hv j (List.getElem?_eq_some_iff.1 hx).1, h1 j (List.getElem?_eq_some_iff.1 hx).1, hr j x hx⟩⟩
theorem Rep.agg_mk {cs : List AV} {vs : Array Value} (hn : vs.size = cs.length) (h : ∀ (j : Nat) x, cs[j]? = some x → ∃ v, vs[j]? = some v ∧ v.oneCell' = true ∧ Rep w E x v) : Rep w E (.agg cs) (.agg vs) := by
  refine .agg cs vs (fun j => (vs[j]?).getD Go.undef) hn (fun j hj => ?_) (fun j hj => ?_) (fun j x hx => ?_)
  · have : j < vs.size := by omega
    simp [this]
  · obtain ⟨v, hv, ho, hr⟩ := h j cs[j] (by simp [hj])
    simp only [hv]; exact ho
  · obtain ⟨v, hv, ho, hr⟩ := h j x hx
    simp only [hv]; exact hr
theorem Rep.tuple_at {cs : List AV} {u : Value} (h : Rep w E (.tuple cs) u) : ∃ vs : Array Value, u = .tuple vs ∧ vs.size = cs.length ∧ ∀ (j : Nat) x, cs[j]? = some x → ∃ v, vs[j]? = some v ∧ Rep w E x v := by
  cases h with
  | tuple cs vs cv hn hv hr => exact ⟨vs, rfl, hn, fun j x hx => ⟨_, hv j (List.getElem?_eq_some_iff.1 hx).1, hr j x hx⟩⟩
theorem Rep.tuple_mk {cs : List AV} {vs : Array Value} (hn : vs.size = cs.length) (h : ∀ (j : Nat) x, cs[j]? = some x → ∃ v, vs[j]? = some v ∧ Rep w E x v) : Rep w E (.tuple cs) (.tuple vs) := by
  refine .tuple cs vs (fun j => (vs[j]?).getD Go.undef) hn (fun j hj => ?_) (fun j x hx => ?_)
  · have : j < vs.size := by omega
    simp [this]
  · obtain ⟨v, hv, hr⟩ := h j x hx
    simp only [hv]; exact hr

theorem shapeOf_eq {t : TypeId} {s : Nat} {ag : Bool} (h : shapeOf P t = some (s, ag)) : ∃ i d, P.info? t = some i ∧ P.underlying t = some d ∧ i.size = s ∧ isAggD d = ag := by
  unfold shapeOf at h
  split at h
  · rename_i i d hi hd
    simp only [Option.some.injEq, Prod.mk.injEq] at h
    exact ⟨i, d, hi, hd, h.1, h.2⟩
  · cases h
theorem run_isAgg {t : TypeId} {s : Nat} {ag : Bool} (h : shapeOf P t = some (s, ag)) : (isAgg t).run P w = .ok ag w := by
  obtain ⟨i, d, hi, hd, hs, hag⟩ := shapeOf_eq h
  subst hag
  cases d <;> simp [isAgg, run_underlying hd, isAggD]
theorem run_sizeOf {t : TypeId} {s : Nat} {ag : Bool} (h : shapeOf P t = some (s, ag)) : (sizeOf t).run P w = .ok s w := by
  obtain ⟨i, d, hi, hd, hs, hag⟩ := shapeOf_eq h
  simp [sizeOf, typeInfo, hi, hs]
/-- 'part' of cells, by the type's shape. -/
theorem run_part {t : TypeId} (vs : Array Value) (off : Nat) {s : Nat} {ag : Bool} (h : shapeOf P t = some (s, ag)) :
    (part t vs off).run P w = if ag = true then .ok (.agg (vs.extract off (off + s))) w else match vs[off]? with | some v => .ok v w | none => .halt (.stuck "part: no such cell") w := by
  unfold part
  simp only [Sem.run_bind, run_isAgg h, Result.andThen_ok]
  cases ag with
  | true => simp [run_sizeOf h]
  | false => simp only [Bool.false_eq_true, if_false]; split <;> simp_all

theorem partP_run {t : TypeId} {cs : List V} {vs : Array Value} {off s : Nat} {ag : Bool} (h : shapeOf P t = some (s, ag)) (hn : vs.size = cs.length)
    (hr : ∀ (j : Nat) x, cs[j]? = some x → ∃ v, vs[j]? = some v ∧ v.oneCell' = true ∧ RepV w E.imm x v) (hp : partP cs off s ag K) : Yields1 P w E (part t vs off) K := by
  unfold Yields1
  rw [run_part vs off h]
  unfold partP at hp
  cases ag with
  | true =>
    simp only [if_true] at hp ⊢
    refine ⟨_, _, rfl, .pv _ _ (RepV.agg_mk (by simp; omega) (fun j x hx => ?_)), hp.2⟩
    simp only [List.getElem?_take, List.getElem?_drop] at hx
    split at hx
    · rename_i hj
      obtain ⟨v, hv, ho', hr'⟩ := hr (off + j) x hx
      have hlt := (Array.getElem?_eq_some_iff.1 hv).1
      refine ⟨v, ?_, ho', hr'⟩
      rw [Array.getElem?_extract]
      rw [if_pos (by omega), hv]
    · cases hx
  | false =>
    simp only [Bool.false_eq_true, if_false] at hp ⊢
    cases hc : cs[off]? with
    | none => simp [hc] at hp
    | some x =>
      simp [hc] at hp
      obtain ⟨v, hv, ho', hr'⟩ := hr off x hc
      rw [hv]
      exact ⟨v, _, rfl, .pv _ _ hr', hp⟩

theorem partA_run {t : TypeId} {cs : List AV} {vs : Array Value} {off s : Nat} {ag : Bool} (h : shapeOf P t = some (s, ag)) (hn : vs.size = cs.length)
    (hr : ∀ (j : Nat) x, cs[j]? = some x → ∃ v, vs[j]? = some v ∧ v.oneCell' = true ∧ Rep w E x v) (hp : partA cs off s ag K) : Yields1 P w E (part t vs off) K := by
  unfold Yields1
  rw [run_part vs off h]
  unfold partA at hp
  cases ag with
  | true =>
    simp only [if_true] at hp ⊢
    refine ⟨_, _, rfl, Rep.agg_mk (by simp; omega) (fun j x hx => ?_), hp.2⟩
    simp only [List.getElem?_take, List.getElem?_drop] at hx
    split at hx
    · rename_i hj
      obtain ⟨v, hv, ho', hr'⟩ := hr (off + j) x hx
      have hlt := (Array.getElem?_eq_some_iff.1 hv).1
      refine ⟨v, ?_, ho', hr'⟩
      rw [Array.getElem?_extract]
      rw [if_pos (by omega), hv]
    · cases hx
  | false =>
    simp only [Bool.false_eq_true, if_false] at hp ⊢
    cases hc : cs[off]? with
    | none => simp [hc] at hp
    | some x =>
      simp [hc] at hp
      obtain ⟨v, hv, ho', hr'⟩ := hr off x hc
      rw [hv]
      exact ⟨v, _, rfl, hr', hp⟩
end
end Go.Proofs.YtaahjmkjdcikcaaDoor.AI
