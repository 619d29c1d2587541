/- A machine of plain values: what each operation yields, as a term; a region gone through as a term. No program in sight. -/
import Derived.Test.YtaahjmkjdcikcaaDoorR
namespace Go.Proofs.YtaahjmkjdcikcaaDoor.AI
open Go.RowKit
set_option linter.unusedVariables false
set_option linter.unusedSimpArgs false
set_option linter.unusedSectionVars false
variable [Glob]

/-! ### What an operation asks, and what it yields -/
abbrev Ask := Prop × AV
def Ask.no : Ask := (False, .any)
/-- Said as a condition on answers, it says the same. -/
def Ask.Of (x : Ask) (F : (AV → Prop) → Prop) : Prop := x.1 → F fun y => y = x.2

def binX (P : Program) (op : BinOp) (t : TypeId) (x y : Value) : Prop × Value :=
  match x, y with
  | .int k a, .int k' b =>
    match op with
    | .add => (k = k', .int k (k.wrap (a + b)))
    | .sub => (k = k', .int k (k.wrap (a - b)))
    | .mul => (k = k', .int k (k.wrap (a * b)))
    | .quo => (k = k' ∧ b ≠ 0, .int k (k.wrap (a.tdiv b)))
    | .rem => (k = k' ∧ b ≠ 0, .int k (a.tmod b))
    | .eql => (k = k', .bool (decide (a = b)))
    | .neq => (k = k', .bool (!decide (a = b)))
    | .lss => (k = k', .bool (decide (a < b)))
    | .leq => (k = k', .bool (decide (a ≤ b)))
    | .gtr => (k = k', .bool (decide (b < a)))
    | .geq => (k = k', .bool (decide (b ≤ a)))
    | .shl => (0 ≤ b, .int k (k.wrap (a * 2 ^ min b.toNat k.bits)))
    | .shr => (0 ≤ b, .int k (a.fdiv (2 ^ min b.toNat k.bits)))
    | .and => (k = k', .int k (bitsOf .and k a b))
    | .or => (k = k', .int k (bitsOf .or k a b))
    | .xor => (k = k', .int k (bitsOf .xor k a b))
    | .andNot => (k = k', .int k (bitsOf .andNot k a b))
  | .string a, .string b =>
    match op with
    | .add => (a.size + b.size ≤ 9223372036854775807, .string (a ++ b))
    | .eql => (True, .bool (decide (a = b)))
    | .neq => (True, .bool (!decide (a = b)))
    | .lss => (True, .bool (sless a b))
    | .leq => (True, .bool (sless a b || decide (a = b)))
    | .gtr => (True, .bool (!(sless a b || decide (a = b))))
    | .geq => (True, .bool (!sless a b))
    | _ => (False, undef)
  | .bool a, .bool b =>
    match op with
    | .eql => (isBool P t = true, .bool (a == b))
    | .neq => (isBool P t = true, .bool (!(a == b)))
    | _ => (False, undef)
  | _, _ => (False, undef)

theorem binX_ok {P : Program} {op : BinOp} {t : TypeId} {x y : Value} (h : (binX P op t x y).1) : binP P op t x y fun v => v = (binX P op t x y).2 := by
  unfold binX at h ⊢
  unfold binP
  cases x <;> cases y <;> first | exact h.elim | skip
  · cases op <;> first | exact h.elim | exact ⟨h, rfl⟩
  · cases op <;> first | exact h.elim | exact ⟨h, rfl⟩ | exact ⟨h.1, h.2, rfl⟩
  · cases op <;> first | exact h.elim | exact ⟨h, rfl⟩ | exact rfl

def partX (cs : List V) (off sz : Nat) (ag : Bool) : Ask :=
  match ag with
  | true => (off + sz ≤ cs.length, .pv (.agg ((cs.drop off).take sz)))
  | false => match cs[off]? with
    | some x => (True, .pv x)
    | none => .no
def partAX (cs : List AV) (off sz : Nat) (ag : Bool) : Ask :=
  match ag with
  | true => (off + sz ≤ cs.length, .agg ((cs.drop off).take sz))
  | false => match cs[off]? with
    | some x => (True, x)
    | none => .no

theorem partX_ok {cs : List V} {off sz : Nat} {ag : Bool} : (partX cs off sz ag).Of (partP cs off sz ag) := by
  intro h
  unfold partX at h ⊢
  unfold partP
  cases ag with
  | true => exact ⟨h, rfl⟩
  | false =>
    simp only [Bool.false_eq_true, if_false] at h ⊢
    split at h
    · rename_i x hx; simp only [hx]
    · exact h.elim
theorem partAX_ok {cs : List AV} {off sz : Nat} {ag : Bool} : (partAX cs off sz ag).Of (partA cs off sz ag) := by
  intro h
  unfold partAX at h ⊢
  unfold partA
  cases ag with
  | true => exact ⟨h, rfl⟩
  | false =>
    simp only [Bool.false_eq_true, if_false] at h ⊢
    split at h
    · rename_i x hx; simp only [hx]
    · exact h.elim

/-- Which operations are told as terms. -/
def xop : Op → Bool
  | .move _ | .assign _ | .pick .. | .binOp .. | .unOp .. | .convert .. | .extract .. | .field .. | .fieldAddr .. | .indexAddr .. | .index .. | .slice .. | .nilCheck _ | .makeFunc .. | .makeInterface .. | .build .. | .buildSlice .. => true
  | .call c => match c.callee with
    | .builtin .len | .builtin .max | .builtin .min => true
    | _ => false
  | _ => false

def pickV (g : Bool) (x y : AV) : AV :=
  match x, y with
  | .pv (.lit (.bool p)), .pv (.lit (.bool q)) => .pv (.lit (.bool (cond g p q)))
  | x, y => if g = true then x else y
theorem pickV_eq (g : Bool) (x y : AV) : pickV g x y = if g = true then x else y := by
  unfold pickV
  split
  · cases g <;> rfl
  · rfl

def boundX (n : Nat) (x : Option AV) (d : Nat) : Prop × Nat :=
  match x with
  | none => (True, d)
  | some (.pv (.lit (.int _ i))) => (0 ≤ i ∧ i ≤ n, i.toNat)
  | _ => (False, 0)
theorem boundX_ok {n d : Nat} {x : Option AV} (h : (boundX n x d).1) : boundP n x d fun k => k = (boundX n x d).2 := by
  unfold boundX at h ⊢
  unfold boundP
  split at h
  · rfl
  · exact ⟨h, rfl⟩
  · exact h.elim

def sliceX (P : Program) (t : TypeId) (x : AV) (lo hi mx : Option AV) : Ask :=
  match mx, x with
  | none, .pv (.lit (.string s)) =>
    let h := boundX s.size hi s.size
    let l := boundX h.2 lo 0
    (isStr P t = true ∧ h.1 ∧ l.1, .pv (.lit (.string (s.extract l.2 h.2))))
  | none, x => match listOf x, sliceOf P t with
    | some xs, some (_, sz) =>
      let h := boundX xs.length hi xs.length
      let l := boundX h.2 lo 0
      ((∀ y ∈ xs, y.cells.length = sz) ∧ h.1 ∧ l.1, .pv (.list ((xs.take h.2).drop l.2)))
    | _, _ => .no
  | _, _ => .no

theorem boundP_mono {n d : Nat} {x : Option AV} {K K' : Nat → Prop} (hk : ∀ k, K k → K' k) (h : boundP n x d K) : boundP n x d K' := by
  unfold boundP at h ⊢
  split at h
  · exact hk _ h
  · exact ⟨h.1, hk _ h.2⟩
  · exact h.elim

theorem sliceX_ok {P : Program} {t : TypeId} {x : AV} {lo hi mx : Option AV} : (sliceX P t x lo hi mx).Of (sliceP P t x lo hi mx) := by
  intro h
  unfold sliceX at h ⊢
  unfold sliceP
  split at h
  · rename_i s
    obtain ⟨h1, h2, h3⟩ := h
    refine ⟨rfl, h1, boundP_mono (fun k hk => ?_) (boundX_ok h2)⟩
    subst hk
    refine boundP_mono (fun l hl => ?_) (boundX_ok h3)
    subst hl; rfl
  · rename_i x hx
    refine ⟨rfl, ?_⟩
    split
    · rename_i s; exact absurd rfl (hx s)
    · split at h
      · rename_i xs e sz h1 h2
        obtain ⟨h3, h4, h5⟩ := h
        simp only [h1, h2]
        refine ⟨h3, boundP_mono (fun k hk => ?_) (boundX_ok h4)⟩
        subst hk
        refine boundP_mono (fun l hl => ?_) (boundX_ok h5)
        subst hl; rfl
      · exact h.elim
  · exact h.elim

/-- A part of a tuple. -/
def tupAt : AV → Nat → Option AV
  | .tuple xs, i => xs[i]?
  | _, _ => none

def pureX (P : Program) (o : Oper) (env : Env) : Ask :=
  match o.op with
  | .move x | .assign x => (True, ev env x)
  | .binOp op t x y _ => match ev env x, ev env y with
    | .pv (.lit a), .pv (.lit b) => ((binX P op t a b).1, .pv (.lit (binX P op t a b).2))
    | .pv (.agg xs), .pv (.agg ys) => match aggEq P op t xs ys with
      | some b => (True, .pv (.lit (.bool b)))
      | none => .no
    | _, _ => .no
  | .unOp op _ x => match op, ev env x with
    | .not, .pv (.lit (.bool b)) => (True, .pv (.lit (.bool !b)))
    | .neg, .pv (.lit (.int k n)) => (True, .pv (.lit (.int k (k.wrap (0 - n)))))
    | _, _ => .no
  | .convert src dst x => match ev env x with
    | .pv (.lit (.int k n)) => match intOfT P dst with
      | some k' => ((P.underlying src).isSome = true, .pv (.lit (.int k' (k'.wrap n))))
      | none => ((P.underlying src).isSome = true ∧ isStr P dst = true, .pv (.lit (.string (Utf8.encode n))))
    | .pv (.lit (.string s)) => if isStr P dst then (isStr P src = true, .pv (.lit (.string s))) else (isStr P src = true ∧ isBytes P dst = true, .pv (.list (bytesV s)))
    | .pv (.lit _) => .no
    | x => match listOf x with
      | some xs => match u8sOf xs with
        | some l => (isBytes P src = true ∧ isStr P dst = true, .pv (.lit (.string ⟨l.toArray⟩)))
        | none => .no
      | none => .no
  | .extract x i => match tupAt (ev env x) i with
    | some y => (True, y)
    | none => .no
  | .field t x f => match fieldAt P t f, ev env x with
    | some (off, sz, ag), .pv (.agg cs) => partX cs off sz ag
    | some (off, sz, ag), .agg cs => partAX cs off sz ag
    | _, _ => .no
  | .fieldAddr t x f => match fieldAt P t f, ev env x with
    | some (off, sz, _), .box id o => (sz ≠ 0, .box id (o + off))
    | some (off, sz, _), .pv (.vptr cs) => (sz ≠ 0, .pv (.vptr (cs.drop off)))
    | _, _ => .no
  | .indexAddr t x i => match ev env i with
    | .pv (.lit (.int _ n)) => match ev env x with
      | .box id o => match arrayOf P t with
        | some (len, sz, _) => (0 ≤ n ∧ n < len, .box id (o + n.toNat * sz))
        | none => .no
      | y => match listOf y, sliceOf P t with
        | some xs, some (_, sz) => ((0 ≤ n ∧ n < xs.length) ∧ (xs.getD n.toNat default).cells.length = sz, .pv (.vptr (xs.getD n.toNat default).cells))
        | _, _ => .no
    | _ => .no
  | .index t x i => match ev env x, ev env i with
    | .pv (.lit (.string s)), .pv (.lit (.int _ n)) => (isStr P t = true ∧ (0 ≤ n ∧ n < s.size), .pv (.lit (.int .u8 (byteAt s n))))
    | .pv (.agg cs), .pv (.lit (.int _ n)) => match arrayOf P t with
      | some (len, sz, ag) => ((0 ≤ n ∧ n < len) ∧ (partX cs (n.toNat * sz) sz ag).1, (partX cs (n.toNat * sz) sz ag).2)
      | none => .no
    | .agg cs, .pv (.lit (.int _ n)) => match arrayOf P t with
      | some (len, sz, ag) => ((0 ≤ n ∧ n < len) ∧ (partAX cs (n.toNat * sz) sz ag).1, (partAX cs (n.toNat * sz) sz ag).2)
      | none => .no
    | _, _ => .no
  | .slice t x lo hi mx => sliceX P t (ev env x) (lo.map (ev env)) (hi.map (ev env)) (mx.map (ev env))
  | .nilCheck x => match ev env x with
    | .box id o => (True, .box id o)
    | .pv (.vptr cs) => (True, .pv (.vptr cs))
    | .iter id => (True, .iter id)
    | .pv (.lit (.func (.func f) a b)) => (True, .pv (.lit (.func (.func f) a b)))
    | .fn (.func f) a b => (True, .fn (.func f) a b)
    | .pv (.fn (.func f) a b) => (True, .pv (.fn (.func f) a b))
    | _ => .no
  | .makeFunc fn first cap => (True, .fn fn (first.toList.map (ev env)) (cap.toList.map (ev env)))
  | .makeInterface t x => match ev env x with
    | .pv y => (P.concrete t = true, .pv (.iface t y))
    | _ => .no
  | .build t parts => match placesOf P t with
    | some (z, place) => match fillA place.at (z.map constA) (parts.toList.map fun p => (p.1, ev env p.2)) with
      | some cs => (z.all (fun v => v.oneCell') = true ∧ ((parts.toList.map fun p => ev env p.2).all AV.whole) = true, mkAgg cs)
      | none => .no
    | none => .no
  | .buildSlice t n parts => match elemOf P t with
    | some (_, sz, _) => match allPlain (parts.toList.map fun p => ev env p.2) with
      | some xs => (0 < n ∧ n * sz ≤ 16777216 ∧ (parts.toList.map (·.1)) = List.range n ∧ (∀ x ∈ xs, x.cells.length = sz), .pv (.list xs))
      | none => .no
    | none => .no
  | .call c => match c.callee with
    | .builtin .len => match c.args.toList, c.argTypes.toList with
      | [x], [t] => match ev env x with
        | .pv (.lit (.string s)) => (isStr P t = true, .pv (.lit (.int .i64 s.size)))
        | y => match listOf y, sliceOf P t with
          | some xs, some _ => (True, .pv (.lit (.int .i64 xs.length)))
          | _, _ => .no
      | _, _ => .no
    | .builtin .max => match c.args.toList with
      | [x, y] => match ev env x, ev env y with
        | .pv (.lit (.int k a)), .pv (.lit (.int _ b)) => (True, .pv (.lit (.int k (maxI a b))))
        | _, _ => .no
      | _ => .no
    | .builtin .min => match c.args.toList with
      | [x, y] => match ev env x, ev env y with
        | .pv (.lit (.int k a)), .pv (.lit (.int _ b)) => (True, .pv (.lit (.int k (minI a b))))
        | _, _ => .no
      | _ => .no
    | _ => .no
  | _ => .no

theorem pureX_ok {P : Program} {o : Oper} {env : Env} (h : (pureX P o env).1) : gpureP P o env fun y => y = (pureX P o env).2 := by
  unfold pureX at h ⊢
  unfold gpureP
  split at h
  case h_1 x ho => simp only [ho, pureP]
  case h_2 x ho => simp only [ho, pureP]
  case h_3 op t x y t' ho =>
    simp only [ho, pureP]
    split at h
    · rename_i a b h1 h2
      simp only [h1, h2]
      obtain ⟨v, hv, hw⟩ := binP_wit _ _ _ _ _ (binX_ok h)
      exact hw _ (by rw [hv])
    · rename_i xs ys h1 h2
      simp only [h1, h2]
      split at h
      · rename_i b hb; simp only [hb]
      · exact h.elim
    · exact h.elim
  case h_4 op t x ho =>
    simp only [ho, pureP, unP]
    split at h
    · rename_i h1; simp only [h1]
    · rename_i h1; simp only [h1]
    · exact h.elim
  case h_5 src dst x ho =>
    simp only [ho, convG]
    split at h
    · rename_i k n h1
      simp only [h1]
      split at h
      · rename_i k' hk
        simp only [convP, hk]
        exact ⟨h, trivial⟩
      · rename_i hk
        simp only [convP, hk]
        exact ⟨h.1, h.2, trivial⟩
    · rename_i s h1
      simp only [h1]
      split at h
      · rename_i hs
        rw [if_pos hs]
        rw [if_pos hs]
        exact ⟨h, hs, rfl⟩
      · rename_i hs
        rw [if_neg hs]
        rw [if_neg hs]
        exact ⟨h.1, h.2, rfl⟩
    · exact h.elim
    · rename_i h1 h2 h3
      split
      · rename_i s hs; exact absurd hs (h2 s)
      · rename_i v hv hv2; exact absurd hv2 (h3 _)
      · split at h
        · rename_i xs hx
          simp only [hx]
          split at h
          · rename_i l hl
            simp only [hl]
            exact ⟨h.1, h.2, trivial⟩
          · exact h.elim
        · exact h.elim
  case h_6 x i ho =>
    simp only [ho, pureP]
    split at h
    · rename_i y hy
      unfold tupAt at hy
      split at hy
      · rename_i xs h1
        simp only [h1, hy]
      · cases hy
    · exact h.elim
  case h_7 t x f ho =>
    simp only [ho, pureP, fieldP]
    split at h
    · rename_i h1 h2; simp only [h1, h2]; exact partX_ok h
    · rename_i h1 h2; simp only [h1, h2]; exact partAX_ok h
    · exact h.elim
  case h_8 t x f ho =>
    simp only [ho, pureP, fieldAddrP]
    split at h
    · rename_i h1 h2; simp only [h1, h2]; exact ⟨h, trivial⟩
    · rename_i h1 h2; simp only [h1, h2]; exact ⟨h, trivial⟩
    · exact h.elim
  case h_9 t x i ho =>
    simp only [ho, pureP, indexAddrP]
    split at h
    · rename_i k n h1
      simp only [h1]
      split at h
      · rename_i id o h2
        simp only [h2]
        split at h
        · rename_i h3; simp only [h3]; exact ⟨h, trivial⟩
        · exact h.elim
      · rename_i y h2
        split
        · rename_i id o h3; exact absurd h3 (h2 _ _)
        · split at h
          · rename_i h3 h4; simp only [h3, h4]; exact ⟨h.1, h.2, trivial⟩
          · exact h.elim
    · exact h.elim
  case h_10 t x i ho =>
    simp only [ho, pureP, indexP]
    split at h
    · rename_i h1 h2; simp only [h1, h2]; exact ⟨h.1, h.2, trivial⟩
    · rename_i h1 h2
      simp only [h1, h2]
      split at h
      · rename_i h3; simp only [h3]; exact ⟨h.1, partX_ok h.2⟩
      · exact h.elim
    · rename_i h1 h2
      simp only [h1, h2]
      split at h
      · rename_i h3; simp only [h3]; exact ⟨h.1, partAX_ok h.2⟩
      · exact h.elim
    · exact h.elim
  case h_11 t x lo hi mx ho =>
    simp only [ho, pureP]
    exact sliceX_ok h
  case h_12 x ho =>
    simp only [ho, pureP, nilCheckP]
    split at h <;> first | exact h.elim | (rename_i h1; simp only [h1])
  case h_13 fn first cap ho => simp only [ho, pureP]
  case h_14 t x ho =>
    simp only [ho, pureP]
    split at h
    · rename_i y h1; simp only [h1]; exact ⟨h, trivial⟩
    · exact h.elim
  case h_15 t parts ho =>
    simp only [ho]
    split at h
    · rename_i z place h1
      simp only [h1]
      split at h
      · rename_i cs h2
        simp only [h2]
        exact ⟨h.1, h.2, trivial⟩
      · exact h.elim
    · exact h.elim
  case h_16 t n parts ho =>
    simp only [ho]
    split at h
    · rename_i h1
      simp only [h1]
      split at h
      · rename_i xs h2
        simp only [h2]
        exact ⟨h.1, h.2.1, h.2.2.1, h.2.2.2, trivial⟩
      · exact h.elim
    · exact h.elim
  case h_17 c ho =>
    simp only [ho]
    split at h
    · rename_i hc
      simp only [hc, pureP, ho]
      split at h
      · rename_i x t h1 h2
        simp only [h1, h2, lenP]
        split at h
        · rename_i h3; simp only [h3]; exact ⟨h, trivial⟩
        · rename_i h3
          split
          · rename_i s hs; exact absurd hs (h3 s)
          · split at h
            · rename_i h4 h5; simp only [h4, h5]
            · exact h.elim
      · exact h.elim
    · rename_i hc
      simp only [hc, pureP, ho]
      split at h
      · rename_i h1
        simp only [h1]
        split at h
        · rename_i h2 h3; simp only [h2, h3]
        · exact h.elim
      · exact h.elim
    · rename_i hc
      simp only [hc, pureP, ho]
      split at h
      · rename_i h1
        simp only [h1]
        split at h
        · rename_i h2 h3; simp only [h2, h3]
        · exact h.elim
      · exact h.elim
    · exact h.elim
  case h_18 => exact h.elim
end Go.Proofs.YtaahjmkjdcikcaaDoor.AI
