/- A machine of plain values: a region gone through as a term, with what is decided only later; code gone through so. No program in sight. -/
import Derived.Test.YtaahjmkjdcikcaaDoorS
namespace Go.Proofs.YtaahjmkjdcikcaaDoor.AI
open Go.RowKit
set_option linter.unusedVariables false
set_option linter.unusedSimpArgs false
set_option linter.unusedSectionVars false
variable [Glob]

/-! ### Written out: slots, objects -/
def lk : List (Nat × AV) → Nat → AV
  | [], _ => .any
  | (d, x) :: l, t => if t = d then x else lk l t
def mkE (l : List (Nat × AV)) : Env := fun t => lk l t
def mkS (s : List AObj) : St := fun j => s[j]?

theorem put_mkE (l : List (Nat × AV)) (d : Nat) (x : AV) : (mkE l).put (some d) x = mkE ((d, x) :: l) := rfl
theorem mkS_new (s : List AObj) : mkS s s.length = none := by simp [mkS]
theorem mkS_push (s : List AObj) (o : AObj) : (mkS s).set s.length o = mkS (s ++ [o]) := by
  funext j
  simp only [St.set, mkS]
  by_cases h : j = s.length
  · subst h; simp
  · rw [if_neg h]
    by_cases h' : j < s.length
    · rw [List.getElem?_append_left h']
    · rw [List.getElem?_eq_none (by omega), List.getElem?_eq_none (by simp; omega)]
theorem mkS_set {s : List AObj} {id : Nat} {x : AObj} (h : s[id]? = some x) (o : AObj) : (mkS s).set id o = mkS (s.set id o) := by
  have hlt := (List.getElem?_eq_some_iff.1 h).1
  funext j
  simp only [St.set, mkS, List.getElem?_set]
  by_cases hj : j = id
  · subst hj; simp [hlt]
  · rw [if_neg hj, if_neg (Ne.symm hj)]

/-! ### What is there only under a condition -/
def strip : AV → AV
  | .cnd _ x => x
  | x => x
def okc : AV → Prop
  | .cnd b _ => b = true
  | _ => True
def isCnd : AV → Bool
  | .cnd .. => true
  | _ => false
def stripE (env : Env) : Env := fun t => strip (env t)
def stripL (l : List (Nat × AV)) : List (Nat × AV) := l.map fun p => (p.1, strip p.2)
theorem stripE_mkE (l : List (Nat × AV)) : stripE (mkE l) = mkE (stripL l) := by
  funext t
  simp only [stripE, mkE]
  induction l with
  | nil => rfl
  | cons p l ih =>
    obtain ⟨d, x⟩ := p
    simp only [lk, stripL, List.map_cons]
    split
    · rfl
    · exact ih
def allOkc (env : Env) : List Operand → Prop
  | [] => True
  | x :: r => okc (ev env x) ∧ allOkc env r

/-- The frame's own slots, and what is told of them. -/
def Str (e0 e1 : Env) : Prop := ∀ t, match e1 t with
  | .cnd b y => (b = true → e0 t = y) ∧ (b = false → e0 t = .undef)
  | x => e0 t = x

theorem Str.strip {e0 e1 : Env} (h : Str e0 e1) {x : Operand} (hx : okc (ev e1 x)) : ev e0 x = ev (stripE e1) x := by
  cases x with
  | tmp t =>
    have := h t
    simp only [ev, stripE] at hx ⊢
    cases he : e1 t with
    | cnd b y => rw [he] at this hx; exact this.1 hx
    | _ => rw [he] at this; exact this
  | _ => rfl
theorem Str.eq {e0 e1 : Env} (h : Str e0 e1) {t : Nat} (hx : isCnd (e1 t) = false) : e0 t = e1 t := by
  have := h t
  cases he : e1 t with
  | cnd b y => rw [he] at hx; cases hx
  | _ => rw [he] at this; exact this
theorem Str.put {e0 e1 : Env} (h : Str e0 e1) (d : Option Nat) {x y : AV} (hxy : match y with | .cnd b z => (b = true → x = z) ∧ (b = false → x = .undef) | z => x = z) : Str (e0.put d x) (e1.put d y) := by
  cases d with
  | none => exact h
  | some d =>
    intro t
    simp only [Env.put]
    by_cases e : t = d
    · rw [if_pos e, if_pos e]; exact hxy
    · rw [if_neg e, if_neg e]; exact h t
theorem Str.refl {e : Env} (h : ∀ t, isCnd (e t) = false) : Str e e := fun t => by
  have := h t
  cases he : e t with
  | cnd b y => rw [he] at this; cases this
  | _ => rfl

theorem Str.allOk {e0 e1 : Env} (h : Str e0 e1) : ∀ {l : List Operand}, allOkc e1 l → ∀ x ∈ l, ev e0 x = ev (stripE e1) x
  | [], _, x, hx => by cases hx
  | y :: l, ha, x, hx => by
    rcases List.mem_cons.1 hx with rfl | hx
    · exact h.strip ha.1
    · exact h.allOk ha.2 x hx

/-! ### One operation -/
def xask (P : Program) (o : Oper) (env : Env) : Ask :=
  match o.op with
  | .pick c a b => match strip (ev env c) with
    | .pv (.lit (.bool g)) => (okc (ev env c) ∧ (g = true → okc (ev env a)) ∧ (g = false → okc (ev env b)), pickV g (strip (ev env a)) (strip (ev env b)))
    | _ => .no
  | _ => (allOkc env o.op.operands.toList ∧ (pureX P o (stripE env)).1, (pureX P o (stripE env)).2)

/-- Operations on objects that are told as terms; the others are calls. -/
def sop : Op → Bool
  | .load .. | .box .. | .alloc _ | .range .. | .store .. | .next .. => true
  | .call c => match c.callee with
    | .builtin .append => true
    | _ => false
  | _ => false

abbrev AskS := Prop × AV × List AObj
def AskS.no : AskS := (False, .any, [])

def loadX (P : Program) (t : TypeId) (x : AV) (s : List AObj) : Ask :=
  match x, shapeOf P t with
  | .box id off, some (sz, ag) => match s[id]? with
    | some (.box _ cs) => match ag with
      | true => (off + sz ≤ cs.length, mkAgg ((cs.drop off).take sz))
      | false => match cs[off]? with
        | some y => (True, y)
        | none => .no
    | _ => .no
  | .pv (.vptr cs), some (sz, ag) => partX cs 0 sz ag
  | _, _ => .no

def appendX (P : Program) (t : TypeId) (id : Nat) (xs : List V) (s : List AObj) (y : AV) : AskS :=
  match s[id]?, elemOf P t, srcOf y with
  | some (.tok e sz n), some (e', sz', bytes), some ys =>
    ((e = e' ∧ sz = sz' ∧ n = xs.length) ∧ (∀ z ∈ ys, z.cells.length = sz) ∧ (xs.length + ys.length) * bytes ≤ 140737488355328, .own id (xs ++ ys), s.set id (.tok e sz (xs.length + ys.length)))
  | _, _, _ => .no

/-- What a step through a string tells: is there one more rune? Its place, the rune. -/
def nextT (b : Bool) (i r : Int) : AV := bif b then .tuple [.pv (.lit (.bool true)), .pv (.lit (.int .i64 i)), .pv (.lit (.int .i32 r))] else .tuple [.pv (.lit (.bool false))]
def nextW (b : Bool) (n : Nat) : Nat := bif b then n else 0

/-- The cells of a type's zero. -/
def zeroOf (P : Program) (t : TypeId) : Option (List AV) :=
  match (P.info? t).bind (·.zero) with
  | some z => if (z.cells.toList.all fun v => v.oneCell') = true then some (z.cells.toList.map constA) else none
  | none => none

def stepX (P : Program) (o : Oper) (env : Env) (s : List AObj) : AskS :=
  match o.op with
  | .load t x => ((loadX P t (ev env x) s).1, (loadX P t (ev env x) s).2, s)
  | .box t x => ((ev env x).whole = true, .box s.length 0, s ++ [.box t (ev env x).cells])
  | .alloc t => match zeroOf P t with
    | some cs => (True, .box s.length 0, s ++ [.box t cs])
    | none => .no
  | .range t x => match ev env x with
    | .pv (.lit (.string str)) => (isStr P t = true, .iter s.length, s ++ [.siter str 0])
    | _ => .no
  | .store t p x => match ev env p, shapeOf P t with
    | .box id off, some (sz, _) => match s[id]? with
      | some (.box u cs) => ((ev env x).whole = true ∧ (ev env x).cells.length = sz ∧ off + sz ≤ cs.length, .undef, s.set id (.box u (splice cs off (ev env x).cells)))
      | _ => .no
    | _, _ => .no
  | .next it isStr => match ev env it with
    | .iter id => match s[id]? with
      | some (.siter str pos) => (isStr = true, nextT (decide (pos < str.size)) pos (Utf8.decode str pos).1, s.set id (.siter str (pos + nextW (decide (pos < str.size)) (Utf8.decode str pos).2)))
      | _ => .no
    | _ => .no
  | .call c => match c.callee, c.args.toList, c.argTypes.toList with
    | .builtin .append, [x, y], [t, t'] => match ev env x with
      | .own id xs => (srcOk P t t' (ev env y) = true ∧ (appendX P t id xs s (ev env y)).1, (appendX P t id xs s (ev env y)).2)
      | .e0 => match elemOf P t with
        | some (e, sz, _) => (srcOk P t t' (ev env y) = true ∧ (appendX P t s.length [] (s ++ [.tok e sz 0]) (ev env y)).1, (appendX P t s.length [] (s ++ [.tok e sz 0]) (ev env y)).2)
        | none => .no
      | _ => .no
    | _, _, _ => .no
  | .slice t x none none none => match ev env x with
    | .box id off => match s[id]?, arrayOf P t with
      | some (.box _ cs), some (n, sz, ag) => match allPlain cs with
        | some vs => ((off = 0 ∧ sz = 1 ∧ ag = false ∧ vs.length = n ∧ ∀ y ∈ vs, y.cells.length = 1), .pv (.list vs), s.set id .dead)
        | none => .no
      | _, _ => .no
    | _ => .no
  | _ => .no

/-- Is it a slicing? -/
def isSl : Op → Bool
  | .slice .. => true
  | _ => false
section
variable {P : Program}

theorem loadX_ok {o : Oper} {t : TypeId} {x : Operand} {env : Env} {s : List AObj} (ho : o.op = .load t x) (h : (loadX P t (ev env x) s).1) : loadK P o env (mkS s) fun y => y = (loadX P t (ev env x) s).2 := by
  unfold loadK
  simp only [ho]
  unfold loadX at h ⊢
  split at h
  · rename_i id off sz ag h1 h2
    simp only [h1, h2]
    split at h
    · rename_i u cs h3
      have h4 : mkS s id = some (.box u cs) := h3
      simp only [h4]
      split at h
      · exact ⟨h, rfl⟩
      · split at h
        · rename_i y hy; simp [hy]
        · exact h.elim
    · exact h.elim
  · rename_i cs sz ag h1 h2
    simp only [h1, loadP, h2]
    exact partX_ok h
  · exact h.elim

theorem appendX_ok {t : TypeId} {id : Nat} {xs : List V} {s : List AObj} {y : AV} (h : (appendX P t id xs s y).1) : appendK P t id xs (mkS s) y fun x σ => x = (appendX P t id xs s y).2.1 ∧ σ = mkS (appendX P t id xs s y).2.2 := by
  unfold appendX at h ⊢
  unfold appendK
  split at h
  · rename_i e sz n e' sz' b ys h1 h2 h3
    have h4 : mkS s id = some (.tok e sz n) := h1
    simp only [h4, h2, h3]
    exact ⟨h.1, h.2.1, h.2.2, trivial, by rw [mkS_set h1]⟩
  · exact h.elim

theorem stepX_ok {pc : Op → Bool} {o : Oper} {env : Env} {s : List AObj} (hsl : isSl o.op = true → pc o.op = false) (h : (stepX P o env s).1) : stepK P pc o env (mkS s) fun x σ => x = (stepX P o env s).2.1 ∧ σ = mkS (stepX P o env s).2.2 := by
  unfold stepX at h ⊢
  unfold stepK
  split at h
  · rename_i t x ho
    simp only [ho, modeOf]
    obtain ⟨y, hy, hw⟩ := loadK_wit _ _ _ _ (loadX_ok ho h)
    exact hw _ ⟨hy, trivial⟩
  · rename_i t x ho
    simp only [ho, modeOf, allocK]
    exact ⟨s.length, mkS_new s, h, rfl, mkS_push s _⟩
  · rename_i t ho
    simp only [ho, modeOf, allocK]
    refine ⟨s.length, mkS_new s, ?_⟩
    split at h
    · rename_i cs hcs
      unfold zeroOf at hcs
      split at hcs
      · rename_i z hz
        split at hcs
        · rename_i hwh
          cases hcs
          rw [Option.bind_eq_some_iff] at hz
          obtain ⟨i, hi, hz⟩ := hz
          simp only [hi, hz]
          exact ⟨hwh, trivial, mkS_push s _⟩
        · cases hcs
      · cases hcs
    · exact h.elim
  · rename_i t x ho
    simp only [ho, modeOf, allocK]
    refine ⟨s.length, mkS_new s, ?_⟩
    split at h
    · rename_i str h1
      simp only [h1]
      exact ⟨h, trivial, mkS_push s _⟩
    · exact h.elim
  · rename_i t p x ho
    simp only [ho, modeOf, writeK]
    split at h
    · rename_i id off sz ag h1 h2
      simp only [h1, h2]
      split at h
      · rename_i u cs h3
        have h4 : mkS s id = some (.box u cs) := h3
        simp only [h4]
        exact ⟨h.1, h.2.1, h.2.2, trivial, mkS_set h3 _⟩
      · exact h.elim
    · exact h.elim
  · rename_i it isStr ho
    simp only [ho, modeOf, writeK]
    split at h
    · rename_i id h1
      simp only [h1]
      split at h
      · rename_i str pos h3
        have h4 : mkS s id = some (.siter str pos) := h3
        simp only [h4]
        refine ⟨h, ?_⟩
        split
        · rename_i hp
          simp only [hp, decide_true, nextT, nextW, cond_true]
          exact ⟨trivial, mkS_set h3 _⟩
        · rename_i hp
          simp only [hp, decide_false, nextT, nextW, cond_false, Nat.add_zero]
          refine ⟨trivial, ?_⟩
          congr 1
          have hlt := (List.getElem?_eq_some_iff.1 h3).1
          have he := (List.getElem?_eq_some_iff.1 h3).2
          rw [← he, List.set_getElem_self]
      · exact h.elim
    · exact h.elim
  · rename_i c ho
    split at h
    · rename_i x y t t' hc h1 h2
      simp only [ho, modeOf, hc, writeK, h1, h2]
      split at h
      · rename_i id xs h3
        simp only [h3]
        exact ⟨h.1, appendX_ok h.2⟩
      · rename_i h3
        simp only [h3]
        split at h
        · rename_i e sz b h4
          simp only [h4]
          refine ⟨h.1, s.length, mkS_new s, ?_⟩
          rw [mkS_push]
          exact appendX_ok h.2
        · exact h.elim
      · exact h.elim
    · exact h.elim
  · rename_i t x ho
    have hp := hsl (by rw [ho]; rfl)
    rw [ho] at hp
    simp only [ho, modeOf, hp, Bool.false_eq_true, if_false, writeK]
    split at h
    · rename_i id off hx
      simp only [hx]
      split at h
      · rename_i u cs n sz ag h1 h2
        have h4 : mkS s id = some (.box u cs) := h1
        simp only [h4, h2]
        split at h
        · rename_i vs hvs
          simp only [hvs]
          exact ⟨h.1, h.2.1, h.2.2.1, h.2.2.2.1, h.2.2.2.2, trivial, mkS_set h1 _⟩
        · exact h.elim
      · exact h.elim
    · exact h.elim
  · exact h.elim

/-- Is an operation carried out? Told as a truth. -/
def awantL (opl : List Oper) (env : Env) (o : Oper) : Option Bool :=
  match o.guard with
  | none => some true
  | some (j, want) => match (opl[j]?).bind (·.dst) with
    | none => some false
    | some d => match env d with
      | .pv (.lit (.bool b)) => some (b == want)
      | .cnd c (.pv (.lit (.bool b))) => some (c && (b == want))
      | .undef => some false
      | _ => none

theorem awantL_ok {opl : List Oper} {e0 e1 : Env} {o : Oper} {g : Bool} (hs : Str e0 e1) (h : awantL opl e1 o = some g) : awant opl.toArray e0 o = some g := by
  unfold awantL at h
  unfold awant
  split at h
  · rename_i hg; simp only [hg]; exact h
  · rename_i j want hg
    simp only [hg, List.getElem?_toArray]
    split at h
    · rename_i hd; simp only [hd]; exact h
    · rename_i d hd
      simp only [hd]
      have := hs d
      split at h
      · rename_i b hb; rw [hb] at this; simp only [this]; exact h
      · rename_i c b hb
        rw [hb] at this
        cases c with
        | true => rw [this.1 rfl]; simpa using h
        | false => rw [this.2 rfl]; simpa using h
      · rename_i hb; rw [hb] at this; simp only [this]; exact h
      · cases h

/-- What stands in a slot behind an operation that has a guard, or none. -/
def mkC (guard : Option (Nat × Bool)) (g : Bool) (x : AV) : AV :=
  match guard with
  | none => x
  | some _ => .cnd g x

/-- Nothing that hangs on a condition is put into a slot bare. -/
def clean (guard : Option (Nat × Bool)) (x : AV) : Bool :=
  match guard with
  | none => !isCnd x
  | some _ => true

/-- Operations that are told by values, objects being read at most. -/
def vop : Op → Bool
  | .load .. => true
  | op => xop op
def vask (P : Program) (o : Oper) (env : Env) (s : List AObj) : Ask :=
  match o.op with
  | .load t x => (okc (ev env x) ∧ (loadX P t (strip (ev env x)) s).1, (loadX P t (strip (ev env x)) s).2)
  | _ => xask P o env
/-- A call of a function value. -/
def isCall : Op → Bool
  | .call c => match c.callee with
    | .value _ => true
    | _ => false
  | _ => false
def callOf (P : Program) (o : Oper) (env : Env) (K : AV → Prop) : Prop :=
  match o.op with
  | .call c => match c.callee with
    | .value f => callG P (ev env f) (c.args.toList.map (ev env)) K
    | _ => False
  | _ => False

inductive Sort3 where
  | value | object | call | none
/-- How is an operation told? -/
def sort3 (pc : Op → Bool) (op : Op) : Sort3 := bif isSl op && !pc op then .object else bif vop op then .value else bif sop op then .object else bif isCall op then .call else .none

/-- A call, whose answer is told by a contract: it only computes, or it works on the objects in hand. -/
def callH (P : Program) (pc : Bool) (gd : Option (Nat × Bool)) (g : Bool) (ok : Prop) (cal : Option (FuncId × List AV × List AV)) (ys : List AV) (s : List AObj) (k : AV → List AObj → Prop) : Prop :=
  (∃ r, ((g = true → ok ∧ match cal with | some (h, a, b) => ∃ vs, allPlain (a ++ ys ++ b) = some vs ∧ APure P h vs r | none => False) ∧ clean gd r = true) ∧ k (mkC gd g r) s) ∨
  (pc = false ∧ g = true ∧ ok ∧ ∃ r s', (match cal with | some (h, a, b) => ACall P h (a ++ ys ++ b) (mkS s) r (mkS s') | none => False) ∧ isCnd r = false ∧ k r s')

/-- **A region, gone through as a term.** -/
def regL (P : Program) (pc : Op → Bool) (opl : List Oper) : List Oper → Env → List AObj → (Env → List AObj → Prop) → Prop
  | [], env, s, K => K env s
  | o :: rest, env, s, K =>
    match awantL opl env o with
    | none => False
    | some g =>
      match sort3 pc o.op with
      | .value => ((g = true → (vask P o env s).1) ∧ clean o.guard (vask P o env s).2 = true) ∧ regL P pc opl rest (env.put o.dst (mkC o.guard g (vask P o env s).2)) s K
      | .object => (g = true ∧ allOkc env o.op.operands.toList ∧ (stepX P o (stripE env) s).1 ∧ isCnd (stepX P o (stripE env) s).2.1 = false) ∧ regL P pc opl rest (env.put o.dst (stepX P o (stripE env) s).2.1) (stepX P o (stripE env) s).2.2 K
      | .call => match o.op with
        | .call c => match c.callee with
          | .value f => callH P (pc o.op) o.guard g (allOkc env o.op.operands.toList) (calleeOf (ev (stripE env) f)) (c.args.toList.map (ev (stripE env))) s fun r s => regL P pc opl rest (env.put o.dst r) s K
          | _ => False
        | _ => False
      | .none => False

theorem sort3_value {pc : Op → Bool} {op : Op} (h : sort3 pc op = .value) : vop op = true ∧ (isSl op = true → pc op = true) := by
  unfold sort3 at h
  cases hq : (isSl op && !pc op) with
  | true => rw [hq] at h; cases h
  | false =>
  rw [hq] at h
  refine ⟨?_, fun hs => by rw [hs] at hq; simpa using hq⟩
  cases hv : vop op with
  | true => rfl
  | false => rw [hv] at h; cases hs : sop op <;> rw [hs] at h <;> (try cases h); cases hc : isCall op <;> rw [hc] at h <;> cases h

theorem Agrees.of_str {o : Oper} {e0 e1 : Env} (hs : Str e0 e1) (h : allOkc e1 o.op.operands.toList) : Agrees o e0 (stripE e1) := fun x hx => hs.allOk h x (by simpa using hx)

/-- The answer of an operation that is told by values. -/
theorem vask_ok {pc : Op → Bool} {o : Oper} {e0 e1 : Env} {s : List AObj} (hv : vop o.op = true) (hps : isSl o.op = true → pc o.op = true) (hs : Str e0 e1) (h : (vask P o e1 s).1) (hsel : isCall o.op = false) : stepK P pc o e0 (mkS s) fun x σ => x = (vask P o e1 s).2 ∧ σ = mkS s := by
  unfold vask at h ⊢
  split at h
  · rename_i t x ho
    have hx := hs.strip h.1
    have hx' : ev e0 x = strip (ev e1 x) := by
      rw [hx]; cases x <;> first | rfl | (simp only [ev]; rename_i c; cases hc : constA c <;> first | rfl | (unfold constA at hc; split at hc <;> first | cases hc | (split at hc <;> cases hc)))
    unfold stepK
    simp only [ho, modeOf]
    have := loadX_ok (P := P) (env := e0) ho (by rw [hx']; exact h.2)
    obtain ⟨y, hy, hw⟩ := loadK_wit _ _ _ _ this
    rw [hx'] at hy
    exact hw _ ⟨hy, trivial⟩
  · rename_i hnl
    have hp : modeOf pc o.op = .pure ∨ ∃ c, o.op = .call c ∧ c.callee = .builtin .len := by
      unfold vop xop at hv
      split at hv
      · rename_i h1; exact absurd h1 (hnl _ _)
      · split at hv
        all_goals first
          | (rename_i h1; rw [h1]; exact .inl rfl)
          | (rename_i h1; rw [h1] at hps; have hq := hps rfl; rw [h1]; exact .inl (by simp only [modeOf, hq, if_true]))
          | skip
        · rename_i c h1
          split at hv
          · rename_i hc; exact .inr ⟨c, h1, hc⟩
          · rename_i hc; rw [h1]; simp [modeOf, hc]
          · rename_i hc; rw [h1]; simp [modeOf, hc]
          · cases hv
        · cases hv
    -- by values alone
    have key : gpureP P o e0 fun y => y = (xask P o e1).2 := by
      unfold xask at h ⊢
      split at h
      · rename_i c a b ho
        split at h
        · rename_i g hg
          obtain ⟨h1, h2, h3⟩ := h
          have hst : ∀ x, okc (ev e1 x) → ev e0 x = strip (ev e1 x) := fun x hx => by
            rw [hs.strip hx]
            cases x <;> first | rfl | (simp only [ev]; rename_i c; cases hc : constA c <;> first | rfl | (unfold constA at hc; split at hc <;> first | cases hc | (split at hc <;> cases hc)))
          unfold gpureP
          simp only [ho, pureP, hst c h1, hg]
          rw [pickV_eq]
          cases g with
          | true => rw [if_pos rfl, if_pos rfl]; exact hst a (h2 rfl)
          | false => rw [if_neg (by simp), if_neg (by simp)]; exact hst b (h3 rfl)
        · exact h.elim
      · rw [gpureP_agree (Agrees.of_str hs h.1)]
        exact pureX_ok h.2
    rcases hp with hp | ⟨c, h1, hc⟩
    · obtain ⟨y, hy, hw⟩ := gpureP_wit _ _ _ key
      unfold stepK
      simp only [hp]
      exact hw _ ⟨hy, trivial⟩
    · have key' : pureP P o e0 fun y => y = (xask P o e1).2 := by
        unfold gpureP at key
        simp only [h1, hc] at key
        exact key
      obtain ⟨y, hy, hw⟩ := pureP_wit _ _ _ key'
      unfold stepK
      simp only [h1, modeOf, hc, loadK]
      exact hw (fun x => x = (xask P o e1).2 ∧ True) ⟨hy, trivial⟩

theorem callOf_ok {pc : Op → Bool} {o : Oper} {e0 e1 : Env} {s : List AObj} {r : AV} (hs : Str e0 e1) (ha : allOkc e1 o.op.operands.toList) (h : callOf P o (stripE e1) fun y => y = r) : stepK P pc o e0 (mkS s) fun x σ => x = r ∧ σ = mkS s := by
  unfold callOf at h
  split at h
  · rename_i c ho
    split at h
    · rename_i f hc
      have hag := Agrees.of_str hs ha
      rw [← args_agree hag ho, ← hag f (by rw [ho]; simp [Op.operands, Call.operands, hc])] at h
      obtain ⟨y, hy, hw⟩ := callG_wit _ _ _ h
      unfold stepK
      cases hpc : pc o.op
      · rw [ho] at hpc
        simp only [ho, modeOf, hc, hpc, Bool.false_eq_true, if_false, writeK]
        exact .inl (hw (fun x => x = r ∧ True) ⟨hy, trivial⟩)
      · rw [ho] at hpc
        simp only [ho, modeOf, hc, hpc, if_true, gpureP]
        exact hw _ ⟨hy, trivial⟩
    · exact h.elim
  · exact h.elim

theorem mkC_str {guard : Option (Nat × Bool)} {x y : AV} (h : isCnd y = false) : match mkC guard true y with | .cnd b z => (b = true → y = z) ∧ (b = false → y = .undef) | z => y = z := by
  cases guard with
  | none => simp only [mkC]; cases y <;> first | rfl | cases h
  | some g => exact ⟨(fun _ => rfl), (fun h => by cases h)⟩

theorem regL_ok {pc : Op → Bool} {opl : List Oper} : ∀ (l : List Oper) (i0 : Nat), (∀ j, l[j]? = opl[i0 + j]?) → ∀ (e0 e1 : Env) (s : List AObj) (K : Env → List AObj → Prop), Str e0 e1 → regL P pc opl l e1 s K →
    regK P pc opl.toArray (List.range' i0 l.length) e0 (mkS s) fun env σ => ∃ e s', Str env e ∧ σ = mkS s' ∧ K e s'
  | [], i0, _, e0, e1, s, K, hs, h => ⟨e1, s, hs, rfl, h⟩
  | o :: rest, i0, hl, e0, e1, s, K, hs, h => by
    have ho : opl.toArray[i0]? = some o := by have := hl 0; simp at this; simpa using this.symm
    have hl' : ∀ j, rest[j]? = opl[i0 + 1 + j]? := fun j => by have := hl (j + 1); simpa [Nat.add_assoc, Nat.add_comm 1 j] using this
    simp only [List.length_cons, List.range'_succ, regK, ho]
    unfold regL at h
    cases hg : awantL opl e1 o with
    | none => simp only [hg] at h
    | some g =>
      simp only [hg] at h
      rw [awantL_ok hs hg]
      have ih := regL_ok (pc := pc) rest (i0 + 1) hl'
      have guardNone : o.guard = none → g = true := fun hn => by
        unfold awantL at hg; simp only [hn] at hg; cases hg; rfl
      split at h
      · rename_i hv
        obtain ⟨hv, hps⟩ := sort3_value hv
        obtain ⟨⟨h1, hcl⟩, h2⟩ := h
        cases g with
        | true =>
          simp only
          have hcall : isCall o.op = false := by
            unfold isCall
            split
            · rename_i c hc
              split
              · rename_i f hf
                unfold vop xop at hv
                simp only [hc, hf] at hv
                cases hv
              · rfl
            · rfl
          refine stepK_mono (fun x σ1 hx => ?_) (vask_ok (pc := pc) hv hps hs (h1 rfl) hcall)
          obtain ⟨rfl, rfl⟩ := hx
          refine ih _ _ _ _ (hs.put o.dst ?_) h2
          cases hgd : o.guard with
          | none =>
            simp only [mkC]
            cases hx : (vask P o e1 s).2 with
            | cnd b z => rw [hgd, hx] at hcl; cases hcl
            | _ => rfl
          | some gw => exact ⟨(fun _ => rfl), (fun h => by cases h)⟩
        | false =>
          simp only
          refine ih _ _ _ _ (hs.put o.dst ?_) h2
          cases hgd : o.guard with
          | none => exact absurd (guardNone hgd) (by simp)
          | some gw => exact ⟨(fun h => by cases h), (fun _ => rfl)⟩
      · rename_i hso
        have hslo : isSl o.op = true → pc o.op = false := fun h => by
          unfold sort3 at hso
          cases hp : pc o.op with
          | false => rfl
          | true =>
            rw [h, hp] at hso
            have hv : vop o.op = true := by
              cases hop : o.op <;> rw [hop] at h <;> first | rfl | cases h
            rw [hv] at hso
            cases hso
        obtain ⟨⟨rfl, ha, h1, hcl⟩, h2⟩ := h
        simp only
        rw [stepK_agree (Agrees.of_str hs ha)]
        refine stepK_mono (fun x σ1 hx => ?_) (stepX_ok (pc := pc) hslo h1)
        obtain ⟨rfl, rfl⟩ := hx
        refine ih _ _ _ _ (hs.put o.dst ?_) h2
        cases hx : (stepX P o (stripE e1) s).2.1 with
        | cnd b z => rw [hx] at hcl; cases hcl
        | _ => rfl
      · split at h
        case h_2 => exact h.elim
        rename_i c hoc
        split at h
        case h_2 => exact h.elim
        rename_i f hcf
        rcases h with h | h
        case inr =>
          obtain ⟨hpc, rfl, ha, r, s', hc, hcl, h2⟩ := h
          simp only
          refine stepK_mono (K := fun x σ => x = r ∧ σ = mkS s') (fun x σ1 hx => ?_) ?_
          · obtain ⟨rfl, rfl⟩ := hx
            refine ih _ _ _ _ (hs.put o.dst ?_) h2
            cases x with
            | cnd b z => cases hcl
            | _ => rfl
          · rw [stepK_agree (Agrees.of_str hs ha)]
            unfold stepK
            rw [hoc] at hpc
            simp only [hoc, modeOf, hcf, hpc, Bool.false_eq_true, if_false, writeK]
            refine .inr ?_
            unfold callE
            split at hc
            · rename_i h a b hcal
              simp only [hcal]
              exact ⟨r, mkS s', hc, rfl, rfl⟩
            · exact hc.elim
        obtain ⟨r, ⟨h1, hcl⟩, h2⟩ := h
        cases g with
        | true =>
          simp only
          obtain ⟨ha, hc⟩ := h1 rfl
          have hc : callOf P o (stripE e1) fun y => y = r := by
            unfold callOf callG
            simp only [hoc, hcf]
            split at hc
            · rename_i h a b hcal
              obtain ⟨vs, hv, hp⟩ := hc
              simp only [hcal]
              exact ⟨vs, r, hv, hp, rfl⟩
            · exact hc.elim
          refine stepK_mono (fun x σ1 hx => ?_) (callOf_ok (pc := pc) hs ha hc)
          obtain ⟨rfl, rfl⟩ := hx
          refine ih _ _ _ _ (hs.put o.dst ?_) h2
          cases hgd : o.guard with
          | none =>
            simp only [mkC]
            cases x with
            | cnd b z => rw [hgd] at hcl; cases hcl
            | _ => rfl
          | some gw => exact ⟨(fun _ => rfl), (fun h => by cases h)⟩
        | false =>
          simp only
          refine ih _ _ _ _ (hs.put o.dst ?_) h2
          cases hgd : o.guard with
          | none => exact absurd (guardNone hgd) (by simp)
          | some gw => exact ⟨(fun h => by cases h), (fun _ => rfl)⟩
      · exact h.elim
end
end Go.Proofs.YtaahjmkjdcikcaaDoor.AI
