/- A machine of plain values: the rules by which code is gone through, in short. No program in sight. -/
import Derived.Test.YtaahjmkjdcikcaaDoorW
namespace Go.Proofs.YtaahjmkjdcikcaaDoor.AI
open Go.RowKit
set_option linter.unusedVariables false
set_option linter.unusedSimpArgs false
set_option linter.unusedSectionVars false
variable [Glob]

/-! ### What is simplified by -/
/-- All is simple: the calls only compute, what is sliced is no array. -/
def allP : Op → Bool := fun _ => true
/-- All is simple but calls of these, and, if so, slicings. -/
def butP (l : List FuncId) (sl : Bool) : Op → Bool
  | .call c => match c.callee with
    | .value (.func f) => !l.contains f
    | .value _ => !l.contains 0
    | _ => true
  | .slice .. => !sl
  | _ => true
theorem rsP : (∀ o, allP o = true) ∧ (∀ (l : List FuncId) (sl : Bool) (t : TypeId) (x : Operand) (a b c : Option Operand), butP l sl (.slice t x a b c) = !sl) ∧ (∀ (l : List FuncId) (sl : Bool) (f : FuncId) (a : Array Operand) (t : Array TypeId), butP l sl (.call { callee := .value (.func f), args := a, argTypes := t }) = !l.contains f) ∧
    (∀ (l : List FuncId) (sl : Bool) (f : Nat) (a : Array Operand) (t : Array TypeId), butP l sl (.call { callee := .value (.tmp f), args := a, argTypes := t }) = !l.contains 0) := ⟨fun _ => rfl, fun _ _ _ _ _ _ _ => rfl, fun _ _ _ _ _ => rfl, fun _ _ _ _ _ => rfl⟩
theorem sort3_slice (pc : Op → Bool) (t : TypeId) (x : Operand) (a b c : Option Operand) : sort3 pc (.slice t x a b c) = bif pc (.slice t x a b c) then .value else .object := by
  unfold sort3
  cases h : pc (.slice t x a b c) <;> simp [isSl, vop, xop]
theorem rsS : (type_of% @sort3_slice) ∧ (∀ a b : Sort3, (bif true then a else b) = a) ∧ (∀ a b : Sort3, (bif false then a else b) = b) ∧
    (∀ pc x, sort3 pc (.move x) = .value) ∧ (∀ pc x, sort3 pc (.assign x) = .value) ∧ (∀ pc c a b, sort3 pc (.pick c a b) = .value) ∧ (∀ pc op t x y u, sort3 pc (.binOp op t x y u) = .value) ∧ (∀ pc op t x, sort3 pc (.unOp op t x) = .value) ∧
    (∀ pc s d x, sort3 pc (.convert s d x) = .value) ∧ (∀ pc x i, sort3 pc (.extract x i) = .value) ∧ (∀ pc t x f, sort3 pc (.field t x f) = .value) ∧ (∀ pc t x f, sort3 pc (.fieldAddr t x f) = .value) ∧ (∀ pc t x i, sort3 pc (.indexAddr t x i) = .value) ∧
    (∀ pc t x i, sort3 pc (.index t x i) = .value) ∧ (∀ pc x, sort3 pc (.nilCheck x) = .value) ∧ (∀ pc f a b, sort3 pc (.makeFunc f a b) = .value) ∧ (∀ pc t x, sort3 pc (.makeInterface t x) = .value) ∧
    (∀ pc t x, sort3 pc (.build t x) = .value) ∧ (∀ pc t n x, sort3 pc (.buildSlice t n x) = .value) ∧ (∀ pc t x, sort3 pc (.load t x) = .value) ∧ (∀ pc t x, sort3 pc (.box t x) = .object) ∧ (∀ pc t, sort3 pc (.alloc t) = .object) ∧ (∀ pc t x, sort3 pc (.range t x) = .object) ∧
    (∀ pc t a x, sort3 pc (.store t a x) = .object) ∧ (∀ pc i s, sort3 pc (.next i s) = .object) ∧ (∀ pc a t, sort3 pc (.call { callee := .builtin .len, args := a, argTypes := t }) = .value) ∧ (∀ pc a t, sort3 pc (.call { callee := .builtin .max, args := a, argTypes := t }) = .value) ∧
    (∀ pc a t, sort3 pc (.call { callee := .builtin .min, args := a, argTypes := t }) = .value) ∧ (∀ pc a t, sort3 pc (.call { callee := .builtin .append, args := a, argTypes := t }) = .object) ∧ (∀ pc f a t, sort3 pc (.call { callee := .value f, args := a, argTypes := t }) = .call) := by
  refine ⟨@sort3_slice, fun _ _ => rfl, fun _ _ => rfl, ?_⟩
  and_intros <;> intros <;> rfl
theorem rsO :
    (∀ x, (Op.move x).operands.toList = [x]) ∧ (∀ x, (Op.assign x).operands.toList = [x]) ∧ (∀ op t x y u, (Op.binOp op t x y u).operands.toList = [x, y]) ∧ (∀ op t x, (Op.unOp op t x).operands.toList = [x]) ∧ (∀ s d x, (Op.convert s d x).operands.toList = [x]) ∧
    (∀ x i, (Op.extract x i).operands.toList = [x]) ∧ (∀ t x f, (Op.field t x f).operands.toList = [x]) ∧ (∀ t x f, (Op.fieldAddr t x f).operands.toList = [x]) ∧ (∀ t x i, (Op.indexAddr t x i).operands.toList = [x, i]) ∧ (∀ t x i, (Op.index t x i).operands.toList = [x, i]) ∧
    (∀ x, (Op.nilCheck x).operands.toList = [x]) ∧ (∀ t x, (Op.makeInterface t x).operands.toList = [x]) ∧ (∀ t x, (Op.load t x).operands.toList = [x]) ∧ (∀ t x, (Op.box t x).operands.toList = [x]) ∧ (∀ t, (Op.alloc t).operands.toList = []) ∧ (∀ t x, (Op.range t x).operands.toList = [x]) ∧
    (∀ t a x, (Op.store t a x).operands.toList = [a, x]) ∧ (∀ i s, (Op.next i s).operands.toList = [i]) ∧ (∀ t ps, (Op.build t ps).operands.toList = ps.toList.map (·.2)) ∧ (∀ t n ps, (Op.buildSlice t n ps).operands.toList = ps.toList.map (·.2)) ∧ (∀ t x l h m, (Op.slice t x l h m).operands.toList = x :: (l.toList ++ (h.toList ++ m.toList))) ∧ (∀ f a b, (Op.makeFunc f a b).operands.toList = a.toList ++ b.toList) ∧
    (∀ α : Type, (none : Option α).toList = []) ∧ (∀ (α : Type) (a : α), (some a).toList = [a]) := by
  and_intros <;> first | (intros; rfl) | (intros; simp [Op.operands])
theorem rsL : (∀ (α : Type) (a : α) (l : List α) (n : Nat), (a :: l)[n + 1]? = l[n]?) ∧ (∀ (α : Type) (a : α) (l : List α), (a :: l)[0]? = some a) ∧ (∀ (α : Type) (a b : α) (l : List α), (a :: l).set 0 b = b :: l) ∧ (∀ (α : Type) (a b : α) (l : List α) (n : Nat), (a :: l).set (n + 1) b = a :: l.set n b) ∧
    (∀ (α : Type) (a : α) (l : List α), (a :: l).length = l.length + 1) ∧ (∀ α : Type, ([] : List α).length = 0) ∧ (∀ (α : Type) (l : List α), [] ++ l = l) ∧ (∀ (α : Type) (a : α) (l m : List α), (a :: l) ++ m = a :: (l ++ m)) ∧
    (∀ (α β : Type) (f : α → β), List.map f [] = []) ∧ (∀ (α β : Type) (f : α → β) (a : α) (l : List α), List.map f (a :: l) = f a :: List.map f l) ∧ (∀ (α β : Type) (a : α) (f : α → Option β), Option.bind (some a) f = f a) ∧ (∀ (α β : Type) (f : α → Option β), Option.bind none f = none) ∧
    (∀ (α β : Type) (a : α) (f : α → β), Option.map f (some a) = some (f a)) ∧ (∀ (α β : Type) (f : α → β), Option.map f none = none) ∧ (∀ (α : Type) (l : List α), List.take 0 l = []) ∧ (∀ (α : Type) (n : Nat) (a : α) (l : List α), List.take (n + 1) (a :: l) = a :: List.take n l) ∧ (∀ (α : Type) (n : Nat), List.take n ([] : List α) = []) ∧
    (∀ (α : Type) (l : List α), List.drop 0 l = l) ∧ (∀ (α : Type) (n : Nat) (a : α) (l : List α), List.drop (n + 1) (a :: l) = List.drop n l) ∧ (∀ (α : Type) (n : Nat), List.drop n ([] : List α) = []) := by
  refine ⟨fun _ _ _ _ => rfl, fun _ _ _ => rfl, fun _ _ _ _ => rfl, fun _ _ _ _ _ => rfl, fun _ _ _ => rfl, fun _ => rfl, fun _ _ => rfl, fun _ _ _ _ => rfl, fun _ _ _ => rfl, fun _ _ _ _ _ => rfl, fun _ _ _ _ => rfl, fun _ _ _ => rfl, fun _ _ _ _ => rfl, fun _ _ _ => rfl, fun _ _ => rfl, fun _ _ _ _ => rfl, fun _ n => ?_, fun _ _ => rfl, fun _ _ _ _ => rfl, fun _ n => ?_⟩ <;> cases n <;> rfl
def allClean : List AV → Prop
  | [] => True
  | x :: xs => isCnd x = false ∧ allClean xs
/-- What is looked at behind a region, and that nothing of it hangs on a condition. -/
def finC (ks : List Nat) (K : List AV → List AObj → Prop) : Env → List AObj → Prop := fun env s => K (ks.map env) s ∧ allClean (ks.map env)
theorem finC_apply (ks : List Nat) (K : List AV → List AObj → Prop) (e : List (Nat × AV)) (s : List AObj) : finC ks K (mkE e) s = (K (ks.map (mkE e)) s ∧ allClean (ks.map (mkE e))) := rfl
theorem noCnd_zip : ∀ (ks : List Nat) (vs : List AV), allClean vs → noCnd (zipE ks vs) = true
  | [], _, _ => by simp [zipE, noCnd]
  | k :: ks, [], _ => by simp [zipE, noCnd]
  | k :: ks, v :: vs, h => by
    have := noCnd_zip ks vs h.2
    simp [zipE, noCnd, h.1, this]
theorem rsB : (∀ n : Nat, 0 + n = n) ∧ (∀ n : Nat, n * 1 = n) ∧ (∀ n : Nat, n + 0 = n) ∧ (∀ n : Nat, 0 * n = 0) ∧ (∀ n : Nat, 1 * n = n) ∧ (∀ n : Nat, ((n : Nat) : Int).toNat = n) ∧ (∀ p : Prop, (p ∧ p) = p) ∧ (∀ a b c : Prop, ((a ∧ b) ∧ c) = (a ∧ b ∧ c)) ∧ (∀ p : Prop, (True → p) = p) ∧ (∀ p : Prop, (p → True) = True) ∧ (∀ p : Prop, (True ∧ p) = p) ∧ (∀ p : Prop, (p ∧ True) = p) ∧ (∀ p : Prop, (p → p) = True) ∧ (∀ b : Bool, ((!b) = true) = (b = false)) ∧ (∀ b : Bool, ((!b) = false) = (b = true)) ∧
    (∀ b : Bool, (b == true) = b) ∧ (∀ b : Bool, (b == false) = !b) ∧ (∀ b : Bool, (true && b) = b) ∧ (∀ a b : Bool, (bif true then a else b) = a) ∧ (∀ a b : Bool, (bif false then a else b) = b) := by
  and_intros <;> intros <;> simp [and_assoc]
theorem pickV_true (x y : AV) : pickV true x y = x := by rw [pickV_eq]; rfl
theorem pickV_false (x y : AV) : pickV false x y = y := by rw [pickV_eq]; rfl
theorem rsE : (type_of% @pickV_true) ∧ (type_of% @pickV_false) ∧ (∀ (n : Nat) (x : AV) (xs : List AV), argsA n (x :: xs) = (n, x) :: argsA (n + 1) xs) ∧ (∀ n : Nat, argsA n [] = []) ∧ (∀ env : Env, ev env (.const .nilIface) = .pv (.lit .nilIface)) ∧ (∀ env : Env, ev env (.const (.pointer none)) = .pv (.lit (.pointer none))) ∧ (∀ env : Env, ev env (.const .nilFunc) = .pv (.lit .nilFunc)) :=
  ⟨pickV_true, pickV_false, fun _ _ _ => rfl, fun _ => rfl, fun _ => rfl, fun _ => rfl, fun _ => rfl⟩
theorem rsA : (type_of% @rsE) ∧ (type_of% @operands_builtin) ∧ (type_of% @operands_value) ∧ (type_of% @regL_nil) ∧ (type_of% @regL_cons) ∧ (type_of% @oneL.eq_def) ∧ (type_of% @awantL.eq_def) ∧ (type_of% @vask.eq_def) ∧ (type_of% @xask.eq_def) ∧ (type_of% @pureX.eq_def) ∧ (type_of% @finC_apply) ∧ (allClean [] = True) ∧ (∀ x xs, allClean (x :: xs) = (isCnd x = false ∧ allClean xs)) ∧
    (type_of% @rsS) ∧ (type_of% @rsP) ∧ (type_of% @rsO) ∧ (type_of% @rsL) ∧ (type_of% @rsB) ∧ (type_of% @rs0) ∧ (type_of% @rs1) ∧ (type_of% @rs2) ∧ (type_of% @rs3) :=
  ⟨rsE, @operands_builtin, @operands_value, @regL_nil, @regL_cons, @oneL.eq_def, @awantL.eq_def, @vask.eq_def, @xask.eq_def, @pureX.eq_def, @finC_apply, rfl, fun _ _ => rfl, rsS, rsP, rsO, rsL, rsB, rs0, rs1, rs2, rs3⟩
/-- Numbers that do not wrap. -/
theorem rsW : (type_of% @wrap_i64) ∧ (type_of% @wrap_i32) ∧ (type_of% @wrap_u32) ∧ (type_of% @wrap_u8) ∧ (type_of% @wrap_byteI) ∧ (type_of% @binX.eq_def) := ⟨@wrap_i64, @wrap_i32, @wrap_u32, @wrap_u8, @wrap_byteI, @binX.eq_def⟩
/-- What a condition says. -/
theorem rsC : (∀ c : Bool, (bif c then false else true) = !c) ∧ (∀ c b : Bool, (bif c then b else false) = (c && b)) ∧ (∀ c b : Bool, (bif c then true else b) = (c || b)) ∧ (∀ a b : Bool, ((a && b) = true) = (a = true ∧ b = true)) ∧ (∀ a b : Bool, ((a || b) = true) = (a = true ∨ b = true)) ∧ (∀ a b : Bool, ((a && b) = false) = (a = false ∨ b = false)) ∧ (∀ a b : Bool, ((a || b) = false) = (a = false ∧ b = false)) ∧
    (∀ b : Bool, ((!b) = true) = (b = false)) ∧ (∀ b : Bool, ((!b) = false) = (b = true)) := by
  and_intros <;> simp
/-- What a function hands back. -/
theorem rsR : (type_of% @resOf.eq_def) ∧ (∀ (P : Program) (env : Env) (σ : St), resAll P env σ [] = some []) ∧ (∀ (P : Program) (env : Env) (σ : St) (r : ResultVar) (rs : List ResultVar), resAll P env σ (r :: rs) = (resOne P env σ r).bind fun x => (resAll P env σ rs).map (x :: ·)) ∧ (∀ (P : Program) (env : Env) (σ : St) (t : Nat), resOne P env σ (.tmp t) = plainOf (env t)) ∧
    (∀ x : V, plainOf (.pv x) = some x) ∧ (∀ (id : Nat) (xs : List V), plainOf (.own id xs) = some (.list xs)) ∧ (plainOf .e0 = some (.list [])) ∧ (type_of% @rs0) ∧ (type_of% @rsL) ∧ (∀ a b : V, (AV.pv a = AV.pv b) = (a = b)) ∧ (∀ a b : List AV, (AV.tuple a = AV.tuple b) = (a = b)) ∧ (∀ a b : Value, (V.lit a = V.lit b) = (a = b)) ∧ (∀ a b : List V, (V.list a = V.list b) = (a = b)) ∧ (∀ a b : List V, (V.agg a = V.agg b) = (a = b)) ∧
    (∀ a b : Bool, (Value.bool a = Value.bool b) = (a = b)) ∧ (∀ (k : IntKind) (a b : Int), (Value.int k a = Value.int k b) = (a = b)) ∧ (∀ a b : List UInt8, (Value.string (str a) = Value.string (str b)) = (a = b)) ∧ (∀ (α : Type) (a b : α), (some a = some b) = (a = b)) ∧ (∀ (α : Type) (a b : α) (l m : List α), (a :: l = b :: m) = (a = b ∧ l = m)) ∧ (type_of% @rsB) := by
  refine ⟨@resOf.eq_def, fun _ _ _ => rfl, fun _ _ _ _ _ => rfl, fun _ _ _ _ => rfl, fun _ => rfl, fun _ _ => rfl, rfl, rs0, rsL, ?_, ?_, ?_, ?_, ?_, ?_, ?_, ?_, ?_, ?_, rsB⟩ <;> intros <;> simp [str_inj]

/-- What is known, and what was asked on the way. -/
theorem fin {A B : Prop} (h : A) (h' : B := by ((repeat' apply And.intro) <;> first | (intros; omega) | with_reducible assumption | with_reducible rfl | grind | (simp_all; done) | rfl)) : A ∧ B := ⟨h, h'⟩

theorem fin2 {A B : Prop} (h : A) (h' : B := by ((repeat' (first | apply And.intro | intro)) <;> first | omega | with_reducible assumption | with_reducible rfl | (simp only [rsC, decide_eq_true_eq, decide_eq_false_iff_not] at *; omega) | grind | (simp_all; done))) : A ∧ B := ⟨h, h'⟩

section
variable {P : Program} {N : Nat} {p : Nat → Prop} {Post : Env → St → Prop}

/-- **A region.** -/
theorem AWS.rp {k : List Item} {id : Nat} {draw : Bool} {ops : Array Oper} {e : List (Nat × AV)} {vs : List AV} {s s' : List AObj} (ks : List Nat)
    (pc : Op → Bool) (hok : regOk N pc draw ops = true := by kernel_rfl) (hc : noCnd e = true := by first | rfl | simp [noCnd, zipE, rs1, rs3])
    (h : ∀ K : List AV → List AObj → Prop, K vs s' → regC P pc ops.toList ops.toList (mkE e) s True (finC ks K))
    (hk : AWS P N p Post k (mkE (zipE ks vs)) (mkS s')) : AWS P N p Post (.code (.region id ops draw) :: k) (mkE e) (mkS s) := by
  have hr := regL_ok (P := P) (pc := pc) (opl := ops.toList) ops.toList 0 (fun j => by simp) (mkE e) (mkE e) s _ (Str.refl (noCnd_lk hc)) (h (fun xs s1 => xs = vs ∧ s1 = s') ⟨rfl, rfl⟩).1
  have e1 : List.range' 0 ops.toList.length = List.range ops.size := by simp [List.range_eq_range']
  rw [e1] at hr
  refine .region pc _ hok hr (fun env σ hM => ?_)
  obtain ⟨e1, s1, hst, h2, ⟨h3, h4⟩, h5⟩ := hM
  subst h2 h3 h4
  refine .forget (fun t => ?_) hk
  rcases lk_zip_map e1 t ks with h1 | h1
  · have := noCnd_lk (noCnd_zip ks _ h5) t
    rw [h1] at this
    exact .inl (h1.trans (hst.eq this).symm)
  · exact .inr h1

/-- .. in which all is simple. -/
theorem AWS.rg {k : List Item} {id : Nat} {draw : Bool} {ops : Array Oper} {e : List (Nat × AV)} {vs : List AV} {s s' : List AObj} (ks : List Nat)
    (hok : regOk N allP draw ops = true := by kernel_rfl) (hc : noCnd e = true := by first | rfl | simp [noCnd, zipE, rs1, rs3])
    (h : ∀ K : List AV → List AObj → Prop, K vs s' → regC P allP ops.toList ops.toList (mkE e) s True (finC ks K))
    (hk : AWS P N p Post k (mkE (zipE ks vs)) (mkS s')) : AWS P N p Post (.code (.region id ops draw) :: k) (mkE e) (mkS s) := AWS.rp ks allP hok hc h hk
theorem AWS.cI {k : List Item} {env : Env} {σ : St} {c : Operand} {x y : Code} {t : Bool} (hc : ev env c = .pv (.lit (.bool t)) := by rfl)
    (h1 : t = true → AWS P N p Post (.code x :: k) env σ) (h2 : t = false → AWS P N p Post (.code y :: k) env σ) : AWS P N p Post (.code (.cond c x y) :: k) env σ := .condI hc h1 h2

/-- Slots that stay. -/
theorem zipE_app : ∀ (a : List Nat) (x : List AV), a.length = x.length → ∀ (b : List Nat) (y : List AV), zipE (a ++ b) (x ++ y) = zipE a x ++ zipE b y
  | [], [], _, b, y => rfl
  | k :: a, v :: x, h, b, y => by simp only [List.cons_append, zipE]; rw [zipE_app a x (by simpa using h)]

/-- **A loop**: what turns in it is told, the rest stays. -/
theorem AWS.lp {α : Type} {k : List Item} {c : Code} {e : List (Nat × AV)} {s : List AObj} {inv : List AV} (km ki : List Nat) (m : α → Nat) (vals : α → List AV) (S : α → List AObj) (Inv : α → Prop) (x0 : α)
    (h0 : Inv x0) (hi : ki.map (mkE e) = inv := by simp only [rs0, rsL, ↓reduceIte, Nat.reduceEqDiff]; rfl)
    (hv : km.map (mkE e) = vals x0 := by first | rfl | (simp [rs0]; done)) (hs : s = S x0 := by first | rfl | (simp; done))
    (step : ∀ x, Inv x → (∀ y, m y < m x → Inv y → AWS P N p Post (.inLoop c :: k) (mkE (zipE (km ++ ki) (vals y ++ inv))) (mkS (S y))) → AWS P N p Post (.code c :: .inLoop c :: k) (mkE (zipE (km ++ ki) (vals x ++ inv))) (mkS (S x))) :
    AWS P N p Post (.code (.loop c) :: k) (mkE e) (mkS s) :=
  AWS.loopI m (km ++ ki) (fun x => vals x ++ inv) S Inv x0 h0 (by rw [List.map_append, hi, hv]) hs step

/-- Back to where ways meet: some slots are told anew, new objects are let go. -/
theorem AWS.bk {k : List Item} {e : List (Nat × AV)} {s s' : List AObj} {ks : List Nat} {vs : List AV} (n : Nat) (hk : AWS P N p Post k (mkE (zipE ks vs)) (mkS s'))
    (hs : s.take n = s') (h : ks.map (mkE e) = vs)
    (he : belowE s'.length (zipE ks vs) = true := by first | rfl | (simp [zipE, belowE, belowA]; done)) (ho : s'.all (belowO s'.length) = true := by first | rfl | (simp [belowO, belowL, belowA]; done)) (hp : ∀ id, p id → id < n := by first | exact fun _ h => h.elim | (intro id h; simpa [mkS] using h)) : AWS P N p Post k (mkE e) (mkS s) := by
  refine AWS.joinE ks h rfl ?_
  subst hs
  have := AWS.cut (s' := s.drop n) he ho (fun id hpi hi => ?_) hk
  · rw [List.take_append_drop] at this; exact this
  · have h1 := hp id hpi
    rw [List.take_append_drop] at hi
    have : id < s.length := by
      by_cases g : id < s.length
      · exact g
      · simp [mkS, List.getElem?_eq_none (Nat.le_of_not_lt g)] at hi
    simp; omega
/-- A branch behind which both ways go on as one: what turns in it is told, the rest stays. -/
theorem AWS.cj {k : List Item} {e : List (Nat × AV)} {s s' : List AObj} {c : Operand} {x y : Code} {t : Bool} {inv : List AV} (km ki : List Nat) (vs : List AV) (hi : ki.map (mkE e) = inv := by simp only [rs0, rsL, ↓reduceIte, Nat.reduceEqDiff]; rfl) (hc : ev (mkE e) c = .pv (.lit (.bool t)) := by rfl)
    (h1 : t = true → AWS P N p Post k (mkE (zipE (km ++ ki) (vs ++ inv))) (mkS s') → AWS P N p Post (.code x :: k) (mkE e) (mkS s))
    (h2 : t = false → AWS P N p Post k (mkE (zipE (km ++ ki) (vs ++ inv))) (mkS s') → AWS P N p Post (.code y :: k) (mkE e) (mkS s))
    (hk : AWS P N p Post k (mkE (zipE (km ++ ki) (vs ++ inv))) (mkS s')) : AWS P N p Post (.code (.cond c x y) :: k) (mkE e) (mkS s) := AWS.condJ (km ++ ki) (vs ++ inv) hc h1 h2 hk

/-- A function that only computes. -/
theorem go {f : FuncId} {fn : Func} {c : Code} {args : List V} {r : AV} (hf : P.funcs[f]? = some fn) (hb : fn.body = some c := by rfl) (hm : P.follows .mixedOrders = true := by kernel_rfl) (hname : hasBody P f = true := by kernel_rfl) (hn : Nat.ble args.length fn.ntmps = true := by kernel_rfl)
    (h : AWS P fn.ntmps (fun _ => False) (fun env σ => resOf P fn.results.toList env σ = some r) [.code c] (mkE (argsL 0 args)) (mkS [])) : APure P f args r := apure_go hf hb hm hname hn h
/-- A nil slice in a box is taken as a slice of the call's own. -/
theorem AWS.ownBx {k : List Item} {e : List (Nat × AV)} {s s' : List AObj} (ob c : Nat) (t el : TypeId) (sz : Nat) (cs : List AV) (hob : s[ob]? = some (.box t cs)) (hc : cs[c]? = some .e0)
    (hs : (s ++ [AObj.tok el sz 0]).set ob (.box t (cs.set c (.own s.length []))) = s') (h : AWS P N p Post k (mkE e) (mkS s')) : AWS P N p Post k (mkE e) (mkS s) := by
  refine .ownB s.length ob c t el sz cs (mkS_new s) hob hc ?_
  have hlt := (List.getElem?_eq_some_iff.1 hob).1
  rw [mkS_push, mkS_set (x := .box t cs) (by rw [List.getElem?_append_left hlt]; exact hob), hs]
  exact h
theorem rsRA : (type_of% @resA.eq_def) ∧ (∀ (P : Program) (env : Env) (σ : St), resAllA P env σ [] = some []) ∧ (∀ (P : Program) (env : Env) (σ : St) (r : ResultVar) (rs : List ResultVar), resAllA P env σ (r :: rs) = (resOneA P env σ r).bind fun x => (resAllA P env σ rs).map (x :: ·)) ∧ (∀ (P : Program) (env : Env) (σ : St) (t : Nat), resOneA P env σ (.tmp t) = some (env t)) :=
  ⟨@resA.eq_def, fun _ _ _ => rfl, fun _ _ _ _ _ => rfl, fun _ _ _ _ => rfl⟩
/-- A function that works on objects. -/
theorem goA {f : FuncId} {fn : Func} {c : Code} {args : List AV} {s s' : List AObj} {r : AV} (hf : P.funcs[f]? = some fn) (hb : fn.body = some c := by rfl) (hm : P.follows .mixedOrders = true := by kernel_rfl) (hname : hasBody P f = true := by kernel_rfl) (hn : Nat.ble args.length fn.ntmps = true := by kernel_rfl)
    (h : AWS P fn.ntmps (fun id => (mkS s id).isSome = true) (fun env σ => σ = mkS s' ∧ resA P fn.results.toList env σ = some r) [.code c] (mkE (argsA 0 args)) (mkS s)) : ACall P f args (mkS s) r (mkS s') := acall_go hf hb hm hname hn h
/-- A call is next. -/
theorem callG1 {pcb : Bool} {pc : Op → Bool} {opl : List Oper} {dst : Option Nat} {g : Bool} {ok : Prop} {h : FuncId} {a b ys : List AV} {vs : List V} {r : AV} {rest : List Oper} {env : Env} {s : List AObj} {C : Prop} {K : Env → List AObj → Prop}
    (hA : APure P h vs r) (hv : allPlain (a ++ ys ++ b) = some vs := by rfl) (hok : ok := by trivial) (hcl : isCnd r = false := by rfl) (hk : regC P pc opl rest (env.put dst r) s C K) : callJ P pcb pc opl dst none g ok (some (h, a, b)) ys rest env s C K :=
  callJ_go hA hv hok (by simpa [clean] using hcl) hk
/-- A call that works on objects. -/
theorem callG3 {pc : Op → Bool} {opl : List Oper} {dst : Option Nat} {ok : Prop} {h : FuncId} {a b ys : List AV} {r : AV} {rest : List Oper} {env : Env} {s s' : List AObj} {C : Prop} {K : Env → List AObj → Prop}
    (hA : ACall P h (a ++ ys ++ b) (mkS s) r (mkS s')) (hok : ok := by trivial) (hcl : isCnd r = false := by rfl) (hk : regC P pc opl rest (env.put dst r) s' C K) : callJ P false pc opl dst none true ok (some (h, a, b)) ys rest env s C K :=
  callJ_do hA hok hcl hk
theorem callG2 {pcb : Bool} {pc : Op → Bool} {opl : List Oper} {dst : Option Nat} {gd : Nat × Bool} {g : Bool} {ok : Prop} {h : FuncId} {a b ys : List AV} {vs : List V} {r : AV} {rest : List Oper} {env : Env} {s : List AObj} {C : Prop} {K : Env → List AObj → Prop}
    (hA : g = true → APure P h vs r) (hv : allPlain (a ++ ys ++ b) = some vs := by rfl) (hok : g = true → ok := by intro hg; first | trivial | (simpa using hg) | (simp_all; done)) (hk : regC P pc opl rest (env.put dst (.cnd g r)) s C K) : callJ P pcb pc opl dst (some gd) g ok (some (h, a, b)) ys rest env s C K :=
  callJ_if hA hv hok hk
end
end Go.Proofs.YtaahjmkjdcikcaaDoor.AI
