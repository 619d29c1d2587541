/- A machine of plain values: the rules by which code is gone through. No program in sight. -/
import Derived.Test.YtaahjmkjdcikcaaDoorT
namespace Go.Proofs.YtaahjmkjdcikcaaDoor.AI
open Go.RowKit
set_option linter.unusedVariables false
set_option linter.unusedSimpArgs false
set_option linter.unusedSectionVars false
variable [Glob]

/-- Slots by their numbers, and what they hold. -/
def zipE : List Nat → List AV → List (Nat × AV)
  | k :: ks, v :: vs => (k, v) :: zipE ks vs
  | _, _ => []
theorem zipE_cons (k : Nat) (ks : List Nat) (v : AV) (vs : List AV) : zipE (k :: ks) (v :: vs) = (k, v) :: zipE ks vs := rfl
theorem lk_zip_map (f : Nat → AV) (t : Nat) : ∀ ks : List Nat, lk (zipE ks (ks.map f)) t = f t ∨ lk (zipE ks (ks.map f)) t = .any
  | [] => .inr rfl
  | k :: ks => by
    simp only [List.map_cons, zipE, lk]
    split
    · rename_i h; subst h; exact .inl rfl
    · exact lk_zip_map f t ks

def noCnd : List (Nat × AV) → Bool
  | [] => true
  | (_, x) :: l => !isCnd x && noCnd l
theorem noCnd_lk {l : List (Nat × AV)} (h : noCnd l = true) (t : Nat) : isCnd (lk l t) = false := by
  induction l with
  | nil => rfl
  | cons p l ih =>
    obtain ⟨d, x⟩ := p
    simp only [noCnd, Bool.and_eq_true, Bool.not_eq_true'] at h
    simp only [lk]
    split
    · exact h.1
    · exact ih h.2

/-- What is looked at behind a region. -/
def finK (ks : List Nat) (K : List AV → List AObj → Prop) : Env → List AObj → Prop := fun env s => K (ks.map env) s

section
variable {P : Program} {N : Nat} {p : Nat → Prop} {Post : Env → St → Prop}

/-- A region's rest, and what was asked on the way. -/
def regC (P : Program) (pc : Op → Bool) (opl l : List Oper) (env : Env) (s : List AObj) (C : Prop) (K : Env → List AObj → Prop) : Prop := regL P pc opl l env s K ∧ C

/-- **A region**: it leads from slots written out to slots written out. -/
theorem AWS.reg {k : List Item} {id : Nat} {draw : Bool} {ops : Array Oper} {e : List (Nat × AV)} {vs : List AV} {s s' : List AObj} (ks : List Nat) (pc : Op → Bool)
    (hok : regOk N pc draw ops = true) (hc : noCnd e = true)
    (h : ∀ K : List AV → List AObj → Prop, K vs s' → regC P pc ops.toList ops.toList (mkE e) s True (finK ks K))
    (hc' : noCnd (zipE ks vs) = true)
    (hk : AWS P N p Post k (mkE (zipE ks vs)) (mkS s')) : AWS P N p Post (.code (.region id ops draw) :: k) (mkE e) (mkS s) := by
  have hr := regL_ok (P := P) (pc := pc) (opl := ops.toList) ops.toList 0 (fun j => by simp) (mkE e) (mkE e) s _ (Str.refl (noCnd_lk hc)) (h (fun xs s1 => xs = vs ∧ s1 = s') ⟨rfl, rfl⟩).1
  have e1 : List.range' 0 ops.toList.length = List.range ops.size := by simp [List.range_eq_range']
  rw [e1] at hr
  refine .region pc _ hok hr (fun env σ hM => ?_)
  obtain ⟨e1, s1, hst, h2, h3, h4⟩ := hM
  subst h2 h3 h4
  refine .forget (fun t => ?_) hk
  rcases lk_zip_map e1 t ks with h1 | h1
  · have := noCnd_lk hc' t
    rw [h1] at this
    exact .inl (h1.trans (hst.eq this).symm)
  · exact .inr h1

theorem AWS.condI {k : List Item} {env : Env} {σ : St} {c : Operand} {x y : Code} {t : Bool} (hc : ev env c = .pv (.lit (.bool t)))
    (h1 : t = true → AWS P N p Post (.code x :: k) env σ) (h2 : t = false → AWS P N p Post (.code y :: k) env σ) : AWS P N p Post (.code (.cond c x y) :: k) env σ := by
  refine .cond t hc ?_
  cases t with
  | true => exact h1 rfl
  | false => exact h2 rfl

/-- A nil slice in a slot is taken as a slice of the call's own. -/
theorem AWS.ownL {k : List Item} {e : List (Nat × AV)} {s : List AObj} (t : Nat) (el : TypeId) (sz : Nat) (h0 : lk e t = .e0) (h : AWS P N p Post k (mkE ((t, .own s.length []) :: e)) (mkS (s ++ [.tok el sz 0]))) : AWS P N p Post k (mkE e) (mkS s) := by
  refine .own0 s.length t el sz (mkS_new s) h0 ?_
  rw [put_mkE, mkS_push]
  exact h

/-- Where two ways meet: what is looked at from there on. -/
theorem AWS.joinE {k : List Item} {e : List (Nat × AV)} {s s' : List AObj} {vs : List AV} (ks : List Nat) (h : ks.map (mkE e) = vs) (hs : s = s') (hk : AWS P N p Post k (mkE (zipE ks vs)) (mkS s')) : AWS P N p Post k (mkE e) (mkS s) := by
  subst h hs
  refine .forget (fun t => ?_) hk
  rcases lk_zip_map (mkE e) t ks with h1 | h1
  · exact .inl h1
  · exact .inr h1
/-- A branch behind which both ways go on as one. -/
theorem AWS.condJ {k : List Item} {e : List (Nat × AV)} {s s' : List AObj} {c : Operand} {x y : Code} {t : Bool} (ks : List Nat) (vs : List AV) (hc : ev (mkE e) c = .pv (.lit (.bool t)))
    (h1 : t = true → AWS P N p Post k (mkE (zipE ks vs)) (mkS s') → AWS P N p Post (.code x :: k) (mkE e) (mkS s))
    (h2 : t = false → AWS P N p Post k (mkE (zipE ks vs)) (mkS s') → AWS P N p Post (.code y :: k) (mkE e) (mkS s))
    (hk : AWS P N p Post k (mkE (zipE ks vs)) (mkS s')) : AWS P N p Post (.code (.cond c x y) :: k) (mkE e) (mkS s) := by
  refine .cond t hc ?_
  cases t with
  | true => exact h1 rfl hk
  | false => exact h2 rfl hk

/-- **A loop**, by what stands in the slots at its head. -/
theorem AWS.loopI {α : Type} {k : List Item} {c : Code} {e : List (Nat × AV)} {s : List AObj} (m : α → Nat) (ks : List Nat) (vals : α → List AV) (S : α → List AObj) (Inv : α → Prop) (x0 : α)
    (h0 : Inv x0) (hv : ks.map (mkE e) = vals x0) (hs : s = S x0)
    (step : ∀ x, Inv x → (∀ y, m y < m x → Inv y → AWS P N p Post (.inLoop c :: k) (mkE (zipE ks (vals y))) (mkS (S y))) → AWS P N p Post (.code c :: .inLoop c :: k) (mkE (zipE ks (vals x))) (mkS (S x))) :
    AWS P N p Post (.code (.loop c) :: k) (mkE e) (mkS s) := by
  have key : ∀ n x, m x < n → Inv x → AWS P N p Post (.code c :: .inLoop c :: k) (mkE (zipE ks (vals x))) (mkS (S x)) := by
    intro n
    induction n with
    | zero => intro x hx; exact absurd hx (Nat.not_lt_zero _)
    | succ n ih => intro x hx hi; exact step x hi (fun y hy hiy => .inLoop (ih y (by omega) hiy))
  refine .forget (env' := mkE (zipE ks (vals x0))) (fun t => ?_) (.loop (by rw [hs]; exact key _ x0 (Nat.lt_succ_self _) h0))
  rw [← hv]
  rcases lk_zip_map (mkE e) t ks with h1 | h1
  · exact .inl h1
  · exact .inr h1

/-- The slots of a call's beginning. -/
def argsL : Nat → List V → List (Nat × AV)
  | _, [] => []
  | n, x :: xs => (n, .pv x) :: argsL (n + 1) xs
theorem lk_argsL (t : Nat) : ∀ (xs : List V) (n : Nat), lk (argsL n xs) t = if n ≤ t then (match xs[t - n]? with | some x => .pv x | none => .any) else .any
  | [], n => by simp [argsL, lk]
  | x :: xs, n => by
    simp only [argsL, lk]
    by_cases h : t = n
    · subst h; simp
    · rw [if_neg h, lk_argsL t xs (n + 1)]
      by_cases h' : n ≤ t
      · rw [if_pos h', if_pos (by omega)]
        obtain ⟨m, hm⟩ : ∃ m, t - n = m + 1 := ⟨t - n - 1, by omega⟩
        have : t - (n + 1) = m := by omega
        rw [hm, this, List.getElem?_cons_succ]
      · rw [if_neg h', if_neg (by omega)]
theorem argsEnv_mkE (xs : List V) : argsEnv xs = mkE (argsL 0 xs) := by
  funext t
  show argsEnv xs t = lk (argsL 0 xs) t
  rw [lk_argsL]
  simp only [argsEnv, Nat.zero_le, if_true, Nat.sub_zero]
  rfl
theorem mkS_nil : mkS [] = fun _ => none := by funext j; simp [mkS]

/-- **A function that is gone through only computes**, its slots written out. -/
theorem apure_go {f : FuncId} {fn : Func} {c : Code} {args : List V} {r : AV} (hf : P.funcs[f]? = some fn) (hb : fn.body = some c) (hm : P.follows .mixedOrders = true) (hname : hasBody P f = true) (hn : Nat.ble args.length fn.ntmps = true)
    (h : AWS P fn.ntmps (fun _ => False) (fun env σ => resOf P fn.results.toList env σ = some r) [.code c] (mkE (argsL 0 args)) (mkS [])) : APure P f args r :=
  apure_of hm hf hb hname (Nat.le_of_ble_eq_true hn) (by rw [argsEnv_mkE, ← mkS_nil]; exact h)

/-! ### A function that works on objects -/
def resOneA (P : Program) (env : Env) (σ : St) : ResultVar → Option AV
  | .tmp t => some (env t)
  | .cell q ty => match env q, shapeOf P ty with
    | .box id off, some (sz, ag) => match σ id with
      | some (.box _ cs) => if ag then (if off + sz ≤ cs.length then some (mkAgg ((cs.drop off).take sz)) else none) else cs[off]?
      | _ => none
    | _, _ => none
def resAllA (P : Program) (env : Env) (σ : St) : List ResultVar → Option (List AV)
  | [] => some []
  | r :: rs => (resOneA P env σ r).bind fun x => (resAllA P env σ rs).map (x :: ·)
def resA (P : Program) (rs : List ResultVar) (env : Env) (σ : St) : Option AV :=
  (resAllA P env σ rs).map fun
    | [] => .undef
    | [x] => x
    | xs => .tuple xs

theorem resOneA_run {w w0 : World} {E : Ghost} {env : Env} {σ : St} {a : Act} (he : EnvRep w E env a) (hh : Holds E σ w0 w) {r : ResultVar} {x : AV} (h : resOneA P env σ r = some x) :
    ∃ v, (match r with | .tmp t => pure (a.tmps.getD t undef) | .cell q t => do loadVar t (← asAddr (a.tmps.getD q undef)) : Sem Value).run P w = .ok v w ∧ Rep w E x v := by
  cases r with
  | tmp t => simp only [resOneA, Option.some.injEq] at h; subst h; exact ⟨_, rfl, he t⟩
  | cell q ty =>
    simp only [resOneA] at h
    split at h
    · rename_i id off sz ag hq hs
      have hr := he q
      rw [hq] at hr
      generalize hgv : a.tmps.getD q undef = u at hr
      cases hr with
      | box id off hused =>
      split at h
      · rename_i t cs hid
        obtain ⟨hb, vs, hheap, hn, hall⟩ := hh.obj id _ hid
        have hcell : ∀ j, w.cell? ⟨E.blk id, j, none⟩ = vs[j]? := fun j => cell_of_row w _ j vs t (0, 0) hheap
        simp only [hgv, asAddr, loadVar, Sem.run_bind, Sem.run_pure, Result.andThen_ok, run_isAgg hs]
        split at h
        · rename_i hag
          subst hag
          split at h
          · rename_i hle
            simp only [Option.some.injEq] at h
            subst h
            have hl := run_loadCells_list (P := P) w ⟨E.blk id, off, none⟩ ((vs.toList.drop off).take sz) (fun j v hj => by
              rw [Addr.add_lit, hcell]
              simp only [List.getElem?_take, List.getElem?_drop, Array.getElem?_toList] at hj
              split at hj
              · exact hj
              · cases hj)
            have hlen : ((vs.toList.drop off).take sz).length = sz := by simp; omega
            rw [hlen] at hl
            refine ⟨.agg ((vs.toList.drop off).take sz).toArray, by simp [run_sizeOf hs, hl], mkAgg_rep ⟨by simp; omega, fun j y hy => ?_⟩⟩
            simp only [List.getElem?_take, List.getElem?_drop] at hy ⊢
            split at hy
            · rename_i hj
              obtain ⟨v, hv, ho, hr⟩ := hall _ y hy
              exact ⟨v, by rw [if_pos hj]; simpa using hv, ho, hr⟩
            · cases hy
          · cases h
        · rename_i hag
          have hag : ag = false := by simpa using hag
          subst hag
          obtain ⟨v, hv, ho, hr⟩ := hall off x h
          exact ⟨v, by simp [hcell, hv], hr⟩
      · cases h
    · cases h

theorem resAllA_run {w w0 : World} {E : Ghost} {env : Env} {σ : St} {a : Act} (he : EnvRep w E env a) (hh : Holds E σ w0 w) : ∀ {rs : List ResultVar} {xs : List AV}, resAllA P env σ rs = some xs →
    ∃ vs : List Value, (rs.mapM fun r => (match r with | .tmp t => pure (a.tmps.getD t undef) | .cell q t => do loadVar t (← asAddr (a.tmps.getD q undef)) : Sem Value)).run P w = .ok vs w ∧ AllRep w E xs vs
  | [], xs, h => by simp [resAllA] at h; subst h; exact ⟨[], by simp, rfl, fun j x hx => by simp at hx⟩
  | r :: rs, xs, h => by
    simp only [resAllA, Option.bind_eq_some_iff, Option.map_eq_some_iff] at h
    obtain ⟨x, hx, ys, hys, rfl⟩ := h
    obtain ⟨v, hv, hr⟩ := resOneA_run he hh hx
    obtain ⟨vs, hvs, h1, h2⟩ := resAllA_run he hh hys
    refine ⟨v :: vs, ?_, by simp [h1], fun j y hy => ?_⟩
    · simp only [List.mapM_cons, Sem.run_bind]
      rw [hv]
      simp only [Result.andThen_ok]
      rw [hvs]
      simp
    · cases j with
      | zero => simp at hy; subst hy; exact ⟨v, rfl, hr⟩
      | succ j => simpa using h2 j y (by simpa using hy)

theorem resA_run {w w0 : World} {E : Ghost} {env : Env} {σ : St} {a : Act} (he : EnvRep w E env a) (hh : Holds E σ w0 w) {fn : Func} {r : AV} (h : resA P fn.results.toList env σ = some r) :
    ∃ v, (results fn a.tmps).run P w = .ok v w ∧ Rep w E r v := by
  unfold resA at h
  simp only [Option.map_eq_some_iff] at h
  obtain ⟨xs, hxs, rfl⟩ := h
  obtain ⟨vs, hvs, h1, h2⟩ := resAllA_run (P := P) he hh hxs
  have hrun : (results fn a.tmps).run P w = .ok (if h : vs.toArray.size = 1 then vs.toArray[0] else .tuple vs.toArray) w := by
    unfold results
    simp only [Sem.run_bind]
    have e : (fn.results.mapM fun r => (match r with | .tmp t => pure (a.tmps.getD t undef) | .cell q t => do loadVar t (← asAddr (a.tmps.getD q undef)) : Sem Value)).run P w = .ok vs.toArray w := by
      rw [Array.mapM_eq_mapM_toList]
      simp only [Sem.run_map]
      rw [hvs]
      rfl
    exact (congrArg (fun r : Result (Array Value) => r.andThen fun a w' => Sem.run P (pure (if h : a.size = 1 then a[0] else Value.tuple a)) w') e).trans (by simp)
  refine ⟨_, hrun, ?_⟩
  split
  · have hl : vs = [] := List.eq_nil_of_length_eq_zero (by simpa using h1)
    subst hl
    exact .undef
  · rename_i x
    have hl : vs.length = 1 := by simpa using h1
    rw [dif_pos (by simpa using hl)]
    obtain ⟨v, hv, hr⟩ := h2 0 x rfl
    have : vs.toArray[0]'(by simp; omega) = v := by
      have hlt : 0 < vs.length := by omega
      rw [List.getElem?_eq_getElem hlt] at hv
      simpa using hv
    rw [this]
    exact hr
  · rename_i hn0 hne
    have hl : ¬ vs.toArray.size = 1 := by
      intro e
      have : xs.length = 1 := by simp at e; omega
      obtain ⟨x, rfl⟩ := List.length_eq_one_iff.1 this
      exact hne x rfl
    rw [dif_neg hl]
    exact Rep.tuple_mk (by simp [h1]) (fun j y hy => by simpa using h2 j y hy)

/-- The slots of a call's beginning. -/
def argsA : Nat → List AV → List (Nat × AV)
  | _, [] => []
  | n, x :: xs => (n, x) :: argsA (n + 1) xs
theorem lk_argsA (t : Nat) : ∀ (xs : List AV) (n : Nat), lk (argsA n xs) t = if n ≤ t then (match xs[t - n]? with | some x => x | none => .any) else .any
  | [], n => by simp [argsA, lk]
  | x :: xs, n => by
    simp only [argsA, lk]
    by_cases h : t = n
    · subst h; simp
    · rw [if_neg h, lk_argsA t xs (n + 1)]
      by_cases h' : n ≤ t
      · rw [if_pos h', if_pos (by omega)]
        obtain ⟨m, hm⟩ : ∃ m, t - n = m + 1 := ⟨t - n - 1, by omega⟩
        have : t - (n + 1) = m := by omega
        rw [hm, this, List.getElem?_cons_succ]
      · rw [if_neg h', if_neg (by omega)]

theorem acall_go {f : FuncId} {fn : Func} {c : Code} {args : List AV} {s s' : List AObj} {r : AV} (hf : P.funcs[f]? = some fn) (hb : fn.body = some c) (hm : P.follows .mixedOrders = true) (hname : hasBody P f = true) (hn : Nat.ble args.length fn.ntmps = true)
    (h : AWS P fn.ntmps (fun id => (mkS s id).isSome = true) (fun env σ => σ = mkS s' ∧ resA P fn.results.toList env σ = some r) [.code c] (mkE (argsA 0 args)) (mkS s)) : ACall P f args (mkS s) r (mkS s') := by
  intro w0 w E us hh hus
  refine .inl ⟨hname, fun cs => ?_⟩
  let b : Frame := { (default : Frame) with fn := f, kind := .normal }
  let a0 : Act := { tmps := us.toArray ++ Array.replicate (fn.ntmps - us.toArray.size) undef, defers := [] }
  have henter : Frame.enter P f us.toArray .normal = b.at a0 [.code c] := by
    simp [Frame.enter, Frame.at, hf, hb, b, a0]
  have hlen := hus.1
  have hn' := Nat.le_of_ble_eq_true hn
  have hsz : a0.tmps.size = fn.ntmps := by simp [a0]; omega
  have he : EnvRep w E (mkE (argsA 0 args)) a0 := fun t => by
    show Rep w E (lk (argsA 0 args) t) _
    rw [lk_argsA]
    simp only [Nat.zero_le, if_true, Nat.sub_zero]
    split
    · rename_i x hx
      obtain ⟨u, hu, hr⟩ := hus.2 t x hx
      have hlt := (List.getElem?_eq_some_iff.1 hu).1
      have : a0.tmps.getD t undef = u := by
        simp only [a0, Array.getD_eq_getD_getElem?]
        rw [Array.getElem?_append_left (by simpa using hlt)]
        simp [hu]
      rw [this]
      exact hr
    · exact .any _
  obtain ⟨a', w', todo, env', σ', E', hs, hd, he', hh', hfl, hpost, hres⟩ := h.sound hm b cs a0 w0 w E hsz rfl he hh
  rw [← henter] at hs
  obtain ⟨v, hv, hr⟩ := resA_run he' hh' hres
  subst hpost
  have hl : Later w E w' E' := ⟨hfl.base, hfl.keeps, hfl.new, fun id hu => hfl.used id ((hh.used id).1 hu) hu, fun id hu => hfl.blk id ((hh.used id).1 hu) hu, fun id hu => hfl.on id ((hh.used id).1 hu) hu,
    fun id hu => hfl.ov id ((hh.used id).1 hu) hu, fun id hu => hfl.osz id ((hh.used id).1 hu) hu⟩
  exact ⟨.returned v, w', _, ⟨v, rfl, E', hh', hl, hr⟩, hs, rfl, rfl, hd, rfl, fn, hf, hv⟩

mutual
/-- What a value names lies ahead of a number. -/
def belowA (n : Nat) : AV → Bool
  | .own id _ => decide (id < n)
  | .box id _ => decide (id < n)
  | .map id => decide (id < n)
  | .iter id => decide (id < n)
  | .fn _ xs ys => belowL n xs && belowL n ys
  | .agg xs => belowL n xs
  | .tuple xs => belowL n xs
  | .cnd .. => false
  | .any => true
  | .undef => true
  | .pv _ => true
  | .e0 => true
def belowL (n : Nat) : List AV → Bool
  | [] => true
  | x :: xs => belowA n x && belowL n xs
end
def belowO (n : Nat) : AObj → Bool
  | .box _ cs => belowL n cs
  | _ => true
mutual
theorem belowA_closed {n : Nat} {S : Nat → Prop} (hS : ∀ id, id < n → S id) : ∀ (x : AV), belowA n x = true → Closed S x
  | .any, _ => .any
  | .undef, _ => .undef
  | .pv x, _ => .pv x
  | .e0, _ => .e0
  | .own id xs, h => .own id xs (hS id (by simpa [belowA] using h))
  | .box id o, h => .box id o (hS id (by simpa [belowA] using h))
  | .map id, h => .map id (hS id (by simpa [belowA] using h))
  | .iter id, h => .iter id (hS id (by simpa [belowA] using h))
  | .fn f xs ys, h => by
    simp only [belowA, Bool.and_eq_true] at h
    exact .fn f xs ys (belowL_closed hS xs h.1) (belowL_closed hS ys h.2)
  | .agg xs, h => .agg xs (belowL_closed hS xs (by simpa [belowA] using h))
  | .tuple xs, h => .tuple xs (belowL_closed hS xs (by simpa [belowA] using h))
  | .cnd _ _, h => by simp [belowA] at h
theorem belowL_closed {n : Nat} {S : Nat → Prop} (hS : ∀ id, id < n → S id) : ∀ (l : List AV), belowL n l = true → ∀ x ∈ l, Closed S x
  | [], _, x, hx => by cases hx
  | y :: l, h, x, hx => by
    simp only [belowL, Bool.and_eq_true] at h
    rcases List.mem_cons.1 hx with e | hx
    · rw [e]; exact belowA_closed hS y h.1
    · exact belowL_closed hS l h.2 x hx
end
def belowE (n : Nat) : List (Nat × AV) → Bool
  | [] => true
  | (_, x) :: l => belowA n x && belowE n l
theorem belowE_lk {n : Nat} {l : List (Nat × AV)} (h : belowE n l = true) (t : Nat) : belowA n (lk l t) = true := by
  induction l with
  | nil => simp [lk, belowA]
  | cons p l ih =>
    obtain ⟨d, x⟩ := p
    simp only [belowE, Bool.and_eq_true] at h
    simp only [lk]
    split
    · exact h.1
    · exact ih h.2
/-- **The objects behind a place are let go.** -/
theorem AWS.cut {k : List Item} {e : List (Nat × AV)} {s s' : List AObj} (he : belowE s.length e = true) (hs : s.all (belowO s.length) = true) (hp : ∀ id, p id → (mkS (s ++ s') id).isSome = true → id < s.length)
    (h : AWS P N p Post k (mkE e) (mkS s)) : AWS P N p Post k (mkE e) (mkS (s ++ s')) := by
  have hS : ∀ id, id < s.length → (mkS s id).isSome = true := fun id h => by simp [mkS, h]
  refine .weaken (σ' := mkS s) ⟨fun t => .same _ (belowA_closed hS _ (belowE_lk he t)), fun id o ho => ?_, fun id hpi hi => hS id (hp id hpi hi)⟩ h
  have hlt : id < s.length := (List.getElem?_eq_some_iff.1 ho).1
  refine ⟨?_, ?_⟩
  · show (s ++ s')[id]? = some o
    rw [List.getElem?_append_left hlt]; exact ho
  · have hm : o ∈ s := List.mem_of_getElem? ho
    have := List.all_eq_true.1 hs o hm
    cases o with
    | box t cs =>
      exact belowL_closed hS cs this
    | _ => trivial

theorem AWS.cut0 {k : List Item} {e : List (Nat × AV)} {s' : List AObj} (he : belowE 0 e = true) (hp : ∀ id, p id → False) (h : AWS P N p Post k (mkE e) (mkS [])) : AWS P N p Post k (mkE e) (mkS s') :=
  AWS.cut (s := []) he rfl (fun id hpi _ => (hp id hpi).elim) h

/-! ### Calls in a region -/
theorem strip_ev (env : Env) (x : Operand) : ev (stripE env) x = strip (ev env x) := by
  cases x <;> first | rfl | (simp only [ev]; rename_i c; cases hc : constA c <;> first | rfl | (unfold constA at hc; split at hc <;> first | cases hc | (split at hc <;> cases hc)))

/-- A call is next: of this function, of these values. -/
def callJ (P : Program) (pcb : Bool) (pc : Op → Bool) (opl : List Oper) (dst : Option Nat) (gd : Option (Nat × Bool)) (g : Bool) (ok : Prop) (cal : Option (FuncId × List AV × List AV)) (ys : List AV) (rest : List Oper) (env : Env) (s : List AObj) (C : Prop) (K : Env → List AObj → Prop) : Prop :=
  (callH P pcb gd g ok cal ys s fun r s => regL P pc opl rest (env.put dst r) s K) ∧ C
/-- One operation ahead of the rest, told by its sort. -/
def oneL (P : Program) (pc : Op → Bool) (opl : List Oper) (o : Oper) (rest : List Oper) (g : Option Bool) (env : Env) (s : List AObj) (C : Prop) (K : Env → List AObj → Prop) : Prop :=
  match g with
  | none => False
  | some g => match sort3 pc o.op with
    | .value => regC P pc opl rest (env.put o.dst (mkC o.guard g (vask P o env s).2)) s (C ∧ (g = true → (vask P o env s).1) ∧ clean o.guard (vask P o env s).2 = true) K
    | .object => regC P pc opl rest (env.put o.dst (stepX P o (stripE env) s).2.1) (stepX P o (stripE env) s).2.2 (C ∧ g = true ∧ allOkc env o.op.operands.toList ∧ (stepX P o (stripE env) s).1 ∧ isCnd (stepX P o (stripE env) s).2.1 = false) K
    | .call => match o.op with
      | .call c => match c.callee with
        | .value f => callJ P (pc o.op) pc opl o.dst o.guard g (allOkc env o.op.operands.toList) (calleeOf (ev (stripE env) f)) (c.args.toList.map (ev (stripE env))) rest env s C K
        | _ => False
      | _ => False
    | .none => False
theorem regL_nil (P : Program) (pc : Op → Bool) (opl : List Oper) (env : Env) (s : List AObj) (C : Prop) (K : Env → List AObj → Prop) : regC P pc opl [] env s C K = (K env s ∧ C) := rfl
theorem regL_cons (P : Program) (pc : Op → Bool) (opl : List Oper) (o : Oper) (rest : List Oper) (env : Env) (s : List AObj) (C : Prop) (K : Env → List AObj → Prop) : regC P pc opl (o :: rest) env s C K = oneL P pc opl o rest (awantL opl env o) env s C K := by
  unfold regC
  rw [regL]
  unfold oneL callJ regC
  have sw : ∀ A B C : Prop, ((A ∧ B) ∧ C) = (B ∧ C ∧ A) := fun A B C => propext ⟨fun ⟨⟨a, b⟩, c⟩ => ⟨b, c, a⟩, fun ⟨b, c, a⟩ => ⟨⟨a, b⟩, c⟩⟩
  cases awantL opl env o with
  | none => simp only [false_and]
  | some g =>
    simp only
    cases sort3 pc o.op with
    | value => exact sw _ _ _
    | object => exact sw _ _ _
    | none => simp only [false_and]
    | call =>
      simp only
      cases o.op with
      | call c =>
        simp only
        cases c.callee <;> simp only [false_and]
      | _ => simp only [false_and]
theorem callJ_go {pcb : Bool} {pc : Op → Bool} {opl : List Oper} {dst : Option Nat} {gd : Option (Nat × Bool)} {g : Bool} {ok : Prop} {h : FuncId} {a b ys : List AV} {vs : List V} {r : AV} {rest : List Oper} {env : Env} {s : List AObj} {C : Prop} {K : Env → List AObj → Prop}
    (hA : APure P h vs r) (hv : allPlain (a ++ ys ++ b) = some vs) (hok : ok) (hcl : clean gd r = true) (hk : regC P pc opl rest (env.put dst (mkC gd g r)) s C K) : callJ P pcb pc opl dst gd g ok (some (h, a, b)) ys rest env s C K :=
  ⟨.inl ⟨r, ⟨fun _ => ⟨hok, vs, hv, hA⟩, hcl⟩, hk.1⟩, hk.2⟩
/-- A call that works on objects. -/
theorem callJ_do {pc : Op → Bool} {opl : List Oper} {dst : Option Nat} {gd : Option (Nat × Bool)} {ok : Prop} {h : FuncId} {a b ys : List AV} {r : AV} {rest : List Oper} {env : Env} {s s' : List AObj} {C : Prop} {K : Env → List AObj → Prop}
    (hA : ACall P h (a ++ ys ++ b) (mkS s) r (mkS s')) (hok : ok) (hcl : isCnd r = false) (hk : regC P pc opl rest (env.put dst r) s' C K) : callJ P false pc opl dst gd true ok (some (h, a, b)) ys rest env s C K :=
  ⟨.inr ⟨rfl, rfl, hok, r, s', hA, hcl, hk.1⟩, hk.2⟩
/-- A call under a condition. -/
theorem callJ_if {pcb : Bool} {pc : Op → Bool} {opl : List Oper} {dst : Option Nat} {gd : Nat × Bool} {g : Bool} {ok : Prop} {h : FuncId} {a b ys : List AV} {vs : List V} {r : AV} {rest : List Oper} {env : Env} {s : List AObj} {C : Prop} {K : Env → List AObj → Prop}
    (hA : g = true → APure P h vs r) (hv : allPlain (a ++ ys ++ b) = some vs) (hok : g = true → ok) (hk : regC P pc opl rest (env.put dst (.cnd g r)) s C K) : callJ P pcb pc opl dst (some gd) g ok (some (h, a, b)) ys rest env s C K :=
  ⟨.inl ⟨r, ⟨fun hg => ⟨hok hg, vs, hv, hA hg⟩, rfl⟩, hk.1⟩, hk.2⟩

/-! ### Rules to simplify by -/
theorem constA_int (k : IntKind) (n : Int) : constA (.int k n) = .pv (.lit (.int k n)) := rfl
theorem constA_bool (b : Bool) : constA (.bool b) = .pv (.lit (.bool b)) := rfl
theorem constA_string (b : ByteArray) : constA (.string b) = .pv (.lit (.string b)) := rfl
theorem constA_nil : constA (.slice none 0 0) = .e0 := rfl
theorem cells_lit (v : Value) : (V.lit v).cells = [.lit v] := rfl
theorem cells_agg (cs : List V) : (V.agg cs).cells = cs := rfl
theorem cells_list (xs : List V) : (V.list xs).cells = [.list xs] := rfl
theorem operands_builtin (b : Builtin) (args : Array Operand) (ts : Array TypeId) : (Op.call { callee := .builtin b, args := args, argTypes := ts }).operands.toList = args.toList := by
  simp [Op.operands, Call.operands]
theorem operands_value (f : Operand) (args : Array Operand) (ts : Array TypeId) : (Op.call { callee := .value f, args := args, argTypes := ts }).operands.toList = f :: args.toList := by
  simp [Op.operands, Call.operands]

theorem ev_tmp (e : List (Nat × AV)) (t : Nat) : ev (mkE e) (.tmp t) = lk e t := rfl
theorem ev_int (env : Env) (k : IntKind) (n : Int) : ev env (.const (.int k n)) = .pv (.lit (.int k n)) := rfl
theorem ev_bool (env : Env) (b : Bool) : ev env (.const (.bool b)) = .pv (.lit (.bool b)) := rfl
theorem ev_string (env : Env) (b : ByteArray) : ev env (.const (.string b)) = .pv (.lit (.string b)) := rfl
theorem ev_nilslice (env : Env) : ev env (.const (.slice none 0 0)) = .e0 := rfl
theorem ev_agg (env : Env) (cs : Array Value) : ev env (.const (.agg cs)) = if cs.toList.all (fun c => c.oneCell') then .pv (.agg (cs.toList.map constV)) else .any := rfl
theorem ev_func (env : Env) (f : FuncId) : ev env (.func f) = .pv (.lit (.func (.func f) #[] #[])) := rfl
theorem lk_cons (d : Nat) (x : AV) (l : List (Nat × AV)) (t : Nat) : lk ((d, x) :: l) t = if t = d then x else lk l t := rfl
theorem mkE_apply (e : List (Nat × AV)) (t : Nat) : mkE e t = lk e t := rfl
theorem strip_cnd (b : Bool) (x : AV) : strip (.cnd b x) = x := rfl
theorem strip_pv (x : V) : strip (.pv x) = .pv x := rfl
theorem strip_own (id : Nat) (x : List V) : strip (.own id x) = .own id x := rfl
theorem strip_box (id o : Nat) : strip (.box id o) = .box id o := rfl
theorem strip_iter (id : Nat) : strip (.iter id) = .iter id := rfl
theorem strip_e0 : strip .e0 = .e0 := rfl
theorem strip_any : strip .any = .any := rfl
theorem strip_undef : strip .undef = .undef := rfl
theorem strip_tuple (xs : List AV) : strip (.tuple xs) = .tuple xs := rfl
theorem strip_agg (xs : List AV) : strip (.agg xs) = .agg xs := rfl
theorem strip_fn (f : Fn) (a b : List AV) : strip (.fn f a b) = .fn f a b := rfl
theorem okc_cnd (b : Bool) (x : AV) : okc (.cnd b x) = (b = true) := rfl
theorem okc_pv (x : V) : okc (.pv x) = True := rfl
theorem okc_own (id : Nat) (x : List V) : okc (.own id x) = True := rfl
theorem okc_box (id o : Nat) : okc (.box id o) = True := rfl
theorem okc_iter (id : Nat) : okc (.iter id) = True := rfl
theorem okc_e0 : okc .e0 = True := rfl
theorem okc_any : okc .any = True := rfl
theorem okc_undef : okc .undef = True := rfl
theorem okc_tuple (xs : List AV) : okc (.tuple xs) = True := rfl
theorem okc_agg (xs : List AV) : okc (.agg xs) = True := rfl
theorem okc_fn (f : Fn) (a b : List AV) : okc (.fn f a b) = True := rfl
theorem isCnd_pv (x : V) : isCnd (.pv x) = false := rfl
theorem isCnd_own (id : Nat) (x : List V) : isCnd (.own id x) = false := rfl
theorem isCnd_box (id o : Nat) : isCnd (.box id o) = false := rfl
theorem isCnd_iter (id : Nat) : isCnd (.iter id) = false := rfl
theorem isCnd_e0 : isCnd .e0 = false := rfl
theorem isCnd_any : isCnd .any = false := rfl
theorem isCnd_undef : isCnd .undef = false := rfl
theorem isCnd_tuple (xs : List AV) : isCnd (.tuple xs) = false := rfl
theorem isCnd_agg (xs : List AV) : isCnd (.agg xs) = false := rfl
theorem isCnd_fn (f : Fn) (a b : List AV) : isCnd (.fn f a b) = false := rfl
theorem mkC_none (g : Bool) (x : AV) : mkC none g x = x := rfl
theorem mkC_some (j : Nat × Bool) (g : Bool) (x : AV) : mkC (some j) g x = .cnd g x := rfl
theorem clean_none (x : AV) : (clean none x = true) = (isCnd x = false) := by simp [clean]
theorem clean_some (j : Nat × Bool) (x : AV) : (clean (some j) x = true) = True := by simp [clean]
theorem allOkc_nil (env : Env) : allOkc env [] = True := rfl
theorem allOkc_cons (env : Env) (x : Operand) (l : List Operand) : allOkc env (x :: l) = (okc (ev env x) ∧ allOkc env l) := rfl
theorem pickV_bool (g p q : Bool) : pickV g (.pv (.lit (.bool p))) (.pv (.lit (.bool q))) = .pv (.lit (.bool (cond g p q))) := rfl
theorem finK_apply (ks : List Nat) (K : List AV → List AObj → Prop) (e : List (Nat × AV)) (s : List AObj) : finK ks K (mkE e) s = K (ks.map (mkE e)) s := rfl

/-- What is simplified by in a region. -/
theorem rs0 :
    (∀ (env : Env) (x : Operand), ev (stripE env) x = strip (ev env x)) ∧ (∀ (e : List (Nat × AV)) (t : Nat), ev (mkE e) (.tmp t) = lk e t) ∧
    (∀ (env : Env) (k : IntKind) (n : Int), ev env (.const (.int k n)) = .pv (.lit (.int k n))) ∧ (∀ (env : Env) (b : Bool), ev env (.const (.bool b)) = .pv (.lit (.bool b))) ∧
    (∀ (env : Env) (b : ByteArray), ev env (.const (.string b)) = .pv (.lit (.string b))) ∧ (∀ (env : Env), ev env (.const (.slice none 0 0)) = .e0) ∧ (∀ (env : Env) (f : FuncId), ev env (.func f) = .pv (.lit (.func (.func f) #[] #[]))) ∧
    (∀ (d : Nat) (x : AV) (l : List (Nat × AV)) (t : Nat), lk ((d, x) :: l) t = if t = d then x else lk l t) ∧ (∀ (e : List (Nat × AV)) (t : Nat), mkE e t = lk e t) ∧ (∀ t, lk [] t = .any) ∧
    (∀ (k : Nat) (ks : List Nat) (v : AV) (vs : List AV), zipE (k :: ks) (v :: vs) = (k, v) :: zipE ks vs) ∧ (zipE [] [] = []) ∧
    (∀ (l : List (Nat × AV)) (d : Nat) (x : AV), (mkE l).put (some d) x = mkE ((d, x) :: l)) ∧ (∀ (l : List (Nat × AV)) (x : AV), (mkE l).put none x = mkE l) ∧
    (∀ (ks : List Nat) (K : List AV → List AObj → Prop) (e : List (Nat × AV)) (s : List AObj), finK ks K (mkE e) s = K (ks.map (mkE e)) s) ∧
    (∀ (n : Nat) (x : V) (xs : List V), argsL n (x :: xs) = (n, .pv x) :: argsL (n + 1) xs) ∧ (∀ n : Nat, argsL n [] = []) :=
  ⟨strip_ev, ev_tmp, ev_int, ev_bool, ev_string, ev_nilslice, ev_func, lk_cons, mkE_apply, fun _ => rfl, zipE_cons, rfl, put_mkE, fun _ _ => rfl, finK_apply, fun _ _ _ => rfl, fun _ => rfl⟩
theorem rs1 :
    (∀ (b : Bool) (x : AV), strip (.cnd b x) = x) ∧ (∀ x : V, strip (.pv x) = .pv x) ∧ (∀ (id : Nat) (x : List V), strip (.own id x) = .own id x) ∧ (∀ id o : Nat, strip (.box id o) = .box id o) ∧ (∀ id : Nat, strip (.iter id) = .iter id) ∧
    (strip .e0 = .e0) ∧ (strip .any = .any) ∧ (strip .undef = .undef) ∧ (∀ xs : List AV, strip (.tuple xs) = .tuple xs) ∧ (∀ xs : List AV, strip (.agg xs) = .agg xs) ∧ (∀ (f : Fn) (a b : List AV), strip (.fn f a b) = .fn f a b) ∧
    (∀ (b : Bool) (x : AV), okc (.cnd b x) = (b = true)) ∧ (∀ x : V, okc (.pv x) = True) ∧ (∀ (id : Nat) (x : List V), okc (.own id x) = True) ∧ (∀ id o : Nat, okc (.box id o) = True) ∧ (∀ id : Nat, okc (.iter id) = True) ∧
    (okc .e0 = True) ∧ (okc .any = True) ∧ (okc .undef = True) ∧ (∀ xs : List AV, okc (.tuple xs) = True) ∧ (∀ xs : List AV, okc (.agg xs) = True) ∧ (∀ (f : Fn) (a b : List AV), okc (.fn f a b) = True) ∧
    (∀ x : V, isCnd (.pv x) = false) ∧ (∀ (id : Nat) (x : List V), isCnd (.own id x) = false) ∧ (∀ id o : Nat, isCnd (.box id o) = false) ∧ (∀ id : Nat, isCnd (.iter id) = false) ∧
    (isCnd .e0 = false) ∧ (isCnd .any = false) ∧ (isCnd .undef = false) ∧ (∀ xs : List AV, isCnd (.tuple xs) = false) ∧ (∀ xs : List AV, isCnd (.agg xs) = false) ∧ (∀ (f : Fn) (a b : List AV), isCnd (.fn f a b) = false) ∧
    (∀ (g : Bool) (x : AV), mkC none g x = x) ∧ (∀ (j : Nat × Bool) (g : Bool) (x : AV), mkC (some j) g x = .cnd g x) ∧ (∀ x : AV, (clean none x = true) = (isCnd x = false)) ∧ (∀ (j : Nat × Bool) (x : AV), (clean (some j) x = true) = True) ∧
    (∀ env : Env, allOkc env [] = True) ∧ (∀ (env : Env) (x : Operand) (l : List Operand), allOkc env (x :: l) = (okc (ev env x) ∧ allOkc env l)) ∧
    (∀ g p q : Bool, pickV g (.pv (.lit (.bool p))) (.pv (.lit (.bool q))) = .pv (.lit (.bool (cond g p q)))) :=
  ⟨strip_cnd, strip_pv, strip_own, strip_box, strip_iter, rfl, rfl, rfl, strip_tuple, strip_agg, strip_fn, okc_cnd, okc_pv, okc_own, okc_box, okc_iter, rfl, rfl, rfl, okc_tuple, okc_agg, okc_fn,
   isCnd_pv, isCnd_own, isCnd_box, isCnd_iter, rfl, rfl, rfl, isCnd_tuple, isCnd_agg, isCnd_fn, mkC_none, mkC_some, clean_none, clean_some, allOkc_nil, allOkc_cons, pickV_bool⟩
end
end Go.Proofs.YtaahjmkjdcikcaaDoor.AI
