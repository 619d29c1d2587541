/- A machine of plain values: a function's code, step by step; a function that is gone through so is a call that only computes. No program in sight. -/
import Derived.Test.YtaahjmkjdcikcaaDoorQ
import Derived.Scope
namespace Go.Proofs.YtaahjmkjdcikcaaDoor.AI
open Go.RowKit
set_option linter.unusedVariables false
set_option linter.unusedSimpArgs false
set_option linter.unusedSectionVars false
variable [Glob]

/-- It names no object but these. -/
inductive Closed (S : Nat → Prop) : AV → Prop where
  | any : Closed S .any
  | undef : Closed S .undef
  | pv (x : V) : Closed S (.pv x)
  | e0 : Closed S .e0
  | own (id : Nat) (xs : List V) (h : S id) : Closed S (.own id xs)
  | box (id off : Nat) (h : S id) : Closed S (.box id off)
  | map (id : Nat) (h : S id) : Closed S (.map id)
  | iter (id : Nat) (h : S id) : Closed S (.iter id)
  | fn (f : Fn) (xs ys : List AV) (h : ∀ x ∈ xs, Closed S x) (k : ∀ x ∈ ys, Closed S x) : Closed S (.fn f xs ys)
  | agg (xs : List AV) (h : ∀ x ∈ xs, Closed S x) : Closed S (.agg xs)
  | tuple (xs : List AV) (h : ∀ x ∈ xs, Closed S x) : Closed S (.tuple xs)

/-- What one may say of a value instead: less. -/
inductive Less (S : Nat → Prop) : AV → AV → Prop where
  | any (x : AV) : Less S x .any
  | same (x : AV) (h : Closed S x) : Less S x x
  | own (id : Nat) (xs : List V) : Less S (.own id xs) (.pv (.list xs))
  | e0 : Less S .e0 (.pv (.list []))

theorem Rep.shrink {w : World} {E E' : Ghost} {S : Nat → Prop} (hS : ∀ id, S id → E'.used id ∧ E'.blk id = E.blk id ∧ E'.on id = E.on id ∧ E'.ov id = E.ov id ∧ E'.osz id = E.osz id) (hI : E'.imm = E.imm) {x : AV} {v : Value} (h : Rep w E x v) (hc : Closed S x) : Rep w E' x v := by
  induction h with
  | any v => exact .any v
  | undef => exact .undef
  | pv x u h => exact .pv x u (by rw [hI]; exact h)
  | e0 => exact .e0
  | own id xs u hu hl he hz h =>
    cases hc with
    | own _ _ hs =>
      obtain ⟨h1, h2, h3, h4, h5⟩ := hS id hs
      exact .own id xs u h1 (by omega) (fun e => by rw [h4]; exact he (by omega)) (by rw [h5]; exact hz) (by rw [hI]; exact h)
  | box id off hu => cases hc with | box _ _ hs => rw [← (hS id hs).2.1]; exact .box id off (hS id hs).1
  | map id hu => cases hc with | map _ hs => rw [← (hS id hs).2.1]; exact .map id (hS id hs).1
  | iter id hu => cases hc with | iter _ hs => rw [← (hS id hs).2.1]; exact .iter id (hS id hs).1
  | fn f xs ys a b cv dv hn hm hv hu hr hq ih1 ih2 =>
    cases hc with
    | fn _ _ _ h k => exact .fn f xs ys a b cv dv hn hm hv hu (fun j x hx => ih1 j x hx (h x (List.mem_of_getElem? hx))) (fun j x hx => ih2 j x hx (k x (List.mem_of_getElem? hx)))
  | agg cs vs cv hn hv h1 hr ih => cases hc with | agg _ h => exact .agg cs vs cv hn hv h1 (fun j x hx => ih j x hx (h x (List.mem_of_getElem? hx)))
  | cnd b x u h k ih => cases hc
  | tuple cs vs cv hn hv hr ih => cases hc with | tuple _ h => exact .tuple cs vs cv hn hv (fun j x hx => ih j x hx (h x (List.mem_of_getElem? hx)))

theorem Rep.less {w : World} {E E' : Ghost} {S : Nat → Prop} (hS : ∀ id, S id → E'.used id ∧ E'.blk id = E.blk id ∧ E'.on id = E.on id ∧ E'.ov id = E.ov id ∧ E'.osz id = E.osz id) (hI : E'.imm = E.imm) {x y : AV} {v : Value} (h : Rep w E x v) (hl : Less S x y) : Rep w E' y v := by
  cases hl with
  | any => exact .any v
  | same _ hc => exact h.shrink hS hI hc
  | own id xs => exact .pv _ _ (by rw [hI]; exact h.plain_list)
  | e0 => exact .pv _ _ (by rw [hI]; exact listOf_rep (x := .e0) rfl h)

/-- Fewer objects, each naming no others. -/
def FewerObj (S : Nat → Prop) : AObj → Prop
  | .box t cs => ∀ x ∈ cs, Closed S x
  | _ => True

/-- From one state to one of which less is said. -/
structure Weaker (p : Nat → Prop) (env : Env) (σ : St) (env' : Env) (σ' : St) : Prop where
  env : ∀ t, Less (fun id => (σ' id).isSome = true) (env t) (env' t)
  sub : ∀ id o, σ' id = some o → σ id = some o ∧ FewerObj (fun id => (σ' id).isSome = true) o
  kept : ∀ id, p id → (σ id).isSome = true → (σ' id).isSome = true

/-- **Going through code**, from a list of what is still to be done, to a return. 'p': the objects that are never let go; N: the frame's slots. -/
inductive AWS (P : Program) (N : Nat) (p : Nat → Prop) (Post : Env → St → Prop) : List Item → Env → St → Prop where
  | ret {k : List Item} {env : Env} {σ : St} (h : Post env σ) : AWS P N p Post (.code .ret :: k) env σ
  | fin {env : Env} {σ : St} (h : Post env σ) : AWS P N p Post [] env σ
  | skip {k : List Item} {env : Env} {σ : St} (h : AWS P N p Post k env σ) : AWS P N p Post (.code .skip :: k) env σ
  | label {k : List Item} {env : Env} {σ : St} {l : Nat} (h : AWS P N p Post k env σ) : AWS P N p Post (.code (.label l) :: k) env σ
  | inBlock {k : List Item} {env : Env} {σ : St} {id : Nat} (h : AWS P N p Post k env σ) : AWS P N p Post (.inBlock id :: k) env σ
  | inScope {k : List Item} {env : Env} {σ : St} {c : Code} (h : AWS P N p Post k env σ) : AWS P N p Post (.inScope c :: k) env σ
  | seq {k : List Item} {env : Env} {σ : St} {x y : Code} (h : AWS P N p Post (.code x :: .code y :: k) env σ) : AWS P N p Post (.code (.seq x y) :: k) env σ
  | cond {k : List Item} {env : Env} {σ : St} {c : Operand} {x y : Code} (t : Bool) (hc : ev env c = .pv (.lit (.bool t))) (h : AWS P N p Post (.code (if t = true then x else y) :: k) env σ) : AWS P N p Post (.code (.cond c x y) :: k) env σ
  | block {k : List Item} {env : Env} {σ : St} {id : Nat} {c : Code} (h : AWS P N p Post (.code c :: .inBlock id :: k) env σ) : AWS P N p Post (.code (.block id c) :: k) env σ
  | scope {k : List Item} {env : Env} {σ : St} {c : Code} (h : AWS P N p Post (.code c :: .inScope c :: k) env σ) : AWS P N p Post (.code (.scope c) :: k) env σ
  | loop {k : List Item} {env : Env} {σ : St} {c : Code} (h : AWS P N p Post (.code c :: .inLoop c :: k) env σ) : AWS P N p Post (.code (.loop c) :: k) env σ
  | inLoop {k : List Item} {env : Env} {σ : St} {c : Code} (h : AWS P N p Post (.code c :: .inLoop c :: k) env σ) : AWS P N p Post (.inLoop c :: k) env σ
  | exit {k k' : List Item} {env : Env} {σ : St} {id : Nat} (hk : exitTo id k = some k') (h : AWS P N p Post k' env σ) : AWS P N p Post (.code (.exit id) :: k) env σ
  | goto {k k' : List Item} {env : Env} {σ : St} {l : Nat} (hk : gotoIn l k = some k') (h : AWS P N p Post k' env σ) : AWS P N p Post (.code (.goto l) :: k) env σ
  | region {k : List Item} {env : Env} {σ : St} {id : Nat} {draw : Bool} {ops : Array Oper} (pc : Op → Bool) (M : Env → St → Prop) (hok : regOk N pc draw ops = true) (h : regK P pc ops (List.range ops.size) env σ M) (hk : ∀ env' σ', M env' σ' → AWS P N p Post k env' σ') :
      AWS P N p Post (.code (.region id ops draw) :: k) env σ
  | weaken {k : List Item} {env env' : Env} {σ σ' : St} (hw : Weaker p env σ env' σ') (h : AWS P N p Post k env' σ') : AWS P N p Post k env σ
  | forget {k : List Item} {env env' : Env} {σ : St} (hw : ∀ t, env' t = env t ∨ env' t = .any) (h : AWS P N p Post k env' σ) : AWS P N p Post k env σ
  | own0 {k : List Item} {env : Env} {σ : St} (id t : Nat) (e : TypeId) (sz : Nat) (hid : σ id = none) (h0 : env t = .e0) (h : AWS P N p Post k (env.put (some t) (.own id [])) (σ.set id (.tok e sz 0))) : AWS P N p Post k env σ
  | ownB {k : List Item} {env : Env} {σ : St} (id ob c : Nat) (t e : TypeId) (sz : Nat) (cs : List AV) (hid : σ id = none) (hob : σ ob = some (.box t cs)) (hc : cs[c]? = some .e0) (h : AWS P N p Post k env ((σ.set id (.tok e sz 0)).set ob (.box t (cs.set c (.own id []))))) : AWS P N p Post k env σ

/-- What is so of the objects in 'p' from one moment to a later one, and of what turns no more. -/
structure Flow (p : Nat → Prop) (w : World) (E : Ghost) (w' : World) (E' : Ghost) : Prop where
  base : E'.base = E.base
  keeps : Keeps w E.imm w' E'.imm
  new : ∀ b o, E'.imm b o → E.imm b o ∨ E.base ≤ b
  used : ∀ id, p id → E.used id → E'.used id
  blk : ∀ id, p id → E.used id → E'.blk id = E.blk id
  on : ∀ id, p id → E.used id → E.on id ≤ E'.on id
  ov : ∀ id, p id → E.used id → E'.on id = E.on id → E'.ov id = E.ov id
  osz : ∀ id, p id → E.used id → E'.osz id = E.osz id

theorem Flow.refl (p : Nat → Prop) (w : World) (E : Ghost) : Flow p w E w E := ⟨rfl, .refl _ _, fun _ _ h => .inl h, fun _ _ h => h, fun _ _ _ => rfl, fun _ _ _ => Nat.le_refl _, fun _ _ _ _ => rfl, fun _ _ _ => rfl⟩
theorem Later.flow {p : Nat → Prop} {w w' : World} {E E' : Ghost} (h : Later w E w' E') : Flow p w E w' E' :=
  ⟨h.base, h.keeps, h.new, fun id _ => h.used id, fun id _ => h.blk id, fun id _ => h.on id, fun id _ => h.ov id, fun id _ => h.osz id⟩
theorem Flow.trans {p : Nat → Prop} {w w1 w2 : World} {E E1 E2 : Ghost} (h : Flow p w E w1 E1) (k : Flow p w1 E1 w2 E2) : Flow p w E w2 E2 := by
  refine ⟨k.base.trans h.base, h.keeps.trans k.keeps, fun b o hb => ?_, fun id hp hu => k.used id hp (h.used id hp hu), fun id hp hu => (k.blk id hp (h.used id hp hu)).trans (h.blk id hp hu),
    fun id hp hu => Nat.le_trans (h.on id hp hu) (k.on id hp (h.used id hp hu)), fun id hp hu he => ?_, fun id hp hu => (k.osz id hp (h.used id hp hu)).trans (h.osz id hp hu)⟩
  · rcases k.new b o hb with h1 | h1
    · exact h.new b o h1
    · exact .inr (by rw [← h.base]; exact h1)
  · have h1 := h.on id hp hu
    have h2 := k.on id hp (h.used id hp hu)
    exact (k.ov id hp (h.used id hp hu) (by omega)).trans (h.ov id hp hu (by omega))

section
variable {P : Program} {N : Nat} {p : Nat → Prop} {Post : Env → St → Prop}

theorem weaken_holds {w0 w : World} {E : Ghost} {env env' : Env} {σ σ' : St} {a : Act} (hw : Weaker p env σ env' σ') (he : EnvRep w E env a) (hh : Holds E σ w0 w) :
    ∃ E', EnvRep w E' env' a ∧ Holds E' σ' w0 w ∧ Flow p w E w E' := by
  let E' : Ghost := { E with used := fun id => (σ' id).isSome = true }
  have hS : ∀ id, (σ' id).isSome = true → E'.used id ∧ E'.blk id = E.blk id ∧ E'.on id = E.on id ∧ E'.ov id = E.ov id ∧ E'.osz id = E.osz id := fun id h => ⟨h, rfl, rfl, rfl, rfl⟩
  refine ⟨E', fun t => (he t).less hS rfl (hw.env t), ⟨hh.glob, hh.rows, hh.below, hh.base, fun id => Iff.rfl, fun id o ho => ?_, fun id id' o o' b ho ho' h1 h2 => ?_, fun b o hi => ?_⟩, ⟨rfl, .refl _ _, fun _ _ h => .inl h, fun id hp hu => hw.kept id hp ((hh.used id).1 hu), fun _ _ _ => rfl, fun _ _ _ => Nat.le_refl _, fun _ _ _ _ => rfl, fun _ _ _ => rfl⟩⟩
  · obtain ⟨ho', hf⟩ := hw.sub id o ho
    have := hh.obj id o ho'
    cases o with
    | dead => trivial
    | box t cs =>
      obtain ⟨h1, vs, h2, h3, h4⟩ := this
      refine ⟨h1, vs, h2, h3, fun j x hx => ?_⟩
      obtain ⟨v, hv, ho1, hr⟩ := h4 j x hx
      exact ⟨v, hv, ho1, hr.shrink hS rfl (hf x (List.mem_of_getElem? hx))⟩
    | tok e sz n => exact this
    | siter s pos => exact this
    | map xs => exact this
  · have e : ∀ id o, blockOf E' id o = blockOf E id o := fun id o => by cases o <;> rfl
    rw [e] at h1 h2
    exact hh.inj id id' o o' b (hw.sub id o ho).1 (hw.sub id' o' ho').1 h1 h2
  · have e : ∀ id o, blockOf E' id o = blockOf E id o := fun id o => by cases o <;> rfl
    obtain ⟨h1, h2⟩ := hh.imm b o hi
    exact ⟨h1, fun id x hx hb => h2 id x (hw.sub id x hx).1 (by rw [← e]; exact hb)⟩

/-- **What is gone through here is gone through in the model.** -/
theorem AWS.sound (hm : P.follows .mixedOrders = true) {k : List Item} {env : Env} {σ : St} (h : AWS P N p Post k env σ) :
    ∀ (b : Frame) (cs : List Frame) (a : Act) (w0 w : World) (E : Ghost), a.tmps.size = N → a.defers = [] → EnvRep w E env a → Holds E σ w0 w →
      ∃ a' w' todo env' σ' E', Steps P (lone (b.at a k) cs w) (lone { b.at a' todo with mode := .returning } cs w') ∧ a'.defers = [] ∧ EnvRep w' E' env' a' ∧ Holds E' σ' w0 w' ∧ Flow p w E w' E' ∧ Post env' σ' := by
  induction h with
  | @ret k env σ h => intro b cs a w0 w E hs hd he hh; exact ⟨a, w, _, env, σ, E, .one step_ret, hd, he, hh, .refl _ _ _, h⟩
  | @fin env σ h => intro b cs a w0 w E hs hd he hh; exact ⟨a, w, _, env, σ, E, .one step_end, hd, he, hh, .refl _ _ _, h⟩
  | skip h ih => intro b cs a w0 w E hs hd he hh; obtain ⟨a', w', t, e', s', E', h1, h2⟩ := ih b cs a w0 w E hs hd he hh; exact ⟨a', w', t, e', s', E', .head step_skip h1, h2⟩
  | label h ih => intro b cs a w0 w E hs hd he hh; obtain ⟨a', w', t, e', s', E', h1, h2⟩ := ih b cs a w0 w E hs hd he hh; exact ⟨a', w', t, e', s', E', .head step_label h1, h2⟩
  | inBlock h ih => intro b cs a w0 w E hs hd he hh; obtain ⟨a', w', t, e', s', E', h1, h2⟩ := ih b cs a w0 w E hs hd he hh; exact ⟨a', w', t, e', s', E', .head step_inBlock h1, h2⟩
  | inScope h ih => intro b cs a w0 w E hs hd he hh; obtain ⟨a', w', t, e', s', E', h1, h2⟩ := ih b cs a w0 w E hs hd he hh; exact ⟨a', w', t, e', s', E', .head step_inScope h1, h2⟩
  | seq h ih => intro b cs a w0 w E hs hd he hh; obtain ⟨a', w', t, e', s', E', h1, h2⟩ := ih b cs a w0 w E hs hd he hh; exact ⟨a', w', t, e', s', E', .head step_seq h1, h2⟩
  | @cond k env σ c x y t hc h ih =>
    intro b cs a w0 w E hs hd he hh
    obtain ⟨a', w', t', e', s', E', h1, h2⟩ := ih b cs a w0 w E hs hd he hh
    have hv : a.eval c = .bool t := (hc ▸ he.ev c).lit_eq
    exact ⟨a', w', t', e', s', E', .head (step_cond hv) h1, h2⟩
  | block h ih => intro b cs a w0 w E hs hd he hh; obtain ⟨a', w', t, e', s', E', h1, h2⟩ := ih b cs a w0 w E hs hd he hh; exact ⟨a', w', t, e', s', E', .head step_block h1, h2⟩
  | scope h ih => intro b cs a w0 w E hs hd he hh; obtain ⟨a', w', t, e', s', E', h1, h2⟩ := ih b cs a w0 w E hs hd he hh; exact ⟨a', w', t, e', s', E', .head step_scope h1, h2⟩
  | loop h ih => intro b cs a w0 w E hs hd he hh; obtain ⟨a', w', t, e', s', E', h1, h2⟩ := ih b cs a w0 w E hs hd he hh; exact ⟨a', w', t, e', s', E', .head step_loop h1, h2⟩
  | inLoop h ih => intro b cs a w0 w E hs hd he hh; obtain ⟨a', w', t, e', s', E', h1, h2⟩ := ih b cs a w0 w E hs hd he hh; exact ⟨a', w', t, e', s', E', .head step_inLoop h1, h2⟩
  | exit hk h ih => intro b cs a w0 w E hs hd he hh; obtain ⟨a', w', t, e', s', E', h1, h2⟩ := ih b cs a w0 w E hs hd he hh; exact ⟨a', w', t, e', s', E', .head (step_exit hk) h1, h2⟩
  | goto hk h ih => intro b cs a w0 w E hs hd he hh; obtain ⟨a', w', t, e', s', E', h1, h2⟩ := ih b cs a w0 w E hs hd he hh; exact ⟨a', w', t, e', s', E', .head (step_goto hk) h1, h2⟩
  | @region k env σ id draw ops pc M hok h hk ih =>
    intro b cs a w0 w E hs hd he hh
    obtain ⟨e, a1, w1, ⟨rfl, hd1, hs1, env1, σ1, E1, he1, hh1, hl1, hM⟩, harr⟩ := region_ok (id := id) hm hok hs he hh h b k cs
    obtain ⟨a', w', t, e', s', E', h1, h2, h3, h4, h5, h6⟩ := ih env1 σ1 hM b cs a1 w0 w1 E1 hs1 (hd1.trans hd) he1 hh1
    exact ⟨a', w', t, e', s', E', Steps.trans harr h1, h2, h3, h4, hl1.flow.trans h5, h6⟩
  | @weaken k env env' σ σ' hw h ih =>
    intro b cs a w0 w E hs hd he hh
    obtain ⟨E1, he1, hh1, hf⟩ := weaken_holds hw he hh
    obtain ⟨a', w', t, e', s', E', h1, h2, h3, h4, h5, h6⟩ := ih b cs a w0 w E1 hs hd he1 hh1
    exact ⟨a', w', t, e', s', E', h1, h2, h3, h4, hf.trans h5, h6⟩
  | @forget k env env' σ hw h ih =>
    intro b cs a w0 w E hs hd he hh
    refine ih b cs a w0 w E hs hd (fun t => ?_) hh
    rcases hw t with e | e
    · rw [e]; exact he t
    · rw [e]; exact .any _
  | @own0 k env σ id t e sz hid h0 h ih =>
    intro b cs a w0 w E hs hd he hh
    obtain ⟨E1, hh1, hl1, hr1⟩ := hh.tok0 hid e sz
    have he1 : EnvRep w E1 (env.put (some t) (.own id [])) a := fun j => by
      simp only [Env.put]
      split
      · rename_i hj
        subst hj
        have := he j
        rw [h0] at this
        generalize a.tmps.getD j undef = u at this
        cases this
        exact hr1
      · exact (he j).later hl1
    obtain ⟨a', w', t', e', s', E', h1, h2, h3, h4, h5, h6⟩ := ih b cs a w0 w E1 hs hd he1 hh1
    exact ⟨a', w', t', e', s', E', h1, h2, h3, h4, hl1.flow.trans h5, h6⟩
  | @ownB k env σ id ob c t e sz cs hid hob hc h ih =>
    intro b cs' a w0 w E hs hd he hh
    obtain ⟨E1, hh1, hl1, hr1⟩ := hh.tok0 hid e sz
    have hne : ob ≠ id := by rintro rfl; rw [hid] at hob; cases hob
    have hob1 : (σ.set id (.tok e sz 0)) ob = some (.box t cs) := by simp [St.set, hne, hob]
    obtain ⟨hb, vs, hheap, hn, hall⟩ := hh1.obj ob _ hob1
    obtain ⟨v, hv, _, hr⟩ := hall c _ hc
    cases hr
    obtain ⟨hh2, hl2⟩ := hh1.write (w1 := w) (o' := .box t (cs.set c (.own id []))) hob1 rfl rfl (by intros; simp) (by intros; simp) ⟨rfl, rfl, rfl⟩ rfl (fun _ _ => rfl) (fun _ => by
      refine ⟨hb, vs, hheap, by simpa using hn, fun j x hx => ?_⟩
      rw [List.getElem?_set] at hx
      split at hx
      · rename_i hj
        subst hj
        split at hx
        · cases hx
          exact ⟨_, hv, rfl, hr1⟩
        · cases hx
      · exact hall j x hx)
    have he1 : EnvRep w E1 env a := fun j => (he j).later hl1
    obtain ⟨a', w', t', e', s', E', h1, h2, h3, h4, h5, h6⟩ := ih b cs' a w0 w E1 hs hd he1 hh2
    exact ⟨a', w', t', e', s', E', h1, h2, h3, h4, hl1.flow.trans h5, h6⟩

/-! ### What a function hands back -/
def plainOf : AV → Option V
  | .pv x => some x
  | .own _ xs => some (.list xs)
  | .e0 => some (.list [])
  | _ => none

def resOne (P : Program) (env : Env) (σ : St) : ResultVar → Option V
  | .tmp t => plainOf (env t)
  | .cell q ty => match env q, shapeOf P ty with
    | .box id off, some (sz, ag) => match σ id with
      | some (.box _ cs) => if ag then (if off + sz ≤ cs.length then (allPlain ((cs.drop off).take sz)).map .agg else none) else (cs[off]?).bind plainOf
      | _ => none
    | _, _ => none

def resAll (P : Program) (env : Env) (σ : St) : List ResultVar → Option (List V)
  | [] => some []
  | r :: rs => (resOne P env σ r).bind fun x => (resAll P env σ rs).map (x :: ·)

def resOf (P : Program) (rs : List ResultVar) (env : Env) (σ : St) : Option AV :=
  (resAll P env σ rs).map fun
    | [x] => .pv x
    | xs => .tuple (xs.map .pv)

theorem plainOf_rep {w : World} {E : Ghost} {x : AV} {v : Value} {y : V} (hp : plainOf x = some y) (h : Rep w E x v) : RepV w E.imm y v := by
  unfold plainOf at hp
  split at hp
  · cases hp; exact h.ofV
  · cases hp; exact h.plain_list
  · cases hp; exact listOf_rep (x := .e0) rfl h
  · cases hp

theorem resOne_run {w w0 : World} {E : Ghost} {env : Env} {σ : St} {a : Act} (he : EnvRep w E env a) (hh : Holds E σ w0 w) {r : ResultVar} {x : V} (h : resOne P env σ r = some x) :
    ∃ v, (match r with | .tmp t => pure (a.tmps.getD t undef) | .cell q t => do loadVar t (← asAddr (a.tmps.getD q undef)) : Sem Value).run P w = .ok v w ∧ RepV w E.imm x v := by
  cases r with
  | tmp t => exact ⟨_, rfl, plainOf_rep h (he t)⟩
  | cell q ty =>
    simp only [resOne] at h
    split at h
    · rename_i id off sz ag hq hs
      have hr := he q
      rw [hq] at hr
      generalize hgv : a.tmps.getD q undef = u at hr
      cases hr with
      | box id off hused =>
      split at h
      · rename_i t cs hid
        obtain ⟨hb, vs, hheap, hn, hall⟩ := hh.obj id _ hid
        have hcell : ∀ j, w.cell? ⟨E.blk id, j, none⟩ = vs[j]? := fun j => cell_of_row w _ j vs t (0, 0) hheap
        simp only [hgv, asAddr, loadVar, Sem.run_bind, Sem.run_pure, Result.andThen_ok, run_isAgg hs]
        split at h
        · rename_i hag
          subst hag
          split at h
          · rename_i hle
            simp only [Option.map_eq_some_iff] at h
            obtain ⟨xs, hxs, rfl⟩ := h
            have hl := run_loadCells_list (P := P) w ⟨E.blk id, off, none⟩ ((vs.toList.drop off).take sz) (fun j v hj => by
              rw [Addr.add_lit, hcell]
              simp only [List.getElem?_take, List.getElem?_drop, Array.getElem?_toList] at hj
              split at hj
              · exact hj
              · cases hj)
            have hlen : ((vs.toList.drop off).take sz).length = sz := by simp; omega
            rw [hlen] at hl
            have hcr : CellsRep w E ((cs.drop off).take sz) ((vs.toList.drop off).take sz) := ⟨by simp; omega, fun j y hy => by
              simp only [List.getElem?_take, List.getElem?_drop] at hy ⊢
              split at hy
              · rename_i hj
                obtain ⟨v, hv, ho, hr⟩ := hall _ y hy
                exact ⟨v, by rw [if_pos hj]; simpa using hv, ho, hr⟩
              · cases hy⟩
            obtain ⟨h1, h2⟩ := allPlain_rep hxs hcr
            exact ⟨.agg ((vs.toList.drop off).take sz).toArray, by simp [run_sizeOf hs, hl], RepV.agg_mk (by simpa using h1) (fun j x hx => by simpa using h2 j x hx)⟩
          · cases h
        · rename_i hag
          have hag : ag = false := by simpa using hag
          subst hag
          simp only [Option.bind_eq_some_iff] at h
          obtain ⟨y, hy, hp⟩ := h
          obtain ⟨v, hv, ho, hr⟩ := hall off y hy
          exact ⟨v, by simp [hcell, hv], plainOf_rep hp hr⟩
      · cases h
    · cases h

theorem resAll_run {w w0 : World} {E : Ghost} {env : Env} {σ : St} {a : Act} (he : EnvRep w E env a) (hh : Holds E σ w0 w) : ∀ {rs : List ResultVar} {xs : List V}, resAll P env σ rs = some xs →
    ∃ vs : List Value, (rs.mapM fun r => (match r with | .tmp t => pure (a.tmps.getD t undef) | .cell q t => do loadVar t (← asAddr (a.tmps.getD q undef)) : Sem Value)).run P w = .ok vs w ∧ ListRep w E.imm xs vs
  | [], xs, h => by simp [resAll] at h; subst h; exact ⟨[], by simp, rfl, fun j x hx => by simp at hx⟩
  | r :: rs, xs, h => by
    simp only [resAll, Option.bind_eq_some_iff, Option.map_eq_some_iff] at h
    obtain ⟨x, hx, ys, hys, rfl⟩ := h
    obtain ⟨v, hv, hr⟩ := resOne_run he hh hx
    obtain ⟨vs, hvs, h1, h2⟩ := resAll_run he hh hys
    refine ⟨v :: vs, ?_, by simp [h1], fun j y hy => ?_⟩
    · simp only [List.mapM_cons, Sem.run_bind]
      rw [hv]
      simp only [Result.andThen_ok]
      rw [hvs]
      simp
    · cases j with
      | zero => simp at hy; subst hy; exact ⟨v, rfl, hr⟩
      | succ j => simpa using h2 j y (by simpa using hy)

theorem resOf_run {w w0 : World} {E : Ghost} {env : Env} {σ : St} {a : Act} (he : EnvRep w E env a) (hh : Holds E σ w0 w) {fn : Func} {r : AV} (h : resOf P fn.results.toList env σ = some r) :
    ∃ v, (results fn a.tmps).run P w = .ok v w ∧ Rep w (ghost0 E.imm) r v := by
  unfold resOf at h
  simp only [Option.map_eq_some_iff] at h
  obtain ⟨xs, hxs, rfl⟩ := h
  obtain ⟨vs, hvs, h1, h2⟩ := resAll_run (P := P) he hh hxs
  have hrun : (results fn a.tmps).run P w = .ok (if h : vs.toArray.size = 1 then vs.toArray[0] else .tuple vs.toArray) w := by
    unfold results
    simp only [Sem.run_bind]
    have e : (fn.results.mapM fun r => (match r with | .tmp t => pure (a.tmps.getD t undef) | .cell q t => do loadVar t (← asAddr (a.tmps.getD q undef)) : Sem Value)).run P w = .ok vs.toArray w := by
      rw [Array.mapM_eq_mapM_toList]
      simp only [Sem.run_map]
      rw [hvs]
      rfl
    exact (congrArg (fun r : Result (Array Value) => r.andThen fun a w' => Sem.run P (pure (if h : a.size = 1 then a[0] else Value.tuple a)) w') e).trans (by simp)
  refine ⟨_, hrun, ?_⟩
  split
  · rename_i x
    have hl : vs.length = 1 := by simpa using h1
    rw [dif_pos (by simpa using hl)]
    obtain ⟨v, hv, hr⟩ := h2 0 x rfl
    have : vs.toArray[0]'(by simp; omega) = v := by
      have hlt : 0 < vs.length := by omega
      rw [List.getElem?_eq_getElem hlt] at hv
      simpa using hv
    rw [this]
    exact .pv _ _ hr
  · rename_i hne
    have hl : ¬ vs.toArray.size = 1 := by
      intro e
      have : xs.length = 1 := by simp at e; omega
      obtain ⟨x, rfl⟩ := List.length_eq_one_iff.1 this
      exact hne x rfl
    rw [dif_neg hl]
    refine Rep.tuple_mk (by simp [h1]) (fun j y hy => ?_)
    simp only [List.getElem?_map, Option.map_eq_some_iff] at hy
    obtain ⟨z, hz, rfl⟩ := hy
    obtain ⟨v, hv, hr⟩ := h2 j z hz
    exact ⟨v, by simpa using hv, .pv _ _ hr⟩

/-- The environment that a call begins with. -/
def argsEnv (args : List V) : Env := fun t => match args[t]? with
  | some x => .pv x
  | none => .any

/-- **A function that is gone through only computes.** -/
theorem apure_of {f : FuncId} {fn : Func} {c : Code} {args : List V} {r : AV} (hm : P.follows .mixedOrders = true) (hf : P.funcs[f]? = some fn) (hb : fn.body = some c) (hname : hasBody P f = true) (hn : args.length ≤ fn.ntmps)
    (h : AWS P fn.ntmps (fun _ => False) (fun env σ => resOf P fn.results.toList env σ = some r) [.code c] (argsEnv args) (fun _ => none)) : APure P f args r := by
  intro w I us hI hG hR hlen hrep
  refine .inl ⟨hname, fun cs => ?_⟩
  let b : Frame := { (default : Frame) with fn := f, kind := .normal }
  let a0 : Act := { tmps := us.toArray ++ Array.replicate (fn.ntmps - us.toArray.size) undef, defers := [] }
  have henter : Frame.enter P f us.toArray .normal = b.at a0 [.code c] := by
    simp [Frame.enter, Frame.at, hf, hb, b, a0]
  let E : Ghost := { base := w.heap.size, used := fun _ => False, blk := fun _ => 0, ov := fun _ => undef, on := fun _ => 0, osz := fun _ => 0, imm := I }
  have hsz : a0.tmps.size = fn.ntmps := by simp [a0]; omega
  have he : EnvRep w E (argsEnv args) a0 := fun t => by
    unfold argsEnv
    split
    · rename_i x hx
      obtain ⟨u, hu, hr⟩ := hrep t x hx
      have hlt := (List.getElem?_eq_some_iff.1 hu).1
      have : a0.tmps.getD t undef = u := by
        simp only [a0, Array.getD_eq_getD_getElem?]
        rw [Array.getElem?_append_left (by simpa using hlt)]
        simp [hu]
      rw [this]
      exact .pv _ _ hr
    · exact .any _
  have hh : Holds E (fun _ => none) w w := ⟨hG, hR, .refl _ _, Nat.le_refl _, (fun id => by simp [E]), (fun id o ho => by cases ho), (fun id id' o o' b' ho => by cases ho), (fun b' o hi => ⟨hI b' o hi, fun id x hx => by cases hx⟩)⟩
  obtain ⟨a', w', todo, env', σ', E', hs, hd, he', hh', hfl, hpost⟩ := h.sound hm b cs a0 w w E hsz rfl he hh
  rw [← henter] at hs
  obtain ⟨v, hv, hr⟩ := resOf_run he' hh' hpost
  have hbelow : Below w.heap.size w w' := by have := hh'.below; rw [hfl.base] at this; exact this
  refine ⟨.returned v, w', _, ⟨v, rfl, hbelow, hr.ofGhost0 (fun b' o hi => ?_)⟩, hs, rfl, rfl, hd, rfl, fn, hf, hv⟩
  rcases hfl.new b' o hi with h1 | h1
  · exact .inl h1
  · exact .inr ⟨h1, (hh'.imm b' o hi).1⟩
end
end Go.Proofs.YtaahjmkjdcikcaaDoor.AI
