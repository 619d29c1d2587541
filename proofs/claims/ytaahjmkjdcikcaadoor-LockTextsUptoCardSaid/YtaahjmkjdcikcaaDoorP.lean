/- A machine of plain values: a region's operations, in whatever order they may come up. No program in sight. -/
import Derived.Test.YtaahjmkjdcikcaaDoorO
namespace Go.Proofs.YtaahjmkjdcikcaaDoor.AI
open Go.RowKit
set_option linter.unusedVariables false
set_option linter.unusedSimpArgs false
set_option linter.unusedSectionVars false
variable [Glob]

section
variable {P : Program}

theorem appendK_wit {t : TypeId} {id : Nat} {xs : List V} {σ : St} {y : AV} {K : AV → St → Prop} (h : appendK P t id xs σ y K) : ∃ x σ1, K x σ1 ∧ ∀ K2 : AV → St → Prop, K2 x σ1 → appendK P t id xs σ y K2 := by
  unfold appendK at h
  split at h
  · rename_i e sz n e' sz' b ys h1 h2 h3
    obtain ⟨a, b', c, d⟩ := h
    exact ⟨_, _, d, fun K2 hk => by unfold appendK; simp only [h1, h2, h3]; exact ⟨a, b', c, hk⟩⟩
  · exact h.elim

theorem writeK_wit {o : Oper} {env : Env} {σ : St} {K : AV → St → Prop} (h : writeK P o env σ K) : ∃ x σ1, K x σ1 ∧ ∀ K2 : AV → St → Prop, K2 x σ1 → writeK P o env σ K2 := by
  unfold writeK at h
  split at h
  · rename_i t p x ho
    split at h
    · rename_i id off hp
      split at h
      · rename_i u cs sz ag h1 h2
        obtain ⟨a, b, c, d⟩ := h
        exact ⟨_, _, d, fun K2 hk => by unfold writeK; simp only [ho, hp, h1, h2]; exact ⟨a, b, c, hk⟩⟩
      · exact h.elim
    · exact h.elim
  · rename_i it s ho
    split at h
    · rename_i id hp
      split at h
      · rename_i str pos h1
        obtain ⟨a, h⟩ := h
        split at h
        · rename_i hlt
          exact ⟨_, _, h, fun K2 hk => by unfold writeK; simp only [ho, hp, h1]; exact ⟨a, by rw [if_pos hlt]; exact hk⟩⟩
        · rename_i hlt
          exact ⟨_, _, h, fun K2 hk => by unfold writeK; simp only [ho, hp, h1]; exact ⟨a, by rw [if_neg hlt]; exact hk⟩⟩
      · exact h.elim
    · exact h.elim
  · rename_i c ho
    split at h
    · rename_i hc
      split at h
      · rename_i s y t t' h1 h2
        obtain ⟨a, h⟩ := h
        split at h
        · rename_i id xs hs
          obtain ⟨x, σ1, hk, hw⟩ := appendK_wit h
          exact ⟨x, σ1, hk, fun K2 h3 => by unfold writeK; simp only [ho, hc, h1, h2, hs]; exact ⟨a, hw K2 h3⟩⟩
        · rename_i hs
          split at h
          · rename_i e sz b hel
            obtain ⟨id, hid, h⟩ := h
            obtain ⟨x, σ1, hk, hw⟩ := appendK_wit h
            exact ⟨x, σ1, hk, fun K2 h3 => by unfold writeK; simp only [ho, hc, h1, h2, hs, hel]; exact ⟨a, id, hid, hw K2 h3⟩⟩
          · exact h.elim
        · exact h.elim
      · exact h.elim
    · rename_i f hc
      rcases h with h | h
      · obtain ⟨x, hk, hw⟩ := callG_wit _ _ _ h
        exact ⟨x, σ, hk, fun K2 h3 => by unfold writeK; simp only [ho, hc]; exact .inl (hw _ h3)⟩
      · unfold callE at h
        split at h
        · rename_i g p q hg
          obtain ⟨r, σ', hp, hk⟩ := h
          exact ⟨r, σ', hk, fun K2 h3 => by unfold writeK; simp only [ho, hc]; exact .inr (by unfold callE; simp only [hg]; exact ⟨r, σ', hp, h3⟩)⟩
        · exact h.elim
    · exact h.elim
  · rename_i t x ho
    split at h
    · rename_i id off hx
      split at h
      · rename_i u cs n sz ag hid har
        split at h
        · rename_i vs hvs
          obtain ⟨a, b, c, d, e, f⟩ := h
          exact ⟨_, _, f, fun K2 h3 => by unfold writeK; simp only [ho, hx, hid, har, hvs]; exact ⟨a, b, c, d, e, h3⟩⟩
        · exact h.elim
      · exact h.elim
    · exact h.elim
  · exact h.elim

theorem stepK_wit {pc : Op → Bool} {o : Oper} {env : Env} {σ : St} {K : AV → St → Prop} (h : stepK P pc o env σ K) : ∃ x σ1, K x σ1 ∧ ∀ K2 : AV → St → Prop, K2 x σ1 → stepK P pc o env σ K2 := by
  unfold stepK at h
  split at h
  · rename_i hm
    obtain ⟨x, hk, hw⟩ := gpureP_wit _ _ _ h
    exact ⟨x, σ, hk, fun K2 h2 => by unfold stepK; simp only [hm]; exact hw _ h2⟩
  · rename_i hm
    obtain ⟨x, hk, hw⟩ := loadK_wit _ _ _ _ h
    exact ⟨x, σ, hk, fun K2 h2 => by unfold stepK; simp only [hm]; exact hw _ h2⟩
  · rename_i hm
    obtain ⟨id, hid, h⟩ := h
    obtain ⟨ob, x, hk, hw⟩ := allocK_wit _ _ _ _ h
    exact ⟨x, σ.set id ob, hk, fun K2 h2 => by unfold stepK; simp only [hm]; exact ⟨id, hid, hw (fun ob x => K2 x (σ.set id ob)) h2⟩⟩
  · rename_i hm
    obtain ⟨x, σ1, hk, hw⟩ := writeK_wit h
    exact ⟨x, σ1, hk, fun K2 h2 => by unfold stepK; simp only [hm]; exact hw _ h2⟩
  · rename_i hm
    obtain ⟨x, σ1, hk, hw⟩ := writeK_wit h
    exact ⟨x, σ1, hk, fun K2 h2 => by unfold stepK; simp only [hm]; exact hw _ h2⟩

theorem stepK_load {pc : Op → Bool} {o : Oper} {env : Env} {σ : St} {K : AV → St → Prop} (hm : modeOf pc o.op = .load) : stepK P pc o env σ K = loadK P o env σ fun x => K x σ := by
  unfold stepK; rw [hm]
theorem stepK_alloc {pc : Op → Bool} {o : Oper} {env : Env} {σ : St} {K : AV → St → Prop} (hm : modeOf pc o.op = .alloc) : stepK P pc o env σ K = ∃ id, σ id = none ∧ allocK P o env id fun ob x => K x (σ.set id ob) := by
  unfold stepK; rw [hm]

theorem stepK_mono {pc : Op → Bool} {o : Oper} {env : Env} {σ : St} {K K' : AV → St → Prop} (hk : ∀ x σ1, K x σ1 → K' x σ1) (h : stepK P pc o env σ K) : stepK P pc o env σ K' := by
  obtain ⟨x, σ1, h1, h2⟩ := stepK_wit h
  exact h2 _ (hk _ _ h1)

/-- Is an operation carried out? (Where that is not known: nothing.) -/
def awant (ops : Array Oper) (env : Env) (o : Oper) : Option Bool :=
  match o.guard with
  | none => some true
  | some (j, want) => match (ops[j]?).bind (·.dst) with
    | none => some false
    | some d => match env d with
      | .pv (.lit (.bool b)) => some (b == want)
      | .undef => some false
      | _ => none

/-- The operations of a list, one behind the other. -/
def regK (P : Program) (pc : Op → Bool) (ops : Array Oper) : List Nat → Env → St → (Env → St → Prop) → Prop
  | [], env, σ, K => K env σ
  | i :: l, env, σ, K => match ops[i]? with
    | some o => match awant ops env o with
      | some true => stepK P pc o env σ fun x σ1 => regK P pc ops l (env.put o.dst x) σ1 K
      | some false => regK P pc ops l (env.put o.dst .undef) σ K
      | none => False
    | none => False

def swapMd : Md → Md → Bool
  | .pure, _ | _, .pure | .load, .load | .load, .alloc | .alloc, .alloc | .load, .app | .app, .load => true
  | _, _ => false

theorem put_comm {env : Env} {d e : Option Nat} (x y : AV) (h : ∀ t, d = some t → e ≠ some t) : (env.put d x).put e y = (env.put e y).put d x := by
  cases d with
  | none => rfl
  | some t =>
    cases e with
    | none => rfl
    | some s =>
      have hne : t ≠ s := fun he => h t rfl (by rw [he])
      funext j
      simp only [Env.put]
      by_cases h1 : j = s
      · subst h1; rw [if_pos rfl, if_neg (Ne.symm hne), if_pos rfl]
      · rw [if_neg h1, if_neg h1]

theorem ev_put {env : Env} {d : Option Nat} {x : AV} {y : Operand} (h : ∀ t, d = some t → y ≠ .tmp t) : ev (env.put d x) y = ev env y := by
  cases d with
  | none => rfl
  | some t =>
    cases y with
    | tmp s =>
      have : s ≠ t := fun e => h t rfl (by rw [e])
      simp [ev, Env.put, this]
    | _ => rfl

theorem agrees_put {ops : Array Oper} {o : Oper} {env : Env} {d : Option Nat} {x : AV} (h : ∀ t, d = some t → t ∉ o.looksAt ops) : Agrees o (env.put d x) env := fun y hy =>
  ev_put fun t ht e => h t ht (by
    subst e
    unfold Oper.looksAt
    rw [List.mem_append]
    refine .inl ?_
    rw [List.mem_filterMap]
    exact ⟨.tmp t, by simpa using hy, rfl⟩)

theorem awant_put {ops : Array Oper} {o : Oper} {env : Env} {d : Option Nat} {x : AV} (h : ∀ t, d = some t → t ∉ o.looksAt ops) : awant ops (env.put d x) o = awant ops env o := by
  unfold awant
  cases hg : o.guard with
  | none => rfl
  | some gw =>
    obtain ⟨g, w⟩ := gw
    simp only
    cases hd : (ops[g]?).bind (·.dst) with
    | none => rfl
    | some t =>
      simp only
      have : env.put d x t = env t := by
        cases d with
        | none => rfl
        | some s =>
          have hne : t ≠ s := fun e => h s rfl (by
            unfold Oper.looksAt
            rw [List.mem_append]
            exact .inr (by rw [hg]; simp only [hd, ← e]; simp))
          simp [Env.put, hne]
      rw [this]

theorem set_comm {σ : St} {i j : Nat} {x y : AObj} (h : i ≠ j) : (σ.set i x).set j y = (σ.set j y).set i x := by
  funext k
  simp only [St.set]
  by_cases h1 : k = j
  · subst h1; rw [if_pos rfl, if_neg (Ne.symm h), if_pos rfl]
  · rw [if_neg h1, if_neg h1]

theorem loadK_more {o : Oper} {env : Env} {σ : St} {id : Nat} {ob : AObj} {K : AV → Prop} (hid : σ id = none) (h : loadK P o env σ K) : loadK P o env (σ.set id ob) K := by
  unfold loadK at h
  split at h
  · rename_i t x ho
    split at h
    · rename_i id' off hx
      have : id' ≠ id := fun e => by
        subst e
        rw [hid] at h
        exact h
      unfold loadK
      simp only [ho, hx]
      have e1 : (σ.set id ob) id' = σ id' := by simp [St.set, this]
      rw [e1]
      exact h
    · rename_i hx
      unfold loadK
      simp only [ho]
      exact h
  · rename_i ho
    unfold loadK
    split
    · rename_i t x ho'
      exact absurd ho' (ho _ _)
    · exact h

/-- The boxes are as they were. -/
def SameBoxes (σ σ1 : St) : Prop := ∀ b t cs, σ1 b = some (.box t cs) ↔ σ b = some (.box t cs)
theorem SameBoxes.symm {σ σ1 : St} (h : SameBoxes σ σ1) : SameBoxes σ1 σ := fun b t cs => (h b t cs).symm
theorem loadK_boxes {o : Oper} {env : Env} {σ σ1 : St} {K : AV → Prop} (hs : SameBoxes σ σ1) (h : loadK P o env σ K) : loadK P o env σ1 K := by
  unfold loadK at h
  split at h
  · rename_i t x ho
    unfold loadK
    simp only [ho]
    split at h
    · rename_i id' off hx
      split at h
      · rename_i u cs sz ag h1 h2
        have h3 := (hs id' u cs).2 h1
        simp only [hx, h3, h2]
        exact h
      · exact h.elim
    · rename_i hx
      exact h
  · rename_i ho
    unfold loadK
    split
    · rename_i t x ho'
      exact absurd ho' (ho _ _)
    · exact h
theorem SameBoxes.set {σ : St} {id : Nat} {o : AObj} (h : ∀ t cs, σ id ≠ some (.box t cs)) (h' : ∀ t cs, o ≠ .box t cs) : SameBoxes σ (σ.set id o) := fun b t cs => by
  by_cases e : b = id
  · subst e
    simp only [St.set, if_true]
    exact ⟨fun hh => absurd (Option.some.inj hh) (h' _ _), fun hh => absurd hh (h _ _)⟩
  · simp [St.set, e]
theorem SameBoxes.trans {a b c : St} (h : SameBoxes a b) (k : SameBoxes b c) : SameBoxes a c := fun x t cs => (k x t cs).trans (h x t cs)
theorem appendK_boxes {t : TypeId} {id : Nat} {xs : List V} {σ : St} {y : AV} {K : AV → St → Prop} (h : appendK P t id xs σ y K) : ∃ x σ1, K x σ1 ∧ SameBoxes σ σ1 ∧ ∀ K2 : AV → St → Prop, K2 x σ1 → appendK P t id xs σ y K2 := by
  unfold appendK at h
  split at h
  · rename_i e sz n e' sz' b ys h1 h2 h3
    obtain ⟨a, b', c, d⟩ := h
    exact ⟨_, _, d, .set (fun t cs hh => by rw [h1] at hh; cases hh) (fun t cs hh => by cases hh), fun K2 hk => by unfold appendK; simp only [h1, h2, h3]; exact ⟨a, b', c, hk⟩⟩
  · exact h.elim
theorem app_wit {pc : Op → Bool} {o : Oper} {env : Env} {σ : St} {K : AV → St → Prop} (hm : modeOf pc o.op = .app) (h : writeK P o env σ K) : ∃ x σ1, K x σ1 ∧ SameBoxes σ σ1 ∧ ∀ K2 : AV → St → Prop, K2 x σ1 → writeK P o env σ K2 := by
  have hm' := hm
  unfold modeOf at hm
  split at hm <;> first | cases hm | skip
  · rename_i c ho
    split at hm <;> first | cases hm | skip
    · split at hm <;> cases hm
    · rename_i hc
      unfold writeK at h
      simp only [ho, hc] at h
      split at h
      · rename_i s y t t' h1 h2
        obtain ⟨a, h⟩ := h
        split at h
        · rename_i id xs hs
          obtain ⟨x, σ1, hk, hb, hw⟩ := appendK_boxes h
          exact ⟨x, σ1, hk, hb, fun K2 h3 => by unfold writeK; simp only [ho, hc, h1, h2, hs]; exact ⟨a, hw K2 h3⟩⟩
        · rename_i hs
          split at h
          · rename_i e sz b hel
            obtain ⟨id, hid, h⟩ := h
            obtain ⟨x, σ1, hk, hb, hw⟩ := appendK_boxes h
            refine ⟨x, σ1, hk, .trans (.set (fun t cs hh => by rw [hid] at hh; cases hh) (fun t cs hh => by cases hh)) hb, fun K2 h3 => by unfold writeK; simp only [ho, hc, h1, h2, hs, hel]; exact ⟨a, id, hid, hw K2 h3⟩⟩
          · exact h.elim
        · exact h.elim
      · exact h.elim
  · split at hm <;> cases hm
theorem stepK_app {pc : Op → Bool} {o : Oper} {env : Env} {σ : St} {K : AV → St → Prop} (hm : modeOf pc o.op = .app) : stepK P pc o env σ K = writeK P o env σ K := by
  unfold stepK; simp only [hm]

/-- **Two operations that stand side by side, neither of which waits for the other, may change places.** -/
theorem regK_swap {pc : Op → Bool} {ops : Array Oper} {i j : Nat} {oi oj : Oper} (hi : ops[i]? = some oi) (hj : ops[j]? = some oj) (hap : oi.apart ops oj = true) (hmd : swapMd (modeOf pc oi.op) (modeOf pc oj.op) = true)
    {l : List Nat} {env : Env} {σ : St} {K : Env → St → Prop} (h : regK P pc ops (i :: j :: l) env σ K) : regK P pc ops (j :: i :: l) env σ K := by
  obtain ⟨a1, a2, a3⟩ := Oper.apart_spec hap
  have wj : ∀ x, awant ops (env.put oi.dst x) oj = awant ops env oj := fun x => awant_put a1
  have wi : ∀ y, awant ops (env.put oj.dst y) oi = awant ops env oi := fun y => awant_put a3
  have gj : ∀ x, Agrees oj (env.put oi.dst x) env := fun x => agrees_put a1
  have gi : ∀ y, Agrees oi (env.put oj.dst y) env := fun y => agrees_put a3
  have hc : ∀ x y, (env.put oi.dst x).put oj.dst y = (env.put oj.dst y).put oi.dst x := fun x y => put_comm x y a2
  simp only [regK, hi, hj] at h ⊢
  cases hwi : awant ops env oi with
  | none => simp only [hwi] at h
  | some bi =>
    simp only [hwi] at h
    cases hwj : awant ops env oj with
    | none =>
      exfalso
      cases bi with
      | true => obtain ⟨x, σ1, h1, _⟩ := stepK_wit h; simp only [wj, hwj] at h1
      | false => simp only [wj, hwj] at h
    | some bj =>
      simp only [wj, hwj] at h
      simp only [wi, hwi]
      cases bi with
      | false =>
        cases bj with
        | false => simpa only [hc] using h
        | true =>
          simp only at h ⊢
          rw [stepK_agree (gj _)] at h
          exact stepK_mono (fun y σ1 h1 => by simpa only [hc] using h1) h
      | true =>
        cases bj with
        | false =>
          simp only at h ⊢
          rw [stepK_agree (gi _)]
          exact stepK_mono (fun x σ1 h1 => by simpa only [hc] using h1) h
        | true =>
          simp only at h ⊢
          obtain ⟨x, σ1, h1, h2⟩ := stepK_wit h
          rw [stepK_agree (gj _)] at h1
          obtain ⟨y, σ2, h3, h4⟩ := stepK_wit h1
          -- what either of them does, by its kind
          have pureOf : ∀ {o : Oper} {σ : St} {K : AV → St → Prop}, modeOf pc o.op = .pure → stepK P pc o env σ K → ∃ x, K x σ ∧ ∀ (σ' : St) (K2 : AV → St → Prop), K2 x σ' → stepK P pc o env σ' K2 := by
            intro o σ K hm h
            unfold stepK at h
            simp only [hm] at h
            obtain ⟨x, hx, hw⟩ := gpureP_wit _ _ _ h
            exact ⟨x, hx, fun σ' K2 hk => by unfold stepK; simp only [hm]; exact hw (fun x => K2 x σ') hk⟩
          by_cases hpi : modeOf pc oi.op = .pure
          · obtain ⟨x', h5, h6⟩ := pureOf hpi h
            rw [stepK_agree (gj _)] at h5
            refine stepK_mono (fun y σ2 h7 => ?_) h5
            rw [stepK_agree (gi _)]
            exact h6 _ _ (by simpa only [hc] using h7)
          · by_cases hpj : modeOf pc oj.op = .pure
            · obtain ⟨y', h5, h6⟩ := pureOf hpj h1
              refine h6 σ _ ?_
              rw [stepK_agree (gi _)]
              exact h2 _ (by simpa only [hc] using h5)
            · -- loads and new objects
              cases hmi : modeOf pc oi.op with
              | pure => exact absurd hmi hpi
              | app =>
                have hmj : modeOf pc oj.op = .load := by
                  rw [hmi] at hmd; cases hmj : modeOf pc oj.op <;> rw [hmj] at hmd <;> first | rfl | exact absurd hmj hpj | cases hmd
                rw [stepK_app hmi] at h
                obtain ⟨x', σ', h5, hbx, h6⟩ := app_wit hmi h
                rw [stepK_agree (gj _), stepK_load hmj] at h5
                obtain ⟨y', h7, h8⟩ := loadK_wit _ _ _ _ h5
                rw [stepK_load hmj]
                refine loadK_boxes hbx.symm (h8 _ ?_)
                rw [stepK_agree (gi _), stepK_app hmi]
                exact h6 _ (by simpa only [hc] using h7)
              | write => rw [hmi] at hmd; cases hmj : modeOf pc oj.op <;> rw [hmj] at hmd <;> first | exact absurd hmj hpj | cases hmd
              | load =>
                rw [stepK_load hmi] at h
                obtain ⟨x', h5, h6⟩ := loadK_wit _ _ _ _ h
                rw [stepK_agree (gj _)] at h5
                cases hmj : modeOf pc oj.op with
                | pure => exact absurd hmj hpj
                | write => rw [hmi, hmj] at hmd; cases hmd
                | app =>
                  rw [stepK_app hmj] at h5 ⊢
                  obtain ⟨y', σ', h7, hbx, h8⟩ := app_wit hmj h5
                  refine h8 _ ?_
                  rw [stepK_agree (gi _), stepK_load hmi]
                  exact loadK_boxes hbx (h6 (fun x => regK P pc ops l ((env.put oj.dst y').put oi.dst x) σ' K) (by simpa only [hc] using h7))
                | load =>
                  rw [stepK_load hmj] at h5 ⊢
                  obtain ⟨y', h7, h8⟩ := loadK_wit _ _ _ _ h5
                  refine h8 _ ?_
                  rw [stepK_agree (gi _), stepK_load hmi]
                  exact h6 (fun x => regK P pc ops l ((env.put oj.dst y').put oi.dst x) σ K) (by simpa only [hc] using h7)
                | alloc =>
                  rw [stepK_alloc hmj] at h5 ⊢
                  obtain ⟨id, hid, h7⟩ := h5
                  obtain ⟨ob, y', h8, h9⟩ := allocK_wit _ _ _ _ h7
                  refine ⟨id, hid, h9 (fun ob x => stepK P pc oi (env.put oj.dst x) (σ.set id ob) fun x_1 σ1 => regK P pc ops l ((env.put oj.dst x).put oi.dst x_1) σ1 K) ?_⟩
                  rw [stepK_agree (gi _), stepK_load hmi]
                  exact loadK_more hid (h6 (fun x => regK P pc ops l ((env.put oj.dst y').put oi.dst x) (σ.set id ob) K) (by simpa only [hc] using h8))
              | alloc =>
                cases hmj : modeOf pc oj.op with
                | pure => exact absurd hmj hpj
                | write => rw [hmi, hmj] at hmd; cases hmd
                | app => rw [hmi, hmj] at hmd; cases hmd
                | load => rw [hmi, hmj] at hmd; cases hmd
                | alloc =>
                  rw [stepK_alloc hmi] at h
                  obtain ⟨id, hid, h5⟩ := h
                  obtain ⟨ob, x', h6, h7⟩ := allocK_wit _ _ _ _ h5
                  rw [stepK_agree (gj _), stepK_alloc hmj] at h6
                  rw [stepK_alloc hmj]
                  obtain ⟨id', hid', h8⟩ := h6
                  obtain ⟨ob', y', h9, h10⟩ := allocK_wit _ _ _ _ h8
                  have hne : id ≠ id' := fun e => by subst e; simp [St.set] at hid'
                  have hσ : σ id' = none := by simpa [St.set, Ne.symm hne] using hid'
                  refine ⟨id', hσ, h10 (fun ob x => stepK P pc oi (env.put oj.dst x) (σ.set id' ob) fun x_1 σ1 => regK P pc ops l ((env.put oj.dst x).put oi.dst x_1) σ1 K) ?_⟩
                  rw [stepK_agree (gi _), stepK_alloc hmi]
                  refine ⟨id, by simpa [St.set, hne] using hid, h7 (fun ob x => regK P pc ops l ((env.put oj.dst y').put oi.dst x) ((σ.set id' ob').set id ob) K) ?_⟩
                  rw [← set_comm hne, ← hc]
                  exact h9
end
end Go.Proofs.YtaahjmkjdcikcaaDoor.AI
