/- A machine of plain values: a region, with or without an order of its own, is in the model what it is here. No program in sight. -/
import Derived.Test.YtaahjmkjdcikcaaDoorP
namespace Go.Proofs.YtaahjmkjdcikcaaDoor.AI
open Go.RowKit
set_option linter.unusedVariables false
set_option linter.unusedSimpArgs false
set_option linter.unusedSectionVars false
variable [Glob]

/-! ### What waits for what -/
/-- The bits of those that one operation waits for. -/
def beforeOne (acc : Array Nat) (o : Oper) : Nat := o.after.foldl (fun s e => if Region.binds .any e then s ||| 2 ^ e.on ||| acc.getD e.on 0 else s) 0

theorem beforeOne_bit {acc : Array Nat} {o : Oper} {i : Nat} (h : (beforeOne acc o).testBit i = true) : ∃ e ∈ o.after, Region.binds .any e = true ∧ (e.on = i ∨ (acc.getD e.on 0).testBit i = true) := by
  unfold beforeOne at h
  rw [← Array.foldl_toList] at h
  have key : ∀ (l : List Edge) (s : Nat), (l.foldl (fun s e => if Region.binds .any e = true then s ||| 2 ^ e.on ||| acc.getD e.on 0 else s) s).testBit i = true → s.testBit i = true ∨ ∃ e ∈ l, Region.binds .any e = true ∧ (e.on = i ∨ (acc.getD e.on 0).testBit i = true) := by
    intro l
    induction l with
    | nil => intro s h; exact .inl h
    | cons e l ih =>
      intro s h
      rw [List.foldl_cons] at h
      rcases ih _ h with h1 | ⟨e', he', h1⟩
      · split at h1
        · rename_i hb
          rw [Nat.testBit_or, Nat.testBit_or, Bool.or_eq_true, Bool.or_eq_true] at h1
          rcases h1 with (h1 | h1) | h1
          · exact .inl h1
          · rw [Nat.testBit_two_pow] at h1
            exact .inr ⟨e, List.mem_cons_self, hb, .inl (by simpa using h1)⟩
          · exact .inr ⟨e, List.mem_cons_self, hb, .inr h1⟩
        · exact .inl h1
      · exact .inr ⟨e', List.mem_cons_of_mem _ he', h1⟩
  rcases key _ _ h with h1 | ⟨e, he, h1⟩
  · simp at h1
  · exact ⟨e, by simpa using he, h1⟩

theorem before_bit (ops : Array Oper) : ∀ (l : List Oper) (acc : Array Nat) (done : List Oper), acc.size = done.length →
    (∀ (j : Nat) o, done[j]? = some o → ∀ i, (acc.getD j 0).testBit i = true → ∃ e ∈ o.after, Region.binds .any e = true ∧ (e.on = i ∨ (acc.getD e.on 0).testBit i = true)) →
    ∀ (j : Nat) o, (done ++ l)[j]? = some o → ∀ i, ((l.foldl (fun acc o => acc.push (beforeOne acc o)) acc).getD j 0).testBit i = true →
      ∃ e ∈ o.after, Region.binds .any e = true ∧ (e.on = i ∨ ((l.foldl (fun acc o => acc.push (beforeOne acc o)) acc).getD e.on 0).testBit i = true)
  | [], acc, done, _, h, j, o, ho, i, hi => h j o (by simpa using ho) i hi
  | o' :: l, acc, done, hs, h, j, o, ho, i, hi => by
    refine before_bit ops l (acc.push (beforeOne acc o')) (done ++ [o']) (by simp [hs]) ?_ j o (by simpa using ho) i hi
    intro j o hj i hi
    have more : ∀ k i, (acc.getD k 0).testBit i = true → ((acc.push (beforeOne acc o')).getD k 0).testBit i = true := fun k i hk => by
      by_cases hlt : k < acc.size
      · simpa [Array.getD_eq_getD_getElem?, Array.getElem?_push_lt hlt, hlt] using hk
      · simp [Array.getD_eq_getD_getElem?, Array.getElem?_eq_none (Nat.not_lt.1 hlt)] at hk
    by_cases hlt : j < done.length
    · rw [List.getElem?_append_left hlt] at hj
      have hi' : (acc.getD j 0).testBit i = true := by
        simpa [Array.getD_eq_getD_getElem?, Array.getElem?_push_lt (show j < acc.size by omega), show j < acc.size by omega] using hi
      obtain ⟨e, he, hb, hor⟩ := h j o hj i hi'
      exact ⟨e, he, hb, hor.imp id (more _ _)⟩
    · have hje : j = done.length := by
        have := (List.getElem?_eq_some_iff.1 hj).1
        simp at this; omega
      subst hje
      have ho' : o' = o := by simpa using hj
      subst ho'
      have hi' : (beforeOne acc o').testBit i = true := by
        simpa [Array.getD_eq_getD_getElem?, ← hs] using hi
      obtain ⟨e, he, hb, hor⟩ := beforeOne_bit hi'
      exact ⟨e, he, hb, hor.imp id (more _ _)⟩

theorem before_spec {ops : Array Oper} {j i : Nat} {o : Oper} (ho : ops[j]? = some o) (h : ((Region.before ops).getD j 0).testBit i = true) :
    ∃ e ∈ o.after, Region.binds .any e = true ∧ (e.on = i ∨ ((Region.before ops).getD e.on 0).testBit i = true) := by
  have e : Region.before ops = ops.toList.foldl (fun acc o => acc.push (beforeOne acc o)) #[] := by
    unfold Region.before
    rw [← Array.foldl_toList]
    rfl
  rw [e] at h ⊢
  exact before_bit ops ops.toList #[] [] rfl (fun j o h => by simp at h) j o (by simpa using ho) i h

/-- May the earlier of two operations be taken behind the later one? -/
def swapOk (pc : Op → Bool) (ops : Array Oper) (i j : Nat) : Bool :=
  match ops[i]?, ops[j]? with
  | some x, some y => x.apart ops y && swapMd (modeOf pc x.op) (modeOf pc y.op)
  | _, _ => true

def drawOk (pc : Op → Bool) (ops : Array Oper) : Bool :=
  let b := Region.before ops
  (List.range ops.size).all fun j => ((ops[j]?).all fun o => o.after.all fun e => !Region.binds .any e || decide (e.on < j)) &&
    (List.range j).all fun i => (b.getD j 0).testBit i || swapOk pc ops i j

def regOk (N : Nat) (pc : Op → Bool) (draw : Bool) (ops : Array Oper) : Bool :=
  (ops.toList.all fun o => match o.dst with | some d => decide (d < N) | none => true) && (!draw || drawOk pc ops)

section
variable {P : Program}

theorem regK_cons_mono {pc : Op → Bool} {ops : Array Oper} {k : Nat} {l l' : List Nat} {K K' : Env → St → Prop} (h : ∀ env σ, regK P pc ops l env σ K → regK P pc ops l' env σ K') {env : Env} {σ : St} (hk : regK P pc ops (k :: l) env σ K) : regK P pc ops (k :: l') env σ K' := by
  simp only [regK] at hk ⊢
  split at hk
  · split at hk
    · exact stepK_mono (fun x σ1 h1 => h _ _ h1) hk
    · exact h _ _ hk
    · exact hk.elim
  · exact hk.elim

theorem regK_front {pc : Op → Bool} {ops : Array Oper} {i : Nat} {l2 : List Nat} {K : Env → St → Prop} : ∀ (l1 : List Nat), (∀ k ∈ l1, swapOk pc ops k i = true) → (∀ k ∈ l1, k < ops.size) → i < ops.size → ∀ env σ, regK P pc ops (l1 ++ i :: l2) env σ K → regK P pc ops (i :: (l1 ++ l2)) env σ K
  | [], _, _, _, env, σ, h => h
  | k :: l1, hs, hlt, hi, env, σ, h => by
    have h1 : regK P pc ops (k :: (i :: (l1 ++ l2))) env σ K := regK_cons_mono (fun env σ h => regK_front l1 (fun k hk => hs k (List.mem_cons_of_mem _ hk)) (fun k hk => hlt k (List.mem_cons_of_mem _ hk)) hi env σ h) h
    have hki := hs k List.mem_cons_self
    have hk := hlt k List.mem_cons_self
    unfold swapOk at hki
    simp only [Array.getElem?_eq_getElem hk, Array.getElem?_eq_getElem hi, Bool.and_eq_true] at hki
    exact regK_swap (Array.getElem?_eq_getElem hk) (Array.getElem?_eq_getElem hi) hki.1 hki.2 h1

/-- The region's end. -/
def RegEnd (N : Nat) (w0 : World) (a0 : Act) (w : World) (E : Ghost) (K : Env → St → Prop) (a : Act) (w1 : World) : Prop :=
  a.defers = a0.defers ∧ a.tmps.size = N ∧ ∃ env σ E1, EnvRep w1 E1 env a ∧ Holds E1 σ w0 w1 ∧ Later w E w1 E1 ∧ K env σ

theorem awant_spec {ops : Array Oper} {env : Env} {a : Act} {w : World} {E : Ghost} {o : Oper} {b : Bool} (he : EnvRep w E env a) (h : awant ops env o = some b) : Region.wanted o (yielded ops a.tmps) = b := by
  unfold awant at h
  unfold Region.wanted
  split at h
  · rename_i hg; rw [hg]; simpa using h
  · rename_i j want hg
    rw [hg]
    simp only
    unfold yielded
    split at h
    · rename_i hd
      rw [hd]
      simp only [Option.bind_none]
      cases h; rfl
    · rename_i d hd
      rw [hd]
      simp only [Option.bind_some]
      have hr := he d
      split at h
      · rename_i b' hb
        rw [hb] at hr
        have hv := hr.lit_eq
        cases ht : a.tmps[d]? with
        | none => simp [Array.getD_eq_getD_getElem?, ht, undef] at hv
        | some v =>
          simp only [Array.getD_eq_getD_getElem?, ht, Option.getD_some] at hv
          subst hv
          simp only [Option.some.injEq] at h
          subst h
          simp
      · rename_i hb
        rw [hb] at hr
        generalize hgv : a.tmps.getD d undef = v at hr
        cases hr
        simp only [Option.some.injEq] at h
        subst h
        cases ht : a.tmps[d]? with
        | none => rfl
        | some v =>
          simp only [Array.getD_eq_getD_getElem?, ht, Option.getD_some] at hgv
          subst hgv
          rfl
      · cases h

/-- One operation of a region, in the model. -/
theorem one_op {N : Nat} {pc : Op → Bool} {ops : Array Oper} {i : Nat} {o : Oper} {a0 a : Act} {w0 wb w : World} {Eb E : Ghost} {env : Env} {σ : St} {l : List Nat} {K : Env → St → Prop} {Q : Exit → Act → World → Prop} {next : Act → World → Prop}
    (ho : ops[i]? = some o) (hN : ∀ d, o.dst = some d → d < N) (hd : a.defers = a0.defers) (hs : a.tmps.size = N) (he : EnvRep w E env a) (hw : Holds E σ w0 w) (hl : Later wb Eb w E) (h : regK P pc ops (i :: l) env σ K)
    (hn : ∀ a1 w1 E1 env1 σ1, a1.defers = a0.defers → a1.tmps.size = N → EnvRep w1 E1 env1 a1 → Holds E1 σ1 w0 w1 → Later wb Eb w1 E1 → regK P pc ops l env1 σ1 K → next a1 w1) : wpOp P ops Q i next a w := by
  unfold wpOp
  simp only [regK, ho] at h ⊢
  have hput : ∀ v, (a.put o.dst v).tmps.size = N ∧ (a.put o.dst v).defers = a0.defers := fun v => by
    cases o.dst with
    | none => exact ⟨hs, hd⟩
    | some d => exact ⟨by simpa [Act.put] using hs, hd⟩
  split at h
  · rename_i hw1
    rw [if_pos (awant_spec he hw1)]
    refine .inl (Oper.wp_mono (fun a1 w1 hh => ?_) (step_ok hw he h Q))
    obtain ⟨v, x, E1, σ1, rfl, h1, h2, h3, h4⟩ := hh
    exact hn _ _ E1 (env.put o.dst x) σ1 (hput v).2 (hput v).1 ((he.later h2).put o.dst h3 (fun t ht => by rw [hs]; exact hN t ht)) h1 (hl.trans h2) h4
  · rename_i hw1
    rw [if_neg (by rw [awant_spec he hw1]; simp)]
    exact hn _ _ E (env.put o.dst .undef) σ (hput _).2 (hput _).1 (he.put o.dst .undef (fun t ht => by rw [hs]; exact hN t ht)) hw hl h
  · exact h.elim

theorem reg_list {N : Nat} {pc : Op → Bool} {ops : Array Oper} {a0 : Act} {w0 wb : World} {Eb : Ghost} {K : Env → St → Prop} {Q : Exit → Act → World → Prop}
    (hN : ∀ (i : Nat) (o : Oper), ops[i]? = some o → ∀ d, o.dst = some d → d < N) (hQ : ∀ a w, RegEnd N w0 a0 wb Eb K a w → Q .normal a w) :
    ∀ (l : List Nat) (a : Act) (w : World) (E : Ghost) (env : Env) (σ : St), a.defers = a0.defers → a.tmps.size = N → EnvRep w E env a → Holds E σ w0 w → Later wb Eb w E → regK P pc ops l env σ K → wpOps P ops Q l a w
  | [], a, w, E, env, σ, hd, hs, he, hw, hl, h => hQ a w ⟨hd, hs, env, σ, E, he, hw, hl, h⟩
  | i :: l, a, w, E, env, σ, hd, hs, he, hw, hl, h => by
    rw [wpOps_cons]
    cases ho : ops[i]? with
    | none => simp only [regK, ho] at h
    | some o => exact one_op ho (hN i o ho) hd hs he hw hl h (fun a1 w1 E1 env1 σ1 h1 h2 h3 h4 h5 h6 => reg_list hN hQ l a1 w1 E1 env1 σ1 h1 h2 h3 h4 h5 h6)

def remOf (n : Nat) (listed : Array Bool) : List Nat := (List.range n).filter fun i => !listed.getD i true

theorem mem_remOf {n i : Nat} {listed : Array Bool} : i ∈ remOf n listed ↔ i < n ∧ listed.getD i true = false := by
  unfold remOf
  rw [List.mem_filter, List.mem_range]
  simp

theorem filter_split {p : Nat → Bool} {i : Nat} : ∀ (l : List Nat), l.Pairwise (· < ·) → i ∈ l → ∃ l1 l2, l = l1 ++ i :: l2 ∧ (∀ k ∈ l1, k < i) ∧ (∀ k ∈ l2, i < k)
  | [], _, h => by cases h
  | x :: l, hp, h => by
    rw [List.pairwise_cons] at hp
    rcases List.mem_cons.1 h with rfl | h
    · exact ⟨[], l, rfl, (fun k hk => by cases hk), hp.1⟩
    · obtain ⟨l1, l2, rfl, h1, h2⟩ := filter_split (p := p) l hp.2 h
      exact ⟨x :: l1, l2, rfl, fun k hk => by
        rcases List.mem_cons.1 hk with rfl | hk
        · exact hp.1 i (by simp)
        · exact h1 k hk, h2⟩

theorem remOf_set {n i : Nat} {listed : Array Bool} {l1 l2 : List Nat} (h : remOf n listed = l1 ++ i :: l2) (h1 : ∀ k ∈ l1, k < i) (h2 : ∀ k ∈ l2, i < k) (hi : i < listed.size) : remOf n (listed.setIfInBounds i true) = l1 ++ l2 := by
  have e : remOf n (listed.setIfInBounds i true) = (remOf n listed).filter (fun k => k != i) := by
    unfold remOf
    rw [List.filter_filter]
    apply List.filter_congr
    intro k hk
    by_cases hki : k = i
    · subst hki
      simp [Array.getD_eq_getD_getElem?, hi]
    · rw [getD_set_ne true (Ne.symm hki)]
      simp [hki]
  rw [e, h, List.filter_append, List.filter_cons]
  simp only [bne_self_eq_false, Bool.false_eq_true, if_false]
  rw [List.filter_eq_self.2 (fun k hk => by have := h1 k hk; simp; omega), List.filter_eq_self.2 (fun k hk => by have := h2 k hk; simp; omega)]

theorem reg_any {N : Nat} {pc : Op → Bool} {ops : Array Oper} {a0 : Act} {w0 wb : World} {Eb : Ghost} {K : Env → St → Prop} {Q : Exit → Act → World → Prop}
    (hN : ∀ (i : Nat) (o : Oper), ops[i]? = some o → ∀ d, o.dst = some d → d < N) (hdr : drawOk pc ops = true) (hQ : ∀ a w, RegEnd N w0 a0 wb Eb K a w → Q .normal a w) :
    ∀ (fuel : Nat) (listed : Array Bool) (a : Act) (w : World) (E : Ghost) (env : Env) (σ : St), listed.size = ops.size → (remOf ops.size listed).length = fuel →
      (∀ j o, ops[j]? = some o → listed.getD j false = true → ∀ e ∈ o.after, Region.binds .any e = true → listed.getD e.on false = true) →
      a.defers = a0.defers → a.tmps.size = N → EnvRep w E env a → Holds E σ w0 w → Later wb Eb w E → regK P pc ops (remOf ops.size listed) env σ K → wpAny P .any ops Q fuel listed a w := by
  have hback : ∀ j o, ops[j]? = some o → ∀ e ∈ o.after, Region.binds .any e = true → e.on < j := by
    intro j o ho e he hb
    unfold drawOk at hdr
    rw [List.all_eq_true] at hdr
    have := hdr j (List.mem_range.2 (Array.getElem?_eq_some_iff.1 ho).1)
    rw [ho, Bool.and_eq_true] at this
    have h1 := this.1
    simp only [Option.all_some] at h1
    rw [Array.all_eq_true'] at h1
    have := h1 e he
    rw [hb] at this
    simpa using this
  have hpair : ∀ i j, i < j → j < ops.size → ((Region.before ops).getD j 0).testBit i = true ∨ swapOk pc ops i j = true := by
    intro i j hij hj
    unfold drawOk at hdr
    rw [List.all_eq_true] at hdr
    have := hdr j (List.mem_range.2 hj)
    rw [Bool.and_eq_true] at this
    have h2 := this.2
    rw [List.all_eq_true] at h2
    simpa using h2 i (List.mem_range.2 hij)
  intro fuel
  induction fuel with
  | zero =>
    intro listed a w E env σ hsz hlen hcl hd hs he hw hl h
    have hnil : remOf ops.size listed = [] := List.eq_nil_of_length_eq_zero hlen
    refine ⟨?_, ?_⟩
    · cases hr : Region.ready .any ops listed with
      | nil => rfl
      | cons i r =>
        have hi : i ∈ Region.ready .any ops listed := by rw [hr]; exact List.mem_cons_self
        obtain ⟨h1, o, ho, _⟩ := mem_ready.1 hi
        have : i ∈ remOf ops.size listed := mem_remOf.2 ⟨(Array.getElem?_eq_some_iff.1 ho).1, h1⟩
        rw [hnil] at this; cases this
    · rw [hnil] at h
      exact hQ a w ⟨hd, hs, env, σ, E, he, hw, hl, h⟩
  | succ fuel ih =>
    intro listed a w E env σ hsz hlen hcl hd hs he hw hl h
    have closed : ∀ j, j < ops.size → (∀ o, ops[j]? = some o → ∀ e ∈ o.after, Region.binds .any e = true → listed.getD e.on false = true) → ∀ i, ((Region.before ops).getD j 0).testBit i = true → listed.getD i false = true := by
      intro j
      induction j using Nat.strongRecOn with
      | _ j ihj =>
        intro hj hall i hi
        have ho := Array.getElem?_eq_getElem hj
        obtain ⟨e, he', hb, hor⟩ := before_spec ho hi
        have h1 := hall _ ho e he' hb
        rcases hor with rfl | hor
        · exact h1
        · have hlt := hback j _ ho e he' hb
          exact ihj e.on hlt (by omega) (fun o ho' => hcl e.on o ho' h1) i hor
    refine ⟨fun hempty => ?_, fun i hi => ?_⟩
    · -- something may come up
      exfalso
      cases hr : remOf ops.size listed with
      | nil => rw [hr] at hlen; simp at hlen
      | cons i r =>
        have hi : i ∈ remOf ops.size listed := by rw [hr]; exact List.mem_cons_self
        obtain ⟨hlt, hun⟩ := mem_remOf.1 hi
        have hmin : ∀ k, k < i → listed.getD k false = true := fun k hk => by
          cases hk' : listed.getD k true with
          | true =>
            have : k < listed.size := by omega
            simpa [Array.getD_eq_getD_getElem?, this] using hk'
          | false =>
            have hm : k ∈ remOf ops.size listed := mem_remOf.2 ⟨by omega, hk'⟩
            have hp : (remOf ops.size listed).Pairwise (· < ·) := List.Pairwise.filter _ List.pairwise_lt_range
            rw [hr] at hm hp
            rw [List.pairwise_cons] at hp
            rcases List.mem_cons.1 hm with e | hm
            · omega
            · have := hp.1 k hm; omega
        have : i ∈ Region.ready .any ops listed := mem_ready.2 ⟨hun, ops[i], Array.getElem?_eq_getElem hlt, fun e he' hb => hmin e.on (hback i _ (Array.getElem?_eq_getElem hlt) e he' hb)⟩
        rw [hempty] at this; cases this
    · obtain ⟨hun, o, ho, hdeps⟩ := mem_ready.1 hi
      have hlt := (Array.getElem?_eq_some_iff.1 ho).1
      have hmem : i ∈ remOf ops.size listed := mem_remOf.2 ⟨hlt, hun⟩
      obtain ⟨l1, l2, heq, h1, h2⟩ := filter_split (p := fun _ => true) _ (List.Pairwise.filter _ List.pairwise_lt_range) hmem
      have heq' : remOf ops.size listed = l1 ++ i :: l2 := heq
      have hsw : ∀ k ∈ l1, swapOk pc ops k i = true := fun k hk => by
        rcases hpair k i (h1 k hk) hlt with hb | hb
        · have := closed i hlt (fun o' ho' => by rw [ho] at ho'; cases ho'; exact hdeps) k hb
          have hk' : k ∈ remOf ops.size listed := by rw [heq']; exact List.mem_append_left _ hk
          have hk2 := (mem_remOf.1 hk').2
          have hks : k < listed.size := by have := (mem_remOf.1 hk').1; omega
          simp only [Array.getD_eq_getD_getElem?, Array.getElem?_eq_getElem hks, Option.getD_some] at this hk2
          rw [this] at hk2; cases hk2
        · exact hb
      rw [heq'] at h
      have hlt1 : ∀ k ∈ l1, k < ops.size := fun k hk => (mem_remOf.1 (by rw [heq']; exact List.mem_append_left _ hk)).1
      have hfront := regK_front l1 hsw hlt1 hlt env σ h
      have hrem := remOf_set heq' h1 h2 (by omega)
      refine one_op ho (hN i o ho) hd hs he hw hl hfront (fun a1 w1 E1 env1 σ1 g1 g2 g3 g4 g5 g6 => ?_)
      refine ih (listed.setIfInBounds i true) a1 w1 E1 env1 σ1 (by simpa using hsz) ?_ (fun j o' ho' hj e he' hb => ?_) g1 g2 g3 g4 g5 (by rw [hrem]; exact g6)
      · rw [hrem]
        have : (l1 ++ i :: l2).length = fuel + 1 := by rw [← heq']; exact hlen
        simp at this ⊢; omega
      · by_cases hji : j = i
        · subst hji
          rw [ho] at ho'; cases ho'
          exact getD_set_true (hdeps e he' hb)
        · have : listed.getD j false = true := by
            simpa [Array.getD_eq_getD_getElem?, Array.getElem?_setIfInBounds_ne (Ne.symm hji)] using hj
          exact getD_set_true (hcl j o' ho' this e he' hb)

/-- **A region.** -/
theorem region_ok {N id : Nat} {pc : Op → Bool} {draw : Bool} {ops : Array Oper} {a : Act} {w0 w : World} {E : Ghost} {env : Env} {σ : St} {K : Env → St → Prop} (hm : P.follows .mixedOrders = true) (hok : regOk N pc draw ops = true)
    (hs : a.tmps.size = N) (he : EnvRep w E env a) (hw : Holds E σ w0 w) (h : regK P pc ops (List.range ops.size) env σ K) :
    (Code.region id ops draw).wp P (fun e a1 w1 => e = .normal ∧ RegEnd N w0 a w E K a1 w1) a w := by
  unfold regOk at hok
  rw [Bool.and_eq_true, List.all_eq_true] at hok
  have hN : ∀ (i : Nat) (o : Oper), ops[i]? = some o → ∀ d, o.dst = some d → d < N := fun i o ho d hd => by
    have := hok.1 o (List.mem_of_getElem? (by simpa using ho))
    rw [hd] at this
    simpa using this
  cases draw with
  | false => exact wp_region (reg_list hN (fun a w h => ⟨rfl, h⟩) _ a w E env σ rfl hs he hw (.refl _ _) h)
  | true =>
    have hdr : drawOk pc ops = true := by simpa using hok.2
    have hb : Below w.heap.size w w.drew := (Below.refl _ _).drew
    have hl : Later w E w.drew E := ⟨rfl, ⟨fun _ _ h => h, fun _ _ _ h => h⟩, fun _ _ h => .inl h, fun _ h => h, fun _ _ => rfl, fun _ _ => Nat.le_refl _, fun _ _ _ => rfl, fun _ _ => rfl⟩
    have hw' : Holds E σ w0 w.drew := ⟨hw.glob.keep hl.keeps, hw.rows, hw.below_of hb, hw.base, hw.used, fun id o ho => (ObjRep.kept (hw.obj id o ho) hl ((hw.used id).2 (by rw [ho]; rfl)) rfl (fun _ _ => rfl)).1, hw.inj, hw.imm⟩
    refine wp_region_any hm (reg_any hN hdr (fun a w h => ⟨rfl, h⟩) _ _ a w.drew E env σ (by simp) ?_ (fun j o ho hj => ?_) rfl hs (he.later hl) hw' hl ?_)
    · have : remOf ops.size (Array.replicate ops.size false) = List.range ops.size := by
        unfold remOf
        rw [List.filter_eq_self]
        intro i hi
        have := List.mem_range.1 hi
        simp [Array.getD_eq_getD_getElem?, this]
      rw [this, List.length_range]
    · have hlt := (Array.getElem?_eq_some_iff.1 ho).1
      simp [Array.getD_eq_getD_getElem?, hlt] at hj
    · have : remOf ops.size (Array.replicate ops.size false) = List.range ops.size := by
        unfold remOf
        rw [List.filter_eq_self]
        intro i hi
        have := List.mem_range.1 hi
        simp [Array.getD_eq_getD_getElem?, this]
      rw [this]; exact h
end
end Go.Proofs.YtaahjmkjdcikcaaDoor.AI
