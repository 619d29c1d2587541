/- A machine of plain values: an operation's answer, by itself; two operations that may change places. No program in sight. -/
import Derived.Test.YtaahjmkjdcikcaaDoorN
import Derived.Orders
namespace Go.Proofs.YtaahjmkjdcikcaaDoor.AI
open Go.RowKit
set_option linter.unusedVariables false
set_option linter.unusedSimpArgs false
set_option linter.unusedSectionVars false
variable [Glob]

/-- What is said of answers is said of one answer. -/
def Wit {α : Type} (F : (α → Prop) → Prop) : Prop := ∀ K, F K → ∃ x, K x ∧ ∀ K2 : α → Prop, K2 x → F K2

section
variable {α β : Type}
theorem Wit.one (x : α) : Wit (fun K => K x) := fun K h => ⟨x, h, fun _ h => h⟩
theorem Wit.no : Wit (fun _ : α → Prop => False) := fun _ h => h.elim
theorem Wit.and {p : Prop} {F : (α → Prop) → Prop} (h : Wit F) : Wit (fun K => p ∧ F K) := fun K ⟨hp, hF⟩ => by
  obtain ⟨x, h1, h2⟩ := h K hF
  exact ⟨x, h1, fun K2 h3 => ⟨hp, h2 K2 h3⟩⟩
theorem Wit.map {F : (α → Prop) → Prop} (g : α → β) (h : Wit F) : Wit (fun K : β → Prop => F fun x => K (g x)) := fun K hF => by
  obtain ⟨x, h1, h2⟩ := h _ hF
  exact ⟨g x, h1, fun K2 h3 => h2 _ h3⟩
theorem Wit.ite {c : Prop} [Decidable c] {F G : (α → Prop) → Prop} (h : Wit F) (k : Wit G) : Wit (fun K => if c then F K else G K) := by
  by_cases hc : c
  · simpa [hc] using h
  · simpa [hc] using k
theorem Wit.ex {γ : Type} {F : γ → (α → Prop) → Prop} (h : ∀ c, Wit (F c)) : Wit (fun K => ∃ c, F c K) := fun K ⟨c, hF⟩ => by
  obtain ⟨x, h1, h2⟩ := h c K hF
  exact ⟨x, h1, fun K2 h3 => ⟨c, h2 K2 h3⟩⟩
theorem Wit.bind {F : (α → Prop) → Prop} {G : α → (β → Prop) → Prop} (h : Wit F) (k : ∀ x, Wit (G x)) : Wit (fun K => F fun x => G x K) := fun K hF => by
  obtain ⟨x, h1, h2⟩ := h _ hF
  obtain ⟨y, h3, h4⟩ := k x K h1
  exact ⟨y, h3, fun K2 h5 => h2 _ (h4 K2 h5)⟩
end

section
variable {P : Program}
theorem binP_wit (op : BinOp) (t : TypeId) (x y : Value) : Wit (binP P op t x y) := by
  unfold binP
  split
  · split <;> first | exact .and (.one _) | exact .and (.and (.one _))
  · split <;> first | exact .and (.one _) | exact .one _ | exact .no
  · split <;> first | exact .and (.one _) | exact .no
  · exact .no
theorem partP_wit (cs : List V) (off sz : Nat) (ag : Bool) : Wit (partP cs off sz ag) := by
  unfold partP
  refine .ite (.and (.one _)) ?_
  split
  · exact .one _
  · exact .no
theorem partA_wit (cs : List AV) (off sz : Nat) (ag : Bool) : Wit (partA cs off sz ag) := by
  unfold partA
  refine .ite (.and (.one _)) ?_
  split
  · exact .one _
  · exact .no
theorem convP_wit (s d : TypeId) (x : AV) : Wit (convP P s d x) := by
  unfold convP
  split
  · split
    · exact .and (.one _)
    · exact .and (.and (.one _))
  · exact .and (.and (.one _))
  · exact .no
theorem unP_wit (op : UnOp) (x : AV) : Wit (unP op x) := by
  unfold unP
  split
  · exact .one _
  · exact .one _
  · exact .no
theorem fieldP_wit (t : TypeId) (f : Nat) (x : AV) : Wit (fieldP P t f x) := by
  unfold fieldP
  split
  · exact partP_wit _ _ _ _
  · exact partA_wit _ _ _ _
  · exact .no
theorem fieldAddrP_wit (t : TypeId) (f : Nat) (x : AV) : Wit (fieldAddrP P t f x) := by
  unfold fieldAddrP
  split
  · exact .and (.one _)
  · exact .and (.one _)
  · exact .no
theorem indexAddrP_wit (t : TypeId) (x i : AV) : Wit (indexAddrP P t x i) := by
  unfold indexAddrP
  split
  · split
    · split
      · exact .and (.one _)
      · exact .no
    · split
      · exact .and (.and (.one _))
      · exact .no
  · exact .no
theorem indexP_wit (t : TypeId) (x i : AV) : Wit (indexP P t x i) := by
  unfold indexP
  split
  · exact .and (.and (.one _))
  · split
    · exact .and (partP_wit _ _ _ _)
    · exact .no
  · split
    · exact .and (partA_wit _ _ _ _)
    · exact .no
  · exact .no
theorem boundP_wit (n : Nat) (x : Option AV) (d : Nat) : Wit (boundP n x d) := by
  unfold boundP
  split
  · exact .one _
  · exact .and (.one _)
  · exact .no
theorem sliceP_wit (t : TypeId) (x : AV) (lo hi mx : Option AV) : Wit (sliceP P t x lo hi mx) := by
  unfold sliceP
  refine .and ?_
  split
  · exact .and (.bind (boundP_wit _ _ _) fun _ => .map (fun l => AV.pv (.lit (.string (ByteArray.extract _ l _)))) (boundP_wit _ _ _))
  · split
    · exact .and (.bind (boundP_wit _ _ _) fun h => .map (fun l => AV.pv (.list ((List.take h _).drop l))) (boundP_wit _ _ _))
    · exact .no
theorem nilCheckP_wit (x : AV) : Wit (nilCheckP x) := by
  unfold nilCheckP
  split <;> first | exact .one _ | exact .no
theorem lenP_wit (t : TypeId) (x : AV) : Wit (lenP P t x) := by
  unfold lenP
  split
  · exact .and (.one _)
  · split
    · exact .one _
    · exact .no
theorem loadP_wit (t : TypeId) (x : AV) : Wit (loadP P t x) := by
  unfold loadP
  split
  · exact partP_wit _ _ _ _
  · exact .no
theorem pureP_wit (o : Oper) (env : Env) : Wit (pureP P o env) := by
  unfold pureP
  split
  · exact .one _
  · exact .one _
  · split
    · exact .one _
    · exact .no
  · split
    · exact .map _ (binP_wit _ _ _ _)
    · split
      · exact .one _
      · exact .no
    · exact .no
  · exact unP_wit _ _
  · exact convP_wit _ _ _
  · split
    · split
      · exact .one _
      · exact .no
    · exact .no
  · exact fieldP_wit _ _ _
  · exact fieldAddrP_wit _ _ _
  · exact indexAddrP_wit _ _ _
  · exact indexP_wit _ _ _
  · exact sliceP_wit _ _ _ _ _
  · exact nilCheckP_wit _
  · exact loadP_wit _ _
  · exact .one _
  · refine .and ?_
    split
    · exact .one _
    · exact .no
  · split
    · split
      · exact lenP_wit _ _
      · exact .no
    · split
      · split
        · exact .one _
        · exact .no
      · exact .no
    · split
      · split
        · exact .one _
        · exact .no
      · exact .no
    · exact .no
  · exact .no
theorem callG_wit (f : AV) (args : List AV) : Wit (callG P f args) := by
  unfold callG
  split
  · exact .ex fun _ => .ex fun _ => .and (.and (.one _))
  · exact .no
theorem convG_wit (s d : TypeId) (x : AV) : Wit (convG P s d x) := by
  unfold convG
  split
  · exact .ite (convP_wit _ _ _) (.and (.and (.one _)))
  · exact convP_wit _ _ _
  · split
    · split
      · exact .and (.and (.one _))
      · exact .no
    · exact .no
theorem gpureP_wit (o : Oper) (env : Env) : Wit (gpureP P o env) := by
  unfold gpureP
  split
  · split
    · refine .and (.and ?_)
      split
      · exact .one _
      · exact .no
    · exact .no
  · split
    · refine .and (.and (.and ?_))
      split
      · exact .and (.one _)
      · exact .no
    · exact .no
  · exact convG_wit _ _ _
  · split
    · exact callG_wit _ _
    · exact pureP_wit _ _
  · exact pureP_wit _ _
theorem loadK_wit (o : Oper) (env : Env) (σ : St) : Wit (loadK P o env σ) := by
  unfold loadK
  split
  · split
    · split
      · refine .ite (.and (.one _)) ?_
        split
        · exact .one _
        · exact .no
      · exact .no
    · exact loadP_wit _ _
  · exact pureP_wit _ _
/-- .. of two things. -/
theorem allocK_wit (o : Oper) (env : Env) (id : Nat) (K : AObj → AV → Prop) (h : allocK P o env id K) : ∃ ob x, K ob x ∧ ∀ K2 : AObj → AV → Prop, K2 ob x → allocK P o env id K2 := by
  unfold allocK at h
  split at h
  · rename_i t x ho
    exact ⟨_, _, h.2, fun _ h2 => by unfold allocK; simp only [ho]; exact ⟨h.1, h2⟩⟩
  · rename_i t ho
    split at h
    · rename_i i hi
      split at h
      · rename_i z hz
        exact ⟨_, _, h.2, fun _ h2 => by unfold allocK; simp only [ho, hi, hz]; exact ⟨h.1, h2⟩⟩
      · exact h.elim
    · exact h.elim
  · rename_i t x ho
    split at h
    · rename_i s hs
      exact ⟨_, _, h.2, fun _ h2 => by unfold allocK; simp only [ho, hs]; exact ⟨h.1, h2⟩⟩
    · exact h.elim
  · exact h.elim

/-! ### The answer hangs on the operands alone -/
def Agrees (o : Oper) (e1 e2 : Env) : Prop := ∀ x ∈ o.op.operands, ev e1 x = ev e2 x

theorem args_agree {o : Oper} {e1 e2 : Env} (h : Agrees o e1 e2) {c : Call} (ho : o.op = .call c) : c.args.toList.map (ev e1) = c.args.toList.map (ev e2) := by
  apply List.map_congr_left
  intro x hx
  refine h x ?_
  rw [ho]
  simp only [Op.operands, Call.operands, Array.mem_append]
  exact .inr (by simpa using hx)

theorem pureP_agree {o : Oper} {e1 e2 : Env} (h : Agrees o e1 e2) (K : AV → Prop) : pureP P o e1 K = pureP P o e2 K := by
  unfold pureP
  split
  case h_17 c ho =>
    have ha := args_agree h ho
    split
    · split
      · rename_i x t hx ht
        rw [hx] at ha; simp only [List.map_cons, List.map_nil, List.cons.injEq, and_true] at ha
        rw [ha]
      · rfl
    · split
      · rename_i x y hx
        rw [hx] at ha; simp only [List.map_cons, List.map_nil, List.cons.injEq, and_true] at ha
        rw [ha.1, ha.2]
      · rfl
    · split
      · rename_i x y hx
        rw [hx] at ha; simp only [List.map_cons, List.map_nil, List.cons.injEq, and_true] at ha
        rw [ha.1, ha.2]
      · rfl
    · rfl
  case h_12 t x lo hi mx ho =>
    have h1 : ev e1 x = ev e2 x := h x (by rw [ho]; simp [Op.operands])
    have h2 : lo.map (ev e1) = lo.map (ev e2) := by
      cases lo with
      | none => rfl
      | some l => simp only [Option.map_some, Option.some.injEq]; exact h l (by rw [ho]; simp [Op.operands])
    have h3 : hi.map (ev e1) = hi.map (ev e2) := by
      cases hi with
      | none => rfl
      | some l => simp only [Option.map_some, Option.some.injEq]; exact h l (by rw [ho]; simp [Op.operands])
    have h4 : mx.map (ev e1) = mx.map (ev e2) := by
      cases mx with
      | none => rfl
      | some l => simp only [Option.map_some, Option.some.injEq]; exact h l (by rw [ho]; simp [Op.operands])
    rw [h1, h2, h3, h4]
  case h_15 fn first cap ho =>
    have h1 : first.toList.map (ev e1) = first.toList.map (ev e2) := List.map_congr_left fun x hx => h x (by rw [ho]; simp only [Op.operands, Array.mem_append]; exact .inl (by simpa using hx))
    have h2 : cap.toList.map (ev e1) = cap.toList.map (ev e2) := List.map_congr_left fun x hx => h x (by rw [ho]; simp only [Op.operands, Array.mem_append]; exact .inr (by simpa using hx))
    rw [h1, h2]
  case h_18 => rfl
  all_goals
    rename_i ho
    first
      | (rw [h _ (by rw [ho]; simp [Op.operands])]; done)
      | (rw [h _ (show _ ∈ _ by rw [ho]; simp only [Op.operands]; exact Array.mem_toArray.2 (.head _))]; done)
      | skip
  case h_3 => rename_i c x y; rw [h c (by rw [ho]; simp [Op.operands]), h x (by rw [ho]; simp [Op.operands]), h y (by rw [ho]; simp [Op.operands])]
  case h_4 => rename_i op t x y t'; rw [h x (by rw [ho]; simp [Op.operands]), h y (by rw [ho]; simp [Op.operands])]
  case h_10 => rename_i t x i; rw [h x (by rw [ho]; simp [Op.operands]), h i (by rw [ho]; simp [Op.operands])]
  case h_11 => rename_i t x i; rw [h x (by rw [ho]; simp [Op.operands]), h i (by rw [ho]; simp [Op.operands])]

theorem parts_agree {ps : Array (Nat × Operand)} {e1 e2 : Env} (h : ∀ x ∈ (ps.toList.map (·.2)).toArray, ev e1 x = ev e2 x) :
    (ps.toList.map fun p => ev e1 p.2) = (ps.toList.map fun p => ev e2 p.2) ∧ (ps.toList.map fun p => (p.1, ev e1 p.2)) = (ps.toList.map fun p => (p.1, ev e2 p.2)) := by
  have key : ∀ p ∈ ps.toList, ev e1 p.2 = ev e2 p.2 := fun p hp => h p.2 (by simp only [List.mem_toArray, List.mem_map]; exact ⟨p, hp, rfl⟩)
  exact ⟨List.map_congr_left key, List.map_congr_left fun p hp => by rw [key p hp]⟩

theorem gpureP_agree {o : Oper} {e1 e2 : Env} (h : Agrees o e1 e2) (K : AV → Prop) : gpureP P o e1 K = gpureP P o e2 K := by
  unfold gpureP
  split
  · rename_i t parts ho
    obtain ⟨h1, h2⟩ := parts_agree (ps := parts) (e1 := e1) (e2 := e2) (fun x hx => h x (by rw [ho]; exact hx))
    rw [h1, h2]
  · rename_i t n parts ho
    obtain ⟨h1, h2⟩ := parts_agree (ps := parts) (e1 := e1) (e2 := e2) (fun x hx => h x (by rw [ho]; exact hx))
    rw [h1]
  · rename_i s d x ho
    rw [h x (by rw [ho]; simp [Op.operands])]
  · rename_i c ho
    split
    · rename_i f hc
      rw [args_agree h ho, h f (by rw [ho]; simp [Op.operands, Call.operands, hc])]
    · exact pureP_agree h K
  · exact pureP_agree h K

theorem loadK_agree {o : Oper} {e1 e2 : Env} (h : Agrees o e1 e2) (σ : St) (K : AV → Prop) : loadK P o e1 σ K = loadK P o e2 σ K := by
  unfold loadK
  split
  · rename_i t x ho
    rw [h x (by rw [ho]; simp [Op.operands])]
  · exact pureP_agree h K
theorem allocK_agree {o : Oper} {e1 e2 : Env} (h : Agrees o e1 e2) (id : Nat) (K : AObj → AV → Prop) : allocK P o e1 id K = allocK P o e2 id K := by
  unfold allocK
  split
  · rename_i t x ho
    rw [h x (by rw [ho]; simp [Op.operands])]
  · rfl
  · rename_i t x ho
    rw [h x (by rw [ho]; simp [Op.operands])]
  · rfl
theorem writeK_agree {o : Oper} {e1 e2 : Env} (h : Agrees o e1 e2) (σ : St) (K : AV → St → Prop) : writeK P o e1 σ K = writeK P o e2 σ K := by
  unfold writeK
  split
  · rename_i t p x ho
    rw [h x (by rw [ho]; simp [Op.operands]), h p (by rw [ho]; simp [Op.operands])]
  · rename_i it s ho
    rw [h it (by rw [ho]; simp [Op.operands])]
  · rename_i c ho
    have ha := args_agree h ho
    split
    · split
      · rename_i s y t t' hx ht
        rw [hx] at ha; simp only [List.map_cons, List.map_nil, List.cons.injEq, and_true] at ha
        rw [ha.1, ha.2]
      · rfl
    · rename_i f hc
      rw [ha, h f (by rw [ho]; simp [Op.operands, Call.operands, hc])]
    · rfl
  · rename_i t x ho
    rw [h x (by rw [ho]; simp [Op.operands])]
  · rfl
theorem stepK_agree {pc : Op → Bool} {o : Oper} {e1 e2 : Env} (h : Agrees o e1 e2) (σ : St) (K : AV → St → Prop) : stepK P pc o e1 σ K = stepK P pc o e2 σ K := by
  unfold stepK
  split
  · exact gpureP_agree h _
  · exact loadK_agree h _ _
  · simp only [allocK_agree h]
  · exact writeK_agree h _ _
  · exact writeK_agree h _ _
end
end Go.Proofs.YtaahjmkjdcikcaaDoor.AI
