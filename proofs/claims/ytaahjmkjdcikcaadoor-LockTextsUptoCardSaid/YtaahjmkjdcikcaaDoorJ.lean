/- A machine of plain values: operations that make memory which turns no more; calls that only compute. No program in sight. -/
import Derived.Test.YtaahjmkjdcikcaaDoorI
namespace Go.Proofs.YtaahjmkjdcikcaaDoor.AI
open Go.RowKit
set_option linter.unusedVariables false
set_option linter.unusedSimpArgs false
set_option linter.unusedSectionVars false
variable [Glob]

def ghost0 (I : Imm) : Ghost := { base := 0, used := fun _ => False, blk := fun _ => 0, ov := fun _ => undef, on := fun _ => 0, osz := fun _ => 0, imm := I }
def Imm.grow (I : Imm) (lo hi : Nat) : Imm := fun b o => I b o ∨ (lo ≤ b ∧ b < hi)

/-- Has a function a body that is walked? -/
def hasBody (P : Program) (f : FuncId) : Bool :=
  match P.funcs[f]? with
  | some fn => fn.body.isSome && !(fn.name == "runtime.NumGoroutine")
  | none => false
/-- A call of a function, with a body or without, ends, and R is so behind it. -/
def Runs (P : Program) (f : FuncId) (us : Array Value) (w : World) (R : Value → World → Prop) : Prop :=
  (hasBody P f = true ∧ Calls P f us w fun e w' => ∃ v, e = .returned v ∧ R v w') ∨ (∃ v w', (callFunc f us).run P w = .ok (.value v) w' ∧ R v w')

/-- **A call that only computes**: of whatever stands for these values it hands back what stands for 'r', and no block that was there has turned. -/
def APure (P : Program) (f : FuncId) (args : List V) (r : AV) : Prop :=
  ∀ (w : World) (I : Imm) (us : List Value), (∀ b o, I b o → b < w.heap.size) → GOk w I → GRow w w.heap.size → us.length = args.length → (∀ (j : Nat) x, args[j]? = some x → ∃ u, us[j]? = some u ∧ RepV w I x u) →
    Runs P f us.toArray w fun v w' => Below w.heap.size w w' ∧ Rep w' (ghost0 (Imm.grow I w.heap.size w'.heap.size)) r v

/-- A slice's elements: their type, their cells, their bytes; their zero is of as many cells. -/
def elemOf (P : Program) (t : TypeId) : Option (TypeId × Nat × Nat) :=
  match P.underlying t with
  | some (.slice e) => match P.info? e with
    | some i => match i.zero with
      | some z => if z.cells.size = i.size ∧ 0 < i.size ∧ 0 < i.bytes then some (e, i.size, i.bytes) else none
      | none => none
    | none => none
  | _ => none

def bytesV (s : ByteArray) : List V := s.data.toList.map fun b => .lit (.int .u8 b.toNat)
def u8Of : V → Option UInt8
  | .lit (.int .u8 n) => if 0 ≤ n ∧ n < 256 then some (UInt8.ofNat n.toNat) else none
  | _ => none
def u8sOf : List V → Option (List UInt8)
  | [] => some []
  | x :: r => (u8Of x).bind fun b => (u8sOf r).map (b :: ·)

def isBytes (P : Program) (t : TypeId) : Bool :=
  match P.underlying t with
  | some (.slice e) => match P.underlying e with
    | some (.int .u8) => true
    | _ => false
  | _ => false

def convG (P : Program) (src dst : TypeId) (x : AV) (K : AV → Prop) : Prop :=
  match x with
  | .pv (.lit (.string s)) =>
    if isStr P dst then convP P src dst x K
    else isStr P src = true ∧ isBytes P dst = true ∧ K (.pv (.list (bytesV s)))
  | .pv (.lit _) => convP P src dst x K
  | _ => match listOf x with
    | some xs => match u8sOf xs with
      | some l => isBytes P src = true ∧ isStr P dst = true ∧ K (.pv (.lit (.string ⟨l.toArray⟩)))
      | none => False
    | none => False

/-- What is called: the function, what stands ahead of the arguments, what behind. -/
def calleeOf : AV → Option (FuncId × List AV × List AV)
  | .pv (.lit (.func (.func f) a b)) => if a.isEmpty && b.isEmpty then some (f, [], []) else none
  | .pv (.fn (.func f) a b) => some (f, a.map .pv, b.map .pv)
  | .fn (.func f) a b => some (f, a, b)
  | _ => none

def callG (P : Program) (f : AV) (args : List AV) (K : AV → Prop) : Prop :=
  match calleeOf f with
  | some (g, a, b) => ∃ vs r, allPlain (a ++ args ++ b) = some vs ∧ APure P g vs r ∧ K r
  | none => False

def gpureP (P : Program) (o : Oper) (env : Env) (K : AV → Prop) : Prop :=
  match o.op with
  | .build t parts => match placesOf P t with
    | some (z, place) => z.all (fun v => v.oneCell') = true ∧ ((parts.toList.map fun p => ev env p.2).all AV.whole) = true ∧
      match fillA place.at (z.map constA) (parts.toList.map fun p => (p.1, ev env p.2)) with
      | some cs => K (mkAgg cs)
      | none => False
    | none => False
  | .buildSlice t n parts => match elemOf P t with
    | some (_, sz, _) => 0 < n ∧ n * sz ≤ 16777216 ∧ (parts.toList.map (·.1)) = List.range n ∧
      match allPlain (parts.toList.map fun p => ev env p.2) with
      | some xs => (∀ x ∈ xs, x.cells.length = sz) ∧ K (.pv (.list xs))
      | none => False
    | none => False
  | .convert src dst x => convG P src dst (ev env x) K
  | .call c => match c.callee with
    | .value f => callG P (ev env f) (c.args.toList.map (ev env)) K
    | _ => pureP P o env K
  | _ => pureP P o env K

/-- One operation, carried out: whatever it leaves, what the plain values tell stands for it. -/
def OpOK (P : Program) (o : Oper) (a : Act) (w0 w : World) (E : Ghost) (K : AV → St → Prop) : Prop :=
  ∀ Q, o.wp P a w (fun a' w1 => ∃ v x E1 σ1, a' = a.put o.dst v ∧ Holds E1 σ1 w0 w1 ∧ Later w E w1 E1 ∧ Rep w1 E1 x v ∧ K x σ1) Q

section
variable {P : Program} {w w0 : World} {E : Ghost} {σ : St} {K : AV → Prop}

theorem opOK_value {o : Oper} {a : Act} {w1 : World} {v : Value} {K : AV → St → Prop} (h : (execOp a.eval o).run P w = .ok (.value v) w1) (hk : ∃ x E1 σ1, Holds E1 σ1 w0 w1 ∧ Later w E w1 E1 ∧ Rep w1 E1 x v ∧ K x σ1) : OpOK P o a w0 w E K := by
  intro Q
  obtain ⟨x, E1, σ1, h1, h2, h3, h4⟩ := hk
  unfold Oper.wp
  rw [h]
  exact ⟨v, x, E1, σ1, rfl, h1, h2, h3, h4⟩

theorem opOK_grow {o : Oper} {a : Act} {w1 : World} {v : Value} {x : AV} (hw : Holds E σ w0 w) (h : (execOp a.eval o).run P w = .ok (.value v) w1) (hb : Below w.heap.size w w1)
    (hr : Rep w1 (E.grow w.heap.size w1.heap.size) x v) (hk : K x) : OpOK P o a w0 w E (fun x σ1 => σ1 = σ ∧ K x) :=
  opOK_value h ⟨x, _, σ, hw.grow hb, .grow hw.base hb, hr, rfl, hk⟩

theorem opOK_same {o : Oper} {a : Act} (hw : Holds E σ w0 w) (h : ∃ v x, (execOp a.eval o).run P w = .ok (.value v) w ∧ Rep w E x v ∧ K x) : OpOK P o a w0 w E (fun x σ1 => σ1 = σ ∧ K x) := by
  obtain ⟨v, x, h1, h2, h3⟩ := h
  exact opOK_value h1 ⟨x, E, σ, hw, .refl _ _, h2, rfl, h3⟩

theorem parts_rep {env : Env} {a : Act} (he : EnvRep w E env a) : ∀ (parts : List (Nat × Operand)), (parts.map fun p => ev env p.2).all AV.whole = true → PartsRep w E (parts.map fun p => (p.1, ev env p.2)) (parts.map fun p => (p.1, a.eval p.2))
  | [], _ => trivial
  | (i, x) :: r, h => by
    simp only [List.map_cons, List.all_cons, Bool.and_eq_true] at h
    exact ⟨rfl, h.1, he.ev x, parts_rep he r h.2⟩

theorem zeros_rep : ∀ (z : List Value), z.all (fun v => v.oneCell') = true → CellsRep w E (z.map constA) z := by
  intro z hz
  rw [List.all_eq_true] at hz
  refine ⟨by simp, fun j x hx => ?_⟩
  simp only [List.getElem?_map, Option.map_eq_some_iff] at hx
  obtain ⟨v, hv, rfl⟩ := hx
  exact ⟨v, hv, hz v (List.mem_of_getElem? hv), constA_rep w E v⟩

theorem build_ok {o : Oper} {env : Env} {a : Act} (hw : Holds E σ w0 w) (he : EnvRep w E env a) {t : TypeId} {parts : Array (Nat × Operand)} (ho : o.op = .build t parts) (h : gpureP P o env K) : OpOK P o a w0 w E (fun x σ1 => σ1 = σ ∧ K x) := by
  unfold gpureP at h
  simp only [ho] at h
  split at h
  · rename_i z place hp
    obtain ⟨hz, hall, h⟩ := h
    split at h
    · rename_i cs hcs
      obtain ⟨c, hc, hr⟩ := fill_rep (cells := z.toArray) (parts_rep he parts.toList hall) (by simpa using zeros_rep z hz) hcs
      have hb : P.built t (parts.map fun (i, x) => (i, a.eval x)).toList = some c := by
        rw [built_of hp, ← hc]
        congr 1
        simp
      exact opOK_same hw ⟨.agg c, mkAgg cs, by simp [execOp, ho, run_build w t _ c hb], mkAgg_rep hr, h⟩
    · exact h.elim
  · exact h.elim

theorem elemOf_eq {t e : TypeId} {s b : Nat} (h : elemOf P t = some (e, s, b)) : ∃ i z, P.underlying t = some (.slice e) ∧ P.info? e = some i ∧ i.zero = some z ∧ i.size = s ∧ i.bytes = b ∧ z.cells.size = s ∧ 0 < s ∧ 0 < b := by
  unfold elemOf at h
  split at h
  · rename_i e' he
    split at h
    · rename_i i hi
      split at h
      · rename_i z hz
        split at h
        · rename_i hc
          simp only [Option.some.injEq, Prod.mk.injEq] at h
          obtain ⟨rfl, rfl, rfl⟩ := h
          exact ⟨i, z, he, hi, hz, rfl, rfl, hc.1, hc.2⟩
        · cases h
      · cases h
    · cases h
  · cases h

/-- Values, one by one. -/
def ListRep (w : World) (I : Imm) (xs : List V) (vs : List Value) : Prop := vs.length = xs.length ∧ ∀ (j : Nat) x, xs[j]? = some x → ∃ v, vs[j]? = some v ∧ RepV w I x v

theorem allPlain_list {env : Env} {a : Act} (he : EnvRep w E env a) : ∀ {l : List Operand} {xs : List V}, allPlain (l.map (ev env)) = some xs → ListRep w E.imm xs (l.map a.eval)
  | [], xs, h => by simp [allPlain] at h; subst h; exact ⟨rfl, fun j x hx => by simp at hx⟩
  | o :: l, xs, h => by
    have key : ∀ (y : V) (r : List V), RepV w E.imm y (a.eval o) → allPlain (l.map (ev env)) = some r → xs = y :: r → ListRep w E.imm xs ((o :: l).map a.eval) := by
      intro y r hy hr' e
      subst e
      obtain ⟨h1, h2⟩ := allPlain_list he hr'
      refine ⟨by simpa using h1, fun j x hx => ?_⟩
      cases j with
      | zero => simp at hx; subst hx; exact ⟨_, rfl, hy⟩
      | succ j => simpa using h2 j x (by simpa using hx)
    have hr := he.ev o
    simp only [List.map_cons] at h
    unfold allPlain at h
    split at h
    · rename_i e; cases e
    · rename_i x r e
      simp only [List.cons.injEq] at e
      obtain ⟨e1, rfl⟩ := e
      rw [e1] at hr
      simp only [Option.map_eq_some_iff] at h
      obtain ⟨r', h1, h2⟩ := h
      exact key _ _ hr.ofV h1 h2.symm
    · rename_i id ys r e
      simp only [List.cons.injEq] at e
      obtain ⟨e1, rfl⟩ := e
      rw [e1] at hr
      simp only [Option.map_eq_some_iff] at h
      obtain ⟨r', h1, h2⟩ := h
      exact key _ _ hr.plain_list h1 h2.symm
    · rename_i r e
      simp only [List.cons.injEq] at e
      obtain ⟨e1, rfl⟩ := e
      rw [e1] at hr
      simp only [Option.map_eq_some_iff] at h
      obtain ⟨r', h1, h2⟩ := h
      exact key _ _ (listOf_rep (x := .e0) rfl hr) h1 h2.symm
    · cases h

/-- A plain value's cells. -/
theorem RepV.cells_rep {I : Imm} {x : V} {v : Value} (h : RepV w I x v) : v.cells.size = x.cells.length ∧ ∀ (j : Nat) y, x.cells[j]? = some y → ∃ u, v.cells[j]? = some u ∧ u.oneCell' = true ∧ RepV w I y u := by
  have h' : Rep w (ghost0 I) (.pv x) v := .pv _ _ h
  obtain ⟨h1, h2⟩ := h'.cells ⟨by simp, by simp, by simp, by simp⟩
  have e : (AV.pv x).cells = x.cells.map .pv := by cases x <;> rfl
  rw [e] at h1 h2
  refine ⟨by simpa using h1, fun j y hy => ?_⟩
  obtain ⟨u, hu, ho, hr⟩ := h2 j (.pv y) (by simp [hy])
  exact ⟨u, by simpa using hu, ho, hr.ofV⟩

/-- A new row of cells, all of elements of one size, read as a list. -/
theorem ListRep.row {I : Imm} {xs : List V} {vs : List Value} {sz : Nat} (h : ListRep w I xs vs) (hs : ∀ x ∈ xs, x.cells.length = sz) :
    (∀ v ∈ vs, v.cells.size = sz) ∧ ∀ (j : Nat) y, (flat xs)[j]? = some y → ∃ u, (vs.flatMap fun v => v.cells.toList)[j]? = some u ∧ u.oneCell' = true ∧ RepV w I y u := by
  obtain ⟨h1, h2⟩ := h
  have hv : ∀ v ∈ vs, v.cells.size = sz := fun v hv => by
    obtain ⟨j, hj, rfl⟩ := List.mem_iff_getElem.1 hv
    obtain ⟨u, hu, hr⟩ := h2 j xs[j] (by simp)
    rw [List.getElem?_eq_getElem hj] at hu
    cases hu
    rw [hr.cells_rep.1]
    exact hs _ (List.getElem_mem _)
  refine ⟨hv, ?_⟩
  clear hv
  induction xs generalizing vs with
  | nil => intro j y hy; simp [flat] at hy
  | cons x xs ih =>
    cases vs with
    | nil => simp at h1
    | cons v vs =>
      obtain ⟨u, hu, hr⟩ := h2 0 x rfl
      simp at hu; subst hu
      have hc := hr.cells_rep
      have ih' := ih (fun y hy => hs y (by simp [hy])) (vs := vs) (by simpa using h1) (fun j y hy => by simpa using h2 (j + 1) y (by simpa using hy))
      intro j y hy
      simp only [flat, List.flatMap_cons] at hy ⊢
      have hl : v.cells.toList.length = x.cells.length := by simpa using hc.1
      by_cases hj : j < x.cells.length
      · rw [List.getElem?_append_left hj] at hy
        rw [List.getElem?_append_left (by omega)]
        simpa using hc.2 j y hy
      · rw [List.getElem?_append_right (by omega)] at hy
        rw [List.getElem?_append_right (by omega), hl]
        exact ih' _ y hy

theorem RepV.of_block {I : Imm} {xs : List V} {sz : Nat} {w1 : World} {cells : Array Value} {e : TypeId} {fr : Nat × Nat} {g c : Nat} (hs : ∀ x ∈ xs, x.cells.length = sz) (hg : w1.heap[g]? = some (.cells cells e fr)) (hI : ∀ o, o < (flat xs).length → I g o)
    (hc : xs.length ≤ c) (hr : ∀ (j : Nat) y, (flat xs)[j]? = some y → ∃ u, cells[j]? = some u ∧ u.oneCell' = true ∧ RepV w1 I y u) : RepV w1 I (.list xs) (.slice (some ⟨g, 0, none⟩) xs.length c) := by
  refine .list sz xs _ c (fun j => (cells[j]?).getD undef) hc hs (fun j hj => ?_) (fun _ h => by cases h) (fun j hj => ?_) (fun j y hy => ?_)
  · obtain ⟨u, hu, _⟩ := hr j (flat xs)[j] (by simp [hj])
    refine ⟨_, rfl, by rw [Addr.add_lit]; simpa using hI j hj, ?_⟩
    rw [Addr.add_lit, cell_of_row w1 g (0 + j) cells e fr hg]
    simp [hu]
  · obtain ⟨u, hu, ho, _⟩ := hr j (flat xs)[j] (by simp [hj])
    simp only [hu]; exact ho
  · obtain ⟨u, hu, _, hr⟩ := hr j y hy
    simp only [hu]; exact hr

theorem buildSlice_ok {o : Oper} {env : Env} {a : Act} (hw : Holds E σ w0 w) (he : EnvRep w E env a) {t : TypeId} {n : Nat} {parts : Array (Nat × Operand)} (ho : o.op = .buildSlice t n parts) (h : gpureP P o env K) : OpOK P o a w0 w E (fun x σ1 => σ1 = σ ∧ K x) := by
  unfold gpureP at h
  simp only [ho] at h
  split at h
  · rename_i e sz by' hp
    obtain ⟨hn, hsm, hrange, h⟩ := h
    split at h
    · rename_i xs hxs
      obtain ⟨hs, h⟩ := h
      obtain ⟨i, z, hu, hi, hz, rfl, rfl, hzs, hpos, _⟩ := elemOf_eq hp
      have hmap : (parts.toList.map fun p => ev env p.2) = (parts.toList.map (·.2)).map (ev env) := by simp
      rw [hmap] at hxs
      have hl := allPlain_list he hxs
      have hlen : parts.toList.length = n := by have := congrArg List.length hrange; simpa using this
      have hvs : ((parts.toList.map (·.2)).map a.eval).length = n := by simpa using hlen
      obtain ⟨hv, hrow⟩ := hl.row hs
      have hxl : xs.length = n := by have := hl.1; omega
      have hparts : (parts.map fun (i, x) => (i, a.eval x)).toList = ((((parts.toList.map (·.2)).map a.eval).zipIdx 0).map fun x => (x.2, x.1)) := by
        apply List.ext_getElem?
        intro j
        simp only [Array.toList_map, List.getElem?_map, List.getElem?_zipIdx]
        have hj := congrArg (fun l => l[j]?) hrange
        simp only [List.getElem?_map] at hj
        cases hq : parts.toList[j]? with
        | none => simp
        | some q =>
          have hjn : j < n := by have := (List.getElem?_eq_some_iff.1 hq).1; omega
          rw [hq, List.getElem?_range hjn] at hj
          simp at hj
          simp [hj]
      have hf := Great.fill_whole hpos ((parts.toList.map (·.2)).map a.eval) ((Array.range (n * i.size)).map (z.cells[· % z.cells.size]!)) hv (by rw [hvs]; simp)
      rw [← hparts] at hf
      have hrun := run_buildSlice (P := P) w t e n _ _ i z hu hi hz (by omega) (by have := Nat.mul_pos hn hpos; omega) hf
      have hb : Below w.heap.size w (w.alloc (.cells (((parts.toList.map (·.2)).map a.eval).flatMap fun v => v.cells.toList).toArray e)) := (Below.refl _ _).alloc (Nat.le_refl _) _
      refine opOK_grow hw (by simp only [execOp, ho, Sem.run_bind, hrun, Result.andThen_ok]; rfl) hb (x := .pv (.list xs)) ?_ h
      have hk : Keeps w E.imm _ (E.grow w.heap.size (w.alloc (.cells (((parts.toList.map (·.2)).map a.eval).flatMap fun v => v.cells.toList).toArray e)).heap.size).imm := (Later.grow (E := E) hw.base hb).keeps
      rw [← hxl]
      refine .pv _ _ (RepV.of_block hs (heap_alloc_new w _) (fun o _ => .inr ⟨Nat.le_refl _, by simp⟩) (Nat.le_refl _) (fun j y hy => ?_))
      obtain ⟨u, hu, ho', hr⟩ := hrow j y hy
      exact ⟨u, by simpa using hu, ho', hr.keep hk⟩
    · exact h.elim
  · exact h.elim
end
end Go.Proofs.YtaahjmkjdcikcaaDoor.AI
