/- A machine of plain values: all operations whose answer hangs on values alone. No program in sight. -/
import Derived.Test.YtaahjmkjdcikcaaDoorK
namespace Go.Proofs.YtaahjmkjdcikcaaDoor.AI
open Go.RowKit
set_option linter.unusedVariables false
set_option linter.unusedSimpArgs false
set_option linter.unusedSectionVars false
variable [Glob]

section
variable {P : Program} {w w0 : World} {E : Ghost} {σ : St} {K : AV → Prop}

theorem callFunc_body {f : FuncId} (h : hasBody P f = true) (us : Array Value) : (callFunc f us).run P w = .ok (.enter f us) w := by
  unfold hasBody at h
  split at h
  · rename_i fn hf
    simp only [Bool.and_eq_true, Bool.not_eq_true'] at h
    have hb : fn.body ≠ none := by intro e; rw [e] at h; cases h.1
    have hn : fn.name ≠ "runtime.NumGoroutine" := by intro e; rw [e] at h; simp at h
    unfold callFunc
    simp [hf, hn, hb]
  · cases h

theorem Runs.op {o : Oper} {a : Act} {f : FuncId} {us : Array Value} {R : Value → World → Prop} (h : Runs P f us w R) (hrun : (execOp a.eval o).run P w = (callFunc f us).run P w) {K : Act → World → Prop} {Q : Exit → Act → World → Prop} (hk : ∀ v w', R v w' → K (a.put o.dst v) w') : o.wp P a w K Q := by
  unfold Oper.wp
  rw [hrun]
  rcases h with ⟨hb, h⟩ | ⟨v, w', hr, h⟩
  · rw [callFunc_body hb, Oper.upon_enter]
    refine Calls.mono h fun e w' he => ?_
    obtain ⟨v, rfl, hR⟩ := he
    exact hk v w' hR
  · rw [hr]
    exact hk v w' h

theorem callG_ok {o : Oper} {env : Env} {a : Act} (hw : Holds E σ w0 w) (he : EnvRep w E env a) {c : Call} {f : Operand} (ho : o.op = .call c) (hc : c.callee = .value f) (h : callG P (ev env f) (c.args.toList.map (ev env)) K) : OpOK P o a w0 w E (fun x σ1 => σ1 = σ ∧ K x) := by
  unfold callG at h
  split at h
  · rename_i g p q hg
    obtain ⟨vs, r, hv, hp, hk⟩ := h
    obtain ⟨us, hrun, hus⟩ := callee_run (P := P) he ho hc hg
    obtain ⟨h1, h2⟩ := allPlain_all hv hus
    have := hp w E.imm us (fun b o hi => (hw.imm b o hi).1) hw.glob (hw.rows.at hw.below hw.base) h1 h2
    intro Q
    refine this.op hrun fun v w' hR => ?_
    obtain ⟨hb, hr⟩ := hR
    exact ⟨v, r, E.grow w.heap.size w'.heap.size, σ, rfl, hw.grow hb, .grow hw.base hb, hr.ofGhost0 (fun b o h => h), rfl, hk⟩
  · exact h.elim

theorem gpure_ok {o : Oper} {env : Env} {a : Act} (hw : Holds E σ w0 w) (he : EnvRep w E env a) (h : gpureP P o env K) : OpOK P o a w0 w E (fun x σ1 => σ1 = σ ∧ K x) := by
  have h' := h
  unfold gpureP at h
  split at h
  · rename_i t parts ho; exact build_ok hw he ho h'
  · rename_i t n parts ho; exact buildSlice_ok hw he ho h'
  · rename_i src dst x ho; exact convG_ok hw he ho h
  · rename_i c ho
    split at h
    · rename_i f hc; exact callG_ok hw he ho hc h
    · exact opOK_same hw (pure_run h he)
  · exact opOK_same hw (pure_run h he)
end

/-! ### Operations on objects -/
inductive Md where
  | pure | load | alloc | write | app
  deriving DecidableEq

/-- How an operation stands to the objects in hand; 'pc': the calls only compute. -/
def modeOf (pc : Op → Bool) (op : Op) : Md :=
  match op with
  | .load .. | .lookup .. => .load
  | .box .. | .alloc .. | .range .. | .makeMap .. | .makeSlice .. => .alloc
  | .store .. | .next .. | .mapUpdate .. | .insert .. => .write
  | .call c => match c.callee with
    | .value _ => if pc op then .pure else .write
    | .builtin .max | .builtin .min => .pure
    | .builtin .len => .load
    | .builtin .append => .app
    | _ => .write
  | .slice .. => if pc op then .pure else .write
  | _ => .pure

def loadK (P : Program) (o : Oper) (env : Env) (σ : St) (K : AV → Prop) : Prop :=
  match o.op with
  | .load t x => match ev env x with
    | .box id off => match σ id, shapeOf P t with
      | some (.box _ cs), some (sz, ag) => if ag then off + sz ≤ cs.length ∧ K (mkAgg ((cs.drop off).take sz)) else match cs[off]? with
        | some y => K y
        | none => False
      | _, _ => False
    | _ => loadP P t (ev env x) K
  | _ => pureP P o env K

def allocK (P : Program) (o : Oper) (env : Env) (id : Nat) (K : AObj → AV → Prop) : Prop :=
  match o.op with
  | .box t x => (ev env x).whole = true ∧ K (.box t (ev env x).cells) (.box id 0)
  | .alloc t => match P.info? t with
    | some i => match i.zero with
      | some z => (z.cells.toList.all fun v => v.oneCell') = true ∧ K (.box t (z.cells.toList.map constA)) (.box id 0)
      | none => False
    | none => False
  | .range t x => match ev env x with
    | .pv (.lit (.string s)) => isStr P t = true ∧ K (.siter s 0) (.iter id)
    | _ => False
  | _ => False

/-- What is appended: a list, or a text's bytes. -/
def srcOf : AV → Option (List V)
  | .pv (.lit (.string s)) => some (bytesV s)
  | y => listOf y
/-- A slice of bytes. -/
def byteRow (P : Program) (t : TypeId) : Bool :=
  match elemOf P t with
  | some (e, 1, 1) => match P.info? e with
    | some i => match i.zero with
      | some (.int .u8 0) => true
      | _ => false
    | none => false
  | _ => false
theorem byteRow_eq {P : Program} {t : TypeId} (h : byteRow P t = true) : ∃ e i, elemOf P t = some (e, 1, 1) ∧ P.info? e = some i ∧ i.zero = some (.int .u8 0) := by
  unfold byteRow at h
  split at h
  · rename_i e he
    split at h
    · rename_i i hi
      split at h
      · rename_i hz
        exact ⟨e, i, he, hi, hz⟩
      · cases h
    · cases h
  · cases h
def srcOk (P : Program) (t t' : TypeId) : AV → Bool
  | .pv (.lit (.string _)) => isStr P t' && byteRow P t
  | _ => decide (t = t')
def appendK (P : Program) (t : TypeId) (id : Nat) (xs : List V) (σ : St) (y : AV) (K : AV → St → Prop) : Prop :=
  match σ id, elemOf P t, srcOf y with
  | some (.tok e sz n), some (e', sz', bytes), some ys => (e = e' ∧ sz = sz' ∧ n = xs.length) ∧ (∀ z ∈ ys, z.cells.length = sz) ∧ (xs.length + ys.length) * bytes ≤ 140737488355328 ∧
    K (.own id (xs ++ ys)) (σ.set id (.tok e sz (xs.length + ys.length)))
  | _, _, _ => False

/-- **A call that works on the objects in hand**: of values that stand for 'args', with the objects of 'σ', it hands back what stands for 'r', and leaves the objects of 'σ''. -/
def ACall (P : Program) (f : FuncId) (args : List AV) (σ : St) (r : AV) (σ' : St) : Prop :=
  ∀ (w0 w : World) (E : Ghost) (us : List Value), Holds E σ w0 w → AllRep w E args us → Runs P f us.toArray w fun v w' => ∃ E', Holds E' σ' w0 w' ∧ Later w E w' E' ∧ Rep w' E' r v
def callE (P : Program) (f : AV) (args : List AV) (σ : St) (K : AV → St → Prop) : Prop :=
  match calleeOf f with
  | some (g, a, b) => ∃ r σ', ACall P g (a ++ args ++ b) σ r σ' ∧ K r σ'
  | none => False

def writeK (P : Program) (o : Oper) (env : Env) (σ : St) (K : AV → St → Prop) : Prop :=
  match o.op with
  | .store t p x => match ev env p with
    | .box id off => match σ id, shapeOf P t with
      | some (.box u cs), some (sz, _) => (ev env x).whole = true ∧ (ev env x).cells.length = sz ∧ off + sz ≤ cs.length ∧ K .undef (σ.set id (.box u (splice cs off (ev env x).cells)))
      | _, _ => False
    | _ => False
  | .next it isStr => match ev env it with
    | .iter id => match σ id with
      | some (.siter s pos) => isStr = true ∧ if pos < s.size then K (.tuple [.pv (.lit (.bool true)), .pv (.lit (.int .i64 pos)), .pv (.lit (.int .i32 (Utf8.decode s pos).1))]) (σ.set id (.siter s (pos + (Utf8.decode s pos).2)))
          else K (.tuple [.pv (.lit (.bool false))]) σ
      | _ => False
    | _ => False
  | .call c => match c.callee with
    | .builtin .append => match c.args.toList, c.argTypes.toList with
      | [s, y], [t, t'] => srcOk P t t' (ev env y) = true ∧ match ev env s with
        | .own id xs => appendK P t id xs σ (ev env y) K
        | .e0 => match elemOf P t with
          | some (e, sz, _) => ∃ id, σ id = none ∧ appendK P t id [] (σ.set id (.tok e sz 0)) (ev env y) K
          | none => False
        | _ => False
      | _, _ => False
    | .value f => (callG P (ev env f) (c.args.toList.map (ev env)) fun r => K r σ) ∨ callE P (ev env f) (c.args.toList.map (ev env)) σ K
    | _ => False
  | .slice t x none none none => match ev env x with
    | .box id off => match σ id, arrayOf P t with
      | some (.box _ cs), some (n, sz, ag) => match allPlain cs with
        | some vs => off = 0 ∧ sz = 1 ∧ ag = false ∧ vs.length = n ∧ (∀ y ∈ vs, y.cells.length = 1) ∧ K (.pv (.list vs)) (σ.set id .dead)
        | none => False
      | _, _ => False
    | _ => False
  | _ => False

/-- One operation. -/
def stepK (P : Program) (pc : Op → Bool) (o : Oper) (env : Env) (σ : St) (K : AV → St → Prop) : Prop :=
  match modeOf pc o.op with
  | .pure => gpureP P o env fun x => K x σ
  | .load => loadK P o env σ fun x => K x σ
  | .alloc => ∃ id, σ id = none ∧ allocK P o env id fun ob x => K x (σ.set id ob)
  | .write => writeK P o env σ K
  | .app => writeK P o env σ K

section
variable {P : Program} {w w0 : World} {E : Ghost} {σ : St}

theorem load_ok {K : AV → Prop} {o : Oper} {env : Env} {a : Act} (hw : Holds E σ w0 w) (he : EnvRep w E env a) (h : loadK P o env σ K) : OpOK P o a w0 w E (fun x σ1 => σ1 = σ ∧ K x) := by
  unfold loadK at h
  split at h
  · rename_i t x ho
    have fin : ∀ {s : Sem Value} {u : Value}, a.eval x = u → Instr.loadAt t u = s → (∃ v z, s.run P w = .ok v w ∧ Rep w E z v ∧ K z) → OpOK P o a w0 w E (fun x σ1 => σ1 = σ ∧ K x) := by
      rintro s u hu rfl ⟨v, z, hr, hz, hk⟩
      exact opOK_same hw ⟨v, z, by simp only [execOp, ho, hu, Sem.run_bind, hr, Result.andThen_ok]; rfl, hz, hk⟩
    split at h
    · rename_i id off hx
      have hr := he.ev x
      rw [hx] at hr
      split at h
      · rename_i u cs sz ag hid hs
        obtain ⟨hb, vs, hheap, hn, hall⟩ := hw.obj id _ hid
        generalize hgv : a.eval x = v at hr
        cases hr with
        | box id off hused =>
        refine fin hgv rfl ?_
        have hcell : ∀ j, w.cell? ⟨E.blk id, j, none⟩ = vs[j]? := fun j => cell_of_row w _ j vs u (0, 0) hheap
        simp only [Instr.loadAt, Instr.sureAddr, loadVar, Sem.run_bind, Sem.run_pure, Result.andThen_ok, run_isAgg hs]
        cases ag with
        | true =>
          simp only [if_true] at h ⊢
          obtain ⟨hle, hk⟩ := h
          have hl := run_loadCells_list (P := P) w ⟨E.blk id, off, none⟩ ((vs.toList.drop off).take sz) (fun j v hj => by
            rw [Addr.add_lit, hcell]
            simp only [List.getElem?_take, List.getElem?_drop, Array.getElem?_toList] at hj
            split at hj
            · exact hj
            · cases hj)
          have hlen : ((vs.toList.drop off).take sz).length = sz := by simp; omega
          rw [hlen] at hl
          refine ⟨.agg ((vs.toList.drop off).take sz).toArray, mkAgg ((cs.drop off).take sz), by simp [run_sizeOf hs, hl], mkAgg_rep ⟨by simp; omega, fun j y hy => ?_⟩, hk⟩
          simp only [List.getElem?_take, List.getElem?_drop] at hy ⊢
          split at hy
          · rename_i hj
            obtain ⟨v, hv, ho, hr⟩ := hall _ y hy
            exact ⟨v, by rw [if_pos hj]; simpa using hv, ho, hr⟩
          · cases hy
        | false =>
          simp only [Bool.false_eq_true, if_false] at h ⊢
          split at h
          · rename_i y hy
            obtain ⟨v, hv, ho, hr⟩ := hall off y hy
            exact ⟨v, y, by simp [hcell, hv], hr, h⟩
          · exact h.elim
      · exact h.elim
    · exact fin rfl rfl (load_run h (he.ev x))
  · exact opOK_same hw (pure_run h he)

theorem alloc_ok {K : AObj → AV → Prop} {o : Oper} {env : Env} {a : Act} {id : Nat} (hw : Holds E σ w0 w) (he : EnvRep w E env a) (hid : σ id = none) (h : allocK P o env id K) : OpOK P o a w0 w E (fun x σ1 => ∃ ob, σ1 = σ.set id ob ∧ K ob x) := by
  have box : ∀ (t : TypeId) (xc : List AV) (u : Value), CellsRep w E xc u.cells.toList → K (.box t xc) (.box id 0) → (execOp a.eval o).run P w = .ok (.value (.pointer (some ⟨w.heap.size, 0, none⟩))) (w.alloc (.cells u.cells t)) → OpOK P o a w0 w E (fun x σ1 => ∃ ob, σ1 = σ.set id ob ∧ K ob x) := by
    intro t xc u hr hk hrun
    obtain ⟨hc1, hc2⟩ := hr
    have hl : Later w E (w.alloc (.cells u.cells t)) (E.newBlk id w.heap.size) := .newBlk (hw.not_used hid) ((Below.refl _ _).alloc (Nat.le_refl _) _)
    obtain ⟨hh, hl⟩ := hw.new hid (.cells u.cells t) (.box t xc) (by simp [blockOf, Ghost.newBlk]) (by
      refine ⟨by simp [Ghost.newBlk]; exact hw.base, u.cells, by simp only [Ghost.newBlk, if_true]; exact heap_alloc_new w _, by simpa using hc1, fun j y hy => ?_⟩
      obtain ⟨v, hv, ho, hr⟩ := hc2 j y hy
      exact ⟨v, by simpa using hv, ho, hr.later hl⟩)
    refine opOK_value hrun ⟨.box id 0, _, _, hh, hl, ?_, _, rfl, hk⟩
    have : Rep (w.alloc (.cells u.cells t)) (E.newBlk id w.heap.size) (.box id 0) (.pointer (some ⟨(E.newBlk id w.heap.size).blk id, 0, none⟩)) := .box id 0 (.inl rfl)
    simpa [Ghost.newBlk] using this
  unfold allocK at h
  split at h
  · rename_i t x ho
    obtain ⟨hwh, h⟩ := h
    exact box t _ _ ((he.ev x).cells (AV.whole_ne hwh)) h (by simp [execOp, ho, Instr.box, newVar, newRow])
  · rename_i t ho
    split at h
    · rename_i i hi
      split at h
      · rename_i z hz
        obtain ⟨hwh, h⟩ := h
        exact box t _ z (zeros_rep _ hwh) h (by simp [execOp, ho, Instr.alloc, zeroValue, typeInfo, hi, hz, newVar, newRow])
      · exact h.elim
    · exact h.elim
  · rename_i t x ho
    split at h
    · rename_i s hx
      obtain ⟨ht, h⟩ := h
      have hv : a.eval x = .string s := (hx ▸ he.ev x).lit_eq
      obtain ⟨hh, hl⟩ := hw.new hid (.stringIter s 0) (.siter s 0) (by simp [blockOf, Ghost.newBlk]) (by
        refine ⟨by simp [Ghost.newBlk]; exact hw.base, ?_⟩
        simp only [Ghost.newBlk, if_true]; exact heap_alloc_new w _)
      refine opOK_value (w1 := w.alloc (.stringIter s 0)) (v := .pointer (some ⟨w.heap.size, 0, none⟩)) (by simp only [execOp, ho, hv, Sem.run_bind, run_range_string w t s (isStr_eq ht), Result.andThen_ok]; rfl) ⟨.iter id, _, _, hh, hl, ?_, _, rfl, h⟩
      have : Rep (w.alloc (.stringIter s 0)) (E.newBlk id w.heap.size) (.iter id) (.pointer (some ⟨(E.newBlk id w.heap.size).blk id, 0, none⟩)) := .iter id (.inl rfl)
      simpa [Ghost.newBlk] using this
    · exact h.elim
  · exact h.elim
end
end Go.Proofs.YtaahjmkjdcikcaaDoor.AI
