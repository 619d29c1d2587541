/- A machine of plain values: texts and bytes; calls that only compute. No program in sight. -/
import Derived.Test.YtaahjmkjdcikcaaDoorJ
import Derived.Laws.BytesArg
namespace Go.Proofs.YtaahjmkjdcikcaaDoor.AI
open Go.RowKit
set_option linter.unusedVariables false
set_option linter.unusedSimpArgs false
set_option linter.unusedSectionVars false
variable [Glob]

section
variable {P : Program} {w w0 : World} {E : Ghost} {σ : St} {K : AV → Prop}

theorem isBytes_eq {t : TypeId} (h : isBytes P t = true) : ∃ e, P.underlying t = some (.slice e) ∧ P.underlying e = some (.int .u8) := by
  unfold isBytes at h
  split at h
  · rename_i e he
    split at h
    · rename_i hu; exact ⟨e, he, hu⟩
    · cases h
  · cases h

theorem u8sOf_get : ∀ {xs : List V} {l : List UInt8}, u8sOf xs = some l → l.length = xs.length ∧ ∀ (j : Nat) (hj : j < l.length), xs[j]? = some (.lit (.int .u8 (l[j].toNat : Int)))
  | [], l, h => by simp [u8sOf] at h; subst h; exact ⟨rfl, fun j hj => by simp at hj⟩
  | x :: xs, l, h => by
    simp only [u8sOf, Option.bind_eq_some_iff, Option.map_eq_some_iff] at h
    obtain ⟨b, hb, r, hr, rfl⟩ := h
    obtain ⟨h1, h2⟩ := u8sOf_get hr
    refine ⟨by simp [h1], fun j hj => ?_⟩
    cases j with
    | zero =>
      unfold u8Of at hb
      split at hb
      · split at hb
        · rename_i n hn
          cases hb
          simp only [List.getElem?_cons_zero, List.getElem_cons_zero, Option.some.injEq, V.lit.injEq, Value.int.injEq, true_and]
          have : (UInt8.ofNat n.toNat).toNat = n.toNat := by
            rw [UInt8.toNat_ofNat']; apply Nat.mod_eq_of_lt; omega
          rw [this]; omega
        · cases hb
      · cases hb
    | succ j => simpa using h2 j (by simpa using hj)

theorem u8_flat : ∀ {xs : List V} {l : List UInt8}, u8sOf xs = some l → flat xs = xs
  | [], _, _ => rfl
  | x :: xs, l, h => by
    simp only [u8sOf, Option.bind_eq_some_iff, Option.map_eq_some_iff] at h
    obtain ⟨b, hb, r, hr, rfl⟩ := h
    have := u8_flat hr
    simp only [flat, List.flatMap_cons] at this ⊢
    rw [this]
    cases x <;> first | rfl | (simp [u8Of] at hb)

theorem bytesV_flat (s : ByteArray) : flat (bytesV s) = bytesV s := by
  unfold bytesV flat
  rw [List.flatMap_map]
  generalize s.data.toList = l
  induction l with
  | nil => rfl
  | cons b l ih => simp only [List.flatMap_cons, List.map_cons, ih]; rfl
theorem bytesV_cells (s : ByteArray) : ∀ x ∈ bytesV s, x.cells.length = 1 := by
  intro x hx
  simp only [bytesV, List.mem_map] at hx
  obtain ⟨b, _, rfl⟩ := hx
  rfl
theorem bytesV_length (s : ByteArray) : (bytesV s).length = s.size := by simp [bytesV]

theorem convG_ok {o : Oper} {env : Env} {a : Act} (hw : Holds E σ w0 w) (he : EnvRep w E env a) {src dst : TypeId} {x : Operand} (ho : o.op = .convert src dst x) (h : convG P src dst (ev env x) K) : OpOK P o a w0 w E (fun x σ1 => σ1 = σ ∧ K x) := by
  have plain : convP P src dst (ev env x) K → OpOK P o a w0 w E (fun x σ1 => σ1 = σ ∧ K x) := fun h => by
    obtain ⟨v, z, hr, hz, hk⟩ := conv_run h (he.ev x)
    exact opOK_same hw ⟨v, z, by simp only [execOp, ho, Sem.run_bind, hr, Result.andThen_ok]; rfl, hz, hk⟩
  unfold convG at h
  split at h
  · rename_i s hx
    split at h
    · exact plain h
    · obtain ⟨h1, h2, h⟩ := h
      obtain ⟨e, hu, hub⟩ := isBytes_eq h2
      have hv : a.eval x = .string s := (hx ▸ he.ev x).lit_eq
      have hrun := run_bytes_of_string (P := P) w src dst e s (isStr_eq h1) hu hub
      have hb : Below w.heap.size w (w.drew.alloc (.cells (bytesRow s (grownCap w s.size 0 e)) e ((bytesRow s (grownCap w s.size 0 e)).size, (bytesRow s (grownCap w s.size 0 e)).size + 1))) := (Below.refl _ _).drew.alloc (Nat.le_refl _) _
      refine opOK_grow hw (by simp only [execOp, ho, hv, Sem.run_bind, hrun, Result.andThen_ok]; rfl) hb (x := .pv (.list (bytesV s))) ?_ h
      rw [← bytesV_length s]
      have hcap : s.size ≤ grownCap w s.size 0 e := grownCap_ge w s.size 0 e
      rw [bytesV_length s]
      conv => rhs; rw [← bytesV_length s]
      refine .pv _ _ (RepV.of_block (bytesV_cells s) (heap_alloc_new w.drew _) (fun o _ => .inr ⟨Nat.le_refl _, by simp⟩) (by rw [bytesV_length]; exact hcap) (fun j y hy => ?_))
      rw [bytesV_flat] at hy
      simp only [bytesV, List.getElem?_map, Option.map_eq_some_iff] at hy
      obtain ⟨b, hb', rfl⟩ := hy
      have hj := (List.getElem?_eq_some_iff.1 hb')
      obtain ⟨hj, rfl⟩ := hj
      refine ⟨_, ?_, rfl, .lit _ rfl⟩
      rw [bytesRow_at s _ j (by simpa using hj)]
      simp
  · exact plain h
  · split at h
    · rename_i xs hl
      split at h
      · rename_i l hu8
        obtain ⟨h1, h2, h⟩ := h
        obtain ⟨e, hu, hub⟩ := isBytes_eq h1
        have hr := listOf_rep hl (he.ev x)
        obtain ⟨hlen, hget⟩ := u8sOf_get hu8
        have hf := u8_flat hu8
        refine opOK_same hw ⟨.string ⟨l.toArray⟩, .pv (.lit (.string ⟨l.toArray⟩)), ?_, .mk _, h⟩
        generalize hgv : a.eval x = v at hr
        cases hr with
        | list sz xs A c cv hc hs ha hn h1' hr =>
        cases A with
        | none =>
          have : xs = [] := by
            by_cases e : xs = []
            · exact e
            · exact absurd rfl (hn e)
          subst this
          simp [u8sOf] at hu8; subst hu8
          simp only [execOp, ho, hgv, Sem.run_bind]
          rw [run_convert_bytes_string w src dst e none _ c hu hub (isStr_eq h2)]
          simp [Conv.bytesToString]
          rfl
        | some ad =>
          rw [← hlen] at hgv
          have := run_convert_bytes_back (P := P) w src dst e ad c l hu hub (isStr_eq h2) (fun j hj => by
            obtain ⟨a', e', _, hcell⟩ := ha j (by rw [hf]; omega)
            cases e'
            rw [hcell]
            rw [(hr j _ (by rw [hf]; exact hget j hj)).lit_eq])
          simp only [execOp, ho, hgv, Sem.run_bind, this, Result.andThen_ok]
          rfl
      · exact h.elim
    · exact h.elim

/-- What stands for a plain value where nothing is in hand stands for it everywhere. -/
theorem Rep.ofGhost0 {w : World} {I : Imm} {E : Ghost} (hI : ∀ b o, I b o → E.imm b o) {x : AV} {v : Value} (h : Rep w (ghost0 I) x v) : Rep w E x v := by
  have hk : Keeps w I w E.imm := ⟨hI, fun _ _ _ h => h⟩
  induction h with
  | any v => exact .any v
  | undef => exact .undef
  | pv x u h => exact .pv x u (RepV.keep hk h)
  | e0 => exact .e0
  | own id xs u hu hl he hz h => exact hu.elim
  | box id off hu => exact hu.elim
  | map id hu => exact hu.elim
  | iter id hu => exact hu.elim
  | fn f xs ys a b cv dv hn hm hv hu hr hq ih1 ih2 => exact .fn f xs ys a b cv dv hn hm hv hu ih1 ih2
  | agg cs vs cv hn hv h1 hr ih => exact .agg cs vs cv hn hv h1 ih
  | tuple cs vs cv hn hv hr ih => exact .tuple cs vs cv hn hv ih
  | cnd b x u h k ih => exact .cnd b x u ih k

/-- Values, one by one, of whatever kind. -/
def AllRep (w : World) (E : Ghost) (xs : List AV) (vs : List Value) : Prop := vs.length = xs.length ∧ ∀ (j : Nat) x, xs[j]? = some x → ∃ v, vs[j]? = some v ∧ Rep w E x v

theorem AllRep.append {xs ys : List AV} {vs us : List Value} (h : AllRep w E xs vs) (k : AllRep w E ys us) : AllRep w E (xs ++ ys) (vs ++ us) := by
  refine ⟨by simp [h.1, k.1], fun j x hx => ?_⟩
  by_cases hj : j < xs.length
  · rw [List.getElem?_append_left hj] at hx
    rw [List.getElem?_append_left (by rw [h.1]; exact hj)]
    exact h.2 j x hx
  · rw [List.getElem?_append_right (by omega)] at hx
    rw [List.getElem?_append_right (by rw [h.1]; omega), h.1]
    exact k.2 _ x hx
theorem AllRep.evs {env : Env} {a : Act} (he : EnvRep w E env a) (l : List Operand) : AllRep w E (l.map (ev env)) (l.map a.eval) :=
  ⟨by simp, fun j x hx => by
    simp only [List.getElem?_map, Option.map_eq_some_iff] at hx
    obtain ⟨o, ho, rfl⟩ := hx
    exact ⟨a.eval o, by simp [ho], he.ev o⟩⟩

theorem allPlain_all : ∀ {xs : List AV} {ps : List V} {vs : List Value}, allPlain xs = some ps → AllRep w E xs vs → ListRep w E.imm ps vs
  | [], ps, vs, h, hr => by simp [allPlain] at h; subst h; exact ⟨hr.1, fun j x hx => by simp at hx⟩
  | x :: xs, ps, [], h, hr => by have := hr.1; simp at this
  | x :: xs, ps, v :: vs, h, hr => by
    have hr' : AllRep w E xs vs := ⟨by have := hr.1; simpa using this, fun j x hx => by simpa using hr.2 (j + 1) x (by simpa using hx)⟩
    obtain ⟨v', hv', hx⟩ := hr.2 0 x rfl
    simp at hv'; subst hv'
    have key : ∀ (y : V) (r : List V), RepV w E.imm y v → allPlain xs = some r → ps = y :: r → ListRep w E.imm ps (v :: vs) := by
      intro y r hy hr1 e
      subst e
      obtain ⟨h1, h2⟩ := allPlain_all hr1 hr'
      refine ⟨by simpa using h1, fun j x hx => ?_⟩
      cases j with
      | zero => simp at hx; subst hx; exact ⟨_, rfl, hy⟩
      | succ j => simpa using h2 j x (by simpa using hx)
    unfold allPlain at h
    split at h
    · rename_i e; cases e
    · rename_i y r e
      cases e
      simp only [Option.map_eq_some_iff] at h
      obtain ⟨r', h1, h2⟩ := h
      exact key _ _ hx.ofV h1 h2.symm
    · rename_i id ys r e
      cases e
      simp only [Option.map_eq_some_iff] at h
      obtain ⟨r', h1, h2⟩ := h
      exact key _ _ hx.plain_list h1 h2.symm
    · rename_i r e
      cases e
      simp only [Option.map_eq_some_iff] at h
      obtain ⟨r', h1, h2⟩ := h
      exact key _ _ (listOf_rep (x := .e0) rfl hx) h1 h2.symm
    · cases h

/-- What is called, in the model. -/
theorem callee_run {o : Oper} {env : Env} {a : Act} (he : EnvRep w E env a) {c : Call} {f : Operand} (ho : o.op = .call c) (hc : c.callee = .value f) {g : FuncId} {p q : List AV} (h : calleeOf (ev env f) = some (g, p, q)) :
    ∃ us : List Value, (execOp a.eval o).run P w = (callFunc g us.toArray).run P w ∧ AllRep w E (p ++ c.args.toList.map (ev env) ++ q) us := by
  have hf := he.ev f
  have hargs := AllRep.evs he c.args.toList
  have hrun : ∀ (x y : Array Value), a.eval f = .func (.func g) x y → (execOp a.eval o).run P w = (callFunc g (x ++ c.args.map a.eval ++ y)).run P w := fun x y hxy => by
    simp [execOp, ho, resolve, hc, hxy, Deferred.ofValue, invoke]
  have fin : ∀ (x y : Array Value), a.eval f = .func (.func g) x y → AllRep w E p x.toList → AllRep w E q y.toList → ∃ us : List Value, (execOp a.eval o).run P w = (callFunc g us.toArray).run P w ∧ AllRep w E (p ++ c.args.toList.map (ev env) ++ q) us := fun x y hxy hp hq => by
    refine ⟨x.toList ++ c.args.toList.map a.eval ++ y.toList, ?_, (hp.append hargs).append hq⟩
    rw [hrun x y hxy]
    congr 2
    apply Array.toList_inj.1
    simp
  unfold calleeOf at h
  split at h
  · rename_i g' x y hx
    split at h
    · rename_i hemp
      simp only [Option.some.injEq, Prod.mk.injEq] at h
      obtain ⟨rfl, rfl, rfl⟩ := h
      simp only [Bool.and_eq_true, Array.isEmpty_iff] at hemp
      obtain ⟨rfl, rfl⟩ := hemp
      rw [hx] at hf
      exact fin _ _ hf.lit_eq ⟨rfl, fun j x hx => by simp at hx⟩ ⟨rfl, fun j x hx => by simp at hx⟩
    · cases h
  · rename_i g' x y hx
    simp only [Option.some.injEq, Prod.mk.injEq] at h
    obtain ⟨rfl, rfl, rfl⟩ := h
    rw [hx] at hf
    have hf := hf.ofV
    generalize hgv : a.eval f = v at hf
    cases hf with
    | fn f xs ys u1 u2 cv dv hn hm hv hu hr hq =>
    refine fin _ _ hgv ⟨by simp [hn], fun j z hz => ?_⟩ ⟨by simp [hm], fun j z hz => ?_⟩
    · simp only [List.getElem?_map, Option.map_eq_some_iff] at hz
      obtain ⟨y, hy, rfl⟩ := hz
      exact ⟨cv j, by simpa using hv j (List.getElem?_eq_some_iff.1 hy).1, .pv _ _ (hr j y hy)⟩
    · simp only [List.getElem?_map, Option.map_eq_some_iff] at hz
      obtain ⟨y, hy, rfl⟩ := hz
      exact ⟨dv j, by simpa using hu j (List.getElem?_eq_some_iff.1 hy).1, .pv _ _ (hq j y hy)⟩
  · rename_i g' x y hx
    simp only [Option.some.injEq, Prod.mk.injEq] at h
    obtain ⟨rfl, rfl, rfl⟩ := h
    rw [hx] at hf
    generalize hgv : a.eval f = v at hf
    cases hf with
    | fn f xs ys u1 u2 cv dv hn hm hv hu hr hq =>
    refine fin _ _ hgv ⟨by simp [hn], fun j z hz => ?_⟩ ⟨by simp [hm], fun j z hz => ?_⟩
    · exact ⟨cv j, by simpa using hv j (List.getElem?_eq_some_iff.1 hz).1, hr j z hz⟩
    · exact ⟨dv j, by simpa using hu j (List.getElem?_eq_some_iff.1 hz).1, hq j z hz⟩
  · cases h
end
end Go.Proofs.YtaahjmkjdcikcaaDoor.AI
