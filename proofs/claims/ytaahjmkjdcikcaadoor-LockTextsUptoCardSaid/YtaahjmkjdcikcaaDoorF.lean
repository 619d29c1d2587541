/- A machine of plain values: operations that look at values alone are in the model what they are here. No program in sight. -/
import Derived.Test.YtaahjmkjdcikcaaDoorE
namespace Go.Proofs.YtaahjmkjdcikcaaDoor.AI
open Go.RowKit
set_option linter.unusedVariables false
set_option linter.unusedSimpArgs false

/-! ### Structs and arrays, compared -/
theorem leafOk_shape {P : Program} {t : TypeId} (h : leafOk P t = true) : shapeOf P t = some (1, false) := by
  unfold leafOk at h
  split at h <;> first | assumption | cases h
theorem part_leaf {P : Program} {w : World} {t : TypeId} {cs : Array Value} {off : Nat} {v : Value} (h : leafOk P t = true) (hv : cs[off]? = some v) : (part t cs off).run P w = .ok v w := by
  unfold part
  simp [run_isAgg (leafOk_shape h), hv]
theorem leafEq_run {P : Program} {w : World} {I : Imm} {t : TypeId} {x y : V} {u v : Value} {b : Bool} (d : Nat) (h : leafEq P t x y = some b) (hx : RepV w I x u) (hy : RepV w I y v) : (Op.equalIn (d + 1) t u v).run P w = .ok b w := by
  unfold leafEq at h
  split at h
  · rename_i k0 k a k' c hu
    rw [hx.lit_eq, hy.lit_eq]
    split at h
    · rename_i hk
      subst hk
      cases h
      rw [run_equalIn_int w d t k k0 a c hu]
      congr 1
    · cases h
  · rename_i a c hu
    rw [hx.lit_eq, hy.lit_eq]
    cases h
    exact run_equalIn_bool w d t a c hu
  · rename_i a c hu
    rw [hx.lit_eq, hy.lit_eq]
    cases h
    rw [run_equalIn_string w d t a c hu, bytes_eq]
  · cases h

/-- The cells of one list from a place on. -/
def CellsAt (w : World) (I : Imm) (xs : List V) (us : Array Value) (o : Nat) : Prop := ∀ j x, xs[j]? = some x → ∃ u, us[o + j]? = some u ∧ RepV w I x u
theorem CellsAt.head {w : World} {I : Imm} {x : V} {xs : List V} {us : Array Value} {o : Nat} (h : CellsAt w I (x :: xs) us o) : ∃ u, us[o]? = some u ∧ RepV w I x u := h 0 x rfl
theorem CellsAt.tail {w : World} {I : Imm} {x : V} {xs : List V} {us : Array Value} {o : Nat} (h : CellsAt w I (x :: xs) us o) : CellsAt w I xs us (o + 1) := fun j y hy => by
  have := h (j + 1) y (by simpa using hy)
  rwa [Nat.add_assoc, Nat.add_comm 1 j]

theorem eqFields_run {P : Program} {w : World} {I : Imm} (d : Nat) (us vs : Array Value) : ∀ (fs : List Field) (o : Nat) (xs ys : List V) (b : Bool), (fs.zipIdx o).all (fun p => p.1.name != "_" && p.1.offset == p.2 && leafOk P p.1.type) = true →
    leavesEq P (fs.map (·.type)) xs ys = some b → CellsAt w I xs us o → CellsAt w I ys vs o → (Op.eqFields (d + 1) us vs fs).run P w = .ok b w
  | [], o, [], [], b, _, h, _, _ => by simp [leavesEq] at h; subst h; simp [Op.eqFields]
  | [], o, x :: xs, ys, b, _, h, _, _ => by simp [leavesEq] at h
  | [], o, [], y :: ys, b, _, h, _, _ => by simp [leavesEq] at h
  | f :: fs, o, [], ys, b, _, h, _, _ => by simp [leavesEq] at h
  | f :: fs, o, x :: xs, [], b, _, h, _, _ => by simp [leavesEq] at h
  | f :: fs, o, x :: xs, y :: ys, b, hf, h, hx, hy => by
    simp only [List.zipIdx_cons, List.all_cons, Bool.and_eq_true, bne_iff_ne, ne_eq, beq_iff_eq] at hf
    obtain ⟨⟨⟨hn, ho⟩, hl⟩, hr⟩ := hf
    simp only [List.map_cons, leavesEq, Option.bind_eq_some_iff, Option.map_eq_some_iff] at h
    obtain ⟨b1, h1, c, h2, rfl⟩ := h
    obtain ⟨u, hu, hru⟩ := hx.head
    obtain ⟨v, hv, hrv⟩ := hy.head
    have e1 := part_leaf (P := P) (w := w) hl (ho ▸ hu)
    have e2 := part_leaf (P := P) (w := w) hl (ho ▸ hv)
    have e3 := leafEq_run (P := P) (w := w) d h1 hru hrv
    have e4 := eqFields_run d us vs fs (o + 1) xs ys c hr h2 hx.tail hy.tail
    simp only [Op.eqFields, ne_eq, hn, not_false_eq_true, if_true, Sem.run_bind, e1, e2, e3, Result.andThen_ok, Sem.run_ite, Sem.run_pure]
    cases b1
    · simp
    · simpa using e4

theorem RepV.cellsAt {w : World} {I : Imm} {xs : List V} {u : Value} (h : RepV w I (.agg xs) u) : ∃ us, u = .agg us ∧ CellsAt w I xs us 0 := by
  cases h with
  | agg cs vs cv hn hv h1 hr =>
    refine ⟨vs, rfl, fun j x hx => ⟨cv j, ?_, hr j x hx⟩⟩
    rw [Nat.zero_add]
    exact hv j (List.getElem?_eq_some_iff.1 hx).1

theorem eqItems_run {P : Program} {w : World} {I : Imm} (d : Nat) {e : TypeId} (hl : leafOk P e = true) (us vs : Array Value) : ∀ (n o : Nat) (xs ys : List V) (b : Bool),
    leavesEq P (List.replicate n e) xs ys = some b → CellsAt w I xs us o → CellsAt w I ys vs o → (Op.eqItems (d + 1) e 1 us vs (List.range' o n)).run P w = .ok b w
  | 0, o, [], [], b, h, _, _ => by simp [leavesEq] at h; subst h; simp [Op.eqItems]
  | 0, o, x :: xs, ys, b, h, _, _ => by simp [leavesEq] at h
  | 0, o, [], y :: ys, b, h, _, _ => by simp [leavesEq] at h
  | n + 1, o, [], ys, b, h, _, _ => by simp [leavesEq, List.replicate_succ] at h
  | n + 1, o, x :: xs, [], b, h, _, _ => by simp [leavesEq, List.replicate_succ] at h
  | n + 1, o, x :: xs, y :: ys, b, h, hx, hy => by
    simp only [List.replicate_succ, leavesEq, Option.bind_eq_some_iff, Option.map_eq_some_iff] at h
    obtain ⟨b1, h1, c, h2, rfl⟩ := h
    obtain ⟨u, hu, hru⟩ := hx.head
    obtain ⟨v, hv, hrv⟩ := hy.head
    have e1 := part_leaf (P := P) (w := w) hl hu
    have e2 := part_leaf (P := P) (w := w) hl hv
    have e3 := leafEq_run (P := P) (w := w) d h1 hru hrv
    have e4 := eqItems_run d hl us vs n (o + 1) xs ys c h2 hx.tail hy.tail
    simp only [List.range'_succ, Op.eqItems, Nat.mul_one, Sem.run_bind, e1, e2, e3, Result.andThen_ok]
    cases b1
    · simp
    · simpa using e4

theorem aggEq_run {P : Program} {w : World} {I : Imm} {op : BinOp} {t : TypeId} {xs ys : List V} {u v : Value} {b : Bool} (h : aggEq P op t xs ys = some b) (hx : RepV w I (.agg xs) u) (hy : RepV w I (.agg ys) v) (x y : Operand) :
    ((do eqGuard op t x y u v; binOp op t u v) : Sem Value).run P w = .ok (.bool b) w := by
  unfold aggEq at h
  split at h
  · rename_i ts hts
    obtain ⟨us, rfl, hcx⟩ := hx.cellsAt
    obtain ⟨vs, rfl, hcy⟩ := hy.cellsAt
    unfold leavesOf at hts
    split at hts
    · rename_i fs ht
      split at hts
      · rename_i hc
        simp only [Option.some.injEq] at hts
        subst hts
        simp only [Bool.and_eq_true, Bool.not_eq_true'] at hc
        obtain ⟨⟨hst, hg⟩, hall⟩ := hc
        have hfo : P.fieldsOf t = fs := by simp [Program.fieldsOf, ht]
        have heq : ∀ c, leavesEq P (fs.toList.map (·.type)) xs ys = some c → (Op.equalIn 10000 t (.agg us) (.agg vs)).run P w = .ok c w := fun c hc => by
          rw [run_equalIn_struct w 9999 t us vs (by rw [hfo]; exact ht) hst, hfo]
          exact eqFields_run 9998 us vs fs.toList 0 xs ys c hall hc hcx hcy
        rw [Sem.run_bind, run_eqGuard_agg w op t x y us vs hg, Result.andThen_ok]
        cases op <;> first
          | cases h
          | (simp only at h
             first
               | rw [run_eql_struct, heq b h]; rfl
               | (simp only [Option.map_eq_some_iff] at h
                  obtain ⟨c, hc, rfl⟩ := h
                  rw [run_neq_struct, heq c hc]; rfl))
      · cases hts
    · rename_i n e ht
      split at hts
      · rename_i hc
        simp only [Option.some.injEq] at hts
        subst hts
        simp only [Bool.and_eq_true, Bool.not_eq_true'] at hc
        obtain ⟨hg, hl⟩ := hc
        obtain ⟨i, dd, hi, hd, hsz, hag⟩ : ∃ i d, P.info? e = some i ∧ P.underlying e = some d ∧ i.size = 1 ∧ isAggD d = false := by
          have := leafOk_shape hl
          unfold shapeOf at this
          split at this
          · rename_i i d hi hd
            simp only [Option.some.injEq, Prod.mk.injEq] at this
            exact ⟨i, d, hi, hd, this.1, this.2⟩
          · cases this
        have hcell : P.cellsOf e = 1 := by simp [Program.cellsOf, hi, hsz]
        have heq : ∀ c, leavesEq P (List.replicate n e) xs ys = some c → (Op.equalIn 10000 t (.agg us) (.agg vs)).run P w = .ok c w := fun c hc => by
          rw [run_equalIn_array w 9999 us vs ht hi, hcell, List.range_eq_range']
          exact eqItems_run 9998 hl us vs n 0 xs ys c hc hcx hcy
        rw [Sem.run_bind, run_eqGuard_agg w op t x y us vs hg, Result.andThen_ok]
        cases op <;> first
          | cases h
          | (simp only at h
             first
               | rw [run_eql_struct, heq b h]; rfl
               | (simp only [Option.map_eq_some_iff] at h
                  obtain ⟨c, hc, rfl⟩ := h
                  rw [run_neq_struct, heq c hc]; rfl))
      · cases hts
    · cases hts
  · cases h

section
variable {P : Program} {w : World} {E : Ghost} {K : AV → Prop}

theorem isStr_eq {t : TypeId} (h : isStr P t = true) : P.underlying t = some .string := by
  unfold isStr at h
  split at h
  · assumption
  · cases h
theorem intOfT_eq {t : TypeId} {k : IntKind} (h : intOfT P t = some k) : P.underlying t = some (.int k) := by
  unfold intOfT at h
  split at h
  · rename_i k' hk; cases h; exact hk
  · cases h
theorem sliceOf_eq {t e : TypeId} {s : Nat} (h : sliceOf P t = some (e, s)) : ∃ i, P.underlying t = some (.slice e) ∧ P.info? e = some i ∧ i.size = s := by
  unfold sliceOf at h
  split at h
  · rename_i e' he
    simp only [Option.map_eq_some_iff, Prod.mk.injEq] at h
    obtain ⟨i, hi, rfl, hs⟩ := h
    exact ⟨i, he, hi, hs⟩
  · cases h
theorem arrayOf_eq {t : TypeId} {n s : Nat} {ag : Bool} (h : arrayOf P t = some (n, s, ag)) : ∃ e, P.underlying t = some (.array n e) ∧ shapeOf P e = some (s, ag) := by
  unfold arrayOf at h
  split at h
  · rename_i n' e he
    simp only [Option.map_eq_some_iff, Prod.mk.injEq] at h
    obtain ⟨⟨s', ag'⟩, hi, rfl, rfl, rfl⟩ := h
    exact ⟨e, he, hi⟩
  · cases h
theorem fieldAt_eq {t : TypeId} {f off s : Nat} {ag : Bool} (h : fieldAt P t f = some (off, s, ag)) : ∃ fs x, P.underlying t = some (.struct fs) ∧ fs[f]? = some x ∧ x.offset = off ∧ shapeOf P x.type = some (s, ag) := by
  unfold fieldAt at h
  split at h
  · rename_i fs he
    simp only [Option.bind_eq_some_iff, Option.map_eq_some_iff, Prod.mk.injEq] at h
    obtain ⟨x, hx, ⟨s', ag'⟩, hi, rfl, rfl, rfl⟩ := h
    exact ⟨fs, x, he, hx, rfl, hi⟩
  · cases h

theorem conv_run {src dst : TypeId} {x : AV} {u : Value} (h : convP P src dst x K) (hx : Rep w E x u) : Yields1 P w E (convert src dst u) K := by
  unfold convP at h
  split at h
  · rename_i k n
    have := hx.lit_eq; subst this
    split at h
    · rename_i k' hk
      obtain ⟨hs, h⟩ := h
      obtain ⟨d, hd⟩ := Option.isSome_iff_exists.1 hs
      exact ⟨_, _, by simp [convert, run_underlying hd, run_underlying (intOfT_eq hk), Conv.intToInt], .mk _, h⟩
    · obtain ⟨hs, hd, h⟩ := h
      obtain ⟨d, hs⟩ := Option.isSome_iff_exists.1 hs
      exact ⟨_, _, by simp [convert, run_underlying hs, run_underlying (isStr_eq hd), Conv.intToString], .mk _, h⟩
  · rename_i s
    have := hx.lit_eq; subst this
    obtain ⟨h1, h2, h⟩ := h
    exact ⟨_, _, by simp [convert, run_underlying (isStr_eq h1), run_underlying (isStr_eq h2)], .mk _, h⟩
  · exact h.elim

theorem un_run {op : UnOp} {x : AV} {u : Value} (h : unP op x K) (hx : Rep w E x u) : Yields1 P w E (Op.unary op u) K := by
  unfold unP at h
  split at h
  · have := hx.lit_eq; subst this
    exact ⟨_, _, by simp [Op.unary], .mk _, h⟩
  · have := hx.lit_eq; subst this
    exact ⟨_, _, rfl, .mk _, h⟩
  · exact h.elim

theorem field_run {t : TypeId} {f : Nat} {x : AV} {u : Value} (h : fieldP P t f x K) (hx : Rep w E x u) : Yields1 P w E (Instr.field t u f) K := by
  unfold fieldP at h
  split at h
  · rename_i off sz ag cs hf
    obtain ⟨fs, y, hu, hy, rfl, hs⟩ := fieldAt_eq hf
    obtain ⟨vs, rfl, hn, hr⟩ := hx.ofV.agg_at
    obtain ⟨v, z, hrun, hz, hk⟩ := partP_run hs hn hr h
    exact ⟨v, z, by simp [Instr.field, run_underlying hu, hy, asAgg, hrun], hz, hk⟩
  · rename_i off sz ag cs hf
    obtain ⟨fs, y, hu, hy, rfl, hs⟩ := fieldAt_eq hf
    obtain ⟨vs, rfl, hn, hr⟩ := hx.agg_at
    obtain ⟨v, z, hrun, hz, hk⟩ := partA_run hs hn hr h
    exact ⟨v, z, by simp [Instr.field, run_underlying hu, hy, asAgg, hrun], hz, hk⟩
  · exact h.elim

theorem Rep.vptr_at {cs : List V} {u : Value} (h : RepV w E.imm (.vptr cs) u) : ∃ a, u = .pointer (some a) := by
  cases h; exact ⟨_, rfl⟩

theorem fieldAddr_run {t : TypeId} {f : Nat} {x : AV} {u : Value} (h : fieldAddrP P t f x K) (hx : Rep w E x u) : Yields1 P w E (Instr.fieldAt t u f) K := by
  unfold fieldAddrP at h
  split at h
  · rename_i off sz ag id o hf
    obtain ⟨fs, y, hu, hy, rfl, hs⟩ := fieldAt_eq hf
    cases hx with
    | box id o hused =>
      refine ⟨_, _, ?_, .box id (o + y.offset) hused, h.2⟩
      simp [Instr.fieldAt, run_underlying hu, hy, Instr.sureAddr, fieldPlace, run_sizeOf hs, h.1, Addr.add_lit]
  · rename_i off sz ag cs hf
    obtain ⟨fs, y, hu, hy, rfl, hs⟩ := fieldAt_eq hf
    have hx := hx.ofV
    obtain ⟨a, rfl⟩ := Rep.vptr_at hx
    refine ⟨_, _, ?_, .pv _ _ (hx.drop_ptr y.offset), h.2⟩
    simp [Instr.fieldAt, run_underlying hu, hy, Instr.sureAddr, fieldPlace, run_sizeOf hs, h.1]
  · exact h.elim

theorem indexAddr_run {t : TypeId} {x i : AV} {u v : Value} (h : indexAddrP P t x i K) (hx : Rep w E x u) (hi : Rep w E i v) : Yields1 P w E (Instr.indexAt t u v) K := by
  unfold indexAddrP at h
  split at h
  · rename_i k n
    have := hi.lit_eq; subst this
    split at h
    · rename_i id o
      cases hx with
      | box id o hused =>
        split at h
        · rename_i len sz ag ha
          obtain ⟨e, hu, hs⟩ := arrayOf_eq ha
          obtain ⟨⟨h0, h1⟩, h⟩ := h
          refine ⟨_, _, ?_, .box id (o + n.toNat * sz) hused, h⟩
          simp [Instr.indexAt, asIntOf, run_underlying hu, Instr.sureAddr, h0, h1, run_sizeOf hs, Addr.add_lit]
        · exact h.elim
    · split at h
      · rename_i xs e sz hl hs
        obtain ⟨⟨h0, h1⟩, hsz, h⟩ := h
        obtain ⟨i, hu, hi, rfl⟩ := sliceOf_eq hs
        have hr := listOf_rep hl hx
        have hlt : n.toNat < xs.length := by omega
        have hget : xs[n.toNat]? = some (xs.getD n.toNat default) := by simp [hlt]
        obtain ⟨a, c, rfl, hp⟩ := hr.elem n.toNat hget
        rw [hsz] at hp
        refine ⟨_, _, ?_, .pv _ _ hp, h⟩
        simp [Instr.indexAt, asIntOf, run_underlying hu, h0, h1, sizeOf, typeInfo, hi]
      · exact h.elim
  · exact h.elim

theorem index_run {t : TypeId} {x i : AV} {u v : Value} (h : indexP P t x i K) (hx : Rep w E x u) (hi : Rep w E i v) : Yields1 P w E (Instr.index t u v) K := by
  unfold indexP at h
  split at h
  · rename_i s k n
    have := hi.lit_eq; subst this
    have := hx.lit_eq; subst this
    obtain ⟨ht, ⟨h0, h1⟩, h⟩ := h
    have hlt : n.toNat < s.size := by omega
    refine ⟨_, _, ?_, .mk _, h⟩
    have hg : s[n.toNat]? = some (s[n.toNat]'hlt) := ByteArray.getElem?_lt' s _ hlt
    simp [Instr.index, asIntOf, run_underlying (isStr_eq ht), h0, hg, byteAt, hlt]
  · rename_i cs k n
    have := hi.lit_eq; subst this
    split at h
    · rename_i len sz ag ha
      obtain ⟨e, hu, hs⟩ := arrayOf_eq ha
      obtain ⟨⟨h0, h1⟩, h⟩ := h
      obtain ⟨vs, rfl, hn, hr⟩ := hx.ofV.agg_at
      obtain ⟨v, z, hrun, hz, hk⟩ := partP_run hs hn hr h
      exact ⟨v, z, by simp [Instr.index, asIntOf, run_underlying hu, h0, h1, run_sizeOf hs, hrun], hz, hk⟩
    · exact h.elim
  · rename_i cs k n
    have := hi.lit_eq; subst this
    split at h
    · rename_i len sz ag ha
      obtain ⟨e, hu, hs⟩ := arrayOf_eq ha
      obtain ⟨⟨h0, h1⟩, h⟩ := h
      obtain ⟨vs, rfl, hn, hr⟩ := hx.agg_at
      obtain ⟨v, z, hrun, hz, hk⟩ := partA_run hs hn hr h
      exact ⟨v, z, by simp [Instr.index, asIntOf, run_underlying hu, h0, h1, run_sizeOf hs, hrun], hz, hk⟩
    · exact h.elim
  · exact h.elim

theorem nilCheck_run {x : AV} {u : Value} {o : Oper} {ρ : Operand → Value} {y : Operand} (ho : o.op = .nilCheck y) (hρ : ρ y = u) (h : nilCheckP x K) (hx : Rep w E x u) :
    ∃ v z, (execOp ρ o).run P w = .ok (.value v) w ∧ Rep w E z v ∧ K z := by
  unfold nilCheckP at h
  split at h
  · refine ⟨u, _, ?_, hx, h⟩
    cases hx; simp [execOp, ho, hρ]
  · refine ⟨u, _, ?_, hx, h⟩
    cases hx with | pv _ _ hx => cases hx; simp [execOp, ho, hρ]
  · refine ⟨u, _, ?_, hx, h⟩
    cases hx; simp [execOp, ho, hρ]
  · refine ⟨u, _, ?_, hx, h⟩
    have := hx.lit_eq; subst this; simp [execOp, ho, hρ]
  · refine ⟨u, _, ?_, hx, h⟩
    cases hx; simp [execOp, ho, hρ]
  · refine ⟨u, _, ?_, hx, h⟩
    cases hx with | pv _ _ hx => cases hx; simp [execOp, ho, hρ]
  · exact h.elim

theorem len_run {t ty : TypeId} {x : AV} {u : Value} (h : lenP P t x K) (hx : Rep w E x u) : Yields1 P w E (Builtin.len_ #[t] ty #[u]) K := by
  unfold lenP at h
  split at h
  · rename_i s
    have := hx.lit_eq; subst this
    exact ⟨_, _, by simp [Builtin.len_, run_underlying (isStr_eq h.1), goInt], .mk _, h.2⟩
  · split at h
    · rename_i xs e hl hs
      obtain ⟨e, sz⟩ := e
      obtain ⟨i, hu, hi, rfl⟩ := sliceOf_eq hs
      obtain ⟨A, c, rfl, _⟩ := (listOf_rep hl hx).list_slice
      exact ⟨_, _, by simp [Builtin.len_, run_underlying hu, goInt], .mk _, h⟩
    · exact h.elim

theorem At.loadCells {I : Imm} {a : Addr} {n m : Nat} {cv : Nat → Value} (h : At w I a n cv) (hm : m ≤ n) : (loadCells a m).run P w = .ok ((List.range m).map cv).toArray w :=
  run_loadCells_list (P := P) w a ((List.range m).map cv) (fun j v hj => by
    simp only [List.getElem?_map, Option.map_eq_some_iff] at hj
    obtain ⟨i, hi, rfl⟩ := hj
    have hi' := List.getElem?_eq_some_iff.1 hi
    obtain ⟨hlt, he⟩ := hi'
    simp at hlt he
    subst he
    exact (h j (by omega)).2) |> fun e => by simpa using e

theorem load_run {t : TypeId} {x : AV} {u : Value} (h : loadP P t x K) (hx : Rep w E x u) : Yields1 P w E (Instr.loadAt t u) K := by
  unfold loadP at h
  split at h
  · rename_i sz ag cs hs
    have hx := hx.ofV
    cases hx with
    | vptr cs a cv ha h1 hr =>
      unfold Yields1
      simp only [Instr.loadAt, Instr.sureAddr, loadVar, Sem.run_bind, Sem.run_pure, Result.andThen_ok, run_isAgg hs]
      unfold partP at h
      cases ag with
      | true =>
        simp only [if_true] at h ⊢
        obtain ⟨hle, h⟩ := h
        rw [Nat.zero_add] at hle
        have hl := ha.loadCells (P := P) hle
        refine ⟨.agg ((List.range sz).map cv).toArray, .pv (.agg ((cs.drop 0).take sz)), by simp [run_sizeOf hs, hl], .pv _ _ (RepV.agg_mk (by simp; omega) (fun j y hy => ?_)), h⟩
        simp only [List.drop_zero, List.getElem?_take] at hy
        split at hy
        · rename_i hj
          exact ⟨cv j, by simp [hj], h1 j (by omega), hr j y hy⟩
        · cases hy
      | false =>
        simp only [Bool.false_eq_true, if_false] at h ⊢
        cases hc : cs[0]? with
        | none => simp [hc] at h
        | some y =>
          simp [hc] at h
          have hlt := (List.getElem?_eq_some_iff.1 hc).1
          have hcell := (ha 0 hlt).2
          rw [Addr.add_zero'] at hcell
          exact ⟨cv 0, .pv y, by simp [hcell], .pv _ _ (hr 0 y hc), h⟩
  · exact h.elim

end
end Go.Proofs.YtaahjmkjdcikcaaDoor.AI
