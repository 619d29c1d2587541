/- A machine of plain values: slicing; all operations that look at values alone, together. No program in sight. -/
import Derived.Test.YtaahjmkjdcikcaaDoorF
namespace Go.Proofs.YtaahjmkjdcikcaaDoor.AI
open Go.RowKit
set_option linter.unusedVariables false
set_option linter.unusedSimpArgs false

section
variable {P : Program} {w : World} {E : Ghost} {K : AV → Prop}

theorem flat_take {xs : List V} {sz : Nat} (h : ∀ x ∈ xs, x.cells.length = sz) (n : Nat) : flat (xs.take n) = (flat xs).take (n * sz) := by
  induction xs generalizing n with
  | nil => simp [flat]
  | cons x xs ih =>
    cases n with
    | zero => simp [flat]
    | succ n =>
      have h1 := h x (by simp)
      have h2 := ih (fun y hy => h y (by simp [hy])) n
      simp only [flat, List.take_succ_cons, List.flatMap_cons] at h2 ⊢
      have e : (n + 1) * sz = n * sz + sz := Nat.succ_mul n sz
      have t1 : x.cells.take ((n + 1) * sz) = x.cells := List.take_of_length_le (by omega)
      have t2 : (n + 1) * sz - x.cells.length = n * sz := by omega
      rw [h2, List.take_append, t1, t2]
theorem flat_drop {xs : List V} {sz : Nat} (h : ∀ x ∈ xs, x.cells.length = sz) (n : Nat) : flat (xs.drop n) = (flat xs).drop (n * sz) := by
  induction xs generalizing n with
  | nil => simp [flat]
  | cons x xs ih =>
    cases n with
    | zero => simp [flat]
    | succ n =>
      have h1 := h x (by simp)
      have h2 := ih (fun y hy => h y (by simp [hy])) n
      simp only [flat, List.drop_succ_cons, List.flatMap_cons] at h2 ⊢
      have e : (n + 1) * sz = n * sz + sz := Nat.succ_mul n sz
      have t1 : x.cells.drop ((n + 1) * sz) = [] := List.drop_of_length_le (by omega)
      have t2 : (n + 1) * sz - x.cells.length = n * sz := by omega
      rw [h2, List.drop_append, t1, t2, List.nil_append]

/-- A piece of a list. -/
theorem RepV.piece {I : Imm} {xs : List V} {A : Option Addr} {n c sz : Nat} (h : RepV w I (.list xs) (.slice A n c)) (hs : ∀ x ∈ xs, x.cells.length = sz) (l hh m : Nat) (hlh : l ≤ hh) (h2 : hh ≤ xs.length) (h3 : hh ≤ m) :
    RepV w I (.list ((xs.take hh).drop l)) (.slice (if m = l then A else A.map (·.add (l * sz))) (hh - l) (m - l)) := by
  cases h with
  | list sz' xs A c cv hc hs' ha hn h1' hr =>
    have hlen : ((xs.take hh).drop l).length = hh - l := by simp; omega
    have hs1 : ∀ x ∈ xs.take hh, x.cells.length = sz := fun x hx => hs x (List.mem_of_mem_take hx)
    have hfl : flat ((xs.take hh).drop l) = ((flat xs).take (hh * sz)).drop (l * sz) := by
      rw [flat_drop hs1, flat_take hs]
    rw [← hlen]
    refine .list sz _ _ _ (fun j => cv (l * sz + j)) (by omega) (fun x hx => hs x (List.mem_of_mem_take (List.mem_of_mem_drop hx))) (fun j hj => ?_) (fun hne => ?_) (fun j hj => h1' _ (by rw [hfl] at hj; simp only [List.length_drop, List.length_take] at hj; omega)) (fun j x hx => ?_)
    · rw [hfl] at hj
      simp only [List.length_drop, List.length_take] at hj
      have hml : m ≠ l := by
        intro e; subst e
        have : hh = m := by omega
        subst this
        omega
      obtain ⟨a, rfl, hi, hcell⟩ := ha (l * sz + j) (by omega)
      refine ⟨a.add (l * sz), by rw [if_neg hml]; rfl, ?_⟩
      rw [Addr.add_add]
      exact ⟨hi, hcell⟩
    · have hlt : l < hh := by
        rcases Nat.lt_or_ge l hh with h | h
        · exact h
        · exact absurd (List.eq_nil_of_length_eq_zero (by omega)) hne
      rw [if_neg (by omega)]
      have hxs : xs ≠ [] := by intro e; subst e; simp at hne
      have := hn hxs
      cases A <;> simp_all
    · rw [hfl, List.getElem?_drop, List.getElem?_take] at hx
      split at hx
      · exact hr _ x hx
      · cases hx

def OptRep (w : World) (E : Ghost) : Option AV → Option Value → Prop
  | some x, some u => Rep w E x u
  | none, none => True
  | _, _ => False

theorem bound_run {n d : Nat} {x : Option AV} {u : Option Value} {Kn : Nat → Prop} (h : boundP n x d Kn) (hx : OptRep w E x u) (code : BoundsCode) :
    ∃ k, (match u with | some v => Instr.sliceBound v n code | none => pure d).run P w = .ok k w ∧ Kn k ∧ (u.isSome = true → k ≤ n) ∧ (u = none → k = d) := by
  unfold boundP at h
  cases x with
  | none =>
    cases u with
    | none => exact ⟨d, rfl, h, by simp, by simp⟩
    | some u => exact hx.elim
  | some x =>
    cases u with
    | none => exact hx.elim
    | some u =>
      simp only [OptRep] at hx
      split at h
      · rename_i e; cases e
      · rename_i k i e
        cases e
        have := hx.lit_eq; subst this
        obtain ⟨⟨h0, h1⟩, h⟩ := h
        exact ⟨i.toNat, by simp [Instr.sliceBound, asIntOf, h0, h1], h, by simp; omega, by simp⟩
      · exact h.elim

theorem slice_run {t : TypeId} {x : AV} {u : Value} {lo hi mx : Option AV} {l' h' m' : Option Value} (h : sliceP P t x lo hi mx K) (hx : Rep w E x u)
    (hlo : OptRep w E lo l')
    (hhi : OptRep w E hi h')
    (hmx : OptRep w E mx m') : Yields1 P w E (Instr.sliceAt t u l' h' m') K := by
  unfold sliceP at h
  obtain ⟨hm, h⟩ := h
  cases mx with
  | some _ => cases hm
  | none =>
  cases m' with
  | some _ => exact hmx.elim
  | none =>
  split at h
  · rename_i s
    obtain ⟨ht, h⟩ := h
    have := hx.lit_eq; subst this
    obtain ⟨hh, r1, h, b1, n1⟩ := bound_run (P := P) h hhi .sliceAlen
    obtain ⟨ll, r2, h, b2, n2⟩ := bound_run (P := P) h hlo .sliceB
    refine ⟨_, _, ?_, .mk _, h⟩
    unfold Instr.sliceAt Instr.slice
    simp only [Sem.run_bind, run_underlying (isStr_eq ht), Result.andThen_ok, Instr.sliceBounds]
    cases h' <;> cases l' <;> simp_all
  · split at h
    · rename_i xs e sz hl hs
      obtain ⟨i, hu, hi', rfl⟩ := sliceOf_eq hs
      obtain ⟨hall, h⟩ := h
      have hr := listOf_rep hl hx
      obtain ⟨A, c, rfl, hc⟩ := hr.list_slice
      -- the high bound is held against the capacity
      have hb : ∃ k, (match h' with | some v => Instr.sliceBound v c .sliceAcap | none => pure xs.length).run P w = .ok k w ∧ (boundP k lo 0 fun l => K (.pv (.list ((xs.take k).drop l)))) ∧ k ≤ xs.length := by
        unfold boundP at h
        cases hi with
        | none =>
          cases h' with
          | none => exact ⟨xs.length, rfl, h, Nat.le_refl _⟩
          | some u => exact hhi.elim
        | some x =>
          cases h' with
          | none => exact hhi.elim
          | some u =>
            simp only [OptRep] at hhi
            split at h
            · rename_i e; cases e
            · rename_i k i e
              cases e
              have := hhi.lit_eq; subst this
              obtain ⟨⟨h0, h1⟩, h⟩ := h
              exact ⟨i.toNat, by simp [Instr.sliceBound, asIntOf, h0, show i ≤ (c : Int) by omega], h, by omega⟩
            · exact h.elim
      obtain ⟨hh, r1, h, b1⟩ := hb
      obtain ⟨ll, r2, h, b2, n2⟩ := bound_run (P := P) h hlo .sliceB
      have hll : ll ≤ hh := by
        cases l' with
        | none => have := n2 rfl; omega
        | some _ => exact b2 rfl
      refine ⟨_, _, ?_, .pv _ _ (hr.piece hall ll hh c hll b1 (by omega)), h⟩
      unfold Instr.sliceAt Instr.slice
      simp only [Sem.run_bind, run_underlying hu, Result.andThen_ok, Instr.sliceBounds]
      cases h' <;> cases l' <;> simp_all [sizeOf, typeInfo]
    · exact h.elim

theorem optRep {env : Env} {a : Act} (h : EnvRep w E env a) (x : Option Operand) : OptRep w E (x.map (ev env)) (x.map a.eval) := by
  cases x with
  | none => trivial
  | some x => exact h.ev x

/-- **An operation that looks at values alone yields in the model what it yields here.** -/
theorem pure_run {o : Oper} {env : Env} {a : Act} (h : pureP P o env K) (he : EnvRep w E env a) : ∃ v x, (execOp a.eval o).run P w = .ok (.value v) w ∧ Rep w E x v ∧ K x := by
  have val : ∀ {s : Sem Value}, Yields1 P w E s K → ∃ v x, ((do pure (.value (← s))) : Sem Next).run P w = .ok (.value v) w ∧ Rep w E x v ∧ K x := by
    rintro s ⟨v, x, hr, hx, hk⟩
    exact ⟨v, x, by simp [hr], hx, hk⟩
  unfold pureP at h
  split at h
  case h_1 x ho => exact ⟨_, _, by simp [execOp, ho], he.ev x, h⟩
  case h_2 x ho => exact ⟨_, _, by simp [execOp, ho], he.ev x, h⟩
  case h_3 c x y ho =>
    split at h
    · rename_i t hc
      have hb := (hc ▸ he.ev c).lit_eq
      refine ⟨if t = true then a.eval x else a.eval y, _, by cases t <;> simp [execOp, ho, hb, asBool], ?_, h⟩
      cases t
      · exact he.ev y
      · exact he.ev x
    · exact h.elim
  case h_4 op t x y t' ho =>
    split at h
    · rename_i u v hu hv
      have h1 := (hu ▸ he.ev x).lit_eq
      have h2 := (hv ▸ he.ev y).lit_eq
      obtain ⟨r, hr, ho1, hk⟩ := binP_run h x y w
      refine ⟨r, _, ?_, .mk _ ho1, hk⟩
      simp only [execOp, ho, h1, h2, Sem.run_bind] at hr ⊢
      rw [hr]; rfl
    · rename_i xs ys hu hv
      split at h
      · rename_i b hb
        have hr := aggEq_run (P := P) (w := w) hb (hu ▸ he.ev x).ofV (hv ▸ he.ev y).ofV x y
        refine ⟨.bool b, _, ?_, .mk _ rfl, h⟩
        simp only [execOp, ho, Sem.run_bind] at hr ⊢
        rw [hr]; rfl
      · exact h.elim
    · exact h.elim
  case h_5 op t x ho =>
    have := val (un_run h (he.ev x))
    simpa only [execOp, ho] using this
  case h_6 src dst x ho =>
    have := val (conv_run h (he.ev x))
    simpa only [execOp, ho] using this
  case h_7 x i ho =>
    split at h
    · rename_i xs hx
      obtain ⟨vs, hv, hn, hr⟩ := (hx ▸ he.ev x).tuple_at
      split at h
      · rename_i y hy
        obtain ⟨v, hv', hrv⟩ := hr i y hy
        exact ⟨v, y, by simp [execOp, ho, hv, Instr.extract, hv'], hrv, h⟩
      · exact h.elim
    · exact h.elim
  case h_8 t x f ho =>
    have := val (field_run h (he.ev x))
    simpa only [execOp, ho] using this
  case h_9 t x f ho =>
    have := val (fieldAddr_run h (he.ev x))
    simpa only [execOp, ho] using this
  case h_10 t x i ho =>
    have := val (indexAddr_run h (he.ev x) (he.ev i))
    simpa only [execOp, ho] using this
  case h_11 t x i ho =>
    have := val (index_run h (he.ev x) (he.ev i))
    simpa only [execOp, ho] using this
  case h_12 t x lo hi mx ho =>
    have := val (slice_run h (he.ev x) (optRep he lo) (optRep he hi) (optRep he mx))
    simpa only [execOp, ho] using this
  case h_13 x ho => exact nilCheck_run ho rfl h (he.ev x)
  case h_14 t x ho =>
    have := val (load_run h (he.ev x))
    simpa only [execOp, ho] using this
  case h_15 fn first cap ho =>
    refine ⟨.func fn (first.map a.eval) (cap.map a.eval), _, by simp [execOp, ho, Instr.makeFunc], ?_, h⟩
    refine .fn fn _ _ _ _ (fun j => ((first.map a.eval)[j]?).getD undef) (fun j => ((cap.map a.eval)[j]?).getD undef) (by simp) (by simp) (fun j hj => ?_) (fun j hj => ?_) (fun j x hx => ?_) (fun j x hx => ?_)
    · simp at hj; simp [hj]
    · simp at hj; simp [hj]
    · simp only [List.getElem?_map, Option.map_eq_some_iff, Array.getElem?_toList] at hx
      obtain ⟨y, hy, rfl⟩ := hx
      simp only [Array.getElem?_map, hy, Option.map_some, Option.getD_some]
      exact he.ev y
    · simp only [List.getElem?_map, Option.map_eq_some_iff, Array.getElem?_toList] at hx
      obtain ⟨y, hy, rfl⟩ := hx
      simp only [Array.getElem?_map, hy, Option.map_some, Option.getD_some]
      exact he.ev y
  case h_16 t x ho =>
    obtain ⟨hc, h⟩ := h
    split at h
    · rename_i y hy
      have hr := (hy ▸ he.ev x).ofV
      exact ⟨_, _, by simp [execOp, ho, run_makeInterface, hc], .pv _ _ (.iface t y _ hr), h⟩
    · exact h.elim
  case h_17 c ho =>
    have call : ∀ b, c.callee = .builtin b → (execOp a.eval o).run P w = (builtin b c.argTypes o.type (c.args.map fun | .const _ => true | _ => false) (c.args.map a.eval)).run P w := by
      intro b hb
      simp [execOp, ho, resolve, hb, invoke]
      rfl
    split at h
    · rename_i hb
      split at h
      · rename_i x t hx ht
        have hargs : c.args = #[x] := by rw [← Array.toList_inj]; simpa using hx
        have htys : c.argTypes = #[t] := by rw [← Array.toList_inj]; simpa using ht
        obtain ⟨v, z, hr, hz, hk⟩ := len_run (ty := o.type) h (he.ev x)
        refine ⟨v, z, ?_, hz, hk⟩
        rw [call _ hb, hargs, htys]
        simp [builtin, hr]
      · exact h.elim
    · rename_i hb
      split at h
      · rename_i x y hx
        have hargs : c.args = #[x, y] := by rw [← Array.toList_inj]; simpa using hx
        split at h
        · rename_i k p k' q hp hq
          have h1 := (hp ▸ he.ev x).lit_eq
          have h2 := (hq ▸ he.ev y).lit_eq
          refine ⟨_, _, ?_, .mk _, h⟩
          rw [call _ hb, hargs]
          simp [builtin, h1, h2, run_max_int2, maxI]
        · exact h.elim
      · exact h.elim
    · rename_i hb
      split at h
      · rename_i x y hx
        have hargs : c.args = #[x, y] := by rw [← Array.toList_inj]; simpa using hx
        split at h
        · rename_i k p k' q hp hq
          have h1 := (hp ▸ he.ev x).lit_eq
          have h2 := (hq ▸ he.ev y).lit_eq
          refine ⟨_, _, ?_, .mk _, h⟩
          rw [call _ hb, hargs]
          simp [builtin, h1, h2, run_min_int2, minI]
        · exact h.elim
      · exact h.elim
    · exact h.elim
  case h_18 => exact h.elim
end
end Go.Proofs.YtaahjmkjdcikcaaDoor.AI
