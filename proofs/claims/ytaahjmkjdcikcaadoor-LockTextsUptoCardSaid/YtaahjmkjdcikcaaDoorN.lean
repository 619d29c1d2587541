/- A machine of plain values: one operation, of whatever kind, is in the model what it is here. No program in sight. -/
import Derived.Test.YtaahjmkjdcikcaaDoorM
namespace Go.Proofs.YtaahjmkjdcikcaaDoor.AI
open Go.RowKit
set_option linter.unusedVariables false
set_option linter.unusedSimpArgs false
set_option linter.unusedSectionVars false
variable [Glob]

section
variable {P : Program} {w w0 : World} {E : Ghost} {σ : St} {K : AV → St → Prop}

theorem own_flat {I : Imm} {base : Nat} {e : TypeId} {sz n : Nat} {v : Value} {cs : List Value} {xs : List V} (h : RepV w I (.list xs) v) (hown : w.ownsRow base e sz v n cs) (hz : ∀ x ∈ xs, x.cells.length = sz) :
    ∀ (j : Nat) y, (flat xs)[j]? = some y → ∃ u, cs[j]? = some u ∧ u.oneCell' = true ∧ RepV w I y u := by
  intro j y hy
  have hj := (List.getElem?_eq_some_iff.1 hy).1
  have hfl := flat_length hz
  have hlen := hown.1
  cases h with
  | list sz' xs A c cv hc hs ha hn h1 hr =>
  obtain ⟨ad, rfl, _, hcell⟩ := ha j hj
  rcases hown.2 with ⟨hv, _⟩ | ⟨g, cap, cur, hv, _, _, _, _, _, _⟩
  · simp at hv
  · simp only [Value.slice.injEq, Option.some.injEq] at hv
    obtain ⟨rfl, hn', _⟩ := hv
    have := ownsRow_cell hown (g := g) rfl j (by rw [← hn']; omega)
    rw [Addr.add_lit, Nat.zero_add, this] at hcell
    exact ⟨cv j, hcell, h1 j hj, hr j y hy⟩

/-- What an append leaves. -/
theorem append_end {o : Oper} {a : Act} {s0 : Operand} {id : Nat} {xs ys : List V} {sz : Nat} {e : TypeId} {cs news : List Value} {v1 : Value} {w1 : World} (hw : Holds E σ w0 w) (hS : Rep w E (.own id xs) (a.eval s0))
    (hid : σ id = some (.tok e sz xs.length)) (hosz : E.osz id = sz) (hown : w.ownsRow E.base e sz (E.ov id) xs.length cs) (hSv : a.eval s0 = E.ov id) (hsy : ∀ z ∈ ys, z.cells.length = sz) (hm : ¬ ys.length = 0)
    (hrun : (execOp a.eval o).run P w = .ok (.value v1) w1) (hown1 : w1.ownsRow E.base e sz v1 (xs.length + ys.length) (cs ++ news))
    (hcase : (v1.ownBlock = (E.ov id).ownBlock ∧ w.grownBy w1 (E.ov id).ownBlock) ∨ (Below w.heap.size w w1 ∧ ∃ b, v1.ownBlock = some b ∧ w.heap.size ≤ b))
    (hrep : ∀ (j : Nat) y, (flat ys)[j]? = some y → ∃ v, news[j]? = some v ∧ v.oneCell' = true ∧ RepV w E.imm y v)
    (h : K (.own id (xs ++ ys)) (σ.set id (.tok e sz (xs.length + ys.length)))) : OpOK P o a w0 w E K := by
  have hxs := hS.plain_list
  have hused : E.used id := (hw.used id).2 (by rw [hid]; rfl)
  obtain ⟨hh, hl'⟩ := hw.app hid hown hown1 (by omega) hcase
  refine opOK_value hrun ⟨.own id (xs ++ ys), _, _, hh, hl', ?_, h⟩
  have hzx : ∀ x ∈ xs, x.cells.length = sz := by
    generalize a.eval s0 = sv at hS
    cases hS with
    | own id xs u hu' hl he hz h => rw [← hosz]; exact hz
  have hall : ∀ x ∈ xs ++ ys, x.cells.length = sz := fun x hx => (List.mem_append.1 hx).elim (hzx x) (hsy x)
  refine .own id _ _ hused (by simp [Ghost.app]) (fun _ => by simp [Ghost.app]) (by intro x hx; exact (hall x hx).trans hosz.symm) ?_
  rw [hSv] at hxs
  have hold := own_flat hxs hown hzx
  have hfx := flat_length hzx
  have hfy := flat_length hsy
  have hlen1 := hown.1
  rcases hown1.2 with ⟨_, h0⟩ | ⟨g, cap, cur, hvv, _, hg, hnc, _, hcur, htake⟩
  · omega
  · have e1 : v1 = .slice (some ⟨g, 0, none⟩) (xs ++ ys).length cap := by rw [hvv]; simp
    suffices key : RepV w1 (E.app id (xs.length + ys.length) v1 ((xs.length + ys.length) * sz)).imm (.list (xs ++ ys)) (.slice (some ⟨g, 0, none⟩) (xs ++ ys).length cap) by
      rwa [← e1] at key
    refine RepV.of_block hall hg (fun o ho => .inr ⟨by simp [hvv, Value.ownBlock], by rw [flat_length hall] at ho; simpa using ho⟩) (by simpa using hnc) (fun j y hy => ?_)
    have hcell : ∀ k v, (cs ++ news)[k]? = some v → cur[k]? = some v := fun k v hk => by
      rw [← htake, List.getElem?_take] at hk
      split at hk
      · simpa using hk
      · cases hk
    have hflat : flat (xs ++ ys) = flat xs ++ flat ys := by simp [flat]
    rw [hflat] at hy
    by_cases hj : j < (flat xs).length
    · rw [List.getElem?_append_left hj] at hy
      obtain ⟨v, hv, ho1, hr⟩ := hold j y hy
      exact ⟨v, hcell j v (by rw [List.getElem?_append_left (by omega)]; exact hv), ho1, hr.keep hl'.keeps⟩
    · rw [List.getElem?_append_right (by omega)] at hy
      obtain ⟨v, hv, ho1, hr⟩ := hrep _ y hy
      exact ⟨v, hcell j v (by rw [List.getElem?_append_right (by omega), hlen1, ← hfx]; exact hv), ho1, hr.keep hl'.keeps⟩

theorem append_ok {o : Oper} {a : Act} {t t' : TypeId} {s y : Operand} {id : Nat} {xs : List V} {Y : AV} (hw : Holds E σ w0 w) (ho : o.op = .call { callee := .builtin .append, args := #[s, y], argTypes := #[t, t'] })
    (hS : Rep w E (.own id xs) (a.eval s)) (hY : Rep w E Y (a.eval y)) (hsrc : srcOk P t t' Y = true) (h : appendK P t id xs σ Y K) : OpOK P o a w0 w E K := by
  unfold appendK at h
  split at h
  · rename_i e sz n e' sz' bytes ys hid hel hly
    obtain ⟨⟨rfl, rfl, rfl⟩, hsy, hbound, h⟩ := h
    obtain ⟨i, z, hu, hi, hz, hsize, hby, hzs, hpos, hbpos⟩ := elemOf_eq hel
    obtain ⟨hon, hosz, cs, hown⟩ := hw.obj id _ hid
    have hxs := hS.plain_list
    have hSv : a.eval s = E.ov id := by
      generalize a.eval s = sv at hS
      cases hS with
      | own id xs u hu' hl he hz h => exact he hon.symm
    have hused : E.used id := (hw.used id).2 (by rw [hid]; rfl)
    have hmax : xs.length + ys.length ≤ maxLen := by
      have : xs.length + ys.length ≤ (xs.length + ys.length) * bytes := Nat.le_mul_of_pos_right _ hbpos
      unfold maxLen; omega
    by_cases hstr : ∃ q, Y = .pv (.lit (.string q))
    · obtain ⟨q, rfl⟩ := hstr
      simp only [srcOf, Option.some.injEq] at hly
      subst hly
      simp only [srcOk, Bool.and_eq_true] at hsrc
      obtain ⟨eb, ib, hel', hib, hzero⟩ := byteRow_eq hsrc.2
      rw [hel] at hel'
      simp only [Option.some.injEq, Prod.mk.injEq] at hel'
      obtain ⟨rfl, rfl, rfl⟩ := hel'
      obtain rfl : i = ib := by rw [hi] at hib; exact Option.some.inj hib
      have hyv : a.eval y = .string q := hY.lit_eq
      have hbl : (bytesV q).length = q.size := bytesV_length q
      by_cases hm : q.size = 0
      · have hys : bytesV q = [] := List.eq_nil_of_length_eq_zero (by rw [hbl]; exact hm)
        have hrun := run_append_mine_str0 (P := P) (w := w) E.base t t' o.type e i hu (isStr_eq hsrc.1) hi hsize (E.ov id) xs.length cs hown q hm
        rw [← hSv, ← hyv] at hrun
        rw [hys] at h
        refine opOK_value (append_run ho hrun) ⟨.own id (xs ++ []), E, σ.set id (.tok e 1 (xs.length + 0)), ?_, .refl _ _, by simpa using hS, by simpa using h⟩
        have : σ.set id (.tok e 1 (xs.length + 0)) = σ := by
          funext j; simp only [St.set]; split
          · rename_i e; subst e; rw [hid]; rfl
          · rfl
        rw [this]; exact hw
      · obtain ⟨v1, w1, hrun, hown1, hcase⟩ := run_append_mine_str (P := P) (w := w) E.base t t' o.type e i hu (isStr_eq hsrc.1) hi hzero hsize hby (E.ov id) xs.length cs hown q (by omega) (by rw [← hbl]; exact hmax) (by rw [← hbl]; simpa using hbound) hw.base
        rw [← hSv, ← hyv] at hrun
        rw [← hbl] at hown1
        refine append_end hw hS hid hosz hown hSv hsy (by rw [hbl]; exact hm) (append_run ho hrun) hown1 hcase (fun j y hy => ?_) h
        rw [bytesV_flat] at hy
        simp only [bytesV, List.getElem?_map, Option.map_eq_some_iff] at hy
        obtain ⟨b, hb', rfl⟩ := hy
        exact ⟨.int .u8 b.toNat, by simp [Lib.strCells, hb'], rfl, .lit _ rfl⟩
    have hly' : listOf Y = some ys := by
      unfold srcOf at hly
      split at hly
      · exact absurd ⟨_, rfl⟩ hstr
      · exact hly
    obtain rfl : t = t' := by
      unfold srcOk at hsrc
      split at hsrc
      · exact absurd ⟨_, rfl⟩ hstr
      · simpa using hsrc
    have hlist := listOf_rep hly' hY
    rcases list_cells hlist hsy hpos with ⟨rfl, c, hyv⟩ | ⟨ad, c, news, hyv, hl, hnews, h1, hrep⟩
    · have hrun := run_append_none (P := P) E.base t o.type e i sz c hu hi (E.ov id) xs.length cs hown
      rw [← hSv, ← hyv] at hrun
      refine opOK_value (append_run ho hrun) ⟨.own id (xs ++ []), E, σ.set id (.tok e sz (xs.length + 0)), ?_, .refl _ _, by simpa using hS, by simpa using h⟩
      have : σ.set id (.tok e sz (xs.length + 0)) = σ := by
        funext j; simp only [St.set]; split
        · rename_i e; subst e; rw [hid]; rfl
        · rfl
      rw [this]; exact hw
    · obtain ⟨v1, w1, hrun, hown1, hcase, A, c', hv1⟩ := run_append_mine (P := P) (w := w) E.base t o.type e i z sz bytes hu hi hz hsize hby hzs hpos (E.ov id) xs.length cs hown ad ys.length c news hl hnews h1 hmax hbound hw.base
      rw [← hSv, ← hyv] at hrun
      by_cases hm : ys.length = 0
      · -- nothing is appended: whatever it is, it stands for the same list
        have hys : ys = [] := List.eq_nil_of_length_eq_zero hm
        subst hys
        have hnw : news = [] := List.eq_nil_of_length_eq_zero (by simpa using hl)
        subst hnw
        have hsame : (Builtin.append_ #[t, t] o.type #[E.ov id, .slice (some ad) 0 c]).run P w = .ok (E.ov id) w := by
          rcases hown.2 with ⟨hv0, hn0⟩ | ⟨g, cap, cur, hv0, _, _, hnc, _⟩
          · rw [hv0]; simp [Builtin.append_, run_underlying hu, sizeOf, typeInfo, hi, Builtin.lenOf, Builtin.firstCells, loadCells, loadCellsFrom]
          · rw [hv0]; simp [Builtin.append_, run_underlying hu, sizeOf, typeInfo, hi, Builtin.lenOf, Builtin.firstCells, loadCells, loadCellsFrom, hnc, storeCells]
        have hyv' : a.eval y = .slice (some ad) 0 c := hyv
        rw [← hSv, ← hyv'] at hsame
        refine opOK_value (append_run ho hsame) ⟨.own id (xs ++ []), E, σ.set id (.tok e sz (xs.length + 0)), ?_, .refl _ _, by simpa using hS, by simpa using h⟩
        have : σ.set id (.tok e sz (xs.length + 0)) = σ := by
          funext j; simp only [St.set]; split
          · rename_i e; subst e; rw [hid]; rfl
          · rfl
        rw [this]; exact hw
      · exact append_end hw hS hid hosz hown hSv hsy hm (append_run ho hrun) hown1 hcase hrep h
  · exact h.elim

/-- The nil slice, taken as a slice of the call's own. -/
theorem Holds.tok0 {id : Nat} (hw : Holds E σ w0 w) (hid : σ id = none) (e : TypeId) (sz : Nat) : ∃ E1, Holds E1 (σ.set id (.tok e sz 0)) w0 w ∧ Later w E w E1 ∧ Rep w E1 (.own id []) (.slice none 0 0) := by
  let E1 : Ghost := { E with used := fun j => j = id ∨ E.used j, ov := fun j => if j = id then .slice none 0 0 else E.ov j, on := fun j => if j = id then 0 else E.on j, osz := fun j => if j = id then sz else E.osz j }
  have hnu := hw.not_used hid
  have hl : Later w E w E1 := ⟨rfl, .refl _ _, fun _ _ h => .inl h, fun _ h => .inr h, fun _ _ => rfl, fun j hj => by
      have : j ≠ id := fun e => hnu (e ▸ hj)
      simp [E1, this], fun j hj _ => by
      have : j ≠ id := fun e => hnu (e ▸ hj)
      simp [E1, this], fun j hj => by
      have : j ≠ id := fun e => hnu (e ▸ hj)
      simp [E1, this]⟩
  have kept : ∀ j x, j ≠ id → σ j = some x → ObjRep w E1 j x ∧ blockOf E1 j x = blockOf E j x := fun j x hj hx =>
    (hw.obj j x hx).kept hl ((hw.used j).2 (by rw [hx]; rfl)) (by simp [E1, hj]) (fun _ _ => rfl)
  have hw1 : Holds E1 (σ.set id (.tok e sz 0)) w0 w := by
    refine ⟨hw.glob.keep hl.keeps, hw.rows, hw.below, hw.base, fun j => ?_, fun j x hx => ?_, fun j j' x x' b hx hx' hb1 hb2 => ?_, fun b off hi => ?_⟩
    · by_cases e : j = id
      · subst e; simp [E1, St.set]
      · simp [E1, St.set, e, hw.used j]
    · by_cases e : j = id
      · subst e; simp [St.set] at hx; subst hx
        exact ⟨by simp [E1], by simp [E1], [], by simpa [E1] using World.ownsRow_nil w E.base _ sz⟩
      · simp [St.set, e] at hx; exact (kept j x e hx).1
    · have key : ∀ j x b, (σ.set id (.tok e sz 0)) j = some x → blockOf E1 j x = some b → σ j = some x ∧ blockOf E j x = some b := fun j x b hx hb => by
        by_cases e : j = id
        · subst e; simp [St.set] at hx; subst hx
          simp [blockOf, E1, Value.ownBlock] at hb
        · simp [St.set, e] at hx; exact ⟨hx, (kept j x e hx).2 ▸ hb⟩
      obtain ⟨h1, h2⟩ := key j x b hx hb1
      obtain ⟨h3, h4⟩ := key j' x' b hx' hb2
      exact hw.inj j j' x x' b h1 h3 h2 h4
    · obtain ⟨h3, h4⟩ := hw.imm b off hi
      refine ⟨h3, fun j x hx hbx => ?_⟩
      by_cases e : j = id
      · subst e; simp [St.set] at hx; subst hx
        simp [blockOf, E1, Value.ownBlock] at hbx
      · simp [St.set, e] at hx
        exact h4 j x hx ((kept j x e hx).2 ▸ hbx)
  have hS : Rep w E1 (.own id []) (.slice none 0 0) := by
    exact .own id [] _ (.inl rfl) (Nat.zero_le _) (fun _ => by simp [E1]) (fun x hx => by cases hx) (.listNil _ _ _ _)
  exact ⟨E1, hw1, hl, hS⟩

/-- An array's cells, taken as a list: they turn no more. -/
theorem freeze_ok {o : Oper} {env : Env} {a : Act} (hw : Holds E σ w0 w) (he : EnvRep w E env a) {t : TypeId} {x : Operand} (ho : o.op = .slice t x none none none) (h : writeK P o env σ K) : OpOK P o a w0 w E K := by
  unfold writeK at h
  simp only [ho] at h
  split at h
  case h_2 => exact h.elim
  rename_i id off hx
  split at h
  case h_2 => exact h.elim
  rename_i u cs n sz ag hid har
  split at h
  case h_2 => exact h.elim
  rename_i vs hvs
  obtain ⟨rfl, rfl, rfl, hlen, hone, h⟩ := h
  obtain ⟨e, hu, hsh⟩ := arrayOf_eq har
  obtain ⟨i, d, hi, hd, hsz, hag⟩ := shapeOf_eq hsh
  have hr := he.ev x
  rw [hx] at hr
  obtain ⟨hb, cells, hheap, hn, hall⟩ := hw.obj id _ hid
  have hblt : E.blk id < w.heap.size := (hw.lt hid rfl).1
  have hcr : CellsRep w E cs cells.toList := ⟨by simpa using hn, fun j y hy => by
    obtain ⟨v, hv, h1, h2⟩ := hall j y hy
    exact ⟨v, by simpa using hv, h1, h2⟩⟩
  obtain ⟨hcl, hcells⟩ := allPlain_rep hvs hcr
  let E1 : Ghost := { E with imm := fun b o => E.imm b o ∨ (b = E.blk id ∧ o < n) }
  have hl : Later w E w E1 := ⟨rfl, ⟨fun _ _ h => .inl h, fun _ _ _ h => h⟩, fun b o h => h.imp (fun h => h) (fun h => by rw [h.1]; exact hb), fun _ h => h, fun _ _ => rfl, fun _ _ => Nat.le_refl _, fun _ _ _ => rfl, fun _ _ => rfl⟩
  have kept : ∀ j y, σ j = some y → ObjRep w E1 j y ∧ blockOf E1 j y = blockOf E j y := fun j y hy => (hw.obj j y hy).kept hl ((hw.used j).2 (by rw [hy]; rfl)) rfl (fun _ _ => rfl)
  have hval : a.eval x = .pointer (some ⟨E.blk id, 0, none⟩) := by
    generalize a.eval x = v at hr
    cases hr; rfl
  have hrun : (execOp a.eval o).run P w = .ok (.value (.slice (some ⟨E.blk id, 0, none⟩) n n)) w := by
    simp only [execOp, ho, hval, Option.map_none, Instr.sliceAt, Sem.run_bind, run_underlying hu, Result.andThen_ok, Instr.sureAddr, Instr.sliceBounds, Sem.run_pure, run_sizeOf hsh]
    simp
    exact fun _ => rfl
  refine opOK_value hrun ⟨.pv (.list vs), E1, σ.set id .dead, ⟨hw.glob.keep hl.keeps, hw.rows, hw.below, hw.base, fun j => ?_, fun j y hy => ?_, fun j j' y y' b hy hy' h1 h2 => ?_, fun b off hi => ?_⟩, hl, ?_, h⟩
  · by_cases e : j = id
    · subst e; simp [St.set, E1, (hw.used j), hid]
    · simp [St.set, e, E1, hw.used j]
  · by_cases e : j = id
    · subst e; simp [St.set] at hy; subst hy; trivial
    · simp [St.set, e] at hy; exact (kept j y hy).1
  · have key : ∀ j y b, (σ.set id .dead) j = some y → blockOf E1 j y = some b → σ j = some y ∧ blockOf E j y = some b := fun j y b hy hb => by
      by_cases e : j = id
      · subst e; simp [St.set] at hy; subst hy; simp [blockOf] at hb
      · simp [St.set, e] at hy; exact ⟨hy, (kept j y hy).2 ▸ hb⟩
    obtain ⟨h3, h4⟩ := key j y b hy h1
    obtain ⟨h5, h6⟩ := key j' y' b hy' h2
    exact hw.inj j j' y y' b h3 h5 h4 h6
  · rcases hi with hi | ⟨rfl, hi⟩
    · obtain ⟨h3, h4⟩ := hw.imm b off hi
      refine ⟨h3, fun j y hy hby => ?_⟩
      by_cases e : j = id
      · subst e; simp [St.set] at hy; subst hy; simp [blockOf] at hby
      · simp [St.set, e] at hy; exact h4 j y hy ((kept j y hy).2 ▸ hby)
    · refine ⟨hblt, fun j y hy hby => ?_⟩
      by_cases e : j = id
      · subst e; simp [St.set] at hy; subst hy; simp [blockOf] at hby
      · simp [St.set, e] at hy
        exact absurd (hw.inj j id y _ _ hy hid ((kept j y hy).2 ▸ hby) rfl) e
  · have hflat : flat vs = vs := by
      have : ∀ l : List V, (∀ y ∈ l, y.cells.length = 1) → (∀ y ∈ l, y.cells = [y]) → flat l = l := fun l _ h => by
        induction l with
        | nil => rfl
        | cons y l ih => simp only [flat, List.flatMap_cons, h y (by simp)] at ih ⊢; simp only [List.singleton_append]; rw [ih (fun z hz => by simp_all) (fun z hz => h z (by simp [hz]))]
      refine this vs hone (fun y hy => ?_)
      obtain ⟨j, hj⟩ := List.getElem?_of_mem hy
      obtain ⟨v, hv, h1, h2⟩ := hcells j y hj
      cases h2 <;> first | rfl | cases h1
    have := RepV.of_block (w1 := w) (I := E1.imm) (xs := vs) (sz := 1) (c := n) hone hheap (fun o ho => .inr ⟨rfl, by rw [hflat] at ho; omega⟩) (by omega) (fun j y hy => by
      rw [hflat] at hy
      obtain ⟨v, hv, h1, h2⟩ := hcells j y hy
      exact ⟨v, by simpa using hv, h1, h2.keep hl.keeps⟩)
    rw [hlen] at this
    exact .pv _ _ this

theorem write_ok {o : Oper} {env : Env} {a : Act} (hw : Holds E σ w0 w) (he : EnvRep w E env a) (h : writeK P o env σ K) : OpOK P o a w0 w E K := by
  have h' := h
  unfold writeK at h
  split at h
  · rename_i t p x ho; exact store_ok hw he ho h'
  · rename_i it isStr ho; exact next_ok hw he ho h'
  · rename_i c ho
    split at h
    · rename_i hc
      split at h
      · rename_i s y t t' hargs htys
        obtain ⟨hsrc, h⟩ := h
        have ho' : o.op = .call { callee := .builtin .append, args := #[s, y], argTypes := #[t, t'] } := by
          rw [ho]; cases c; simp only at hc hargs htys
          subst hc
          congr
          · rw [← Array.toList_inj, hargs]
          · rw [← Array.toList_inj, htys]
        split at h
        · rename_i id xs hs
          exact append_ok hw ho' (hs ▸ he.ev s) (he.ev y) hsrc h
        · rename_i hs
          split at h
          · rename_i e sz b hel
            obtain ⟨id, hid, h⟩ := h
            obtain ⟨i, z, hu, hi, hz, hsize, hby, hzs, hpos, hbpos⟩ := elemOf_eq hel
            have hv : a.eval s = .slice none 0 0 := by
              have := he.ev s
              rw [hs] at this
              generalize a.eval s = v at this
              cases this; rfl
            -- the nil slice as a token's slice
            let E1 : Ghost := { E with used := fun j => j = id ∨ E.used j, ov := fun j => if j = id then .slice none 0 0 else E.ov j, on := fun j => if j = id then 0 else E.on j, osz := fun j => if j = id then sz else E.osz j }
            have hnu := hw.not_used hid
            have hl : Later w E w E1 := ⟨rfl, .refl _ _, fun _ _ h => .inl h, fun _ h => .inr h, fun _ _ => rfl, fun j hj => by
                have : j ≠ id := fun e => hnu (e ▸ hj)
                simp [E1, this], fun j hj _ => by
                have : j ≠ id := fun e => hnu (e ▸ hj)
                simp [E1, this], fun j hj => by
                have : j ≠ id := fun e => hnu (e ▸ hj)
                simp [E1, this]⟩
            have kept : ∀ j x, j ≠ id → σ j = some x → ObjRep w E1 j x ∧ blockOf E1 j x = blockOf E j x := fun j x hj hx =>
              (hw.obj j x hx).kept hl ((hw.used j).2 (by rw [hx]; rfl)) (by simp [E1, hj]) (fun _ _ => rfl)
            have hw1 : Holds E1 (σ.set id (.tok e sz 0)) w0 w := by
              refine ⟨hw.glob.keep hl.keeps, hw.rows, hw.below, hw.base, fun j => ?_, fun j x hx => ?_, fun j j' x x' b hx hx' hb1 hb2 => ?_, fun b off hi => ?_⟩
              · by_cases e : j = id
                · subst e; simp [E1, St.set]
                · simp [E1, St.set, e, hw.used j]
              · by_cases e : j = id
                · subst e; simp [St.set] at hx; subst hx
                  exact ⟨by simp [E1], by simp [E1], [], by simpa [E1] using World.ownsRow_nil w E.base _ sz⟩
                · simp [St.set, e] at hx; exact (kept j x e hx).1
              · have key : ∀ j x b, (σ.set id (.tok e sz 0)) j = some x → blockOf E1 j x = some b → σ j = some x ∧ blockOf E j x = some b := fun j x b hx hb => by
                  by_cases e : j = id
                  · subst e; simp [St.set] at hx; subst hx
                    simp [blockOf, E1, Value.ownBlock] at hb
                  · simp [St.set, e] at hx; exact ⟨hx, (kept j x e hx).2 ▸ hb⟩
                obtain ⟨h1, h2⟩ := key j x b hx hb1
                obtain ⟨h3, h4⟩ := key j' x' b hx' hb2
                exact hw.inj j j' x x' b h1 h3 h2 h4
              · obtain ⟨h3, h4⟩ := hw.imm b off hi
                refine ⟨h3, fun j x hx hbx => ?_⟩
                by_cases e : j = id
                · subst e; simp [St.set] at hx; subst hx
                  simp [blockOf, E1, Value.ownBlock] at hbx
                · simp [St.set, e] at hx
                  exact h4 j x hx ((kept j x e hx).2 ▸ hbx)
            have hS : Rep w E1 (.own id []) (a.eval s) := by
              rw [hv]
              exact .own id [] _ (.inl rfl) (Nat.zero_le _) (fun _ => by simp [E1]) (fun x hx => by cases hx) (.listNil _ _ _ _)
            have := append_ok hw1 ho' hS ((he.ev y).later hl) hsrc h
            intro Q
            have hq := this Q
            unfold Oper.wp at hq ⊢
            refine ?_
            have mono : ∀ (K1 K2 : Act → World → Prop), (∀ a w, K1 a w → K2 a w) → o.wp P a w K1 Q → o.wp P a w K2 Q := fun K1 K2 hk hh => Oper.wp_mono hk hh
            refine mono _ _ (fun a' w1 hh => ?_) (this Q)
            obtain ⟨v, x, E2, σ1, h1, h2, h3, h4, h5⟩ := hh
            exact ⟨v, x, E2, σ1, h1, h2, hl.trans h3, h4, h5⟩
          · exact h.elim
        · exact h.elim
      · exact h.elim
    · rename_i f hc
      rcases h with h | h
      · have := callG_ok hw he ho hc h
        intro Q
        refine Oper.wp_mono (fun a' w1 hh => ?_) (this Q)
        obtain ⟨v, x, E2, σ1, h1, h2, h3, h4, h5, h6⟩ := hh
        exact ⟨v, x, E2, σ1, h1, h2, h3, h4, h5 ▸ h6⟩
      · unfold callE at h
        split at h
        · rename_i g p q hg
          obtain ⟨r, σ', hp, hk⟩ := h
          obtain ⟨us, hrun, hus⟩ := callee_run (P := P) he ho hc hg
          intro Q
          refine (hp w0 w E us hw hus).op hrun fun v w' hR => ?_
          obtain ⟨E', h1, h2, h3⟩ := hR
          exact ⟨v, r, E', σ', rfl, h1, h2, h3, hk⟩
        · exact h.elim
    · exact h.elim
  · rename_i t x ho; exact freeze_ok hw he ho h'
  · exact h.elim

/-- **One operation.** -/
theorem step_ok {pc : Op → Bool} {o : Oper} {env : Env} {a : Act} (hw : Holds E σ w0 w) (he : EnvRep w E env a) (h : stepK P pc o env σ K) : OpOK P o a w0 w E K := by
  have weak : ∀ {K' : AV → Prop}, OpOK P o a w0 w E (fun x σ1 => σ1 = σ ∧ K' x) → (∀ x, K' x → K x σ) → OpOK P o a w0 w E K := fun h1 h2 Q => by
    refine Oper.wp_mono (fun a' w1 hh => ?_) (h1 Q)
    obtain ⟨v, x, E2, σ1, h1, h2', h3, h4, h5, h6⟩ := hh
    exact ⟨v, x, E2, σ1, h1, h2', h3, h4, h5 ▸ h2 x h6⟩
  unfold stepK at h
  split at h
  · exact weak (gpure_ok hw he h) (fun _ h => h)
  · exact weak (load_ok hw he h) (fun _ h => h)
  · obtain ⟨id, hid, h⟩ := h
    intro Q
    refine Oper.wp_mono (fun a' w1 hh => ?_) (alloc_ok hw he hid h Q)
    obtain ⟨v, x, E2, σ1, h1, h2', h3, h4, ob, rfl, h6⟩ := hh
    exact ⟨v, x, E2, _, h1, h2', h3, h4, h6⟩
  · exact write_ok hw he h
  · exact write_ok hw he h
end
end Go.Proofs.YtaahjmkjdcikcaaDoor.AI
