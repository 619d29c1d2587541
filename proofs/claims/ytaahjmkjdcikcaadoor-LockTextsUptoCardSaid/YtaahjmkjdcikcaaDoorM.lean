/- A machine of plain values: operations that write. No program in sight. -/
import Derived.Test.YtaahjmkjdcikcaaDoorL
import Derived.Lib.AppendStr
namespace Go.Proofs.YtaahjmkjdcikcaaDoor.AI
open Go.RowKit
set_option linter.unusedVariables false
set_option linter.unusedSimpArgs false
set_option linter.unusedSectionVars false
variable [Glob]

section
variable {P : Program} {w w0 : World} {E : Ghost} {σ : St} {K : AV → St → Prop}

theorem opOK_skip {o : Oper} {a : Act} {w1 : World} (h : (execOp a.eval o).run P w = .ok .skip w1) (hk : ∃ E1 σ1, Holds E1 σ1 w0 w1 ∧ Later w E w1 E1 ∧ K .undef σ1) : OpOK P o a w0 w E K := by
  intro Q
  obtain ⟨E1, σ1, h1, h2, h4⟩ := hk
  unfold Oper.wp
  rw [h]
  exact ⟨undef, .undef, E1, σ1, rfl, h1, h2, .undef, h4⟩

theorem store_ok {o : Oper} {env : Env} {a : Act} (hw : Holds E σ w0 w) (he : EnvRep w E env a) {t : TypeId} {p x : Operand} (ho : o.op = .store t p x) (h : writeK P o env σ K) : OpOK P o a w0 w E K := by
  unfold writeK at h
  simp only [ho] at h
  split at h
  · rename_i id off hp
    split at h
    · rename_i u cs sz ag hid hs
      obtain ⟨hwh, hlen, hle, h⟩ := h
      have hr := he.ev p
      rw [hp] at hr
      generalize hgv : a.eval p = v at hr
      cases hr with
      | box id off hused =>
      obtain ⟨hb, vs, hheap, hn, hall⟩ := hw.obj id _ hid
      have hx := he.ev x
      obtain ⟨hc1, hc2⟩ := hx.cells (AV.whole_ne hwh)
      have hcl : (a.eval x).cells.size = sz := by have : (a.eval x).cells.toList.length = (ev env x).cells.length := hc1; simp at this; omega
      have h1 : ∀ v ∈ (a.eval x).cells.toList, v.oneCell' = true := fun v hv => by
        obtain ⟨j, hj, rfl⟩ := List.mem_iff_getElem.1 hv
        obtain ⟨v', hv', ho', _⟩ := hc2 j (ev env x).cells[j] (by simp)
        rw [List.getElem?_eq_getElem hj] at hv'
        cases hv'; exact ho'
      have hst := run_storeCells_at P (E.blk id) off u (a.eval x).cells.toList 0 vs w hheap (by simp; omega) h1
      have hrun : (execOp a.eval o).run P w = .ok .skip (w.setRow (E.blk id) (splice vs.toList off (a.eval x).cells.toList).toArray) := by
        simp only [execOp, ho, hgv, Instr.storeAt, Instr.sureAddr, storeVar, Sem.run_bind, Sem.run_pure, Result.andThen_ok, run_sizeOf hs, hcl]
        simp [hst, splice]
      obtain ⟨hh, hl⟩ := hw.write (w1 := w.setRow (E.blk id) (splice vs.toList off (a.eval x).cells.toList).toArray) hid (o' := .box u (splice cs off (ev env x).cells)) rfl rfl (fun _ _ _ => by simp) (fun _ _ _ => by simp) ⟨rfl, rfl, rfl⟩ (by simp) (fun k hk => setRow_other w _ k _ hk) (fun hl => by
        have hsp := CellsRep.splice (E := E) (off := off) (⟨by simpa using hn, fun j y hy => by simpa using hall j y hy⟩ : CellsRep w E cs vs.toList) ⟨hc1, hc2⟩ (by omega)
        refine ⟨hb, _, setRow_heap w _ vs _ u _ hheap, by simpa using hsp.1, fun j y hy => ?_⟩
        obtain ⟨v, hv, ho', hr'⟩ := hsp.2 j y hy
        exact ⟨v, by simpa using hv, ho', hr'.later hl⟩)
      exact opOK_skip hrun ⟨E, _, hh, hl, h⟩
    · exact h.elim
  · exact h.elim

theorem next_ok {o : Oper} {env : Env} {a : Act} (hw : Holds E σ w0 w) (he : EnvRep w E env a) {it : Operand} {isStr : Bool} (ho : o.op = .next it isStr) (h : writeK P o env σ K) : OpOK P o a w0 w E K := by
  unfold writeK at h
  simp only [ho] at h
  split at h
  · rename_i id hp
    split at h
    · rename_i s pos hid
      obtain ⟨rfl, h⟩ := h
      have hr := he.ev it
      rw [hp] at hr
      generalize hgv : a.eval it = v at hr
      cases hr with
      | iter id hused =>
      obtain ⟨hb, hheap⟩ := hw.obj id _ hid
      split at h
      · rename_i hlt
        have hrun : (execOp a.eval o).run P w = .ok (.value (.tuple #[.bool true, .int .i64 pos, .int .i32 (Utf8.decode s pos).1])) { w with heap := w.heap.setIfInBounds (E.blk id) (.stringIter s (pos + (Utf8.decode s pos).2)) } := by
          simp only [execOp, ho, hgv, Instr.next, getObj, setObj, Sem.run_bind, Sem.run, hheap, Result.andThen_ok, hlt, if_true]
          simp [Sem.run, hheap, goInt]
        have hlt' := (Array.getElem?_eq_some_iff.1 hheap).1
        obtain ⟨hh, hl⟩ := hw.write (w1 := { w with heap := w.heap.setIfInBounds (E.blk id) (.stringIter s (pos + (Utf8.decode s pos).2)) }) hid (o' := .siter s (pos + (Utf8.decode s pos).2)) rfl rfl (fun _ _ _ => by simp) (fun _ _ _ => by simp) ⟨rfl, rfl, rfl⟩ (by simp) (fun k hk => by
          simp only
          rw [Array.getElem?_setIfInBounds_ne (fun e => hk e.symm)]) (fun hl => ⟨hb, by simp [hlt']⟩)
        refine opOK_value hrun ⟨_, E, _, hh, hl, ?_, h⟩
        refine Rep.tuple_mk rfl (fun j x hx => ?_)
        match j, hx with
        | 0, hx => simp at hx; subst hx; exact ⟨_, rfl, .mk _⟩
        | 1, hx => simp at hx; subst hx; exact ⟨_, rfl, .mk _⟩
        | 2, hx => simp at hx; subst hx; exact ⟨_, rfl, .mk _⟩
      · rename_i hlt
        have hrun : (execOp a.eval o).run P w = .ok (.value (.tuple #[.bool false])) w := by
          simp only [execOp, ho, hgv, Instr.next, getObj, setObj, Sem.run_bind, Sem.run, hheap, Result.andThen_ok, hlt, if_false]
          simp [Sem.run]
        refine opOK_value hrun ⟨_, E, _, hw, .refl _ _, ?_, h⟩
        refine Rep.tuple_mk rfl (fun j x hx => ?_)
        match j, hx with
        | 0, hx => simp at hx; subst hx; exact ⟨_, rfl, .mk _⟩
    · exact h.elim
  · exact h.elim

/-- What is appended, as cells at a place. -/
theorem list_cells {I : Imm} {ys : List V} {u : Value} {sz : Nat} (h : RepV w I (.list ys) u) (hs : ∀ y ∈ ys, y.cells.length = sz) (hsz : 0 < sz) :
    (ys = [] ∧ ∃ c, u = .slice none 0 c) ∨ ∃ (ad : Addr) (c : Nat) (news : List Value), u = .slice (some ad) ys.length c ∧ news.length = ys.length * sz ∧ (∀ (j : Nat) v, news[j]? = some v → w.cell? (ad.add j) = some v) ∧ (∀ v ∈ news, v.oneCell' = true) ∧
      ∀ (j : Nat) y, (flat ys)[j]? = some y → ∃ v, news[j]? = some v ∧ v.oneCell' = true ∧ RepV w I y v := by
  cases h with
  | list sz' xs A c cv hc hs' ha hn h1 hr =>
  cases A with
  | none =>
    left
    have : ys = [] := by
      by_cases e : ys = []
      · exact e
      · exact absurd rfl (hn e)
    subst this
    exact ⟨rfl, c, rfl⟩
  | some ad =>
    right
    have hfl := flat_length hs
    refine ⟨ad, c, (List.range (ys.length * sz)).map cv, rfl, by simp, fun j v hv => ?_, fun v hv => ?_, fun j y hy => ?_⟩
    · simp only [List.getElem?_map, Option.map_eq_some_iff] at hv
      obtain ⟨i, hi, rfl⟩ := hv
      obtain ⟨hlt, he⟩ := List.getElem?_eq_some_iff.1 hi
      simp at hlt he
      subst he
      obtain ⟨a', e', _, hcell⟩ := ha j (by omega)
      cases e'
      exact hcell
    · simp only [List.mem_map, List.mem_range] at hv
      obtain ⟨i, hi, rfl⟩ := hv
      exact h1 i (by omega)
    · have hj := (List.getElem?_eq_some_iff.1 hy).1
      refine ⟨cv j, ?_, h1 j hj, hr j y hy⟩
      simp [show j < ys.length * sz by omega]

/-- The ghost behind an append: the token's slice, and what turns no more. -/
def Ghost.app (E : Ghost) (id n : Nat) (v : Value) (k : Nat) : Ghost :=
  { E with on := fun j => if j = id then n else E.on j, ov := fun j => if j = id then v else E.ov j, imm := fun b o => E.imm b o ∨ (v.ownBlock = some b ∧ o < k) }

theorem ownsRow_cell {base : Nat} {e : TypeId} {sz n g : Nat} {v : Value} {cs : List Value} (h : w.ownsRow base e sz v n cs) (hg : v.ownBlock = some g) (j : Nat) (hj : j < n * sz) : w.cell? ⟨g, j, none⟩ = cs[j]? := by
  have hlen := h.1
  have := h.cells hg j cs[j] (by simp)
  rw [Addr.add_lit, Nat.zero_add] at this
  rw [this, List.getElem?_eq_getElem]

/-- 'append' onto what the call owns: in place, or into a new block. -/
theorem run_append_mine (base : Nat) (t ty e : TypeId) (i : TypeInfo) (z : Value) (size bytes : Nat) (ht : P.underlying t = some (.slice e)) (hi : P.info? e = some i) (hz : i.zero = some z)
    (hsize : i.size = size) (hby : i.bytes = bytes) (hzs : z.cells.size = size) (hsz : 0 < size)
    (v : Value) (n : Nat) (xs : List Value) (hown : w.ownsRow base e size v n xs)
    (a : Addr) (m c : Nat) (news : List Value) (hl : news.length = m * size) (hnews : ∀ (j : Nat) u, news[j]? = some u → w.cell? (a.add j) = some u) (h1 : ∀ u ∈ news, u.oneCell' = true)
    (h63 : n + m ≤ maxLen) (hbytes : (n + m) * bytes ≤ 140737488355328) (hbase : base ≤ w.heap.size) :
    ∃ v' w', (Builtin.append_ #[t, t] ty #[v, .slice (some a) m c]).run P w = .ok v' w' ∧ w'.ownsRow base e size v' (n + m) (xs ++ news) ∧
      ((v'.ownBlock = v.ownBlock ∧ w.grownBy w' v.ownBlock) ∨ (Below w.heap.size w w' ∧ ∃ b, v'.ownBlock = some b ∧ w.heap.size ≤ b)) ∧ ∃ A c', v' = .slice A (n + m) c' := by
  subst hsize
  subst hby
  have hsmall : n + m ≤ 9223372036854775807 := by simp only [maxLen] at h63; omega
  have hlen : (xs ++ news).length = (n + m) * i.size := by rw [List.length_append, hown.1, hl, Nat.add_mul]
  have grown : ∀ (old : Nat), old < n + m →
      (w.drew.alloc (.cells (xs.toArray ++ news.toArray ++ Builtin.zeroCells z.cells (grownCap w (n + m) old e - (n + m))) e)).ownsRow base e i.size
        (.slice (some ⟨w.heap.size, 0, none⟩) (n + m) (grownCap w (n + m) old e)) (n + m) (xs ++ news) ∧
      Below w.heap.size w (w.drew.alloc (.cells (xs.toArray ++ news.toArray ++ Builtin.zeroCells z.cells (grownCap w (n + m) old e - (n + m))) e)) := by
    intro old ho
    have hge := grownCap_ge w (n + m) old e
    have hcm : grownCap w (n + m) old e ≤ maxLen := grownCap_le_maxLen w (n + m) old e h63
    refine ⟨⟨hlen, .inr ⟨w.heap.size, _, _, rfl, hbase, heap_alloc_new w.drew _, hge, hcm, ?_, ?_⟩⟩, (Below.refl _ _).drew.alloc (Nat.le_refl _) _⟩
    · simp only [Array.size_append, List.size_toArray, size_zeroCells, hzs, hown.1, hl, ← Nat.add_mul]
      congr 1
      omega
    · simp only [Array.toList_append, List.append_assoc]
      rw [← List.append_assoc, ← hlen]
      exact List.take_left
  rcases hown.2 with ⟨rfl, rfl⟩ | ⟨g, cap, cur, rfl, hbg, hg, hnc, hcm, hcs, htake⟩
  · have hx : xs = [] := List.eq_nil_of_length_eq_zero (by simpa using hown.1)
    subst hx
    by_cases hm : m = 0
    · subst hm
      have hn : news = [] := List.eq_nil_of_length_eq_zero (by simpa using hl)
      subst hn
      refine ⟨.slice none 0 0, w, ?_, World.ownsRow_nil w base e i.size, .inl ⟨rfl, ⟨rfl, rfl, rfl, Nat.le_refl _, fun _ _ _ => rfl⟩⟩, _, _, rfl⟩
      simp [Builtin.append_, run_underlying ht, sizeOf, typeInfo, hi, Builtin.lenOf, Builtin.firstCells, loadCells, loadCellsFrom]
    · have hr := run_append_nil (P := P) w t ty e i z ht hi hz a m c news hl hnews (by omega) (by omega) (by have hb := hbytes; simp only [Nat.zero_add] at hb; omega)
      have hgr := grown 0 (by omega)
      simp only [Nat.zero_add, List.nil_append, Array.empty_append] at hgr ⊢
      exact ⟨_, _, hr, hgr.1, .inr ⟨hgr.2, w.heap.size, rfl, Nat.le_refl _⟩, _, _, rfl⟩
  · by_cases hroom : n + m ≤ cap
    · have hfit : n * i.size + news.length ≤ cur.size := by rw [hl, hcs, ← Nat.add_mul]; exact Nat.mul_le_mul_right _ hroom
      have hr := run_append_room (P := P) w t ty e i ht hi g n cap cur hg a m c news hl hnews h1 hroom hfit
      refine ⟨_, _, hr, ⟨hlen, .inr ⟨g, cap, _, rfl, hbg, setRow_heap w g cur _ e _ hg, hroom, hcm, ?_, ?_⟩⟩, .inl ⟨rfl, ⟨rfl, rfl, rfl, by simp, fun k _ hk => setRow_other w g k _ (fun e => hk (by simp [Value.ownBlock, e]))⟩⟩, _, _, rfl⟩
      · simp only [List.size_toArray, List.length_append, List.length_take, List.length_drop, Array.length_toList]
        omega
      · rw [htake, ← hlen]
        exact List.take_left
    · have holds : ∀ (j : Nat) u, xs[j]? = some u → w.cell? ((⟨g, 0, none⟩ : Addr).add j) = some u := hown.cells (g := g) rfl
      have hr := run_append_grow (P := P) w t ty e i z ht hi hz ⟨g, 0, none⟩ n cap xs hown.1 holds a m c news hl hnews (by omega) (by omega) (growslice_fits (by omega) hbytes)
      have hgr := grown cap (by omega)
      exact ⟨_, _, hr, hgr.1, .inr ⟨hgr.2, w.heap.size, rfl, Nat.le_refl _⟩, _, _, rfl⟩

/-- A text's bytes appended to an own slice. -/
theorem run_append_mine_str (base : Nat) (t u ty e : TypeId) (i : TypeInfo) (ht : P.underlying t = some (.slice e)) (hu : P.underlying u = some .string) (hi : P.info? e = some i) (hz : i.zero = some (.int .u8 0))
    (hsize : i.size = 1) (hby : i.bytes = 1)
    (v : Value) (n : Nat) (xs : List Value) (hown : w.ownsRow base e 1 v n xs) (s : ByteArray) (hs : 0 < s.size)
    (h63 : n + s.size ≤ maxLen) (hbytes : n + s.size ≤ 140737488355328) (hbase : base ≤ w.heap.size) :
    ∃ v' w', (Builtin.append_ #[t, u] ty #[v, .string s]).run P w = .ok v' w' ∧ w'.ownsRow base e 1 v' (n + s.size) (xs ++ Lib.strCells s) ∧
      ((v'.ownBlock = v.ownBlock ∧ w.grownBy w' v.ownBlock) ∨ (Below w.heap.size w w' ∧ ∃ b, v'.ownBlock = some b ∧ w.heap.size ≤ b)) := by
  have hsmall : n + s.size ≤ 9223372036854775807 := by simp only [maxLen] at h63; omega
  have hxl : xs.length = n := by simpa using hown.1
  have hlen : (xs ++ Lib.strCells s).length = (n + s.size) * 1 := by rw [List.length_append, hxl, Lib.strCells_length, Nat.mul_one]
  have grown : ∀ (old : Nat), old < n + s.size →
      (w.drew.alloc (.cells (xs.toArray ++ (Lib.strCells s).toArray ++ Builtin.zeroCells (Value.int .u8 0).cells (grownCap w (n + s.size) old e - (n + s.size))) e)).ownsRow base e 1
        (.slice (some ⟨w.heap.size, 0, none⟩) (n + s.size) (grownCap w (n + s.size) old e)) (n + s.size) (xs ++ Lib.strCells s) ∧
      Below w.heap.size w (w.drew.alloc (.cells (xs.toArray ++ (Lib.strCells s).toArray ++ Builtin.zeroCells (Value.int .u8 0).cells (grownCap w (n + s.size) old e - (n + s.size))) e)) := by
    intro old ho
    have hge := grownCap_ge w (n + s.size) old e
    have hcm : grownCap w (n + s.size) old e ≤ maxLen := grownCap_le_maxLen w (n + s.size) old e h63
    refine ⟨⟨hlen, .inr ⟨w.heap.size, _, _, rfl, hbase, heap_alloc_new w.drew _, hge, hcm, ?_, ?_⟩⟩, (Below.refl _ _).drew.alloc (Nat.le_refl _) _⟩
    · have hz1 : (Value.int IntKind.u8 0).cells.size = 1 := rfl
      simp only [Array.size_append, List.size_toArray, size_zeroCells, hz1, hxl, Lib.strCells_length]
      omega
    · simp only [Array.toList_append, List.append_assoc]
      rw [← List.append_assoc, ← hlen]
      exact List.take_left
  rcases hown.2 with ⟨rfl, rfl⟩ | ⟨g, cap, cur, rfl, hbg, hg, hnc, hcm, hcs, htake⟩
  · have hx : xs = [] := List.eq_nil_of_length_eq_zero hxl
    subst hx
    have hr := run_append_nil_string (P := P) w t u ty e i (.int .u8 0) ht hu hi hz s (by omega) (by omega) (by rw [hby]; omega)
    have hgr := grown 0 (by omega)
    simp only [Nat.zero_add, List.nil_append, Array.empty_append] at hgr ⊢
    have e1 : (s.data.map fun b => Value.int .u8 b.toNat) = (Lib.strCells s).toArray := by
      apply Array.ext'
      simp [Lib.strCells]
    rw [e1] at hr
    exact ⟨_, _, hr, hgr.1, .inr ⟨hgr.2, w.heap.size, rfl, Nat.le_refl _⟩⟩
  · by_cases hroom : n + s.size ≤ cap
    · have hcs' : cur.size = cap := by simpa using hcs
      have hr := Lib.run_append_room_string (P := P) w t u ty e i ht hu hi hsize g n cap cur hg s hroom (by omega)
      refine ⟨_, _, hr, ⟨hlen, .inr ⟨g, cap, _, rfl, hbg, setRow_heap w g cur _ e _ hg, hroom, hcm, ?_, ?_⟩⟩, .inl ⟨rfl, ⟨rfl, rfl, rfl, by simp, fun k _ hk => setRow_other w g k _ (fun e => hk (by simp [Value.ownBlock, e]))⟩⟩⟩
      · simp only [List.size_toArray, List.length_append, List.length_take, List.length_drop, Array.length_toList, Lib.strCells_length]
        omega
      · have ht' : cur.toList.take n = xs := by simpa using htake
        rw [ht', ← hlen]
        exact List.take_left
    · have holds : ∀ j u, xs[j]? = some u → w.cell? ((⟨g, 0, none⟩ : Addr).add j) = some u := hown.cells (g := g) rfl
      have hr := Lib.run_append_grow_string (P := P) w t u ty e i (.int .u8 0) ht hu hi hz ⟨g, 0, none⟩ n cap xs (by rw [hsize]; simpa using hxl) holds s (by omega) (by omega) (by rw [hby]; exact growslice_fits (by omega) (by omega))
      have hgr := grown cap (by omega)
      exact ⟨_, _, hr, hgr.1, .inr ⟨hgr.2, w.heap.size, rfl, Nat.le_refl _⟩⟩
theorem run_append_mine_str0 (base : Nat) (t u ty e : TypeId) (i : TypeInfo) (ht : P.underlying t = some (.slice e)) (hu : P.underlying u = some .string) (hi : P.info? e = some i) (hsize : i.size = 1)
    (v : Value) (n : Nat) (xs : List Value) (hown : w.ownsRow base e 1 v n xs) (s : ByteArray) (hm : s.size = 0) :
    (Builtin.append_ #[t, u] ty #[v, .string s]).run P w = .ok v w := by
  have hf := Lib.run_firstCells_string (P := P) w 1 s
  rw [hm] at hf
  have hn : Lib.strCells s = [] := List.eq_nil_of_length_eq_zero (by rw [Lib.strCells_length]; exact hm)
  rcases hown.2 with ⟨hv0, hn0⟩ | ⟨g, cap, cur, hv0, _, _, hnc, _⟩
  · rw [hv0]; simp [Builtin.append_, run_underlying ht, run_underlying hu, sizeOf, typeInfo, hi, hsize, Builtin.lenOf, hm, hf]
  · have : s.data = #[] := by apply Array.eq_empty_of_size_eq_zero; exact hm
    rw [hv0]; simp [Builtin.append_, run_underlying ht, run_underlying hu, sizeOf, typeInfo, hi, hsize, Builtin.lenOf, hm, hf, hnc, hn, storeCells]

theorem run_append_none (base : Nat) (t ty e : TypeId) (i : TypeInfo) (size c : Nat) (ht : P.underlying t = some (.slice e)) (hi : P.info? e = some i)
    (v : Value) (n : Nat) (xs : List Value) (hown : w.ownsRow base e size v n xs) :
    (Builtin.append_ #[t, t] ty #[v, .slice none 0 c]).run P w = .ok v w := by
  rcases hown.2 with ⟨rfl, rfl⟩ | ⟨g, cap, cur, rfl, _, _, hnc, _⟩
  · simp [Builtin.append_, run_underlying ht, sizeOf, typeInfo, hi, Builtin.lenOf, Builtin.firstCells]
  · simp [Builtin.append_, run_underlying ht, sizeOf, typeInfo, hi, Builtin.lenOf, Builtin.firstCells, hnc, storeCells]

theorem append_run {o : Oper} {a : Act} {t t' : TypeId} {s y : Operand} (ho : o.op = .call { callee := .builtin .append, args := #[s, y], argTypes := #[t, t'] }) {v' : Value} {w1 : World}
    (h : (Builtin.append_ #[t, t'] o.type #[a.eval s, a.eval y]).run P w = .ok v' w1) : (execOp a.eval o).run P w = .ok (.value v') w1 := by
  unfold execOp
  simp only [ho, resolve, invoke, builtin, Sem.run_bind, Sem.run_pure, Result.andThen_ok, List.map_toArray, List.map_cons, List.map_nil, h]

/-- An append, as the ghosts see it. -/
theorem Holds.app {w1 : World} {id sz n m : Nat} {e : TypeId} {cs news : List Value} {v1 : Value} (hw : Holds E σ w0 w) (hid : σ id = some (.tok e sz n)) (hown : w.ownsRow E.base e sz (E.ov id) n cs)
    (hown1 : w1.ownsRow E.base e sz v1 (n + m) (cs ++ news)) (hn : 0 < m)
    (hcase : (v1.ownBlock = (E.ov id).ownBlock ∧ w.grownBy w1 (E.ov id).ownBlock) ∨ (Below w.heap.size w w1 ∧ ∃ b, v1.ownBlock = some b ∧ w.heap.size ≤ b)) :
    Holds (E.app id (n + m) v1 ((n + m) * sz)) (σ.set id (.tok e sz (n + m))) w0 w1 ∧ Later w E w1 (E.app id (n + m) v1 ((n + m) * sz)) := by
  have hon : E.on id = n := (hw.obj id _ hid).1
  have hsize : w.heap.size ≤ w1.heap.size := by rcases hcase with ⟨_, h⟩ | ⟨h, _⟩ <;> exact h.size
  have hl1 := hown.1
  have hblock : ∀ k, k < w.heap.size → (E.ov id).ownBlock ≠ some k → w1.heap[k]? = w.heap[k]? := fun k hk hne => by
    rcases hcase with ⟨_, h⟩ | ⟨h, _⟩
    · exact h.block k hk (fun e => hne e.symm)
    · exact h.block k hk
  have hkeep : Keeps w E.imm w1 (E.app id (n + m) v1 ((n + m) * sz)).imm := by
    refine ⟨fun _ _ h => .inl h, fun a ha v hv => ?_⟩
    rcases hcase with ⟨hsame, hg⟩ | ⟨hb, _⟩
    · by_cases e : some a.block = (E.ov id).ownBlock
      · obtain ⟨_, h4⟩ := hw.imm _ _ ha
        obtain ⟨e', sz', n', hx, hoff⟩ := h4 id _ hid (by simp [blockOf, ← e])
        cases hx
        have hspot : a.spot = none := by
          cases hs : a.spot with
          | none => rfl
          | some x =>
            exfalso
            unfold World.cell? at hv
            cases hh : w.heap[a.block]? with
            | none => simp [hh] at hv
            | some ob => cases ob <;> simp [hh, hs] at hv
        have ea : a = ⟨a.block, a.off, none⟩ := by cases a; simp_all
        rw [ea] at hv ⊢
        rw [ownsRow_cell hown e.symm a.off hoff] at hv
        rw [ownsRow_cell hown1 (hsame.trans e.symm) a.off (by rw [Nat.add_mul]; omega), List.getElem?_append_left (by omega)]
        exact hv
      · exact hg.cell hv e
    · exact (hb.cell (World.block_lt_of_cell? w a hv)).trans hv
  have hlater : Later w E w1 (E.app id (n + m) v1 ((n + m) * sz)) := by
    refine ⟨rfl, hkeep, fun b o h => h.imp (fun h => h) (fun h => (hown1.lt b h.1).1), fun _ h => h, fun _ _ => rfl, fun j hj => ?_, fun j hj he => ?_, fun _ _ => rfl⟩
    · simp only [Ghost.app]; split
      · rename_i e; subst e; omega
      · exact Nat.le_refl _
    · simp only [Ghost.app] at he ⊢
      split
      · rename_i e; subst e; simp at he; omega
      · rfl
  have kept : ∀ j x, j ≠ id → σ j = some x → ObjRep w1 (E.app id (n + m) v1 ((n + m) * sz)) j x ∧ blockOf (E.app id (n + m) v1 ((n + m) * sz)) j x = blockOf E j x := fun j x hj hx =>
    (hw.obj j x hx).kept hlater ((hw.used j).2 (by rw [hx]; rfl)) (by simp [Ghost.app, hj]) (fun b hbk => hblock b (hw.lt hx hbk).1 (fun e => hj (hw.inj j id x _ b hx hid hbk (by simp [blockOf, e]))))
  have hv1 : ∀ b, v1.ownBlock = some b → E.base ≤ b ∧ b < w1.heap.size := hown1.lt
  have hnew : ∀ j x b, j ≠ id → σ j = some x → blockOf E j x = some b → v1.ownBlock ≠ some b := fun j x b hj hx hb e => by
    have hlt := (hw.lt hx hb).1
    rcases hcase with ⟨hsame, _⟩ | ⟨_, b', hb', hle⟩
    · exact hj (hw.inj j id x _ b hx hid hb (by simp [blockOf, ← hsame, e]))
    · rw [e] at hb'; cases hb'; omega
  refine ⟨⟨hw.glob.keep hlater.keeps, hw.rows, ?_, Nat.le_trans hw.base hsize, fun j => ?_, fun j x hx => ?_, fun j j' x x' b hx hx' hb1 hb2 => ?_, fun b o hi => ?_⟩, hlater⟩
  · rcases hcase with ⟨_, h⟩ | ⟨h, _⟩
    · exact hw.below.grown h hw.base (fun k hk => (hown.lt k hk).1)
    · exact hw.below_of h
  · show E.used j ↔ _
    by_cases e : j = id
    · subst e; rw [hw.used j, hid]; simp [St.set]
    · simp [St.set, e, hw.used j]
  · by_cases e : j = id
    · subst e; simp [St.set] at hx; subst hx
      exact ⟨by simp [Ghost.app], (hw.obj j _ hid).2.1, cs ++ news, by simpa [Ghost.app] using hown1⟩
    · simp [St.set, e] at hx; exact (kept j x e hx).1
  · have key : ∀ j x b, (σ.set id (.tok e sz (n + m))) j = some x → blockOf (E.app id (n + m) v1 ((n + m) * sz)) j x = some b → (j = id ∧ v1.ownBlock = some b) ∨ (j ≠ id ∧ σ j = some x ∧ blockOf E j x = some b) := fun j x b hx hb => by
      by_cases e : j = id
      · subst e; simp [St.set] at hx; subst hx
        exact .inl ⟨rfl, by simpa [blockOf, Ghost.app] using hb⟩
      · simp [St.set, e] at hx
        exact .inr ⟨e, hx, (kept j x e hx).2 ▸ hb⟩
    rcases key j x b hx hb1 with ⟨e1, h1⟩ | ⟨e1, h1, h1'⟩ <;> rcases key j' x' b hx' hb2 with ⟨e2, h2⟩ | ⟨e2, h2, h2'⟩
    · rw [e1, e2]
    · exact absurd h1 (hnew j' x' b e2 h2 h2')
    · exact absurd h2 (hnew j x b e1 h1 h1')
    · exact hw.inj j j' x x' b h1 h2 h1' h2'
  · rcases hi with hi | ⟨hi, ho⟩
    · obtain ⟨h3, h4⟩ := hw.imm b o hi
      refine ⟨by omega, fun j x hx hbx => ?_⟩
      by_cases e : j = id
      · subst e; simp [St.set] at hx; subst hx
        have hbx : v1.ownBlock = some b := by simpa [blockOf, Ghost.app] using hbx
        refine ⟨_, _, _, rfl, ?_⟩
        rcases hcase with ⟨hsame, _⟩ | ⟨_, b', hb', hle⟩
        · obtain ⟨e', sz', n', hx, hoff⟩ := h4 j _ hid (by simp [blockOf, ← hsame, hbx])
          cases hx
          rw [Nat.add_mul]; omega
        · rw [hbx] at hb'; cases hb'; omega
      · simp [St.set, e] at hx
        exact h4 j x hx ((kept j x e hx).2 ▸ hbx)
    · refine ⟨(hv1 b hi).2, fun j x hx hbx => ?_⟩
      by_cases e : j = id
      · subst e; simp [St.set] at hx; subst hx
        exact ⟨_, _, _, rfl, ho⟩
      · simp [St.set, e] at hx
        exact absurd hi (hnew j x b e hx ((kept j x e hx).2 ▸ hbx))
end
end Go.Proofs.YtaahjmkjdcikcaaDoor.AI
