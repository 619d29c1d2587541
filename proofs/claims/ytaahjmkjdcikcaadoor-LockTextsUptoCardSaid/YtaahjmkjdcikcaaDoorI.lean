/- A machine of plain values: values that are put together; memory that is made and turns no more. No program in sight. -/
import Derived.Test.YtaahjmkjdcikcaaDoorH
import Derived.Laws.IdiomStrings
import Derived.Laws.Tables
import Derived.Great.BuildSlice
namespace Go.Proofs.YtaahjmkjdcikcaaDoor.AI
open Go.RowKit
set_option linter.unusedVariables false
set_option linter.unusedSimpArgs false

/-! ### Putting together -/
/-- Cells, some of which are written anew. -/
def splice {α : Type} (cs : List α) (off : Nat) (xs : List α) : List α := cs.take off ++ xs ++ cs.drop (off + xs.length)

theorem splice_get {α : Type} (cs : List α) (off : Nat) (xs : List α) (h : off + xs.length ≤ cs.length) (j : Nat) :
    (splice cs off xs)[j]? = if off ≤ j ∧ j < off + xs.length then xs[j - off]? else cs[j]? := by
  unfold splice
  have h1 : (cs.take off).length = off := by simp; omega
  by_cases hj : j < off
  · rw [if_neg (by omega), List.append_assoc, List.getElem?_append_left (by omega), List.getElem?_take, if_pos hj]
  · rw [List.append_assoc, List.getElem?_append_right (by omega), h1]
    by_cases hk : j < off + xs.length
    · rw [if_pos ⟨by omega, hk⟩, List.getElem?_append_left (by omega)]
    · rw [if_neg (by omega), List.getElem?_append_right (by omega), List.getElem?_drop]
      congr 1
      omega
theorem splice_length {α : Type} (cs : List α) (off : Nat) (xs : List α) (h : off + xs.length ≤ cs.length) : (splice cs off xs).length = cs.length := by
  simp [splice]; omega

def fillA (place : Nat → Option (Nat × Nat)) (cs : List AV) : List (Nat × AV) → Option (List AV)
  | [] => some cs
  | (i, x) :: rest =>
    match place i with
    | none => none
    | some (off, size) => if x.cells.length = size ∧ off + x.cells.length ≤ cs.length then fillA place (splice cs off x.cells) rest else none

/-- Cells, one by one. -/
def CellsRep (w : World) (E : Ghost) (cs : List AV) (vs : List Value) : Prop :=
  vs.length = cs.length ∧ ∀ (j : Nat) x, cs[j]? = some x → ∃ v, vs[j]? = some v ∧ v.oneCell' = true ∧ Rep w E x v

section
variable {P : Program} {w : World} {E : Ghost}

theorem Value.cells_one {v : Value} (h : v.oneCell' = true) : v.cells = #[v] := by cases v <;> first | rfl | cases h

/-- A value's cells are what the plain value's cells tell. -/
theorem Rep.cells {x : AV} {v : Value} (h : Rep w E x v) (hx : x ≠ .any ∧ x ≠ .undef ∧ (∀ xs, x ≠ .tuple xs) ∧ ∀ b y, x ≠ .cnd b y) : CellsRep w E x.cells v.cells.toList := by
  have one : ∀ {x : AV} {v : Value}, x.cells = [x] → v.oneCell' = true → Rep w E x v → CellsRep w E x.cells v.cells.toList := by
    intro x v h1 h2 h3
    rw [h1, Value.cells_one h2]
    refine ⟨rfl, fun j y hy => ?_⟩
    cases j with
    | zero => simp at hy; subst hy; exact ⟨v, rfl, h2, h3⟩
    | succ j => simp at hy
  cases h with
  | any v => exact absurd rfl hx.1
  | undef => exact absurd rfl hx.2.1
  | tuple cs vs cv hn hv hr => exact absurd rfl (hx.2.2.1 _)
  | cnd b x _ h k => exact absurd rfl (hx.2.2.2 _ _)
  | e0 => exact one rfl rfl .e0
  | own id xs _ hu hl he hz h => exact one rfl (by cases h; rfl) (.own id xs _ hu hl he hz h)
  | box id off hu => exact one rfl rfl (.box id off hu)
  | map id hu => exact one rfl rfl (.map id hu)
  | iter id hu => exact one rfl rfl (.iter id hu)
  | fn f xs ys a b cv dv hn hm hv hu hr hq => exact one rfl rfl (.fn f xs ys a b cv dv hn hm hv hu hr hq)
  | agg cs vs cv hn hv h1 hr =>
    refine ⟨by simp [AV.cells, Value.cells, hn], fun j x hx => ?_⟩
    have hj := (List.getElem?_eq_some_iff.1 hx).1
    exact ⟨cv j, by simpa [Value.cells] using hv j hj, h1 j hj, hr j x hx⟩
  | pv x _ h =>
    cases h with
    | lit v h1 => exact one rfl h1 (.pv _ _ (.lit v h1))
    | list sz xs A c cv hc hs ha hn h1 hr => exact one rfl rfl (.pv _ _ (.list sz xs A c cv hc hs ha hn h1 hr))
    | vptr cs a cv ha h1 hr => exact one rfl rfl (.pv _ _ (.vptr cs a cv ha h1 hr))
    | iface t x v h => exact one rfl rfl (.pv _ _ (.iface t x v h))
    | fn f xs ys a b cv dv hn hm hv hu hr hq => exact one rfl rfl (.pv _ _ (.fn f xs ys a b cv dv hn hm hv hu hr hq))
    | agg cs vs cv hn hv h1 hr =>
      refine ⟨by simp [AV.cells, Value.cells, hn], fun j x hx => ?_⟩
      simp only [AV.cells, List.getElem?_map, Option.map_eq_some_iff] at hx
      obtain ⟨y, hy, rfl⟩ := hx
      have hj := (List.getElem?_eq_some_iff.1 hy).1
      exact ⟨cv j, by simpa [Value.cells] using hv j hj, h1 j hj, .pv _ _ (hr j y hy)⟩

def AV.whole : AV → Bool
  | .any | .undef | .tuple _ | .cnd .. => false
  | _ => true
theorem AV.whole_ne {x : AV} (h : x.whole = true) : x ≠ .any ∧ x ≠ .undef ∧ (∀ xs, x ≠ .tuple xs) ∧ ∀ b y, x ≠ .cnd b y := by
  refine ⟨fun e => ?_, fun e => ?_, fun xs e => ?_, fun b y e => ?_⟩ <;> (subst e; cases h)

theorem CellsRep.splice {cs xs : List AV} {vs us : List Value} {off : Nat} (h : CellsRep w E cs vs) (k : CellsRep w E xs us) (hl : off + xs.length ≤ cs.length) : CellsRep w E (splice cs off xs) (AI.splice vs off us) := by
  have hl' : off + us.length ≤ vs.length := by rw [h.1, k.1]; exact hl
  refine ⟨by rw [splice_length _ _ _ hl, splice_length _ _ _ hl', h.1], fun j x hx => ?_⟩
  rw [splice_get _ _ _ hl] at hx
  rw [splice_get _ _ _ hl', k.1]
  split at hx
  · rename_i hj; rw [if_pos hj]; exact k.2 _ x hx
  · rename_i hj; rw [if_neg hj]; exact h.2 _ x hx

theorem foldl_splice (off : Nat) (v : Array Value) (cs : Array Value) (h : off + v.size ≤ cs.size) :
    (v.zipIdx.foldl (fun cs (c, j) => cs.setIfInBounds (off + j) c) cs).toList = splice cs.toList off v.toList := by
  have g := Great.foldl_set off v.toList 0 cs
  have e : (v.zipIdx.foldl (fun cs (c, j) => cs.setIfInBounds (off + j) c) cs) = ((v.toList.zipIdx 0).foldl (fun cs (x : Value × Nat) => cs.setIfInBounds (off + x.2) x.1) cs) := by
    rw [← Array.foldl_toList, Array.toList_zipIdx]
  rw [e]
  apply List.ext_getElem?
  intro j
  rw [splice_get _ _ _ (by simpa using h)]
  have := g.2 j
  simp only [Array.getElem?_toList]
  rw [this]
  simp only [Nat.add_zero, Array.length_toList]
  by_cases hj : off ≤ j ∧ j < off + v.size
  · rw [if_pos ⟨hj.1, hj.2, by omega⟩, if_pos hj]; simp
  · rw [if_neg (by omega), if_neg hj]

def PartsRep (w : World) (E : Ghost) : List (Nat × AV) → List (Nat × Value) → Prop
  | [], [] => True
  | (i, x) :: xs, (j, v) :: vs => i = j ∧ x.whole = true ∧ Rep w E x v ∧ PartsRep w E xs vs
  | _, _ => False

theorem fill_rep {place : Nat → Option (Nat × Nat)} : ∀ {parts : List (Nat × AV)} {cparts : List (Nat × Value)} {cs r : List AV} {cells : Array Value}, PartsRep w E parts cparts → CellsRep w E cs cells.toList →
    fillA place cs parts = some r → ∃ c, Instr.fill place cells cparts = some c ∧ CellsRep w E r c.toList
  | [], [], cs, r, cells, _, hc, h => by
    simp [fillA] at h; subst h; exact ⟨cells, rfl, hc⟩
  | (i, x) :: xs, (j, v) :: vs, cs, r, cells, hp, hc, h => by
    obtain ⟨rfl, hw, hx, hp⟩ := hp
    unfold fillA at h
    unfold Instr.fill
    cases hpl : place i with
    | none => simp [hpl] at h
    | some os =>
      obtain ⟨off, size⟩ := os
      simp only [hpl] at h ⊢
      split at h
      · rename_i hsz
        have hr := hx.cells (AV.whole_ne hw)
        have h1 : v.cells.size = x.cells.length := by simpa using hr.1
        have h2 : cells.size = cs.length := by simpa using hc.1
        rw [if_neg (by simp; omega)]
        have hs := hc.splice hr hsz.2
        rw [← foldl_splice off v.cells cells (by omega)] at hs
        exact fill_rep hp hs h
      · cases h
  | [], _ :: _, _, _, _, h, _, _ => h.elim
  | _ :: _, [], _, _, _, h, _, _ => h.elim

/-- Where a struct's or an array's parts lie. -/
inductive Places where
  | fields (l : List (Nat × Nat))
  | elems (sz : Nat)
def Places.at : Places → Nat → Option (Nat × Nat)
  | .fields l, i => l[i]?
  | .elems s, i => some (i * s, s)
/-- The zeros, and where the parts lie. -/
def placesOf (P : Program) (t : TypeId) : Option (List Value × Places) :=
  match P.info? t, P.underlying t with
  | some it, some (.array _ e) =>
    match it.zero, P.info? e with
    | some z, some ie => some (z.cells.toList, .elems ie.size)
    | _, _ => none
  | some it, some (.struct fields) =>
    match it.zero, fields.toList.mapM (fun f => (P.info? f.type).map fun i => (f.offset, i.size)) with
    | some z, some places => some (z.cells.toList, .fields places)
    | _, _ => none
  | _, _ => none

theorem built_of {t : TypeId} {z : List Value} {place : Places} (h : placesOf P t = some (z, place)) (parts : List (Nat × Value)) : P.built t parts = Instr.fill place.at z.toArray parts := by
  unfold placesOf at h
  unfold Program.built
  split at h
  · rename_i it n e hi hu
    split at h
    · rename_i zz ie hz hie
      simp only [Option.some.injEq, Prod.mk.injEq] at h
      obtain ⟨rfl, rfl⟩ := h
      simp only [hi, hu, hz, hie, Array.toArray_toList]
      rfl
    · cases h
  · rename_i it fs hi hu
    split at h
    · rename_i zz places hz hp
      simp only [Option.some.injEq, Prod.mk.injEq] at h
      obtain ⟨rfl, rfl⟩ := h
      simp only [hi, hu, hz, hp, Array.toArray_toList]
      congr 1
      funext i
      simp [Places.at]
    · cases h
  · cases h

/-- All plain, or not. -/
def allPlain : List AV → Option (List V)
  | [] => some []
  | .pv x :: r => (allPlain r).map (x :: ·)
  | .own _ xs :: r => (allPlain r).map (.list xs :: ·)
  | .e0 :: r => (allPlain r).map (.list [] :: ·)
  | _ :: _ => none
def mkAgg (cs : List AV) : AV :=
  match allPlain cs with
  | some vs => .pv (.agg vs)
  | none => .agg cs

theorem Rep.plain_list {id : Nat} {xs : List V} {u : Value} (h : Rep w E (.own id xs) u) : RepV w E.imm (.list xs) u := listOf_rep rfl h

theorem allPlain_rep : ∀ {cs : List AV} {xs : List V} {vs : List Value}, allPlain cs = some xs → CellsRep w E cs vs → vs.length = xs.length ∧ ∀ (j : Nat) x, xs[j]? = some x → ∃ v, vs[j]? = some v ∧ v.oneCell' = true ∧ RepV w E.imm x v
  | [], xs, vs, h, hc => by
    simp [allPlain] at h; subst h
    exact ⟨hc.1, fun j x hx => by simp at hx⟩
  | c :: cs, xs, [], h, hc => by have := hc.1; simp at this
  | c :: cs, xs, v :: vs, h, hc => by
    have hc' : CellsRep w E cs vs := ⟨by have := hc.1; simpa using this, fun j x hx => hc.2 (j + 1) x (by simpa using hx)⟩
    obtain ⟨v', hv', ho, hr⟩ := hc.2 0 c rfl
    simp at hv'; subst hv'
    have key : ∀ (y : V) (r : List V), RepV w E.imm y v → allPlain cs = some r → xs = y :: r → (v :: vs).length = xs.length ∧ ∀ (j : Nat) x, xs[j]? = some x → ∃ u, (v :: vs)[j]? = some u ∧ u.oneCell' = true ∧ RepV w E.imm x u := by
      intro y r hy hr' e
      subst e
      obtain ⟨h1, h2⟩ := allPlain_rep hr' hc'
      refine ⟨by simp [h1], fun j x hx => ?_⟩
      cases j with
      | zero => simp at hx; subst hx; exact ⟨v, rfl, ho, hy⟩
      | succ j => simpa using h2 j x (by simpa using hx)
    unfold allPlain at h
    split at h
    · rename_i e; cases e
    · rename_i x r e
      cases e
      simp only [Option.map_eq_some_iff] at h
      obtain ⟨r', h1, h2⟩ := h
      exact key _ _ hr.ofV h1 h2.symm
    · rename_i id ys r e
      cases e
      simp only [Option.map_eq_some_iff] at h
      obtain ⟨r', h1, h2⟩ := h
      exact key _ _ hr.plain_list h1 h2.symm
    · rename_i r e
      cases e
      simp only [Option.map_eq_some_iff] at h
      obtain ⟨r', h1, h2⟩ := h
      exact key _ _ (listOf_rep (x := .e0) rfl hr) h1 h2.symm
    · cases h

theorem mkAgg_rep {cs : List AV} {vs : Array Value} (h : CellsRep w E cs vs.toList) : Rep w E (mkAgg cs) (.agg vs) := by
  unfold mkAgg
  split
  · rename_i xs hx
    obtain ⟨h1, h2⟩ := allPlain_rep hx h
    exact .pv _ _ (RepV.agg_mk (by simpa using h1) (fun j x hx => by simpa using h2 j x hx))
  · exact Rep.agg_mk (by simpa using h.1) (fun j x hx => by simpa using h.2 j x hx)
end
end Go.Proofs.YtaahjmkjdcikcaaDoor.AI
