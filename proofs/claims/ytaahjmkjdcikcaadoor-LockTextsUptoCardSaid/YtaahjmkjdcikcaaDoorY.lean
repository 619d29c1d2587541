/- A machine of plain values: contracts of Go's library taken as calls that only compute. No program in sight. -/
import Derived.Test.YtaahjmkjdcikcaaDoorX
import Derived.Lib.Join
import Derived.Lib.Builder
namespace Go.Proofs.YtaahjmkjdcikcaaDoor.AI
open Go.RowKit
set_option linter.unusedVariables false
set_option linter.unusedSimpArgs false
set_option linter.unusedSectionVars false
variable [Glob]
section
variable {P : Program}

/-- A list of texts. -/
def strs (xs : List ByteArray) : List V := xs.map fun s => .lit (.string s)
theorem strs_cells (xs : List ByteArray) : ∀ x ∈ strs xs, x.cells.length = 1 := by
  intro x hx
  simp only [strs, List.mem_map] at hx
  obtain ⟨s, _, rfl⟩ := hx
  rfl
theorem strs_flat (xs : List ByteArray) : flat (strs xs) = strs xs := by
  induction xs with
  | nil => rfl
  | cons x xs ih =>
    simp only [strs, flat, List.map_cons, List.flatMap_cons] at ih ⊢
    rw [ih]; rfl

/-- A call of values that makes a list of texts. -/
theorem apure_strs {f : FuncId} {args : List Value} {xs : List ByteArray} {t : TypeId} (hname : hasBody P f = true)
    (h : ∀ (w : World) (I : Imm), GOk w I → GRow w w.heap.size → Calls P f args.toArray w fun e w' => e = .returned (.slice (some ⟨w.heap.size, 0, none⟩) xs.length xs.length) ∧ w' = w.alloc (.cells (xs.map Value.string).toArray t)) : APure P f (args.map .lit) (.pv (.list (strs xs))) := by
  intro w I us hI hG hR hlen hrep
  obtain rfl := lits_of hlen hrep
  refine .inl ⟨hname, (h w I hG hR).mono fun e w' he => ?_⟩
  obtain ⟨rfl, rfl⟩ := he
  have hl : (strs xs).length = xs.length := by simp [strs]
  refine ⟨_, rfl, (Below.refl _ _).alloc (Nat.le_refl _) _, .pv _ _ ?_⟩
  rw [← hl]
  refine RepV.of_block (strs_cells xs) (heap_alloc_new w _) (fun o _ => .inr ⟨Nat.le_refl _, by simp⟩) (Nat.le_refl _) (fun j y hy => ?_)
  rw [strs_flat] at hy
  simp only [strs, List.getElem?_map, Option.map_eq_some_iff] at hy
  obtain ⟨s, hs, rfl⟩ := hy
  exact ⟨.string s, by simp [hs], rfl, .lit _ rfl⟩

/-- A call of a list of texts and a text. -/
theorem apure_join {f : FuncId} {xs : List ByteArray} {sep out : ByteArray} (hne : xs ≠ []) (hname : hasBody P f = true)
    (h : ∀ (w : World) (bk o c : Nat), (∀ (j : Nat) x, xs[j]? = some x → w.cell? ⟨bk, o + j, none⟩ = some (.string x)) → bk < w.heap.size → xs.length ≤ c →
      Calls P f #[.slice (some ⟨bk, o, none⟩) xs.length c, .string sep] w fun e w' => e = .returned (.string out) ∧ Below w.heap.size w w') : APure P f [.list (strs xs), .lit (.string sep)] (.pv (.lit (.string out))) := by
  intro w I us hI hG hR hlen hrep
  obtain ⟨u, hu, hru⟩ := hrep 0 _ rfl
  obtain ⟨u2, hu2, hr2⟩ := hrep 1 _ rfl
  have h2 := hr2.lit_eq
  subst h2
  match us, hlen, hu, hu2 with
  | [a, b], _, ha, hb =>
    simp at ha hb
    subst ha hb
    cases hru with
    | list sz _ A c cv hc hs ha hn h1 hr =>
      have hl : (strs xs).length = xs.length := by simp [strs]
      have hget : ∀ j x, xs[j]? = some x → ∃ a, A = some a ∧ w.cell? (a.add j) = some (.string x) := fun j x hj => by
        have hj' : (flat (strs xs))[j]? = some (.lit (.string x)) := by rw [strs_flat]; simp [strs, hj]
        have hlt := (List.getElem?_eq_some_iff.1 hj').1
        obtain ⟨a, e, _, hcell⟩ := ha j hlt
        have := (hr j _ hj').lit_eq
        exact ⟨a, e, by rw [hcell, this]⟩
      cases xs with
      | nil => exact absurd rfl hne
      | cons x0 xs =>
      obtain ⟨a, rfl, h0⟩ := hget 0 x0 rfl
      rw [Addr.add_zero'] at h0
      obtain ⟨bk, o, sp⟩ := a
      have hsp : sp = none := by
        unfold World.cell? at h0
        split at h0
        · split at h0
          · cases h0
          · rename_i hh; simpa using hh
        · cases h0
      subst hsp
      refine .inl ⟨hname, ?_⟩
      have := h w bk o c (fun j x hj => by
        obtain ⟨a, e, hcell⟩ := hget j x hj
        cases e
        rwa [Addr.add_lit] at hcell) (World.block_lt_of_cell? w _ h0) (by rw [← hl]; exact hc)
      rw [← hl] at this
      exact this.mono fun e w' he => ⟨_, he.1, he.2, .mk _⟩

/-- The program's table is what it is. -/
theorem tab_is {w : World} {base g : Nat} {name : String} {k : IntKind} {zs : List Int} (hR : GRow w base) (hg : P.globalNamed name = some g) (h : Glob.rows g = some (zs.map fun z => Value.int k z).toArray) : w.var? P name = some (zs.map fun z => Value.int k z).toArray := by
  obtain ⟨_, t, fr, hh⟩ := hR g _ h
  simp [World.var?, hg, hh]
/-- One of the program's own variables. -/
theorem glob_cell {w : World} {I : Imm} {g : Nat} {v : Value} (hG : GOk w I) (h : Glob.cells g = some [.lit v]) : w.cell? ⟨g, 0, none⟩ = some v := by
  have := hG g _ h
  cases this with
  | vptr cs a cv ha h1 hr =>
    have h2 := (ha 0 (by simp)).2
    have h3 := (hr 0 _ rfl).lit_eq
    rw [h3] at h2
    simpa [Addr.add_zero'] using h2
end
end Go.Proofs.YtaahjmkjdcikcaaDoor.AI
