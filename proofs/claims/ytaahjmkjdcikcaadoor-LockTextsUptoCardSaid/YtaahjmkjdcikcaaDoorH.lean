/- A machine of plain values: what becomes of the objects as the model's world goes on. No program in sight. -/
import Derived.Test.YtaahjmkjdcikcaaDoorG
namespace Go.Proofs.YtaahjmkjdcikcaaDoor.AI
open Go.RowKit
set_option linter.unusedVariables false
set_option linter.unusedSimpArgs false
set_option linter.unusedSectionVars false
variable [Glob]

section
variable {w w1 w0 : World} {E : Ghost} {σ : St}

/-- The ghost behind a stretch that made blocks and wrote no old one: what it made turns no more. -/
def Ghost.grow (E : Ghost) (lo hi : Nat) : Ghost := { E with imm := fun b o => E.imm b o ∨ (lo ≤ b ∧ b < hi) }

theorem Holds.lt (h : Holds E σ w0 w) {id b : Nat} {o : AObj} (ho : σ id = some o) (hb : blockOf E id o = some b) : b < w.heap.size ∧ E.base ≤ b := by
  have := h.obj id o ho
  cases o with
  | dead => simp [blockOf] at hb
  | box t cs =>
    simp only [blockOf, Option.some.injEq] at hb; subst hb
    obtain ⟨h1, vs, h2, _⟩ := this
    exact ⟨(Array.getElem?_eq_some_iff.1 h2).1, h1⟩
  | tok e sz n =>
    simp only [blockOf] at hb
    obtain ⟨_, _, cs, hown⟩ := this
    have := hown.lt b hb
    exact ⟨this.2, this.1⟩
  | siter s pos =>
    simp only [blockOf, Option.some.injEq] at hb; subst hb
    exact ⟨(Array.getElem?_eq_some_iff.1 this.2).1, this.1⟩
  | map xs =>
    simp only [blockOf, Option.some.injEq] at hb; subst hb
    obtain ⟨h1, es, clock, h2, _⟩ := this
    exact ⟨(Array.getElem?_eq_some_iff.1 h2).1, h1⟩

/-- An object whose block is as it was is as it was. -/
theorem ObjRep.kept {E' : Ghost} {id : Nat} {o : AObj} (h : ObjRep w E id o) (hl : Later w E w1 E') (hu : E.used id) (hon : E'.on id = E.on id)
    (hb : ∀ b, blockOf E id o = some b → w1.heap[b]? = w.heap[b]?) : ObjRep w1 E' id o ∧ blockOf E' id o = blockOf E id o := by
  have hblk := hl.blk id hu
  have hov := hl.ov id hu hon
  refine ⟨?_, by cases o <;> simp [blockOf, hblk, hov]⟩
  cases o with
  | dead => trivial
  | box t cs =>
    obtain ⟨h1, vs, h2, h3, h4⟩ := h
    refine ⟨by rw [hblk, hl.base]; exact h1, vs, by rw [hblk, hb _ rfl]; exact h2, h3, fun j x hx => ?_⟩
    obtain ⟨v, hv, ho, hr⟩ := h4 j x hx
    exact ⟨v, hv, ho, hr.later hl⟩
  | tok e sz n =>
    obtain ⟨h1, h1', cs, h2⟩ := h
    refine ⟨hon.trans h1, (hl.osz id hu).trans h1', cs, ?_⟩
    rw [hov, hl.base]
    obtain ⟨h3, h4⟩ := h2
    refine ⟨h3, ?_⟩
    rcases h4 with h4 | ⟨g, cap, cur, hv, hbg, hg, rest⟩
    · exact .inl h4
    · exact .inr ⟨g, cap, cur, hv, hbg, by rw [hb g (by simp [blockOf, hv, Value.ownBlock])]; exact hg, rest⟩
  | siter s pos =>
    exact ⟨by rw [hblk, hl.base]; exact h.1, by rw [hblk, hb _ rfl]; exact h.2⟩
  | map xs =>
    obtain ⟨h1, es, clock, h2, h3, h4⟩ := h
    refine ⟨by rw [hblk, hl.base]; exact h1, es, clock, by rw [hblk, hb _ rfl]; exact h2, h3, fun j k x hx => ?_⟩
    obtain ⟨e, he, hk, hr⟩ := h4 j k x hx
    exact ⟨e, he, hk, hr.keep hl.keeps⟩

theorem keeps_below {I I' : Imm} (hb : Below w.heap.size w w1) (hI : ∀ b o, I b o → I' b o) : Keeps w I w1 I' :=
  ⟨hI, fun a _ v hv => (hb.cell (World.block_lt_of_cell? w a hv)).trans hv⟩

theorem Later.grow (hB : E.base ≤ w.heap.size) (hb : Below w.heap.size w w1) : Later w E w1 (E.grow w.heap.size w1.heap.size) :=
  ⟨rfl, keeps_below hb (fun _ _ h => .inl h), fun b o h => h.imp id (fun h => by omega), fun _ h => h, fun _ _ => rfl, fun _ _ => Nat.le_refl _, fun _ _ _ => rfl, fun _ _ => rfl⟩

theorem Holds.below_of (h : Holds E σ w0 w) (hb : Below w.heap.size w w1) : Below E.base w0 w1 := h.below.trans (hb.mono h.base)

/-- Blocks were made, no old one was written. -/
theorem Holds.grow (h : Holds E σ w0 w) (hb : Below w.heap.size w w1) : Holds (E.grow w.heap.size w1.heap.size) σ w0 w1 := by
  have hl : Later w E w1 (E.grow w.heap.size w1.heap.size) := .grow h.base hb
  have hs := hb.size
  have kept : ∀ id o, σ id = some o → ObjRep w1 (E.grow w.heap.size w1.heap.size) id o ∧ blockOf (E.grow w.heap.size w1.heap.size) id o = blockOf E id o := fun id o ho =>
    (h.obj id o ho).kept hl ((h.used id).2 (by rw [ho]; rfl)) rfl (fun b hbk => hb.block b (h.lt ho hbk).1)
  refine ⟨h.glob.keep hl.keeps, h.rows, h.below_of hb, Nat.le_trans h.base hs, h.used, fun id o ho => (kept id o ho).1, fun id id' o o' b ho ho' hb1 hb2 => ?_, fun b o hi => ?_⟩
  · rw [(kept id o ho).2] at hb1
    rw [(kept id' o' ho').2] at hb2
    exact h.inj id id' o o' b ho ho' hb1 hb2
  · rcases hi with hi | ⟨h1, h2⟩
    · obtain ⟨h3, h4⟩ := h.imm b o hi
      exact ⟨by omega, fun id x hx hbx => h4 id x hx ((kept id x hx).2 ▸ hbx)⟩
    · exact ⟨h2, fun id x hx hbx => by
        rw [(kept id x hx).2] at hbx
        have := (h.lt hx hbx).1
        omega⟩

/-! ### A new object -/
def Ghost.newBlk (E : Ghost) (id b : Nat) : Ghost := { E with used := fun j => j = id ∨ E.used j, blk := fun j => if j = id then b else E.blk j }

theorem Later.newBlk {id b : Nat} (hn : ¬ E.used id) (hb : Below w.heap.size w w1) : Later w E w1 (E.newBlk id b) :=
  ⟨rfl, keeps_below hb (fun _ _ h => h), fun _ _ h => .inl h, fun _ h => .inr h, fun j hj => by
    have : j ≠ id := fun e => hn (e ▸ hj)
    simp [Ghost.newBlk, this], fun _ _ => Nat.le_refl _, fun _ _ _ => rfl, fun _ _ => rfl⟩

theorem Holds.not_used (h : Holds E σ w0 w) {id : Nat} (hn : σ id = none) : ¬ E.used id := fun hu => by
  have := (h.used id).1 hu
  rw [hn] at this; cases this

/-- A block was made, and an object lies in it. -/
theorem Holds.new (h : Holds E σ w0 w) {id : Nat} (hn : σ id = none) (ob : Obj) (o : AObj) (hk : blockOf (E.newBlk id w.heap.size) id o = some w.heap.size)
    (ho : ObjRep (w.alloc ob) (E.newBlk id w.heap.size) id o) : Holds (E.newBlk id w.heap.size) (σ.set id o) w0 (w.alloc ob) ∧ Later w E (w.alloc ob) (E.newBlk id w.heap.size) := by
  have hb : Below w.heap.size w (w.alloc ob) := (Below.refl _ _).alloc (Nat.le_refl _) _
  have hnu := h.not_used hn
  have hl : Later w E (w.alloc ob) (E.newBlk id w.heap.size) := .newBlk hnu hb
  have kept : ∀ j x, j ≠ id → σ j = some x → ObjRep (w.alloc ob) (E.newBlk id w.heap.size) j x ∧ blockOf (E.newBlk id w.heap.size) j x = blockOf E j x := fun j x hj hx =>
    (h.obj j x hx).kept hl ((h.used j).2 (by rw [hx]; rfl)) rfl (fun b hbk => hb.block b (h.lt hx hbk).1)
  refine ⟨⟨h.glob.keep hl.keeps, h.rows, h.below_of hb, by simp; have := h.base; show E.base ≤ _; omega, fun j => ?_, fun j x hx => ?_, fun j j' x x' b hx hx' hb1 hb2 => ?_, fun b off hi => ?_⟩, hl⟩
  · by_cases e : j = id
    · subst e; simp [Ghost.newBlk, St.set]
    · simp [Ghost.newBlk, St.set, e, h.used j]
  · by_cases e : j = id
    · subst e; simp [St.set] at hx; subst hx; exact ho
    · simp [St.set, e] at hx; exact (kept j x e hx).1
  · have key : ∀ j x b, (σ.set id o) j = some x → blockOf (E.newBlk id w.heap.size) j x = some b → j ≠ id → b < w.heap.size ∧ σ j = some x ∧ blockOf E j x = some b := fun j x b hx hb e => by
      simp [St.set, e] at hx
      rw [(kept j x e hx).2] at hb
      exact ⟨(h.lt hx hb).1, hx, hb⟩
    by_cases e : j = id <;> by_cases e' : j' = id
    · rw [e, e']
    · subst e
      simp [St.set] at hx; subst hx
      obtain ⟨h1, _, _⟩ := key j' x' b hx' hb2 e'
      rw [hk] at hb1; cases hb1; omega
    · subst e'
      simp [St.set] at hx'; subst hx'
      obtain ⟨h1, _, _⟩ := key j x b hx hb1 e
      rw [hk] at hb2; cases hb2; omega
    · obtain ⟨_, h2, h3⟩ := key j x b hx hb1 e
      obtain ⟨_, h5, h6⟩ := key j' x' b hx' hb2 e'
      exact h.inj j j' x x' b h2 h5 h3 h6
  · obtain ⟨h3, h4⟩ := h.imm b off hi
    refine ⟨by simp; omega, fun j x hx hbx => ?_⟩
    by_cases e : j = id
    · subst e
      simp [St.set] at hx; subst hx
      rw [hk] at hbx; cases hbx; omega
    · simp [St.set, e] at hx
      rw [(kept j x e hx).2] at hbx
      exact h4 j x hx hbx

/-- An object's own block was written. -/
theorem Holds.write (h : Holds E σ w0 w) {id b : Nat} {o o' : AObj} (hid : σ id = some o) (hbo : blockOf E id o = some b) (hbo' : blockOf E id o' = some b)
    (hnt : ∀ e sz n, o ≠ .tok e sz n) (hnt' : ∀ e sz n, o' ≠ .tok e sz n)
    (hos : w1.os = w.os ∧ w1.tape = w.tape ∧ w1.output = w.output) (hs : w1.heap.size = w.heap.size) (hk : ∀ k, k ≠ b → w1.heap[k]? = w.heap[k]?)
    (ho : Later w E w1 E → ObjRep w1 E id o') : Holds E (σ.set id o') w0 w1 ∧ Later w E w1 E := by
  obtain ⟨hlt, hbase⟩ := h.lt hid hbo
  have hkeep : Keeps w E.imm w1 E.imm := by
    refine ⟨fun _ _ h => h, fun a ha v hv => ?_⟩
    have hne : a.block ≠ b := fun e => by
      obtain ⟨_, h4⟩ := h.imm _ _ ha
      obtain ⟨e', sz, n, hx, _⟩ := h4 id o hid (by rw [hbo, e])
      exact hnt _ _ _ hx
    exact (World.cell?_of_block (hk _ hne)).trans hv
  have hl : Later w E w1 E := ⟨rfl, hkeep, fun _ _ h => .inl h, fun _ h => h, fun _ _ => rfl, fun _ _ => Nat.le_refl _, fun _ _ _ => rfl, fun _ _ => rfl⟩
  have kept : ∀ j x, j ≠ id → σ j = some x → ObjRep w1 E j x := fun j x hj hx =>
    ((h.obj j x hx).kept hl ((h.used j).2 (by rw [hx]; rfl)) rfl (fun b' hbk => hk b' (fun e => hj (h.inj j id x o b hx hid (e ▸ hbk) hbo)))).1
  refine ⟨⟨h.glob.keep hkeep, h.rows, ⟨hos.1.trans h.below.os, hos.2.1.trans h.below.tape, hos.2.2.trans h.below.output, by rw [hs]; exact h.below.size, fun k hk' => (hk k (by omega)).trans (h.below.block k hk')⟩, by rw [hs]; exact h.base, fun j => ?_, fun j x hx => ?_, fun j j' x x' c hx hx' hb1 hb2 => ?_, fun c off hi => ?_⟩, hl⟩
  · by_cases e : j = id
    · subst e; rw [h.used j, hid]; simp [St.set]
    · simp [St.set, e, h.used j]
  · by_cases e : j = id
    · subst e; simp [St.set] at hx; subst hx; exact ho hl
    · simp [St.set, e] at hx; exact kept j x e hx
  · have key : ∀ j x c, (σ.set id o') j = some x → blockOf E j x = some c → ∃ y, σ j = some y ∧ blockOf E j y = some c := fun j x c hx hb => by
      by_cases e : j = id
      · subst e; simp [St.set] at hx; subst hx; exact ⟨o, hid, by rw [hbo]; rw [hbo'] at hb; exact hb⟩
      · simp [St.set, e] at hx; exact ⟨x, hx, hb⟩
    obtain ⟨y, hy, hby⟩ := key j x c hx hb1
    obtain ⟨y', hy', hby'⟩ := key j' x' c hx' hb2
    exact h.inj j j' y y' c hy hy' hby hby'
  · obtain ⟨h3, h4⟩ := h.imm c off hi
    refine ⟨by rw [hs]; exact h3, fun j x hx hbx => ?_⟩
    by_cases e : j = id
    · subst e
      simp [St.set] at hx; subst hx
      rw [hbo'] at hbx; cases hbx
      obtain ⟨e', sz, n, hx, _⟩ := h4 j o hid hbo
      exact absurd hx (hnt _ _ _)
    · simp [St.set, e] at hx
      exact h4 j x hx hbx
end
end Go.Proofs.YtaahjmkjdcikcaaDoor.AI
