/- Contracts of library functions of this program. -/
import Derived.Test.YtaahjmkjdcikcaaDoorSL
import Derived.Shelf.RegionOpenPlain
namespace Go.Proofs.YtaahjmkjdcikcaaDoor.AI
open Go.RowKit Go.Proofs.Tryd Go.Proofs Go.Sort
set_option linter.unusedVariables false
set_option linter.unusedSimpArgs false
set_option linter.unusedSectionVars false
variable [Globs]
set_option maxHeartbeats 2000000 in
set_option maxRecDepth 100000 in
theorem builderString_w (b g cap : Nat) (p : Value) (cur : Array Value) (l : List UInt8) (w : World) (h0 : l ≠ []) (hbk : w.heap[b]? = some (.cells #[p, .slice (some ⟨g, 0, none⟩) l.length cap] 56 (0, 0))) (hg : w.heap[g]? = some (.cells cur 5 (0, 0)))
    (hnc : l.length ≤ cap) (hcm : cap ≤ maxLen) (hcs : cur.size = cap) (hcells : ∀ (j : Nat) (x : UInt8), l[j]? = some x → cur[j]? = some (.int .u8 x.toNat)) :
    Calls Tryd.prog 33 #[.pointer (some ⟨b, 0, none⟩)] w fun e w' => e = .returned (.string ⟨l.toArray⟩) ∧ w' = w.drew.freeze ⟨g, 0, none⟩ l.length := by
  have hl0 : l.length ≠ 0 := by simpa using h0
  have c1 : w.drew.cell? ⟨b, 1, none⟩ = some (.slice (some ⟨g, 0, none⟩) l.length cap) := by
    have : w.drew.heap[b]? = some (.cells #[p, .slice (some ⟨g, 0, none⟩) l.length cap] 56 (0, 0)) := hbk
    rw [Lib.cell_of_heap this]; rfl
  have hSD : (Builtin.unsafeSliceData_ #[54] 105 #[.slice (some ⟨g, 0, none⟩) l.length cap]).run Tryd.prog w.drew = .ok (.pointer (some ⟨g, 0, none⟩)) w.drew :=
    Lib.run_unsafeSliceData_row _ _ _ _ _ _ (by omega)
  have hUS : (Builtin.unsafeString_ #[105, 3] 9 #[.pointer (some ⟨g, 0, none⟩), .int .i64 l.length]).run Tryd.prog w.drew = .ok (.string ⟨l.toArray⟩) (w.drew.freeze ⟨g, 0, none⟩ l.length) := by
    refine Lib.run_unsafeString_row w.drew 105 3 9 5 Tryd.underlying105 (by kernel_rfl) g cur.size (by have hg' : w.drew.heap[g]? = some (.cells cur 5 (0, 0)) := hg; simp [World.shape?, hg']) l h0 (by omega) (by unfold maxLen at hcm; omega) ?_
    intro j x hx
    have hg' : w.drew.heap[g]? = some (.cells cur 5 (0, 0)) := hg
    rw [Addr.add_lit, Lib.cell_of_heap hg']
    exact (congrArg (fun n => cur[n]?) (Nat.zero_add j)).trans (hcells j x hx)
  have mixed : Tryd.prog.follows .mixedOrders = true := by kernel_rfl
  go_enter Tryd.func33, Tryd.ntmps33
  go_wp2
  go_region_o
  all_goals (go_wp2; go_ret; exact ⟨rfl, rfl⟩)

theorem builder_String0 (s : List AObj) (id : Nat) (a : AV) (h : s[id]? = some (.box 56 [a, .e0])) : ACall prog 33 [.box id 0] (mkS s) (.pv (.lit (.string (str [])))) (mkS s) := by
  intro w0 w E us hh hus
  obtain ⟨rfl, hb, vs, hheap, hn, hall⟩ := one_box hh hus h
  obtain ⟨p, hp, _, _⟩ := hall 0 _ rfl
  obtain ⟨v, hv, _, hr⟩ := hall 1 _ rfl
  cases hr
  have hvs : vs = #[p, .slice none 0 0] := by
    apply Array.ext_getElem?
    intro j
    match j with
    | 0 => simpa using hp
    | 1 => simpa using hv
    | j + 2 => rw [Array.getElem?_eq_none (by simp at hn; omega)]; rfl
  subst hvs
  refine .inl ⟨by kernel_rfl, (Any.Builder_String_nil Tryd.lays169 Tryd.Builder_Extra_169 w.heap.size (E.blk id) p w hheap).mono ?_⟩
  rintro e w' ⟨rfl, hbel⟩
  exact ⟨_, rfl, _, hh.grow hbel, .grow hh.base hbel, .mk _⟩
theorem builder_String (s : List AObj) (id id2 : Nat) (a : AV) (l : List UInt8) (h0 : l ≠ []) (h : s[id]? = some (.box 56 [a, .own id2 (bytesV (str l))])) (h2 : s[id2]? = some (.tok 5 1 l.length)) :
    ACall prog 33 [.box id 0] (mkS s) (.pv (.lit (.string (str l)))) (mkS (s.set id2 .dead)) := by
  intro w0 w E us hh hus
  obtain ⟨rfl, hb, vs, hheap, hn, hall⟩ := one_box hh hus h
  obtain ⟨p, hp, _, _⟩ := hall 0 _ rfl
  obtain ⟨v, hv, _, hr⟩ := hall 1 _ rfl
  have hne : id ≠ id2 := by rintro rfl; rw [h] at h2; cases h2
  obtain ⟨hon, hosz, cs, hown⟩ := hh.obj id2 _ h2
  have hbl : (bytesV (str l)).length = l.length := by rw [bytesV_length, str_size]
  have hv2 : v = E.ov id2 := by
    generalize hq : bytesV (str l) = q at hr hbl
    cases hr with
    | own _ _ _ hu hl he hz hr => exact he (by rw [hbl, hon])
  have hpl := hr.plain_list
  have hcl := own_flat (hv2 ▸ hpl) hown (bytesV_cells _)
  rw [bytesV_flat] at hcl
  have hl0 : 0 < l.length := List.length_pos_iff.2 h0
  rcases hown.2 with ⟨_, hz⟩ | ⟨g, cap, cur, hov, hbg, hg, hnc, hcm, hcs, htake⟩
  · omega
  rw [hov] at hv2
  subst hv2
  have hvs : vs = #[p, .slice (some ⟨g, 0, none⟩) l.length cap] := by
    apply Array.ext_getElem?
    intro j
    match j with
    | 0 => simpa using hp
    | 1 => simpa using hv
    | j + 2 => rw [Array.getElem?_eq_none (by simp at hn; omega)]; rfl
  subst hvs
  have hgb : blockOf E id2 (.tok 5 1 l.length) = some g := by simp [blockOf, hov, Value.ownBlock]
  refine .inl ⟨by kernel_rfl, (builderString_w (E.blk id) g cap p cur l w h0 hheap hg hnc hcm (by simpa using hcs) (fun j x hj => ?_)).mono ?_⟩
  · have hj' : (bytesV (str l))[j]? = some (.lit (.int .u8 x.toNat)) := by simp [bytesV, str, hj]
    obtain ⟨u, hu, _, hru⟩ := hcl j _ hj'
    have := hru.lit_eq
    subst this
    rw [← htake] at hu
    simp only [List.getElem?_take] at hu
    split at hu
    · simpa using hu
    · cases hu
  · rintro e w' ⟨rfl, rfl⟩
    have hblk : ∀ k, k ≠ g → (w.drew.freeze ⟨g, 0, none⟩ l.length).heap[k]? = w.heap[k]? := fun k hk => by
      unfold World.freeze
      split
      · rfl
      · simp [Array.getElem?_modify, Ne.symm hk]; rfl
    have hsz : (w.drew.freeze ⟨g, 0, none⟩ l.length).heap.size = w.heap.size := by
      unfold World.freeze
      split
      · rfl
      · simp
    have hcell : ∀ a : Addr, (w.drew.freeze ⟨g, 0, none⟩ l.length).cell? a = w.cell? a := fun a => by
      by_cases e : a.block = g
      · unfold World.freeze
        split
        · rfl
        · have h1 : w.drew.heap[g]? = some (.cells cur 5 (0, 0)) := hg
          simp only [World.cell?, e, Array.getElem?_modify, if_true, h1, Option.map_some, hg]
      · unfold World.cell?
        rw [hblk _ e]
    have hkeep : Keeps w E.imm (w.drew.freeze ⟨g, 0, none⟩ l.length) E.imm := ⟨fun _ _ h => h, fun a _ v hv => by rw [hcell]; exact hv⟩
    have hl : Later w E (w.drew.freeze ⟨g, 0, none⟩ l.length) E := ⟨rfl, hkeep, fun _ _ h => .inl h, fun _ h => h, fun _ _ => rfl, fun _ _ => Nat.le_refl _, fun _ _ _ => rfl, fun _ _ => rfl⟩
    have hbel : Below E.base w0 (w.drew.freeze ⟨g, 0, none⟩ l.length) := Lib.below_freeze (hh.below.trans (Below.refl _ _).drew) (p := ⟨g, 0, none⟩) hbg _
    have hlt := hh.lt h2 hgb
    have other : ∀ j y, j ≠ id2 → mkS s j = some y → ∀ b, blockOf E j y = some b → b ≠ g := fun j y hj hy b hb e => by
      subst e
      exact hj (hh.inj j id2 y _ b hy h2 hb hgb)
    have kept : ∀ j y, j ≠ id2 → mkS s j = some y → ObjRep (w.drew.freeze ⟨g, 0, none⟩ l.length) E j y := fun j y hj hy =>
      ((hh.obj j y hy).kept hl ((hh.used j).2 (by rw [hy]; rfl)) rfl (fun b hb => hblk b (other j y hj hy b hb))).1
    refine ⟨_, rfl, E, ?_, hl, .mk _⟩
    rw [← mkS_set h2]
    refine ⟨hh.glob.keep hkeep, hh.rows, hbel, by rw [hsz]; exact hh.base, fun j => ?_, fun j y hy => ?_, fun j j' y y' b hy hy' h1 h3 => ?_, fun b o hi => ?_⟩
    · by_cases e : j = id2
      · subst e; simp [St.set, hh.used j, mkS, h2]
      · simp [St.set, e, hh.used j]
    · by_cases e : j = id2
      · subst e; simp [St.set] at hy; subst hy; trivial
      · simp [St.set, e] at hy; exact kept j y e hy
    · have key : ∀ j y b, ((mkS s).set id2 .dead) j = some y → blockOf E j y = some b → mkS s j = some y := fun j y b hy hb => by
        by_cases e : j = id2
        · subst e; simp [St.set] at hy; subst hy; simp [blockOf] at hb
        · simpa [St.set, e] using hy
      exact hh.inj j j' y y' b (key j y b hy h1) (key j' y' b hy' h3) h1 h3
    · obtain ⟨h3, h4⟩ := hh.imm b o hi
      refine ⟨by rw [hsz]; exact h3, fun j y hy hby => ?_⟩
      by_cases e : j = id2
      · subst e; simp [St.set] at hy; subst hy; simp [blockOf] at hby
      · simp [St.set, e] at hy; exact h4 j y hy hby
end Go.Proofs.YtaahjmkjdcikcaaDoor.AI
