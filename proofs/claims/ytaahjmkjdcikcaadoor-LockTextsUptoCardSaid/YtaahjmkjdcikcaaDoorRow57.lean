/- The row of LockTexts: its reading, its walk (lockTexts_pure), its witness; the card. -/
import Derived.Test.YtaahjmkjdcikcaaDoorCards
import Derived.Test.YtaahjmkjdcikcaaDoorTie
import Derived.Test.YtaahjmkjdcikcaaDoorKA
import Derived.Test.YtaahjmkjdcikcaaDoorZ
import Derived.ProofKit
import Derived.OpenShut
import Derived.Deep.DeepHandedRow
import Derived.Lib.LaidTab
import Derived.Stop.LaidErr
import Derived.SevenTiedAt
namespace Go.Proofs.YtaahjmkjdcikcaaDoor.LockTextsRow
open Go.ChangeShapes Go.WideShapes Go.ChangeAt Go.RowKit Go.Proofs.YtaahjmkjdcikcaaDoor.AI Go.Proofs
set_option linter.unusedVariables false
set_option linter.unusedSimpArgs false

theorem own : ownKnob Tryd.prog.godebug = none := by kernel_rfl
theorem laidOut : laidOutB Tryd.prog = true := by kernel_rfl

/-- What the program's own variables hold, as far as the walk wants it. -/
abbrev theGlobs (m : Int) : Globs where
  cells := fun g => if g = 0 then some [.lit (.int .i64 m)] else none
  rows := fun g => if g = 1 then some (Lib.pow10Tab.map fun z => Value.int .u64 z).toArray else none
  maxLen := ⟨m, rfl⟩
  pow10 := rfl

theorem gPow : Tryd.prog.globalNamed "internal/strconv.uint64pow10" = some 1 := by kernel_rfl
theorem gPowType : (Tryd.prog.globals[1]?).map (·.type) = some 167 := by kernel_rfl
theorem cells167 : Tryd.prog.cellsOf 167 = 20 := by kernel_rfl
theorem cells153 : Tryd.prog.cellsOf 153 = 1 := by kernel_rfl
theorem pow_reads {W : World} (h : laidMetH Tryd.prog Rows.lockTextsRow.laid W) : Lib.TabIs Tryd.prog W "internal/strconv.uint64pow10" .u64 Lib.pow10Tab := by
  have h1 : laidMet Tryd.prog [("internal/strconv.uint64pow10", Rows.laid_internal_strconv_uint64pow10), ("unicode/utf8.acceptRanges", Rows.laid_unicode_utf8_acceptRanges), ("unicode/utf8.first", Rows.laid_unicode_utf8_first)] W := laidMet.tail (laidMet.tail h)
  exact Lib.tabIs_of_head gPow gPowType Tryd.underlying167 Tryd.underlying153 cells153 cells167 h1

theorem row_of_var {P : Program} {W : World} {name : String} {g : Nat} {cs : Array Value} (hg : P.globalNamed name = some g) (h : W.var? P name = some cs) : g < W.heap.size ∧ ∃ t fr, W.heap[g]? = some (.cells cs t fr) := by
  unfold World.var? at h
  rw [hg] at h
  simp only [Option.bind_some] at h
  split at h
  · rename_i c t fr hb
    simp only [Option.some.injEq] at h
    subst h
    exact ⟨(Array.getElem?_eq_some_iff.1 hb).1, t, fr, hb⟩
  · cases h

theorem globs_ok {W : World} {m : Int} (hm : W.cell? ⟨0, 0, none⟩ = some (.int .i64 m)) : @GOk (theGlobs m).toGlob W (oldI W) := by
  intro g cs h
  have h' : (if g = 0 then some [V.lit (.int .i64 m)] else none) = some cs := h
  split at h'
  · rename_i hg
    subst hg
    obtain rfl := Option.some.inj h'
    refine .vptr _ _ (fun _ => .int .i64 m) (fun j hj => ?_) (fun j hj => rfl) (fun j x hx => ?_)
    · obtain rfl : j = 0 := by simp at hj; omega
      exact ⟨old_of_cell hm, hm⟩
    · cases j with
      | zero => simp at hx; subst hx; exact .lit _ rfl
      | succ j => simp at hx
  · cases h'
theorem globs_row {W : World} {m : Int} (h : Lib.TabIs Tryd.prog W "internal/strconv.uint64pow10" .u64 Lib.pow10Tab) : @GRow (theGlobs m).toGlob W W.heap.size := by
  intro g cs hc
  have h' : (if g = 1 then some (Lib.pow10Tab.map fun z => Value.int .u64 z).toArray else none) = some cs := hc
  split at h'
  · rename_i hg
    subst hg
    obtain rfl := Option.some.inj h'
    exact row_of_var gPow h
  · cases h'

/-! ### What is read -/
theorem opens_row : Opens Tryd.prog 50 3 (fun x n => ∃ r : Row, x = rowL r ∧ (0 ≤ r.stamp ∧ r.stamp ≤ 4294967295) ∧ 4 ≤ n) := by
  have := opens_struct (P := Tryd.prog) (okl := [fun x n => ∃ l, x = .lit (.string (str l)) ∧ n = l.length + 1, fun x n => ∃ i, x = .lit (.int .i64 i) ∧ (Lit.int .i64 i).wf = true ∧ n = 1, fun x n => ∃ i, x = .lit (.int .u32 i) ∧ (Lit.int .u32 i).wf = true ∧ n = 1])
    Tryd.underlying50 (by kernel_rfl) (by kernel_rfl) rfl (fun j f ok hf ho => by
      match j with
      | 0 => simp at hf ho; subst hf; subst ho; exact (opens_string Tryd.underlying9).mono (fun x n ⟨l, e, h⟩ => ⟨⟨l, e, h⟩, by subst e; rfl⟩)
      | 1 => simp at hf ho; subst hf; subst ho; exact (opens_int Tryd.underlying3).mono (fun x n ⟨l, e, h⟩ => ⟨⟨l, e, h⟩, by subst e; rfl⟩)
      | 2 => simp at hf ho; subst hf; subst ho; exact (opens_int Tryd.underlying48).mono (fun x n ⟨l, e, h⟩ => ⟨⟨l, e, h⟩, by subst e; rfl⟩)
      | j + 3 => simp at hf)
  refine this.mono fun x n ⟨cs, m, hx, ho, hn⟩ => ?_
  obtain ⟨c0, r0, a0, b0, rfl, _, ⟨l, rfl, h0⟩, ⟨c1, r1, a1, b1, rfl, _, ⟨i, rfl, h1, h1'⟩, ⟨c2, r2, a2, b2, rfl, _, ⟨k, rfl, h2, h2'⟩, ⟨rfl, _⟩, e2⟩, e1⟩, e0⟩ := ho
  refine ⟨⟨l, i, k⟩, hx, ?_, by omega⟩
  have hmin : IntKind.u32.min = 0 := rfl
  have hmax : IntKind.u32.max = 4294967295 := rfl
  simp only [Lit.wf, Bool.and_eq_true, decide_eq_true_eq] at h2
  simp only
  omega

theorem rows_of : ∀ {xs : List V} {n : Nat}, okList (fun x n => ∃ r : Row, x = rowL r ∧ (0 ≤ r.stamp ∧ r.stamp ≤ 4294967295) ∧ 4 ≤ n) xs n → ∃ rs : List Row, xs = rs.map rowL ∧ ∀ r ∈ rs, 0 ≤ r.stamp ∧ r.stamp ≤ 4294967295
  | [], _, _ => ⟨[], rfl, by simp⟩
  | _ :: _, _, ⟨a, b, ⟨r, e, h, _⟩, h2, _⟩ => by
    obtain ⟨rs, e', h'⟩ := rows_of h2
    exact ⟨r :: rs, by simp [e, e'], fun q hq => by
      cases hq with
      | head => exact h
      | tail _ hq => exact h' q hq⟩

set_option maxRecDepth 100000 in
theorem upto_bound {H : Type} {ds : List (DataW H)} (h : Rows.uptoSmall H ds = true) : Rows.uptoBulkAll ds ≤ 1048576 := of_decide_eq_true h

set_option maxRecDepth 100000 in
theorem contract (H : Type) (enc : TypeId × Value → H) (W : World) (base : Nat) (args : Array Value) (ds gs : List (DataW H)) (before : List MemPlace)
    (hval : ∀ (j : Nat) t v, Tryd.f3.params[j]? = some t → args[j]? = some v → Value.okWide Tryd.prog W .any base t v)
    (hW : DataW.Whole enc Tryd.prog Tryd.f3.params.toList Rows.lockTextsSpec.vars false W args.toList ds gs before) (hL : laidMetH Tryd.prog Rows.lockTextsRow.laid W) (hsh : W.ShapedOpen Tryd.prog)
    (hcond : Rows.uptoSmall H (ds ++ gs) = true) :
    Calls Tryd.prog 3 args W fun e W' => ∃ v, e = .returned v ∧ Rows.lockTextsSpec.post enc Tryd.prog Tryd.f3 false true false false W args v W' := by
  have hW' := hW
  obtain ⟨p, q, hA0, hV, rfl, hfz, hnd⟩ := hW
  have hA : DataW.TrodAll enc Tryd.prog W 0 (fun _ => true) true Tryd.f3.params.toList args.toList ds p := hA0
  rw [Tryd.params3] at hA hval
  obtain ⟨v0, v1, d0, d1, p0, p1, rfl, rfl, rfl, h0, h1⟩ := trodAll_two hA
  obtain ⟨rfl, rfl⟩ := trodVars_none hV
  obtain ⟨a0, len, cap, rfl⟩ := okWide_slice Tryd.underlying22 (hval 0 22 v0 rfl rfl)
  obtain ⟨s1, rfl⟩ := okWide_string Tryd.underlying9 (hval 1 9 v1 rfl rfl)
  clear hA0
  simp only [List.append_nil] at hW' hcond
  have hlt : ∀ x ∈ p0 ++ p1, x.block < W.heap.size := fun x hx => by simpa using hW'.lt x hx
  have hb := upto_bound hcond
  rw [bulkAll_map] at hb
  simp only [List.map_cons, List.map_nil, List.sum_cons, List.sum_nil] at hb
  obtain ⟨y0, c0, ⟨xs, rfl, hxs⟩, e0, r0⟩ := opens_arg (opens_slice Tryd.underlying22 (k := 3) (by kernel_rfl) (by decide) opens_row) rfl h0
  obtain ⟨y1, c1, ⟨l, rfl, _⟩, e1, r1⟩ := opens_arg (opens_string Tryd.underlying9) rfl h1
  obtain rfl : V.list xs = c0 := by simpa [V.cells] using e0
  obtain rfl : V.lit (.string (str l)) = c1 := by simpa [V.cells] using e1
  have hlen := okList_length (k := 4) (fun x a ⟨r, _, _, h⟩ => h) hxs
  obtain ⟨rs, rfl, hst⟩ := rows_of hxs
  simp only [List.length_map] at hlen
  obtain ⟨m, hm⟩ : ∃ m, W.cell? ⟨0, 0, none⟩ = some (.int .i64 m) := cell_of_shapedOpen_int (zero := #[.int .i64 0]) (t := 3) hsh (of_decide_eq_true (by kernel_rfl)) (by kernel_rfl) rfl (by kernel_rfl) (by kernel_rfl) Tryd.underlying3
  have walk := @APure.calls_bool Tryd.prog (theGlobs m).toGlob 3 _ true (@lockTexts_pure (theGlobs m) rs l hst (by omega)) (by kernel_rfl) W [.slice a0 len cap, .string s1] (globs_ok hm) (globs_row (pow_reads hL)) rfl (fun j x hx => by
    match j with
    | 0 => simp at hx; subst hx; exact ⟨_, rfl, r0⟩
    | 1 => simp at hx; subst hx; exact ⟨_, rfl, r1⟩
    | j + 2 => simp at hx)
  refine walk.mono fun e W' ⟨he, hB⟩ => ?_
  subst he
  refine ⟨_, rfl, _, _, _, [], p0 ++ p1, [], hW', trodAll_mk1 (shut_bool Tryd.underlying4 true), trodAll_mk2 ?_ ?_, rfl, hB.frame _, fun h => by cases h⟩
  · exact Below.trod laidOut (by kernel_rfl) (of_decide_eq_true (by kernel_rfl)) h0 hB (fun x hx => hlt x (by simp [hx]))
  · exact Below.trod laidOut (by kernel_rfl) (of_decide_eq_true (by kernel_rfl)) h1 hB (fun x hx => hlt x (by simp [hx]))

/-! ### The witness -/
mutual
def flatD {H : Type} : DataW H → List Value
  | .lit (.int k n) => [.int k n]
  | .agg ds => flatDs ds
  | _ => []
def flatDs {H : Type} : List (DataW H) → List Value
  | [] => []
  | d :: r => flatD d ++ flatDs r
end
/-- Where each listed variable lies. -/
noncomputable def tabs : List (Nat × DataW Unit) := [(4, Rows.laid_math_bits_deBruijn32tab), (5, Rows.laid_math_bits_deBruijn64tab), (1, Rows.laid_internal_strconv_uint64pow10), (3, Rows.laid_unicode_utf8_acceptRanges), (2, Rows.laid_unicode_utf8_first)]
def layTab (h : Array Obj) (x : Nat × DataW Unit) : Array Obj := h.modify x.1 fun
  | .cells _ t frozen => .cells (flatD x.2).toArray t frozen
  | o => o
noncomputable def laidWorld (os : Os) : World :=
  { World.holding Tryd.prog os ⟨#[], #[], []⟩ with heap := tabs.foldl layTab (World.holding Tryd.prog os ⟨#[], #[], []⟩).heap }
noncomputable def wargs : Array Value := #[.slice none 0 0, .string ⟨#[]⟩]
theorem laid_met (os : Os) : laidMet Tryd.prog Rows.lockTextsRow.laid ((laidWorld os).forCall (fun _ _ => 0) ⟨#[], wargs, []⟩).memory :=
  laidMet_of_run' 8 (by kernel_rfl) (by kernel_rfl)
theorem reads (os : Os) {H : Type} (enc : TypeId × Value → H) : ∃ places, DataW.whole enc Tryd.prog ((laidWorld os).forCall (fun _ _ => 0) ⟨#[], wargs, []⟩).memory Tryd.f3.params.toList Rows.lockTextsSpec.vars false wargs.toList 8 = some ([.nil, .lit (.string [])], [], places) :=
  ⟨[], by kernel_rfl⟩

set_option maxRecDepth 100000 in
theorem lifted (os : Os) (started : os.Started) (H : Type) (enc : TypeId × Value → H) (F : Stop.Interp) :
    ReturnsInHanded {} Tryd.checked os 3 .any ((Rows.OpenSpec.upto Rows.lockTextsSpec).preRow enc Tryd.prog Tryd.f3 Rows.lockTextsUptoRow.domain false Rows.lockTextsUptoRow.laid) (((Rows.OpenSpec.upto Rows.lockTextsSpec).at F).post enc Tryd.prog Tryd.f3 false true false false) := by
  obtain ⟨places, hx⟩ := reads os enc
  refine returnsInHanded_of_row (C := Tryd.checked) (s := Rows.OpenSpec.upto Rows.lockTextsSpec) own started (by kernel_rfl) Tryd.func3
    (witness_row_at (enc := enc) (C := Tryd.checked) false (laidWorld os) wargs rfl (by kernel_rfl) (by kernel_rfl) (by kernel_rfl)
      (OpenSpec.preRow_of_cond 8 hx (by kernel_rfl) (fun k hk => by cases hk; kernel_rfl) (by kernel_rfl) (laid_met os))) ?_
  intro W base args ds gs before hval hW _ hcond _ hL hsh _
  exact contract H enc W base args ds gs before hval hW hL hsh (hcond _ rfl)

theorem saidUpto : Rows.LockTextsUptoSaid :=
  OpenClaim.holds_of_cond 3 Tryd.f3 rfl rfl rfl rfl rfl rfl rfl ⟨rfl, rfl, rfl, rfl, rfl⟩ rfl rfl rfl rfl rfl (by kernel_rfl) Tryd.func3 (by kernel_rfl)
    (of_decide_eq_true (by kernel_rfl)) (by unfold Func.isWrapper; first | (rw [if_pos (by decide +kernel)]; kernel_rfl) | (rw [if_neg (by decide +kernel)]; exact ⟨rfl, rfl⟩))
    (fun os started H enc _ F => by rw [OpenClaim.pre_eq_preRow]; exact lifted os started H enc F)

/-- No parameter wants a stand-in; the program's own looks are off: what the card asks. -/
theorem plain (f : FuncId) (fn : Func) (hf : Tryd.pinned.checked.prog.funcNamed "comprador/compradorlaw57.LockTexts" = some f) (hfn : Tryd.pinned.checked.prog.funcs[f]? = some fn) :
    false = Tryd.pinned.checked.prog.looks [] ∧ ∀ (j : Nat) t, fn.params[j]? = some t → Tryd.pinned.checked.prog.wantsStandIn t = false := by
  obtain rfl : f = 3 := Option.some.inj ((show Tryd.prog.funcNamed "comprador/compradorlaw57.LockTexts" = some 3 by kernel_rfl).symm.trans hf) |>.symm
  obtain rfl : fn = Tryd.f3 := (Option.some.inj (Tryd.func3.symm.trans hfn)).symm
  refine ⟨by kernel_rfl, fun j t ht => ?_⟩
  rw [Tryd.params3] at ht
  match j with
  | 0 => simp at ht; subst ht; exact (show Tryd.prog.wantsStandIn 22 = false by kernel_rfl)
  | 1 => simp at ht; subst ht; exact (show Tryd.prog.wantsStandIn 9 = false by kernel_rfl)
  | j + 2 => simp at ht

/-- The card of the second form. -/
theorem cardUpto : Rows.LockTextsUptoCardSaid :=
  Claim7.holds_tied_plain_at .later [] _ _ _ _ saidUpto (fun _ h => by cases h) (by kernel_rfl) (fun _ h => by cases h) lockTextsUpto_row_tie rfl ⟨rfl, rfl⟩ (by kernel_rfl) rfl plain (by kernel_rfl)
end Go.Proofs.YtaahjmkjdcikcaaDoor.LockTextsRow
