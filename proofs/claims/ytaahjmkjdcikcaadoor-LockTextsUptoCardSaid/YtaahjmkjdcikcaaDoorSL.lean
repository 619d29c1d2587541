/- Contracts of library functions of this program. -/
import Derived.Test.YtaahjmkjdcikcaaDoorShelf
import Derived.Test.YtaahjmkjdcikcaaDoorY
import Derived.Test.YtaahjmkjdcikcaaDoorPC
import Derived.Lib.AppendStr
import Derived.Shelf.RegionOpenPlain
namespace Go.Proofs.YtaahjmkjdcikcaaDoor.AI
open Go.RowKit Go.Proofs.Tryd Go.Proofs Go.Sort
set_option linter.unusedVariables false
set_option linter.unusedSimpArgs false
set_option linter.unusedSectionVars false
/-- What is told of the program's own variables. -/
class Globs extends Glob where
  maxLen : ∃ m, cells 0 = some [.lit (.int .i64 m)]
  pow10 : rows 1 = some (Lib.pow10Tab.map fun z => Value.int .u64 z).toArray
variable [Globs]
theorem below_grown_w (w : World) (q : Nat) (os : Array Obj) : Below w.heap.size w (grow (w.drewN q) os) :=
  ⟨rfl, rfl, rfl, by simp [grow], fun i hi => by
    show ((w.drewN q).heap ++ os)[i]? = _
    rw [Array.getElem?_append_left (by show i < w.heap.size; omega)]
    rfl⟩
theorem split_pure (l sep : List UInt8) (hl : l.length ≤ 1000000) (h1 : 1 ≤ sep.length) : APure prog 34 [.lit (.string (str l)), .lit (.string (str sep))] (.pv (.list (strs (Lib.splitB (str sep) 0 (Lib.countB (str l) (str sep)) (str l))))) := by
  have hlen := Lib.splitB_all (str sep) (by rw [str_size]; exact h1) 0 _ (str l) rfl
  refine apure_strs (args := [.string (str l), .string (str sep)]) (t := 9) (by kernel_rfl) (fun w I hG hR => ?_)
  obtain ⟨m, hm⟩ := Globs.maxLen
  have := Tryd.strings_Split (str l) (str sep) m w (by rw [str_size]; omega) (glob_cell hG hm) (by rw [str_size]; exact h1)
  rw [hlen]
  exact this
theorem itoa_pure (n : Nat) (h : n < 1000) : APure prog 65 [.lit (.int .i64 n)] (.pv (.lit (.string (str (d3 n))))) := by
  refine apure_lit (args := [.int .i64 n]) (by kernel_rfl) rfl (fun w I hG hR => ?_)
  have := Tryd.strconv_Itoa n (by omega) (by omega) w (tab_is (name := "internal/strconv.uint64pow10") hR (by kernel_rfl) Globs.pow10)
  refine this.mono fun e w' he => ?_
  obtain ⟨he, k, os, hw⟩ := he
  refine ⟨?_, ?_⟩
  · rw [he]
    have : Lib.itoa (n : Int) = d3 n := by
      unfold Lib.itoa
      rw [if_neg (by omega)]
      exact decDigits_d3 n h
    rw [this]; rfl
  · subst hw
    exact below_grown_w _ _ _
theorem join_pure (xs : List ByteArray) (sep : List UInt8) (hne : xs ≠ []) (hN : xs.length ≤ 1000000) (hlen : (Lib.join (xs.map (·.data.toList)) sep).length ≤ 1000000) :
    APure prog 30 [.list (strs xs), .lit (.string (str sep))] (.pv (.lit (.string (str (Lib.join (xs.map (·.data.toList)) sep))))) := by
  refine apure_join hne (by kernel_rfl) (fun w bk o c hcells hbk hcap => ?_)
  have e : (str sep).data.toList = sep := by simp [str]
  have := Tryd.strings_Join bk o c xs (str sep) w hcells hbk (by omega) hcap (by rw [e]; omega)
  rw [e] at this
  exact this
theorem indexByte_pure (l : List UInt8) (c : Int) : APure prog 114 [.lit (.string (str l)), .lit (.int .u8 c)] (.pv (.lit (.int .i64 (Lib.indexByte l c.toNat.toUInt8)))) := by
  refine apure_lit (args := [.string (str l), .int .u8 c]) (by kernel_rfl) rfl (fun w I hG hR => ?_)
  refine (Tryd.strings_IndexByte (str l) c w).mono fun e w' he => ?_
  obtain ⟨rfl, rfl⟩ := he
  exact ⟨by simp [str], Below.refl _ _⟩
theorem validRune_pure (r : Int) : APure prog 115 [.lit (.int .i32 r)] (.pv (.lit (.bool (Lib.validRune r)))) := by
  refine apure_lit (args := [.int .i32 r]) (by kernel_rfl) rfl (fun w I hG hR => ?_)
  refine (Tryd.utf8_ValidRune r w).mono fun e w' he => ?_
  obtain ⟨rfl, rfl⟩ := he
  exact ⟨rfl, Below.refl _ _⟩
theorem indexRune_ascii (l : List UInt8) (r : Int) (h0 : 0 ≤ r) (h1 : r < 128) : APure prog 97 [.lit (.string (str l)), .lit (.int .i32 r)] (.pv (.lit (.int .i64 (Lib.indexByte l r.toNat.toUInt8)))) := by
  refine apure_lit (args := [.string (str l), .int .i32 r]) (by kernel_rfl) rfl (fun w I hG hR => ?_)
  refine (Tryd.strings_IndexRune_ascii (str l) r w h0 h1).mono fun e w' he => ?_
  obtain ⟨rfl, rfl⟩ := he
  exact ⟨by simp [str], Below.refl _ _⟩

set_option maxRecDepth 100000 in
set_option maxHeartbeats 1000000 in
theorem copyCheck_used_w (b : Nat) (w : World) (h0 : w.cell? ⟨b, 0, none⟩ = some (.pointer (some ⟨b, 0, none⟩))) :
    Calls Tryd.prog 62 #[.pointer (some ⟨b, 0, none⟩)] w fun e w' => e = .returned (.tuple #[]) ∧ w' = w := by
  obtain ⟨j, hj⟩ : ∃ j, Tryd.prog.info? 56 = some j := ⟨_, rfl⟩
  go_enter Tryd.func62, Tryd.ntmps62
  go_wp2
  rw [Lib.run_neq_ptr_same w _ Tryd.underlying53 hj]
  go_wp2
  go_end0
  exact ⟨rfl, rfl⟩

set_option maxRecDepth 100000 in
set_option maxHeartbeats 1000000 in
theorem copyCheck_fresh_w (b : Nat) (w : World) (h0 : w.cell? ⟨b, 0, none⟩ = some (.pointer none)) (hsh : w.shape? b = some (56, 2)) (hfz : w.frozen? ⟨b, 0, none⟩ = false) :
    Calls Tryd.prog 62 #[.pointer (some ⟨b, 0, none⟩)] w fun e w' => e = .returned (.tuple #[]) ∧ w' = w.setCell ⟨b, 0, none⟩ (.pointer (some ⟨b, 0, none⟩)) := by
  have hX : (Tryd.prog.info? 56).map (·.size) = some 2 := by kernel_rfl
  obtain ⟨j, hj, hjs⟩ := Option.map_eq_some_iff.1 hX
  have hlies : liesAt Tryd.prog Tryd.prog.depth 56 (2 / Tryd.prog.cellsOf 56) 0 56 1 = true := by kernel_rfl
  go_enter Tryd.func62, Tryd.ntmps62
  go_wp2
  rw [Lib.run_to_unsafe w ⟨b, 0, none⟩ Tryd.underlying53 Tryd.underlying124 hj (by rw [hjs]; decide) hsh (Nat.zero_lt_succ 1)]
  simp only [Result.andThen]
  rw [Oper.upon_value]
  go_wp2
  rw [run_callFunc_extern Tryd.func89 (by kernel_rfl) (by kernel_rfl) (by kernel_rfl) (e := Extern.AbiNoEscape.same) (by kernel_rfl)]
  rw [Lib.run_noEscape]
  simp only [Result.andThen]
  rw [Oper.upon_value]
  go_wp2
  rw [Lib.run_from_unsafe w ⟨b, 0, none⟩ Tryd.underlying124 Tryd.underlying53 hj hsh hlies]
  simp only [Result.andThen]
  rw [Oper.upon_value]
  go_wp2
  go_end0
  exact ⟨rfl, rfl⟩
theorem one_box {w w0 : World} {E : Ghost} {s : List AObj} {id : Nat} {us : List Value} {t : TypeId} {cs : List AV} (hh : Holds E (mkS s) w0 w) (hus : AllRep w E [.box id 0] us) (h : s[id]? = some (.box t cs)) :
    us = [.pointer (some ⟨E.blk id, 0, none⟩)] ∧ E.base ≤ E.blk id ∧ ∃ vs : Array Value, w.heap[E.blk id]? = some (.cells vs t (0, 0)) ∧ vs.size = cs.length ∧ ∀ (j : Nat) (x : AV), cs[j]? = some x → ∃ v, vs[j]? = some v ∧ v.oneCell' = true ∧ Rep w E x v := by
  obtain ⟨hl, hr⟩ := hus
  obtain ⟨u, hu, hru⟩ := hr 0 _ rfl
  have := hh.obj id _ h
  refine ⟨?_, this⟩
  match us, hl, hu with
  | [a], _, ha =>
    simp at ha
    subst ha
    cases hru
    rfl
theorem copyCheck_used (s : List AObj) (id : Nat) (b : AV) (h : s[id]? = some (.box 56 [.box id 0, b])) : ACall prog 62 [.box id 0] (mkS s) .undef (mkS s) := by
  intro w0 w E us hh hus
  obtain ⟨rfl, hb, vs, hheap, hn, hall⟩ := one_box hh hus h
  obtain ⟨v, hv, _, hr⟩ := hall 0 _ rfl
  cases hr
  refine .inl ⟨by kernel_rfl, (copyCheck_used_w (E.blk id) w (by rw [Lib.cell_of_heap hheap]; exact hv)).mono ?_⟩
  rintro e w' ⟨rfl, rfl⟩
  exact ⟨_, rfl, E, hh, .refl _ _, .undef⟩
theorem copyCheck_fresh (s : List AObj) (id : Nat) (b : AV) (h : s[id]? = some (.box 56 [.pv (.lit (.pointer none)), b])) : ACall prog 62 [.box id 0] (mkS s) .undef (mkS (s.set id (.box 56 [.box id 0, b]))) := by
  intro w0 w E us hh hus
  obtain ⟨rfl, hb, vs, hheap, hn, hall⟩ := one_box hh hus h
  obtain ⟨v, hv, _, hr⟩ := hall 0 _ rfl
  have := hr.lit_eq
  subst this
  refine .inl ⟨by kernel_rfl, (copyCheck_fresh_w (E.blk id) w (by rw [Lib.cell_of_heap hheap]; exact hv) (by simp [World.shape?, hheap]; simpa using hn) (Lib.frozen_of_heap hheap 0)).mono ?_⟩
  rintro e w' ⟨rfl, rfl⟩
  have hset : (w.setCell ⟨E.blk id, 0, none⟩ (.pointer (some ⟨E.blk id, 0, none⟩))).heap[E.blk id]? = some (.cells (vs.setIfInBounds 0 (.pointer (some ⟨E.blk id, 0, none⟩))) 56 (0, 0)) := by
    simp [World.setCell, Array.getElem?_modify, hheap]
  obtain ⟨h1, h2⟩ := hh.write (w1 := w.setCell ⟨E.blk id, 0, none⟩ (.pointer (some ⟨E.blk id, 0, none⟩))) (id := id) (o' := .box 56 [.box id 0, b]) h rfl rfl (by intros; simp) (by intros; simp) ⟨rfl, rfl, rfl⟩ (by simp [World.setCell]) (fun k hk => Below.heap_setCell _ _ _ _ hk) (fun hl => by
    refine ⟨hb, _, hset, by simpa using hn, fun j x hj => ?_⟩
    have hid : E.used id := (hh.used id).2 (by simp [mkS, h])
    match j, hj with
    | 0, hj =>
      simp at hj; subst hj
      exact ⟨_, by simp [show 0 < vs.size by simp at hn; omega], rfl, .box id 0 hid⟩
    | j + 1, hj =>
      obtain ⟨v, hv, ho, hr⟩ := hall (j + 1) x (by simpa using hj)
      refine ⟨v, ?_, ho, hr.later hl⟩
      rw [Array.getElem?_setIfInBounds_ne (by omega)]
      exact hv)
  rw [mkS_set h] at h1
  exact ⟨_, rfl, E, h1, h2, .undef⟩

end Go.Proofs.YtaahjmkjdcikcaaDoor.AI
