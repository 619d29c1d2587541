/- The functions that the law reaches, each gone through on plain values. -/
import Derived.Test.YtaahjmkjdcikcaaDoorProg
import Derived.Test.YtaahjmkjdcikcaaDoorPF
import Derived.Test.YtaahjmkjdcikcaaDoorSL2
namespace Go.Proofs.YtaahjmkjdcikcaaDoor.AI
open Go.RowKit Go.Proofs.Tryd
set_option linter.unusedVariables false
set_option linter.unusedSimpArgs false
set_option linter.unusedSectionVars false
set_option maxHeartbeats 1000000
variable [Globs]
theorem ty_array_100 : arrayOf prog 100 = (some (3, (1, false))) := by kernel_rfl
theorem ty_array_103 : arrayOf prog 103 = (some (8, (1, false))) := by kernel_rfl
theorem ty_array_22 : arrayOf prog 22 = none := by kernel_rfl
theorem ty_array_25 : arrayOf prog 25 = none := by kernel_rfl
theorem ty_array_64 : arrayOf prog 64 = none := by kernel_rfl
theorem ty_array_75 : arrayOf prog 75 = none := by kernel_rfl
theorem ty_array_9 : arrayOf prog 9 = none := by kernel_rfl
theorem ty_bool_100 : isBool prog 100 = false := by kernel_rfl
theorem ty_bool_21 : isBool prog 21 = false := by kernel_rfl
theorem ty_bool_3 : isBool prog 3 = false := by kernel_rfl
theorem ty_bool_4 : isBool prog 4 = true := by kernel_rfl
theorem ty_bool_5 : isBool prog 5 = false := by kernel_rfl
theorem ty_bool_52 : isBool prog 52 = false := by kernel_rfl
theorem ty_bool_9 : isBool prog 9 = false := by kernel_rfl
theorem ty_brow_54 : byteRow prog 54 = true := by kernel_rfl
theorem ty_bytes_21 : isBytes prog 21 = false := by kernel_rfl
theorem ty_bytes_3 : isBytes prog 3 = false := by kernel_rfl
theorem ty_bytes_48 : isBytes prog 48 = false := by kernel_rfl
theorem ty_bytes_5 : isBytes prog 5 = false := by kernel_rfl
theorem ty_bytes_54 : isBytes prog 54 = true := by kernel_rfl
theorem ty_bytes_9 : isBytes prog 9 = false := by kernel_rfl
theorem ty_elem_22 : elemOf prog 22 = (some (50, (3, 32))) := by kernel_rfl
theorem ty_elem_25 : elemOf prog 25 = (some (52, (3, 32))) := by kernel_rfl
theorem ty_elem_54 : elemOf prog 54 = (some (5, (1, 1))) := by kernel_rfl
theorem ty_elem_64 : elemOf prog 64 = (some (9, (1, 16))) := by kernel_rfl
theorem ty_elem_75 : elemOf prog 75 = (some (3, (1, 8))) := by kernel_rfl
theorem ty_field_50_0 : fieldAt prog 50 0 = (some (0, (1, false))) := by kernel_rfl
theorem ty_field_50_1 : fieldAt prog 50 1 = (some (1, (1, false))) := by kernel_rfl
theorem ty_field_50_2 : fieldAt prog 50 2 = (some (2, (1, false))) := by kernel_rfl
theorem ty_field_52_0 : fieldAt prog 52 0 = (some (0, (1, false))) := by kernel_rfl
theorem ty_field_52_1 : fieldAt prog 52 1 = (some (1, (1, false))) := by kernel_rfl
theorem ty_field_52_2 : fieldAt prog 52 2 = (some (2, (1, false))) := by kernel_rfl
theorem ty_field_56_1 : fieldAt prog 56 1 = (some (1, (1, false))) := by kernel_rfl
theorem ty_int_3 : intOfT prog 3 = (some (Go.IntKind.i64)) := by kernel_rfl
theorem ty_int_48 : intOfT prog 48 = (some (Go.IntKind.u32)) := by kernel_rfl
theorem ty_int_5 : intOfT prog 5 = (some (Go.IntKind.u8)) := by kernel_rfl
theorem ty_int_9 : intOfT prog 9 = none := by kernel_rfl
theorem ty_places_100 : placesOf prog 100 = (some ([(Go.Value.int (Go.IntKind.i64) 0), (Go.Value.int (Go.IntKind.i64) 0), (Go.Value.int (Go.IntKind.i64) 0)], (Places.elems 1))) := by kernel_rfl
theorem ty_places_103 : placesOf prog 103 = (some ([(Go.Value.int (Go.IntKind.u8) 0), (Go.Value.int (Go.IntKind.u8) 0), (Go.Value.int (Go.IntKind.u8) 0), (Go.Value.int (Go.IntKind.u8) 0), (Go.Value.int (Go.IntKind.u8) 0), (Go.Value.int (Go.IntKind.u8) 0), (Go.Value.int (Go.IntKind.u8) 0), (Go.Value.int (Go.IntKind.u8) 0)], (Places.elems 1))) := by kernel_rfl
theorem ty_places_50 : placesOf prog 50 = (some ([(Go.Value.string (ByteArray.mk (List.toArray []))), (Go.Value.int (Go.IntKind.i64) 0), (Go.Value.int (Go.IntKind.u32) 0)], (Places.fields [(0, 1), (1, 1), (2, 1)]))) := by kernel_rfl
theorem ty_places_52 : placesOf prog 52 = (some ([(Go.Value.string (ByteArray.mk (List.toArray []))), (Go.Value.int (Go.IntKind.i64) 0), (Go.Value.int (Go.IntKind.i64) 0)], (Places.fields [(0, 1), (1, 1), (2, 1)]))) := by kernel_rfl
theorem ty_shape_100 : shapeOf prog 100 = (some (3, true)) := by kernel_rfl
theorem ty_shape_103 : shapeOf prog 103 = (some (8, true)) := by kernel_rfl
theorem ty_shape_3 : shapeOf prog 3 = (some (1, false)) := by kernel_rfl
theorem ty_shape_48 : shapeOf prog 48 = (some (1, false)) := by kernel_rfl
theorem ty_shape_5 : shapeOf prog 5 = (some (1, false)) := by kernel_rfl
theorem ty_shape_50 : shapeOf prog 50 = (some (3, true)) := by kernel_rfl
theorem ty_shape_52 : shapeOf prog 52 = (some (3, true)) := by kernel_rfl
theorem ty_shape_54 : shapeOf prog 54 = (some (1, false)) := by kernel_rfl
theorem ty_shape_9 : shapeOf prog 9 = (some (1, false)) := by kernel_rfl
theorem ty_slice_100 : sliceOf prog 100 = none := by kernel_rfl
theorem ty_slice_103 : sliceOf prog 103 = none := by kernel_rfl
theorem ty_slice_22 : sliceOf prog 22 = (some (50, 3)) := by kernel_rfl
theorem ty_slice_25 : sliceOf prog 25 = (some (52, 3)) := by kernel_rfl
theorem ty_slice_64 : sliceOf prog 64 = (some (9, 1)) := by kernel_rfl
theorem ty_slice_75 : sliceOf prog 75 = (some (3, 1)) := by kernel_rfl
theorem ty_slice_9 : sliceOf prog 9 = none := by kernel_rfl
theorem ty_str_100 : isStr prog 100 = false := by kernel_rfl
theorem ty_str_103 : isStr prog 103 = false := by kernel_rfl
theorem ty_str_21 : isStr prog 21 = false := by kernel_rfl
theorem ty_str_22 : isStr prog 22 = false := by kernel_rfl
theorem ty_str_25 : isStr prog 25 = false := by kernel_rfl
theorem ty_str_3 : isStr prog 3 = false := by kernel_rfl
theorem ty_str_48 : isStr prog 48 = false := by kernel_rfl
theorem ty_str_5 : isStr prog 5 = false := by kernel_rfl
theorem ty_str_54 : isStr prog 54 = false := by kernel_rfl
theorem ty_str_64 : isStr prog 64 = false := by kernel_rfl
theorem ty_str_75 : isStr prog 75 = false := by kernel_rfl
theorem ty_str_9 : isStr prog 9 = true := by kernel_rfl
theorem ty_und_21 : (prog.underlying 21).isSome = true := by kernel_rfl
theorem ty_und_3 : (prog.underlying 3).isSome = true := by kernel_rfl
theorem ty_und_48 : (prog.underlying 48).isSome = true := by kernel_rfl
theorem ty_und_5 : (prog.underlying 5).isSome = true := by kernel_rfl
theorem ty_und_54 : (prog.underlying 54).isSome = true := by kernel_rfl
theorem ty_zero_100 : zeroOf prog 100 = (some [(AV.pv (V.lit (Go.Value.int (Go.IntKind.i64) 0))), (AV.pv (V.lit (Go.Value.int (Go.IntKind.i64) 0))), (AV.pv (V.lit (Go.Value.int (Go.IntKind.i64) 0)))]) := by kernel_rfl
theorem ty_zero_103 : zeroOf prog 103 = (some [(AV.pv (V.lit (Go.Value.int (Go.IntKind.u8) 0))), (AV.pv (V.lit (Go.Value.int (Go.IntKind.u8) 0))), (AV.pv (V.lit (Go.Value.int (Go.IntKind.u8) 0))), (AV.pv (V.lit (Go.Value.int (Go.IntKind.u8) 0))), (AV.pv (V.lit (Go.Value.int (Go.IntKind.u8) 0))), (AV.pv (V.lit (Go.Value.int (Go.IntKind.u8) 0))), (AV.pv (V.lit (Go.Value.int (Go.IntKind.u8) 0))), (AV.pv (V.lit (Go.Value.int (Go.IntKind.u8) 0)))]) := by kernel_rfl
theorem ty_zero_50 : zeroOf prog 50 = (some [(AV.pv (V.lit (Go.Value.string (ByteArray.mk (List.toArray []))))), (AV.pv (V.lit (Go.Value.int (Go.IntKind.i64) 0))), (AV.pv (V.lit (Go.Value.int (Go.IntKind.u32) 0)))]) := by kernel_rfl
theorem ty_zero_52 : zeroOf prog 52 = (some [(AV.pv (V.lit (Go.Value.string (ByteArray.mk (List.toArray []))))), (AV.pv (V.lit (Go.Value.int (Go.IntKind.i64) 0))), (AV.pv (V.lit (Go.Value.int (Go.IntKind.i64) 0)))]) := by kernel_rfl
theorem ty_zero_56 : zeroOf prog 56 = (some [(AV.pv (V.lit (Go.Value.pointer none))), (AV.e0)]) := by kernel_rfl
/-- comprador/label.kind -/
theorem kind_pure (r : Int) : APure prog 98 [.lit (.int .i32 (r))] (.pv (.lit (.int .i64 (kindN r)))) := by
  apply go func98
  refine .seq ?_
  apply AWS.rg [0]
  · intro K hK
    simp (disch := omega) only [rsA, ↓reduceIte, Nat.reduceEqDiff, Nat.reduceAdd, getD_map, rowL_cells, rowR_cells, Int.toNat_natCast, List.length_map]
    first | exact hK | exact fin hK
  refine .seq (.block (.seq ?_))
  apply AWS.rg [0, 3]
  · intro K hK
    simp (disch := omega) only [rsA, ↓reduceIte, Nat.reduceEqDiff, Nat.reduceAdd, rsW, getD_map, rowL_cells, rowR_cells, Int.toNat_natCast, List.length_map]
    first | exact hK | exact fin hK | exact fin2 hK
  refine AWS.cI (h1 := fun h1 => ?_) (h2 := fun h1 => ?_)
  · simp only [rsC, decide_eq_true_eq, decide_eq_false_iff_not] at h1
    refine .seq ?_
    apply AWS.rg [2]
    · intro K hK
      simp (disch := omega) only [rsA, ↓reduceIte, Nat.reduceEqDiff, Nat.reduceAdd, getD_map, rowL_cells, rowR_cells, Int.toNat_natCast, List.length_map]
      first | exact hK | exact fin hK
    refine .ret ?_
    simp only [results98, rsR, ↓reduceIte, Nat.reduceEqDiff]
    grind [kindN]
  · simp only [rsC, decide_eq_true_eq, decide_eq_false_iff_not] at h1
    refine .seq ?_
    apply AWS.rg [0, 10]
    · intro K hK
      simp (disch := omega) only [rsA, ↓reduceIte, Nat.reduceEqDiff, Nat.reduceAdd, rsW, getD_map, rowL_cells, rowR_cells, Int.toNat_natCast, List.length_map]
      first | exact hK | exact fin hK | exact fin2 hK
    refine AWS.cI (h1 := fun h2 => ?_) (h2 := fun h2 => ?_)
    · simp only [rsC, decide_eq_true_eq, decide_eq_false_iff_not] at h2
      refine .seq ?_
      apply AWS.rg [2]
      · intro K hK
        simp (disch := omega) only [rsA, ↓reduceIte, Nat.reduceEqDiff, Nat.reduceAdd, getD_map, rowL_cells, rowR_cells, Int.toNat_natCast, List.length_map]
        first | exact hK | exact fin hK
      refine .ret ?_
      simp only [results98, rsR, ↓reduceIte, Nat.reduceEqDiff]
      grind [kindN]
    · simp only [rsC, decide_eq_true_eq, decide_eq_false_iff_not] at h2
      refine .seq ?_
      apply AWS.rg [0, 17]
      · intro K hK
        simp (disch := omega) only [rsA, ↓reduceIte, Nat.reduceEqDiff, Nat.reduceAdd, rsW, getD_map, rowL_cells, rowR_cells, Int.toNat_natCast, List.length_map]
        first | exact hK | exact fin hK | exact fin2 hK
      refine AWS.cI (h1 := fun h3 => ?_) (h2 := fun h3 => ?_)
      · simp only [rsC, decide_eq_true_eq, decide_eq_false_iff_not] at h3
        refine .seq ?_
        apply AWS.rg [2]
        · intro K hK
          simp (disch := omega) only [rsA, ↓reduceIte, Nat.reduceEqDiff, Nat.reduceAdd, getD_map, rowL_cells, rowR_cells, Int.toNat_natCast, List.length_map]
          first | exact hK | exact fin hK
        refine .ret ?_
        simp only [results98, rsR, ↓reduceIte, Nat.reduceEqDiff]
        grind [kindN]
      · simp only [rsC, decide_eq_true_eq, decide_eq_false_iff_not] at h3
        refine .seq ?_
        apply AWS.rg [24]
        · intro K hK
          simp (disch := omega) only [rsA, ↓reduceIte, Nat.reduceEqDiff, Nat.reduceAdd, rsW, reduceCtorEq, ty_bool_21, getD_map, rowL_cells, rowR_cells, Int.toNat_natCast, List.length_map]
          first | exact hK | exact fin hK
        refine AWS.cI (h1 := fun h4 => ?_) (h2 := fun h4 => ?_)
        · simp only [rsC, decide_eq_true_eq, decide_eq_false_iff_not] at h4
          refine .seq ?_
          apply AWS.rg [2]
          · intro K hK
            simp (disch := omega) only [rsA, ↓reduceIte, Nat.reduceEqDiff, Nat.reduceAdd, getD_map, rowL_cells, rowR_cells, Int.toNat_natCast, List.length_map]
            first | exact hK | exact fin hK
          refine .ret ?_
          simp only [results98, rsR, ↓reduceIte, Nat.reduceEqDiff]
          grind [kindN]
        · simp only [rsC, decide_eq_true_eq, decide_eq_false_iff_not] at h4
          refine .skip (.inBlock (.seq ?_))
          apply AWS.rg [2]
          · intro K hK
            simp (disch := omega) only [rsA, ↓reduceIte, Nat.reduceEqDiff, Nat.reduceAdd, getD_map, rowL_cells, rowR_cells, Int.toNat_natCast, List.length_map]
            first | exact hK | exact fin hK
          refine .ret ?_
          simp only [results98, rsR, ↓reduceIte, Nat.reduceEqDiff]
          grind [kindN]
/-- comprador/compradorref03.Kind -/
theorem refKind_pure (r : Int) : APure prog 73 [.lit (.int .i64 (r))] (.pv (.lit (.int .i64 (kindN r)))) := by
  apply go func73
  refine .seq ?_
  apply AWS.rg [0]
  · intro K hK
    simp (disch := omega) only [rsA, ↓reduceIte, Nat.reduceEqDiff, Nat.reduceAdd, getD_map, rowL_cells, rowR_cells, Int.toNat_natCast, List.length_map]
    first | exact hK | exact fin hK
  refine .seq (.seq ?_)
  apply AWS.rg [0, 8]
  · intro K hK
    simp (disch := omega) only [rsA, ↓reduceIte, Nat.reduceEqDiff, Nat.reduceAdd, rsW, getD_map, rowL_cells, rowR_cells, Int.toNat_natCast, List.length_map]
    first | exact hK | exact fin hK | exact fin2 hK
  refine AWS.cI (h1 := fun h1 => ?_) (h2 := fun h1 => ?_)
  · simp only [rsC, decide_eq_true_eq, decide_eq_false_iff_not] at h1
    refine .seq ?_
    apply AWS.rg [2]
    · intro K hK
      simp (disch := omega) only [rsA, ↓reduceIte, Nat.reduceEqDiff, Nat.reduceAdd, getD_map, rowL_cells, rowR_cells, Int.toNat_natCast, List.length_map]
      first | exact hK | exact fin hK
    refine .ret ?_
    simp only [results73, rsR, ↓reduceIte, Nat.reduceEqDiff]
    grind [kindN]
  · simp only [rsC, decide_eq_true_eq, decide_eq_false_iff_not] at h1
    refine .skip (.seq (.seq ?_))
    apply AWS.rg [0, 14]
    · intro K hK
      simp (disch := omega) only [rsA, ↓reduceIte, Nat.reduceEqDiff, Nat.reduceAdd, rsW, getD_map, rowL_cells, rowR_cells, Int.toNat_natCast, List.length_map]
      first | exact hK | exact fin hK | exact fin2 hK
    refine AWS.cI (h1 := fun h2 => ?_) (h2 := fun h2 => ?_)
    · simp only [rsC, decide_eq_true_eq, decide_eq_false_iff_not] at h2
      refine .seq ?_
      apply AWS.rg [2]
      · intro K hK
        simp (disch := omega) only [rsA, ↓reduceIte, Nat.reduceEqDiff, Nat.reduceAdd, getD_map, rowL_cells, rowR_cells, Int.toNat_natCast, List.length_map]
        first | exact hK | exact fin hK
      refine .ret ?_
      simp only [results73, rsR, ↓reduceIte, Nat.reduceEqDiff]
      grind [kindN]
    · simp only [rsC, decide_eq_true_eq, decide_eq_false_iff_not] at h2
      refine .skip (.seq (.seq ?_))
      apply AWS.rg [0, 20]
      · intro K hK
        simp (disch := omega) only [rsA, ↓reduceIte, Nat.reduceEqDiff, Nat.reduceAdd, rsW, getD_map, rowL_cells, rowR_cells, Int.toNat_natCast, List.length_map]
        first | exact hK | exact fin hK | exact fin2 hK
      refine AWS.cI (h1 := fun h3 => ?_) (h2 := fun h3 => ?_)
      · simp only [rsC, decide_eq_true_eq, decide_eq_false_iff_not] at h3
        refine .seq ?_
        apply AWS.rg [2]
        · intro K hK
          simp (disch := omega) only [rsA, ↓reduceIte, Nat.reduceEqDiff, Nat.reduceAdd, getD_map, rowL_cells, rowR_cells, Int.toNat_natCast, List.length_map]
          first | exact hK | exact fin hK
        refine .ret ?_
        simp only [results73, rsR, ↓reduceIte, Nat.reduceEqDiff]
        grind [kindN]
      · simp only [rsC, decide_eq_true_eq, decide_eq_false_iff_not] at h3
        refine .skip (.seq (.seq ?_))
        apply AWS.rg [22]
        · intro K hK
          simp (disch := omega) only [rsA, ↓reduceIte, Nat.reduceEqDiff, Nat.reduceAdd, rsW, reduceCtorEq, ty_bool_3, getD_map, rowL_cells, rowR_cells, Int.toNat_natCast, List.length_map]
          first | exact hK | exact fin hK
        refine AWS.cI (h1 := fun h4 => ?_) (h2 := fun h4 => ?_)
        · simp only [rsC, decide_eq_true_eq, decide_eq_false_iff_not] at h4
          refine .seq ?_
          apply AWS.rg [2]
          · intro K hK
            simp (disch := omega) only [rsA, ↓reduceIte, Nat.reduceEqDiff, Nat.reduceAdd, getD_map, rowL_cells, rowR_cells, Int.toNat_natCast, List.length_map]
            first | exact hK | exact fin hK
          refine .ret ?_
          simp only [results73, rsR, ↓reduceIte, Nat.reduceEqDiff]
          grind [kindN]
        · simp only [rsC, decide_eq_true_eq, decide_eq_false_iff_not] at h4
          refine .skip (.seq ?_)
          apply AWS.rg [2]
          · intro K hK
            simp (disch := omega) only [rsA, ↓reduceIte, Nat.reduceEqDiff, Nat.reduceAdd, getD_map, rowL_cells, rowR_cells, Int.toNat_natCast, List.length_map]
            first | exact hK | exact fin hK
          refine .ret ?_
          simp only [results73, rsR, ↓reduceIte, Nat.reduceEqDiff]
          grind [kindN]
/-- comprador/label.Fit -/
theorem fit_pure (l : List UInt8) : APure prog 68 [.lit (.string (str (l)))] (.pv (.lit (.bool (fitR (runes l) 0)))) := by
  apply go func68
  refine .seq ?_
  apply AWS.rg [0]
  · intro K hK
    simp (disch := omega) only [rsA, ↓reduceIte, Nat.reduceEqDiff, Nat.reduceAdd, getD_map, rowL_cells, rowR_cells, Int.toNat_natCast, List.length_map, nextW]
    first | exact hK | exact fin hK
  refine .seq ?_
  apply AWS.rg [0, 3]
  · intro K hK
    simp (disch := omega) only [rsA, ↓reduceIte, Nat.reduceEqDiff, Nat.reduceAdd, getD_map, rowL_cells, rowR_cells, Int.toNat_natCast, List.length_map, nextW]
    first | exact hK | exact fin hK
  refine .seq (.seq ?_)
  apply AWS.rg [3, 8]
  · intro K hK
    simp (disch := omega) only [rsA, ↓reduceIte, Nat.reduceEqDiff, Nat.reduceAdd, stepX, ty_str_9, getD_map, rowL_cells, rowR_cells, Int.toNat_natCast, List.length_map, nextW]
    first | exact hK | exact fin hK
  refine .block ?_
  apply AWS.lp [3] [8] (fun zz : Nat × Int => l.length - zz.1) (fun zz => [.pv (.lit (.int .i64 (zz.2)))]) (fun zz => [.siter (str l) zz.1]) (fun zz => (0 ≤ zz.2 ∧ zz.2 ≤ 12) ∧ fitR (runes (l.drop zz.1)) zz.2 = fitR (runes l) 0) ((0, 0)) (by simp)
  rintro ⟨pos, n⟩ hI ih
  try dsimp only at hI
  obtain ⟨hn, hI⟩ := hI
  refine .seq ?_
  apply AWS.rg [3, 8, 9, 10]
  · intro K hK
    simp (disch := omega) only [rsA, ↓reduceIte, Nat.reduceEqDiff, Nat.reduceAdd, stepX, getD_map, rowL_cells, rowR_cells, Int.toNat_natCast, List.length_map, nextW]
    first | exact hK | exact fin hK
  refine .seq ?_
  refine AWS.cI (h1 := fun h1 => ?_) (h2 := fun h1 => ?_)
  · simp only [rsC, decide_eq_true_eq, decide_eq_false_iff_not] at h1
    refine .skip (.block (.seq ?_))
    apply AWS.rg [3, 5, 8]
    · intro K hK
      simp (disch := omega) only [rsA, ↓reduceIte, Nat.reduceEqDiff, Nat.reduceAdd, h1, decide_true, getD_map, rowL_cells, rowR_cells, Int.toNat_natCast, List.length_map, nextW]
      first | exact hK | exact fin hK
    refine .seq ?_
    apply AWS.rg [3, 6, 8]
    · intro K hK
      simp (disch := omega) only [rsA, ↓reduceIte, Nat.reduceEqDiff, Nat.reduceAdd, calleeOf, getD_map, rowL_cells, rowR_cells, Int.toNat_natCast, List.length_map, nextW]
      refine callG1 (kind_pure _) rfl (hk := ?_)
      simp (disch := omega) only [rsA, ↓reduceIte, Nat.reduceEqDiff, Nat.reduceAdd, calleeOf, getD_map, rowL_cells, rowR_cells, Int.toNat_natCast, List.length_map, nextW]
      first | exact hK | exact fin hK
    refine .seq (.seq ?_)
    apply AWS.rg [3, 8, 27]
    · intro K hK
      simp (maxSteps := 2000000) (disch := omega) only [rsA, ↓reduceIte, Nat.reduceEqDiff, Nat.reduceAdd, rsW, reduceCtorEq, ty_bool_3, getD_map, rowL_cells, rowR_cells, Int.toNat_natCast, List.length_map, nextW]
      first | exact hK | exact fin hK | exact fin2 hK
    refine AWS.cI (h1 := fun h2 => ?_) (h2 := fun h2 => ?_)
    · simp only [rsC, decide_eq_true_eq, decide_eq_false_iff_not] at h2
      refine .seq ?_
      apply AWS.rg [2]
      · intro K hK
        simp (disch := omega) only [rsA, ↓reduceIte, Nat.reduceEqDiff, Nat.reduceAdd, getD_map, rowL_cells, rowR_cells, Int.toNat_natCast, List.length_map, nextW]
        first | exact hK | exact fin hK
      refine .ret ?_
      simp only [results68, rsR, ↓reduceIte, Nat.reduceEqDiff]
      rw [← hI, runes_drop h1, fitR, if_pos (by omega)]
    · simp only [rsC, decide_eq_true_eq, decide_eq_false_iff_not] at h2
      refine .skip ?_
      apply AWS.rg [3, 8]
      · intro K hK
        simp (disch := omega) only [rsA, ↓reduceIte, Nat.reduceEqDiff, Nat.reduceAdd, rsW, getD_map, rowL_cells, rowR_cells, Int.toNat_natCast, List.length_map, nextW]
        first | exact hK | exact fin hK
      refine .inBlock ?_
      have hw := decodeL_pos (l.drop pos)
      rw [runes_drop h1, fitR, if_neg (by omega)] at hI
      refine AWS.bk 1 (ih ((pos + (Lib.decodeL (l.drop pos)).2, n + 1)) (by first | omega | (dsimp only; omega)) (⟨by dsimp only; omega, hI⟩)) ?_ ?_
      · first | rfl | (simp; done)
      · simp [rs0]
  · simp only [rsC, decide_eq_true_eq, decide_eq_false_iff_not] at h1
    refine .exit rfl (.seq ?_)
    apply AWS.rg [2]
    · intro K hK
      simp (disch := omega) only [rsA, ↓reduceIte, Nat.reduceEqDiff, Nat.reduceAdd, rsW, getD_map, rowL_cells, rowR_cells, Int.toNat_natCast, List.length_map, nextW]
      first | exact hK | exact fin hK
    refine .ret ?_
    simp only [results68, rsR, ↓reduceIte, Nat.reduceEqDiff]
    rw [← hI, runes_end h1, fitR]
/-- comprador/ver.fit -/
theorem verFit_pure (n : Int) : APure prog 91 [.lit (.int .i64 (n))] (.pv (.lit (.bool (verFit n)))) := by
  apply go func91
  refine .seq ?_
  apply AWS.rg [0]
  · intro K hK
    simp (disch := omega) only [rsA, ↓reduceIte, Nat.reduceEqDiff, Nat.reduceAdd, getD_map, rowL_cells, rowR_cells, Int.toNat_natCast, List.length_map]
    first | exact hK | exact fin hK
  refine .seq ?_
  apply AWS.rg [2]
  · intro K hK
    simp (disch := omega) only [rsA, ↓reduceIte, Nat.reduceEqDiff, Nat.reduceAdd, rsW, getD_map, rowL_cells, rowR_cells, Int.toNat_natCast, List.length_map]
    first | exact hK | exact fin hK | exact fin2 hK
  refine .ret ?_
  simp only [results91, rsR, ↓reduceIte, Nat.reduceEqDiff]
  grind [verFit]
/-- comprador/compradorref05.Fit -/
theorem refVerFit_pure (n : Int) : APure prog 40 [.lit (.int .i64 (n))] (.pv (.lit (.bool (verFit n)))) := by
  apply go func40
  refine .seq ?_
  apply AWS.rg [0]
  · intro K hK
    simp (disch := omega) only [rsA, ↓reduceIte, Nat.reduceEqDiff, Nat.reduceAdd, getD_map, rowL_cells, rowR_cells, Int.toNat_natCast, List.length_map]
    first | exact hK | exact fin hK
  refine .seq ?_
  apply AWS.rg [2]
  · intro K hK
    simp (disch := omega) only [rsA, ↓reduceIte, Nat.reduceEqDiff, Nat.reduceAdd, rsW, getD_map, rowL_cells, rowR_cells, Int.toNat_natCast, List.length_map]
    first | exact hK | exact fin hK | exact fin2 hK
  refine .ret ?_
  simp only [results40, rsR, ↓reduceIte, Nat.reduceEqDiff]
  grind [verFit]
/-- comprador/compradorlaw57.Large -/
theorem large_pure (rs : List Row) : APure prog 7 [.list (rs.map rowL)] (.pv (.lit (.bool (largeR rs)))) := by
  apply go func7
  refine .seq ?_
  apply AWS.rg [0]
  · intro K hK
    simp (disch := omega) only [rsA, ↓reduceIte, Nat.reduceEqDiff, Nat.reduceAdd, getD_map, rowL_cells, rowR_cells, Int.toNat_natCast, List.length_map]
    first | exact hK | exact fin hK
  refine .seq (.seq ?_)
  apply AWS.rg [0, 6]
  · intro K hK
    simp (disch := omega) only [rsA, ↓reduceIte, Nat.reduceEqDiff, Nat.reduceAdd, listOf, ty_str_22, ty_slice_22, rsW, getD_map, rowL_cells, rowR_cells, Int.toNat_natCast, List.length_map]
    first | exact hK | exact fin hK
  refine AWS.cI (h1 := fun h1 => ?_) (h2 := fun h1 => ?_)
  · simp only [rsC, decide_eq_true_eq, decide_eq_false_iff_not] at h1
    refine .seq ?_
    apply AWS.rg [2]
    · intro K hK
      simp (disch := omega) only [rsA, ↓reduceIte, Nat.reduceEqDiff, Nat.reduceAdd, getD_map, rowL_cells, rowR_cells, Int.toNat_natCast, List.length_map]
      first | exact hK | exact fin hK
    refine .ret ?_
    simp only [results7, rsR, ↓reduceIte, Nat.reduceEqDiff]
    unfold largeR
    rw [decide_eq_true (by omega)]
    rfl
  · simp only [rsC, decide_eq_true_eq, decide_eq_false_iff_not] at h1
    refine .skip (.seq (.seq ?_))
    apply AWS.rg [0, 3]
    · intro K hK
      simp (disch := omega) only [rsA, ↓reduceIte, Nat.reduceEqDiff, Nat.reduceAdd, getD_map, rowL_cells, rowR_cells, Int.toNat_natCast, List.length_map]
      first | exact hK | exact fin hK
    refine .block ?_
    apply AWS.lp [3] [0] (fun zz : Nat => rs.length - zz) (fun zz => [.pv (.lit (.int .i64 (zz)))]) (fun zz => []) (fun zz => zz ≤ rs.length ∧ largeF (rs.drop zz) = largeF rs) (0) (by simp)
    rintro i hI ih
    try dsimp only at hI
    obtain ⟨hi1, hI⟩ := hI
    refine .seq (.seq ?_)
    apply AWS.rg [0, 3, 10]
    · intro K hK
      simp (disch := omega) only [rsA, ↓reduceIte, Nat.reduceEqDiff, Nat.reduceAdd, listOf, ty_str_22, ty_slice_22, rsW, getD_map, rowL_cells, rowR_cells, Int.toNat_natCast, List.length_map]
      first | exact hK | exact fin hK
    refine AWS.cI (h1 := fun h2 => ?_) (h2 := fun h2 => ?_)
    · simp only [rsC, decide_eq_true_eq, decide_eq_false_iff_not] at h2
      refine .skip (.seq (.block (.seq ?_)))
      apply AWS.rg [0, 3, 19]
      · intro K hK
        simp (disch := omega) only [rsA, ↓reduceIte, Nat.reduceEqDiff, Nat.reduceAdd, cells_lit, cells_agg, cells_list, listOf, ty_slice_22, ty_array_22, ty_field_50_0, loadX, partX, mkAgg, allPlain, Nat.reduceLeDiff, Nat.le_refl, ty_shape_9, ty_str_9, ty_slice_9, rsW, getD_map, rowL_cells, rowR_cells, Int.toNat_natCast, List.length_map]
        first | exact hK | exact fin hK
      refine AWS.cI (h1 := fun h3 => ?_) (h2 := fun h3 => ?_)
      · simp only [rsC, decide_eq_true_eq, decide_eq_false_iff_not] at h3
        refine .seq ?_
        apply AWS.rg [2]
        · intro K hK
          simp (disch := omega) only [rsA, ↓reduceIte, Nat.reduceEqDiff, Nat.reduceAdd, getD_map, rowL_cells, rowR_cells, Int.toNat_natCast, List.length_map]
          first | exact hK | exact fin hK
        refine .ret ?_
        simp only [results7, rsR, ↓reduceIte, Nat.reduceEqDiff]
        unfold largeR
        rw [← hI, drop_getD rs i (by omega), largeF, decide_eq_true (p := 200 < _) (by omega)]
        simp
      · simp only [rsC, decide_eq_true_eq, decide_eq_false_iff_not] at h3
        refine .skip (.inBlock ?_)
        apply AWS.rg [0, 3]
        · intro K hK
          simp (disch := omega) only [rsA, ↓reduceIte, Nat.reduceEqDiff, Nat.reduceAdd, rsW, getD_map, rowL_cells, rowR_cells, Int.toNat_natCast, List.length_map]
          first | exact hK | exact fin hK
        rw [drop_getD rs i (by omega), largeF, decide_eq_false (by omega), Bool.false_or] at hI
        refine AWS.bk 0 (ih (i + 1) (by first | omega | (dsimp only; omega)) (⟨by omega, hI⟩)) ?_ ?_
        · first | rfl | (simp; done)
        · simp [rs0]
    · simp only [rsC, decide_eq_true_eq, decide_eq_false_iff_not] at h2
      refine .exit rfl (.seq ?_)
      apply AWS.rg [2]
      · intro K hK
        simp (disch := omega) only [rsA, ↓reduceIte, Nat.reduceEqDiff, Nat.reduceAdd, getD_map, rowL_cells, rowR_cells, Int.toNat_natCast, List.length_map]
        first | exact hK | exact fin hK
      refine .ret ?_
      simp only [results7, rsR, ↓reduceIte, Nat.reduceEqDiff]
      unfold largeR
      rw [decide_eq_false (by omega), ← hI, List.drop_eq_nil_of_le (by omega)]
      rfl
/-- comprador/lock.fit -/
theorem rowFit_pure (r : Row) (last : List UInt8) : APure prog 36 [rowL r, .lit (.string (str (last)))] (.pv (.lit (.bool (rowFit r last)))) := by
  apply go func36
  unfold rowL
  refine .seq ?_
  apply AWS.rg [1, 2]
  · intro K hK
    simp (disch := omega) only [rsA, ↓reduceIte, Nat.reduceEqDiff, Nat.reduceAdd, stepX, AV.whole, AV.cells, getD_map, rowL_cells, rowR_cells, Int.toNat_natCast, List.length_map]
    first | exact hK | exact fin hK
  refine .seq ?_
  apply AWS.rg [4]
  · intro K hK
    simp (maxSteps := 2000000) (disch := omega) only [rsA, ↓reduceIte, Nat.reduceEqDiff, Nat.reduceAdd, ty_field_50_0, cells_lit, cells_agg, cells_list, loadX, partX, mkAgg, allPlain, Nat.reduceLeDiff, Nat.le_refl, ty_shape_9, calleeOf, rsW, ty_field_50_1, ty_shape_3, getD_map, rowL_cells, rowR_cells, Int.toNat_natCast, List.length_map, Nat.add_zero]
    refine callG1 (fit_pure _) rfl (hk := ?_)
    simp (maxSteps := 2000000) (disch := omega) only [rsA, ↓reduceIte, Nat.reduceEqDiff, Nat.reduceAdd, ty_field_50_0, cells_lit, cells_agg, cells_list, loadX, partX, mkAgg, allPlain, Nat.reduceLeDiff, Nat.le_refl, ty_shape_9, calleeOf, rsW, ty_field_50_1, ty_shape_3, getD_map, rowL_cells, rowR_cells, Int.toNat_natCast, List.length_map, Nat.add_zero]
    first | exact hK | exact fin hK | exact fin2 hK
  refine .ret ?_
  simp only [results36, rsR, ↓reduceIte, Nat.reduceEqDiff]
  simp only [rowFit, Bool.cond_false_right]
/-- comprador/lock.Check -/
theorem lockCheck_pure (rs : List Row) (hrs : rs.length ≤ 1000000) : APure prog 28 [.list (rs.map rowL)] (.pv (.lit (.bool (checkL rs [])))) := by
  apply go func28
  refine .seq ?_
  apply AWS.rg [0]
  · intro K hK
    simp (disch := omega) only [rsA, ↓reduceIte, Nat.reduceEqDiff, Nat.reduceAdd, getD_map, rowL_cells, rowR_cells, Int.toNat_natCast, List.length_map]
    first | exact hK | exact fin hK
  refine .seq ?_
  apply AWS.rg [0, 3]
  · intro K hK
    simp (disch := omega) only [rsA, ↓reduceIte, Nat.reduceEqDiff, Nat.reduceAdd, getD_map, rowL_cells, rowR_cells, Int.toNat_natCast, List.length_map]
    first | exact hK | exact fin hK
  refine .seq (.seq ?_)
  apply AWS.rg [3, 6, 7, 8]
  · intro K hK
    simp (disch := omega) only [rsA, ↓reduceIte, Nat.reduceEqDiff, Nat.reduceAdd, listOf, ty_str_22, ty_slice_22, getD_map, rowL_cells, rowR_cells, Int.toNat_natCast, List.length_map]
    first | exact hK | exact fin hK
  refine .block ?_
  apply AWS.lp [3, 8] [6, 7] (fun zz : Nat × List UInt8 => rs.length - zz.1) (fun zz => [.pv (.lit (.string (str (zz.2)))), .pv (.lit (.int .i64 (zz.1)))]) (fun zz => []) (fun zz => zz.1 ≤ rs.length ∧ checkL (rs.drop zz.1) zz.2 = checkL rs []) ((0, [])) (by simp)
  rintro ⟨i, last⟩ hI ih
  try dsimp only at hI
  obtain ⟨hi1, hI⟩ := hI
  refine .seq ?_
  apply AWS.rg [3, 6, 7, 8, 9]
  · intro K hK
    simp (disch := omega) only [rsA, ↓reduceIte, Nat.reduceEqDiff, Nat.reduceAdd, rsW, getD_map, rowL_cells, rowR_cells, Int.toNat_natCast, List.length_map]
    first | exact hK | exact fin hK
  refine .seq ?_
  refine AWS.cI (h1 := fun h1 => ?_) (h2 := fun h1 => ?_)
  · simp only [rsC, decide_eq_true_eq, decide_eq_false_iff_not] at h1
    refine .skip (.seq (.block (.seq ?_)))
    apply AWS.rg [3, 5, 6, 7, 8]
    · intro K hK
      simp (disch := omega) only [rsA, ↓reduceIte, Nat.reduceEqDiff, Nat.reduceAdd, cells_lit, cells_agg, cells_list, listOf, ty_slice_22, ty_array_22, loadX, partX, mkAgg, allPlain, Nat.reduceLeDiff, Nat.le_refl, ty_shape_50, stepX, ty_zero_50, splice, AV.whole, AV.cells, getD_map, rowL_cells, rowR_cells, Int.toNat_natCast, List.length_map]
      first | exact hK | exact fin hK
    refine .seq (.seq ?_)
    apply AWS.rg [5, 6, 7, 8, 15]
    · intro K hK
      simp (disch := omega) only [rsA, ↓reduceIte, Nat.reduceEqDiff, Nat.reduceAdd, cells_lit, cells_agg, cells_list, loadX, partX, mkAgg, allPlain, Nat.reduceLeDiff, Nat.le_refl, ty_shape_50, calleeOf, rsW, getD_map, rowL_cells, rowR_cells, Int.toNat_natCast, List.length_map]
      refine callG1 (rowFit_pure _ _) rfl (hk := ?_)
      simp (disch := omega) only [rsA, ↓reduceIte, Nat.reduceEqDiff, Nat.reduceAdd, cells_lit, cells_agg, cells_list, loadX, partX, mkAgg, allPlain, Nat.reduceLeDiff, Nat.le_refl, ty_shape_50, calleeOf, rsW, getD_map, rowL_cells, rowR_cells, Int.toNat_natCast, List.length_map]
      first | exact hK | exact fin hK
    refine AWS.cI (h1 := fun h2 => ?_) (h2 := fun h2 => ?_)
    · simp only [rsC, decide_eq_true_eq, decide_eq_false_iff_not] at h2
      refine .seq ?_
      apply AWS.rg [2]
      · intro K hK
        simp (disch := omega) only [rsA, ↓reduceIte, Nat.reduceEqDiff, Nat.reduceAdd, getD_map, rowL_cells, rowR_cells, Int.toNat_natCast, List.length_map]
        first | exact hK | exact fin hK
      refine .ret ?_
      simp only [results28, rsR, ↓reduceIte, Nat.reduceEqDiff]
      rw [← hI, drop_getD rs i (by omega), checkL, h2, Bool.false_and]
    · simp only [rsC, decide_eq_true_eq, decide_eq_false_iff_not] at h2
      refine .skip ?_
      apply AWS.rg [3, 6, 7, 8]
      · intro K hK
        simp (disch := omega) only [rsA, ↓reduceIte, Nat.reduceEqDiff, Nat.reduceAdd, ty_field_50_0, cells_lit, cells_agg, cells_list, loadX, partX, mkAgg, allPlain, Nat.reduceLeDiff, Nat.le_refl, ty_shape_9, getD_map, rowL_cells, rowR_cells, Int.toNat_natCast, List.length_map]
        first | exact hK | exact fin hK
      refine .inBlock ?_
      apply AWS.rg [3, 6, 7, 8]
      · intro K hK
        simp (disch := omega) only [rsA, ↓reduceIte, Nat.reduceEqDiff, Nat.reduceAdd, rsW, getD_map, rowL_cells, rowR_cells, Int.toNat_natCast, List.length_map]
        first | exact hK | exact fin hK
      rw [drop_getD rs i (by omega), checkL, h2, Bool.true_and] at hI
      refine AWS.bk 0 (ih ((i + 1, (rs.getD i default).name)) (by first | omega | (dsimp only; omega)) (⟨by dsimp only; omega, hI⟩)) ?_ ?_
      · first | rfl | (simp; done)
      · simp [rs0]
  · simp only [rsC, decide_eq_true_eq, decide_eq_false_iff_not] at h1
    refine .exit rfl (.seq ?_)
    apply AWS.rg [2]
    · intro K hK
      simp (disch := omega) only [rsA, ↓reduceIte, Nat.reduceEqDiff, Nat.reduceAdd, getD_map, rowL_cells, rowR_cells, Int.toNat_natCast, List.length_map]
      first | exact hK | exact fin hK
    refine .ret ?_
    simp only [results28, rsR, ↓reduceIte, Nat.reduceEqDiff]
    rw [← hI, List.drop_eq_nil_of_le (by omega), checkL]
/-- comprador/compradorref03.wide -/
theorem wide_pure (l : List UInt8) (p : Nat) (hp : p < l.length) (hl : l.length ≤ 4611686018427387904) : APure prog 118 [.lit (.string (str (l))), .lit (.int .i64 (p))] (.pv (.lit (.int .i64 (wideN l p)))) := by
  apply go func118
  have hb := byteI_range l p
  have hle := leadN_le (byteI l p)
  refine .seq ?_
  apply AWS.rg [0, 1]
  · intro K hK
    simp (disch := omega) only [rsA, ↓reduceIte, Nat.reduceEqDiff, Nat.reduceAdd, getD_map, rowL_cells, rowR_cells, Int.toNat_natCast, List.length_map]
    first | exact hK | exact fin hK
  refine .seq ?_
  apply AWS.rg [0, 1, 5]
  · intro K hK
    simp (disch := omega) only [rsA, ↓reduceIte, Nat.reduceEqDiff, Nat.reduceAdd, getD_map, rowL_cells, rowR_cells, Int.toNat_natCast, List.length_map]
    first | exact hK | exact fin hK
  refine .seq ?_
  apply AWS.rg [0, 1, 5, 6]
  · intro K hK
    simp (disch := omega) only [rsA, ↓reduceIte, Nat.reduceEqDiff, Nat.reduceAdd, partX, partAX, ty_str_9, ty_array_9, rsW, listOf, ty_bytes_5, ty_bytes_3, ty_int_3, ty_str_3, ty_str_5, ty_und_5, getD_map, rowL_cells, rowR_cells, Int.toNat_natCast, List.length_map]
    first | exact hK | exact fin hK
  refine .seq (.seq ?_)
  apply AWS.rg [0, 1, 5, 6, 18]
  · intro K hK
    simp (disch := omega) only [rsA, ↓reduceIte, Nat.reduceEqDiff, Nat.reduceAdd, rsW, getD_map, rowL_cells, rowR_cells, Int.toNat_natCast, List.length_map]
    first | exact hK | exact fin hK | exact fin2 hK
  apply AWS.cj (s' := []) [5] [0, 1, 6] [.pv (.lit (.int .i64 (if 194 ≤ byteI l p ∧ byteI l p ≤ 223 then 2 else 0)))]
  · intro h1 hk
    simp only [rsC, decide_eq_true_eq, decide_eq_false_iff_not] at h1
    apply AWS.rg [0, 1, 5, 6]
    · intro K hK
      simp (disch := omega) only [rsA, ↓reduceIte, Nat.reduceEqDiff, Nat.reduceAdd, getD_map, rowL_cells, rowR_cells, Int.toNat_natCast, List.length_map]
      first | exact hK | exact fin hK
    refine AWS.bk 0 hk ?_ ?_
    · first | rfl | (simp; done)
    · simp only [rs0, rsL, ↓reduceIte, Nat.reduceEqDiff]
      grind
  · intro h1 hk
    simp only [rsC, decide_eq_true_eq, decide_eq_false_iff_not] at h1
    refine .skip ?_
    refine AWS.bk 0 hk ?_ ?_
    · first | rfl | (simp; done)
    · simp only [rs0, rsL, ↓reduceIte, Nat.reduceEqDiff]
      grind
  refine .seq (.seq ?_)
  apply AWS.rg [0, 1, 5, 6, 24]
  · intro K hK
    simp (disch := omega) only [rsA, ↓reduceIte, Nat.reduceEqDiff, Nat.reduceAdd, rsW, getD_map, rowL_cells, rowR_cells, Int.toNat_natCast, List.length_map]
    first | exact hK | exact fin hK | exact fin2 hK
  apply AWS.cj (s' := []) [5] [0, 1, 6] [.pv (.lit (.int .i64 (if 224 ≤ byteI l p ∧ byteI l p ≤ 239 then 3 else if 194 ≤ byteI l p ∧ byteI l p ≤ 223 then 2 else 0)))]
  · intro h2 hk
    simp only [rsC, decide_eq_true_eq, decide_eq_false_iff_not] at h2
    apply AWS.rg [0, 1, 5, 6]
    · intro K hK
      simp (disch := omega) only [rsA, ↓reduceIte, Nat.reduceEqDiff, Nat.reduceAdd, getD_map, rowL_cells, rowR_cells, Int.toNat_natCast, List.length_map]
      first | exact hK | exact fin hK
    refine AWS.bk 0 hk ?_ ?_
    · first | rfl | (simp; done)
    · simp only [rs0, rsL, ↓reduceIte, Nat.reduceEqDiff]
      grind
  · intro h2 hk
    simp only [rsC, decide_eq_true_eq, decide_eq_false_iff_not] at h2
    refine .skip ?_
    refine AWS.bk 0 hk ?_ ?_
    · first | rfl | (simp; done)
    · simp only [rs0, rsL, ↓reduceIte, Nat.reduceEqDiff]
      grind
  refine .seq (.seq ?_)
  apply AWS.rg [0, 1, 5, 6, 30]
  · intro K hK
    simp (disch := omega) only [rsA, ↓reduceIte, Nat.reduceEqDiff, Nat.reduceAdd, rsW, getD_map, rowL_cells, rowR_cells, Int.toNat_natCast, List.length_map]
    first | exact hK | exact fin hK | exact fin2 hK
  apply AWS.cj (s' := []) [5] [0, 1, 6] [.pv (.lit (.int .i64 (leadN (byteI l p))))]
  · intro h3 hk
    simp only [rsC, decide_eq_true_eq, decide_eq_false_iff_not] at h3
    apply AWS.rg [0, 1, 5, 6]
    · intro K hK
      simp (disch := omega) only [rsA, ↓reduceIte, Nat.reduceEqDiff, Nat.reduceAdd, getD_map, rowL_cells, rowR_cells, Int.toNat_natCast, List.length_map]
      first | exact hK | exact fin hK
    refine AWS.bk 0 hk ?_ ?_
    · first | rfl | (simp; done)
    · simp only [rs0, rsL, ↓reduceIte, Nat.reduceEqDiff]
      grind [leadN]
  · intro h3 hk
    simp only [rsC, decide_eq_true_eq, decide_eq_false_iff_not] at h3
    refine .skip ?_
    refine AWS.bk 0 hk ?_ ?_
    · first | rfl | (simp; done)
    · simp only [rs0, rsL, ↓reduceIte, Nat.reduceEqDiff]
      grind [leadN]
  refine .seq (.seq ?_)
  apply AWS.rg [0, 1, 5, 6, 40]
  · intro K hK
    simp (maxSteps := 2000000) (disch := omega) only [rsA, ↓reduceIte, Nat.reduceEqDiff, Nat.reduceAdd, rsW, reduceCtorEq, ty_bool_3, listOf, ty_str_9, ty_slice_9, getD_map, rowL_cells, rowR_cells, Int.toNat_natCast, List.length_map]
    first | exact hK | exact fin hK | exact fin2 hK
  refine AWS.cI (h1 := fun h4 => ?_) (h2 := fun h4 => ?_)
  · simp only [rsC, decide_eq_true_eq, decide_eq_false_iff_not] at h4
    refine .seq ?_
    apply AWS.rg [4]
    · intro K hK
      simp (disch := omega) only [rsA, ↓reduceIte, Nat.reduceEqDiff, Nat.reduceAdd, getD_map, rowL_cells, rowR_cells, Int.toNat_natCast, List.length_map]
      first | exact hK | exact fin hK
    refine .ret ?_
    simp only [results118, rsR, ↓reduceIte, Nat.reduceEqDiff]
    rw [wideN, wideB, if_pos (by omega)]
  · simp only [rsC, decide_eq_true_eq, decide_eq_false_iff_not] at h4
    refine .skip (.seq (.seq ?_))
    apply AWS.rg [0, 1, 5, 6, 7]
    · intro K hK
      simp (disch := omega) only [rsA, ↓reduceIte, Nat.reduceEqDiff, Nat.reduceAdd, getD_map, rowL_cells, rowR_cells, Int.toNat_natCast, List.length_map]
      first | exact hK | exact fin hK
    refine .block ?_
    apply AWS.lp [7] [0, 1, 5, 6] (fun zz : Int => (4 - zz).toNat) (fun zz => [.pv (.lit (.int .i64 (zz)))]) (fun zz => []) (fun zz => 1 ≤ zz ∧ zz ≤ leadN (byteI l p) ∧ (∀ j, 1 ≤ j → j < zz → ¬ offB (byteI l (p + j)))) (1) (⟨by omega, by omega, fun j h1 h2 => by omega⟩)
    rintro i hI ih
    try dsimp only at hI
    obtain ⟨hi1, hi2, hI⟩ := hI
    refine .seq (.seq ?_)
    apply AWS.rg [0, 1, 5, 6, 7, 43]
    · intro K hK
      simp (disch := omega) only [rsA, ↓reduceIte, Nat.reduceEqDiff, Nat.reduceAdd, rsW, getD_map, rowL_cells, rowR_cells, Int.toNat_natCast, List.length_map]
      first | exact hK | exact fin hK
    refine AWS.cI (h1 := fun h5 => ?_) (h2 := fun h5 => ?_)
    · simp only [rsC, decide_eq_true_eq, decide_eq_false_iff_not] at h5
      refine .skip (.seq (.block (.seq ?_)))
      apply AWS.rg [0, 1, 5, 6, 7, 59]
      · intro K hK
        simp (maxSteps := 2000000) (disch := omega) only [rsA, ↓reduceIte, Nat.reduceEqDiff, Nat.reduceAdd, rsW, partX, partAX, ty_str_9, ty_array_9, getD_map, rowL_cells, rowR_cells, Int.toNat_natCast, List.length_map]
        first | exact hK | exact fin hK | exact fin2 hK
      refine AWS.cI (h1 := fun h6 => ?_) (h2 := fun h6 => ?_)
      · simp only [rsC, decide_eq_true_eq, decide_eq_false_iff_not] at h6
        refine .seq ?_
        apply AWS.rg [4]
        · intro K hK
          simp (disch := omega) only [rsA, ↓reduceIte, Nat.reduceEqDiff, Nat.reduceAdd, getD_map, rowL_cells, rowR_cells, Int.toNat_natCast, List.length_map]
          first | exact hK | exact fin hK
        refine .ret ?_
        simp only [results118, rsR, ↓reduceIte, Nat.reduceEqDiff]
        have hc : i = 1 ∨ i = 2 ∨ i = 3 := by omega
        rw [wideN, wideB, if_neg (by omega), if_pos]
        unfold offB
        rcases hc with rfl | rfl | rfl <;> omega
      · simp only [rsC, decide_eq_true_eq, decide_eq_false_iff_not] at h6
        refine .skip (.inBlock ?_)
        apply AWS.rg [0, 1, 5, 6, 7]
        · intro K hK
          simp (disch := omega) only [rsA, ↓reduceIte, Nat.reduceEqDiff, Nat.reduceAdd, rsW, getD_map, rowL_cells, rowR_cells, Int.toNat_natCast, List.length_map]
          first | exact hK | exact fin hK
        refine AWS.bk 0 (ih (i + 1) (by first | omega | (dsimp only; omega)) (⟨by omega, by omega, fun j h1 h2 => by
          by_cases hj : j = i
          · subst hj; unfold offB; omega
          · exact hI j h1 (by omega)⟩)) ?_ ?_
        · first | rfl | (simp; done)
        · simp [rs0]
    · simp only [rsC, decide_eq_true_eq, decide_eq_false_iff_not] at h5
      refine .exit rfl (.seq ?_)
      apply AWS.rg [5, 6, 8]
      · intro K hK
        simp (disch := omega) only [rsA, ↓reduceIte, Nat.reduceEqDiff, Nat.reduceAdd, rsW, partX, partAX, ty_str_9, ty_array_9, listOf, ty_bytes_5, ty_bytes_3, ty_int_3, ty_str_3, ty_str_5, ty_und_5, getD_map, rowL_cells, rowR_cells, Int.toNat_natCast, List.length_map]
        first | exact hK | exact fin hK
      refine .seq (.seq ?_)
      apply AWS.rg [5, 94]
      · intro K hK
        simp (maxSteps := 2000000) (disch := omega) only [rsA, ↓reduceIte, Nat.reduceEqDiff, Nat.reduceAdd, rsW, reduceCtorEq, ty_bool_3, getD_map, rowL_cells, rowR_cells, Int.toNat_natCast, List.length_map]
        first | exact hK | exact fin hK | exact fin2 hK
      refine AWS.cI (h1 := fun h7 => ?_) (h2 := fun h7 => ?_)
      · simp only [rsC, decide_eq_true_eq, decide_eq_false_iff_not] at h7
        refine .seq ?_
        apply AWS.rg [4]
        · intro K hK
          simp (disch := omega) only [rsA, ↓reduceIte, Nat.reduceEqDiff, Nat.reduceAdd, getD_map, rowL_cells, rowR_cells, Int.toNat_natCast, List.length_map]
          first | exact hK | exact fin hK
        refine .ret ?_
        simp only [results118, rsR, ↓reduceIte, Nat.reduceEqDiff]
        have a1 := hI 1 (by omega)
        have a2 := hI 2 (by omega)
        have a3 := hI 3 (by omega)
        unfold offB at a1 a2 a3
        rw [wideN, wideB, if_neg (by omega), if_neg (by unfold offB; omega), if_pos (by omega)]
      · simp only [rsC, decide_eq_true_eq, decide_eq_false_iff_not] at h7
        refine .skip (.seq ?_)
        apply AWS.rg [4]
        · intro K hK
          simp (disch := omega) only [rsA, ↓reduceIte, Nat.reduceEqDiff, Nat.reduceAdd, getD_map, rowL_cells, rowR_cells, Int.toNat_natCast, List.length_map]
          first | exact hK | exact fin hK
        refine .ret ?_
        simp only [results118, rsR, ↓reduceIte, Nat.reduceEqDiff]
        have a1 := hI 1 (by omega)
        have a2 := hI 2 (by omega)
        have a3 := hI 3 (by omega)
        unfold offB at a1 a2 a3
        rw [wideN, wideB, if_neg (by omega), if_neg (by unfold offB; omega), if_neg (by omega)]
/-- comprador/compradorref03.Rune -/
theorem rune_pure (l : List UInt8) (p : Nat) (hp : p < l.length) (hl : l.length ≤ 4611686018427387904) : APure prog 100 [.lit (.string (str (l))), .lit (.int .i64 (p))] (.tuple [.pv (.lit (.int .i64 ((runeN l p).1))), .pv (.lit (.int .i64 ((runeN l p).2)))]) := by
  apply go func100
  have hb := byteI_range l p
  have hb1 := byteI_range l (p + 1)
  have hb2 := byteI_range l (p + 2)
  have hb3 := byteI_range l (p + 3)
  have hx := x0N_range (byteI l p) (wideN l p) hb.1
  have hle := wideN_le l p
  refine .seq ?_
  apply AWS.rg [0, 1]
  · intro K hK
    simp (disch := omega) only [rsA, ↓reduceIte, Nat.reduceEqDiff, Nat.reduceAdd, getD_map, rowL_cells, rowR_cells, Int.toNat_natCast, List.length_map]
    first | exact hK | exact fin hK
  refine .seq (.seq ?_)
  apply AWS.rg [0, 1, 12]
  · intro K hK
    simp (disch := omega) only [rsA, ↓reduceIte, Nat.reduceEqDiff, Nat.reduceAdd, partX, partAX, ty_str_9, ty_array_9, rsW, getD_map, rowL_cells, rowR_cells, Int.toNat_natCast, List.length_map]
    first | exact hK | exact fin hK
  refine AWS.cI (h1 := fun h1 => ?_) (h2 := fun h1 => ?_)
  · simp only [rsC, decide_eq_true_eq, decide_eq_false_iff_not] at h1
    refine .seq ?_
    apply AWS.rg [4, 5]
    · intro K hK
      simp (disch := omega) only [rsA, ↓reduceIte, Nat.reduceEqDiff, Nat.reduceAdd, partX, partAX, ty_str_9, ty_array_9, rsW, listOf, ty_bytes_5, ty_bytes_3, ty_int_3, ty_str_3, ty_str_5, ty_und_5, getD_map, rowL_cells, rowR_cells, Int.toNat_natCast, List.length_map]
      first | exact hK | exact fin hK
    refine .ret ?_
    simp only [results100, rsR, ↓reduceIte, Nat.reduceEqDiff]
    rw [runeN_def, if_pos (by omega)]
    exact ⟨rfl, rfl⟩
  · simp only [rsC, decide_eq_true_eq, decide_eq_false_iff_not] at h1
    refine .skip (.seq ?_)
    apply AWS.rg [0, 1, 6]
    · intro K hK
      simp (disch := omega) only [rsA, ↓reduceIte, Nat.reduceEqDiff, Nat.reduceAdd, calleeOf, getD_map, rowL_cells, rowR_cells, Int.toNat_natCast, List.length_map]
      refine callG1 (wide_pure l p hp hl) rfl (hk := ?_)
      simp (disch := omega) only [rsA, ↓reduceIte, Nat.reduceEqDiff, Nat.reduceAdd, calleeOf, getD_map, rowL_cells, rowR_cells, Int.toNat_natCast, List.length_map]
      first | exact hK | exact fin hK
    refine .seq (.seq ?_)
    apply AWS.rg [0, 1, 6, 21]
    · intro K hK
      simp (disch := omega) only [rsA, ↓reduceIte, Nat.reduceEqDiff, Nat.reduceAdd, rsW, reduceCtorEq, ty_bool_3, getD_map, rowL_cells, rowR_cells, Int.toNat_natCast, List.length_map]
      first | exact hK | exact fin hK
    refine AWS.cI (h1 := fun h2 => ?_) (h2 := fun h2 => ?_)
    · simp only [rsC, decide_eq_true_eq, decide_eq_false_iff_not] at h2
      refine .seq ?_
      apply AWS.rg [4, 5]
      · intro K hK
        simp (disch := omega) only [rsA, ↓reduceIte, Nat.reduceEqDiff, Nat.reduceAdd, getD_map, rowL_cells, rowR_cells, Int.toNat_natCast, List.length_map]
        first | exact hK | exact fin hK
      refine .ret ?_
      simp only [results100, rsR, ↓reduceIte, Nat.reduceEqDiff]
      rw [runeN_def, if_neg (by omega), if_pos (by omega)]
      exact ⟨rfl, rfl⟩
    · simp only [rsC, decide_eq_true_eq, decide_eq_false_iff_not] at h2
      refine .skip (.seq ?_)
      apply AWS.rg [0, 1, 6, 7]
      · intro K hK
        simp (disch := omega) only [rsA, ↓reduceIte, Nat.reduceEqDiff, Nat.reduceAdd, partX, partAX, ty_str_9, ty_array_9, rsW, listOf, ty_bytes_5, ty_bytes_3, ty_int_3, ty_str_3, ty_str_5, ty_und_5, Int.tmod_eq_emod_of_nonneg, Int.tdiv_eq_ediv_of_nonneg, getD_map, rowL_cells, rowR_cells, Int.toNat_natCast, List.length_map]
        first | exact hK | exact fin hK
      refine .seq (.seq ?_)
      apply AWS.rg [0, 1, 6, 7, 28]
      · intro K hK
        simp (disch := omega) only [rsA, ↓reduceIte, Nat.reduceEqDiff, Nat.reduceAdd, rsW, reduceCtorEq, ty_bool_3, getD_map, rowL_cells, rowR_cells, Int.toNat_natCast, List.length_map]
        first | exact hK | exact fin hK
      apply AWS.cj (s' := []) [7] [0, 1, 6] [.pv (.lit (.int .i64 (if wideN l p = 3 then byteI l p % 16 else byteI l p % 32)))]
      · intro h3 hk
        simp only [rsC, decide_eq_true_eq, decide_eq_false_iff_not] at h3
        apply AWS.rg [0, 1, 6, 7]
        · intro K hK
          simp (disch := omega) only [rsA, ↓reduceIte, Nat.reduceEqDiff, Nat.reduceAdd, partX, partAX, ty_str_9, ty_array_9, rsW, listOf, ty_bytes_5, ty_bytes_3, ty_int_3, ty_str_3, ty_str_5, ty_und_5, Int.tmod_eq_emod_of_nonneg, Int.tdiv_eq_ediv_of_nonneg, getD_map, rowL_cells, rowR_cells, Int.toNat_natCast, List.length_map]
          first | exact hK | exact fin hK
        refine AWS.bk 0 hk ?_ ?_
        · first | rfl | (simp; done)
        · simp only [rs0, rsL, ↓reduceIte, Nat.reduceEqDiff]
          grind
      · intro h3 hk
        simp only [rsC, decide_eq_true_eq, decide_eq_false_iff_not] at h3
        refine .skip ?_
        refine AWS.bk 0 hk ?_ ?_
        · first | rfl | (simp; done)
        · simp only [rs0, rsL, ↓reduceIte, Nat.reduceEqDiff]
          grind
      refine .seq (.seq ?_)
      apply AWS.rg [0, 1, 6, 7, 35]
      · intro K hK
        simp (disch := omega) only [rsA, ↓reduceIte, Nat.reduceEqDiff, Nat.reduceAdd, rsW, reduceCtorEq, ty_bool_3, getD_map, rowL_cells, rowR_cells, Int.toNat_natCast, List.length_map]
        first | exact hK | exact fin hK
      apply AWS.cj (s' := []) [7] [0, 1, 6] [.pv (.lit (.int .i64 (x0N (byteI l p) (wideN l p))))]
      · intro h4 hk
        simp only [rsC, decide_eq_true_eq, decide_eq_false_iff_not] at h4
        apply AWS.rg [0, 1, 6, 7]
        · intro K hK
          simp (disch := omega) only [rsA, ↓reduceIte, Nat.reduceEqDiff, Nat.reduceAdd, partX, partAX, ty_str_9, ty_array_9, rsW, listOf, ty_bytes_5, ty_bytes_3, ty_int_3, ty_str_3, ty_str_5, ty_und_5, Int.tmod_eq_emod_of_nonneg, Int.tdiv_eq_ediv_of_nonneg, getD_map, rowL_cells, rowR_cells, Int.toNat_natCast, List.length_map]
          first | exact hK | exact fin hK
        refine AWS.bk 0 hk ?_ ?_
        · first | rfl | (simp; done)
        · simp only [rs0, rsL, ↓reduceIte, Nat.reduceEqDiff]
          grind [x0N]
      · intro h4 hk
        simp only [rsC, decide_eq_true_eq, decide_eq_false_iff_not] at h4
        refine .skip ?_
        refine AWS.bk 0 hk ?_ ?_
        · first | rfl | (simp; done)
        · simp only [rs0, rsL, ↓reduceIte, Nat.reduceEqDiff]
          grind [x0N]
      refine .seq (.seq ?_)
      apply AWS.rg [0, 1, 6, 7, 8]
      · intro K hK
        simp (disch := omega) only [rsA, ↓reduceIte, Nat.reduceEqDiff, Nat.reduceAdd, getD_map, rowL_cells, rowR_cells, Int.toNat_natCast, List.length_map]
        first | exact hK | exact fin hK
      refine .block ?_
      apply AWS.lp [7, 8] [0, 1, 6] (fun zz : Int × Int => (4 - zz.1).toNat) (fun zz => [.pv (.lit (.int .i64 (zz.2))), .pv (.lit (.int .i64 (zz.1)))]) (fun zz => []) (fun zz => (1 ≤ zz.1 ∧ zz.1 ≤ wideN l p ∧ 0 ≤ zz.2 ∧ zz.2 ≤ 100000000) ∧ ((zz.1 = 1 ∧ zz.2 = x0N (byteI l p) (wideN l p)) ∨ (zz.1 = 2 ∧ zz.2 = x0N (byteI l p) (wideN l p) * 64 + byteI l (p + 1) % 64) ∨ (zz.1 = 3 ∧ zz.2 = (x0N (byteI l p) (wideN l p) * 64 + byteI l (p + 1) % 64) * 64 + byteI l (p + 2) % 64) ∨ (zz.1 = 4 ∧ zz.2 = ((x0N (byteI l p) (wideN l p) * 64 + byteI l (p + 1) % 64) * 64 + byteI l (p + 2) % 64) * 64 + byteI l (p + 3) % 64))) ((1, x0N (byteI l p) (wideN l p))) (⟨by dsimp only; omega, .inl ⟨rfl, rfl⟩⟩)
      rintro ⟨i, x⟩ hI ih
      try dsimp only at hI
      obtain ⟨⟨hi1, hi2, hi3, hi4⟩, hI⟩ := hI
      have hbi := byteI_range l (p + i)
      refine .seq (.seq ?_)
      apply AWS.rg [0, 1, 6, 7, 8, 43]
      · intro K hK
        simp (disch := omega) only [rsA, ↓reduceIte, Nat.reduceEqDiff, Nat.reduceAdd, rsW, getD_map, rowL_cells, rowR_cells, Int.toNat_natCast, List.length_map]
        first | exact hK | exact fin hK
      refine AWS.cI (h1 := fun h5 => ?_) (h2 := fun h5 => ?_)
      · simp only [rsC, decide_eq_true_eq, decide_eq_false_iff_not] at h5
        refine .skip (.seq (.block ?_))
        apply AWS.rg [0, 1, 6, 7, 8]
        · intro K hK
          simp (maxSteps := 2000000) (disch := omega) only [rsA, ↓reduceIte, Nat.reduceEqDiff, Nat.reduceAdd, rsW, partX, partAX, ty_str_9, ty_array_9, listOf, ty_bytes_5, ty_bytes_3, ty_int_3, ty_str_3, ty_str_5, ty_und_5, Int.tmod_eq_emod_of_nonneg, Int.tdiv_eq_ediv_of_nonneg, getD_map, rowL_cells, rowR_cells, Int.toNat_natCast, List.length_map]
          first | exact hK | exact fin hK
        refine .inBlock ?_
        apply AWS.rg [0, 1, 6, 7, 8]
        · intro K hK
          simp (disch := omega) only [rsA, ↓reduceIte, Nat.reduceEqDiff, Nat.reduceAdd, rsW, getD_map, rowL_cells, rowR_cells, Int.toNat_natCast, List.length_map]
          first | exact hK | exact fin hK
        refine AWS.bk 0 (ih (i + 1, x * 64 + byteI l (p + i) % 64) (by dsimp only; omega) ⟨by dsimp only; omega, ?_⟩) rfl (by simp [rs0])
        dsimp only
        rcases hI with ⟨rfl, rfl⟩ | ⟨rfl, rfl⟩ | ⟨rfl, rfl⟩ | ⟨rfl, rfl⟩
        · exact .inr (.inl ⟨rfl, rfl⟩)
        · exact .inr (.inr (.inl ⟨rfl, rfl⟩))
        · exact .inr (.inr (.inr ⟨rfl, rfl⟩))
        · omega
      · simp only [rsC, decide_eq_true_eq, decide_eq_false_iff_not] at h5
        refine .exit rfl (.seq ?_)
        apply AWS.rg [4, 5]
        · intro K hK
          simp (disch := omega) only [rsA, ↓reduceIte, Nat.reduceEqDiff, Nat.reduceAdd, getD_map, rowL_cells, rowR_cells, Int.toNat_natCast, List.length_map]
          first | exact hK | exact fin hK
        refine .ret ?_
        simp only [results100, rsR, ↓reduceIte, Nat.reduceEqDiff]
        rw [runeN_def, if_neg (by omega), if_neg (by omega)]
        refine ⟨?_, rfl⟩
        rcases hI with ⟨rfl, rfl⟩ | ⟨rfl, rfl⟩ | ⟨rfl, rfl⟩ | ⟨rfl, rfl⟩
        · exfalso; omega
        · rw [if_pos (by omega)]
        · rw [if_neg (by omega), if_pos (by omega)]
        · rw [if_neg (by omega), if_neg (by omega)]
/-- comprador/compradorref03.Runes -/
theorem runes_pure (l : List UInt8) (hl : l.length ≤ 1000000) : APure prog 72 [.lit (.string (str (l)))] (.pv (.list (ints (runes l)))) := by
  apply go func72
  refine .seq ?_
  apply AWS.rg [0]
  · intro K hK
    simp (disch := omega) only [rsA, ↓reduceIte, Nat.reduceEqDiff, Nat.reduceAdd, getD_map, rowL_cells, rowR_cells, Int.toNat_natCast, List.length_map]
    first | exact hK | exact fin hK
  refine .seq ?_
  apply AWS.rg [0, 3]
  · intro K hK
    simp (disch := omega) only [rsA, ↓reduceIte, Nat.reduceEqDiff, Nat.reduceAdd, getD_map, rowL_cells, rowR_cells, Int.toNat_natCast, List.length_map]
    first | exact hK | exact fin hK
  refine .seq ?_
  apply AWS.rg [0, 3, 4]
  · intro K hK
    simp (disch := omega) only [rsA, ↓reduceIte, Nat.reduceEqDiff, Nat.reduceAdd, getD_map, rowL_cells, rowR_cells, Int.toNat_natCast, List.length_map]
    first | exact hK | exact fin hK
  refine .seq (.block ?_)
  refine AWS.ownL 3 3 1 rfl ?_
  apply AWS.lp [3, 4] [0] (fun zz : Nat × List Int => l.length - zz.1) (fun zz => [.own 0 (ints zz.2), .pv (.lit (.int .i64 (zz.1)))]) (fun zz => [.tok 3 1 (ints zz.2).length]) (fun zz => zz.1 ≤ l.length ∧ zz.2.length ≤ zz.1 ∧ zz.2 ++ runes (l.drop zz.1) = runes l) ((0, [])) (by simp)
  rintro ⟨p, xs⟩ hI ih
  try dsimp only at hI
  obtain ⟨hi1, hi2, hI⟩ := hI
  have hd := decodeL_pos (l.drop p)
  have hlen := ints_length xs
  refine .seq (.seq ?_)
  apply AWS.rg [0, 3, 4, 10]
  · intro K hK
    simp (disch := omega) only [rsA, ↓reduceIte, Nat.reduceEqDiff, Nat.reduceAdd, listOf, ty_str_9, ty_slice_9, rsW, getD_map, rowL_cells, rowR_cells, Int.toNat_natCast, List.length_map]
    first | exact hK | exact fin hK
  refine AWS.cI (h1 := fun h1 => ?_) (h2 := fun h1 => ?_)
  · simp only [rsC, decide_eq_true_eq, decide_eq_false_iff_not] at h1
    refine .skip (.block (.seq ?_))
    apply AWS.rg [0, 3, 4, 5, 6]
    · intro K hK
      simp (disch := omega) only [rsA, ↓reduceIte, Nat.reduceEqDiff, Nat.reduceAdd, calleeOf, getD_map, rowL_cells, rowR_cells, Int.toNat_natCast, List.length_map, runeN_eq l p (by omega)]
      refine callG1 (rune_pure l p (by omega) (by omega)) rfl (hk := ?_)
      simp (disch := omega) only [rsA, ↓reduceIte, Nat.reduceEqDiff, Nat.reduceAdd, calleeOf, getD_map, rowL_cells, rowR_cells, Int.toNat_natCast, List.length_map, runeN_eq l p (by omega)]
      first | exact hK | exact fin hK
    refine .seq ?_
    apply AWS.rg [0, 3, 4, 6]
    · intro K hK
      simp (disch := omega) only [rsA, ↓reduceIte, Nat.reduceEqDiff, Nat.reduceAdd, allPlain, List.forall_mem_cons, List.forall_mem_nil, cells_lit, cells_agg, cells_list, ty_elem_75, stepX, appendX, srcOf, srcOk, decide_eq_true_eq, eq_self, listOf, getD_map, rowL_cells, rowR_cells, Int.toNat_natCast, List.length_map]
      first | exact hK | exact fin hK
    apply AWS.rg [0, 3, 4]
    · intro K hK
      simp (disch := omega) only [rsA, ↓reduceIte, Nat.reduceEqDiff, Nat.reduceAdd, rsW, getD_map, rowL_cells, rowR_cells, Int.toNat_natCast, List.length_map]
      first | exact hK | exact fin hK
    refine .inBlock ?_
    have hd2 := decodeL_le l p (by omega)
    refine AWS.bk 1 (ih ((p + (Lib.decodeL (l.drop p)).2, xs ++ [((Lib.decodeL (l.drop p)).1 : Int)])) (by first | omega | (dsimp only; omega)) (⟨hd2, by simp; omega, by rw [← hI, runes_drop (l := l) (pos := p) (by omega)]; simp⟩)) ?_ ?_
    · first | rfl | (simp [ints_append, ints_one]; done)
    · simp [rs0, ints_append, ints_one]
      exact wrap_i64 (by omega) (by omega)
  · simp only [rsC, decide_eq_true_eq, decide_eq_false_iff_not] at h1
    refine .exit rfl (.seq ?_)
    apply AWS.rg [2]
    · intro K hK
      simp (disch := omega) only [rsA, ↓reduceIte, Nat.reduceEqDiff, Nat.reduceAdd, getD_map, rowL_cells, rowR_cells, Int.toNat_natCast, List.length_map]
      first | exact hK | exact fin hK
    refine .ret ?_
    simp only [results72, rsR, ↓reduceIte, Nat.reduceEqDiff]
    rw [← hI, runes_end (by omega), List.append_nil]
/-- comprador/compradorref03.Fit -/
theorem refFit_pure (l : List UInt8) : APure prog 39 [.lit (.string (str (l)))] (.pv (.lit (.bool (refFit l)))) := by
  apply go func39
  have hlen := ints_length (runes l)
  refine .seq ?_
  apply AWS.rg [0]
  · intro K hK
    simp (disch := omega) only [rsA, ↓reduceIte, Nat.reduceEqDiff, Nat.reduceAdd, getD_map, rowL_cells, rowR_cells, Int.toNat_natCast, List.length_map]
    first | exact hK | exact fin hK
  refine .seq (.seq ?_)
  apply AWS.rg [0, 7]
  · intro K hK
    simp (disch := omega) only [rsA, ↓reduceIte, Nat.reduceEqDiff, Nat.reduceAdd, listOf, ty_str_9, ty_slice_9, rsW, getD_map, rowL_cells, rowR_cells, Int.toNat_natCast, List.length_map]
    first | exact hK | exact fin hK
  refine AWS.cI (h1 := fun h1 => ?_) (h2 := fun h1 => ?_)
  · simp only [rsC, decide_eq_true_eq, decide_eq_false_iff_not] at h1
    refine .seq ?_
    apply AWS.rg [2]
    · intro K hK
      simp (disch := omega) only [rsA, ↓reduceIte, Nat.reduceEqDiff, Nat.reduceAdd, getD_map, rowL_cells, rowR_cells, Int.toNat_natCast, List.length_map]
      first | exact hK | exact fin hK
    refine .ret ?_
    simp only [results39, rsR, ↓reduceIte, Nat.reduceEqDiff]
    symm
    unfold refFit
    rw [decide_eq_false_iff_not]
    rintro ⟨h, _⟩
    omega
  · simp only [rsC, decide_eq_true_eq, decide_eq_false_iff_not] at h1
    refine .skip (.seq ?_)
    apply AWS.rg [3]
    · intro K hK
      simp (disch := omega) only [rsA, ↓reduceIte, Nat.reduceEqDiff, Nat.reduceAdd, calleeOf, getD_map, rowL_cells, rowR_cells, Int.toNat_natCast, List.length_map]
      refine callG1 (runes_pure l (by omega)) rfl (hk := ?_)
      simp (disch := omega) only [rsA, ↓reduceIte, Nat.reduceEqDiff, Nat.reduceAdd, calleeOf, getD_map, rowL_cells, rowR_cells, Int.toNat_natCast, List.length_map]
      first | exact hK | exact fin hK
    refine .seq (.seq ?_)
    apply AWS.rg [3, 4]
    · intro K hK
      simp (disch := omega) only [rsA, ↓reduceIte, Nat.reduceEqDiff, Nat.reduceAdd, getD_map, rowL_cells, rowR_cells, Int.toNat_natCast, List.length_map]
      first | exact hK | exact fin hK
    refine .block ?_
    apply AWS.lp [4] [3] (fun zz : Nat => (runes l).length - zz) (fun zz => [.pv (.lit (.int .i64 (zz)))]) (fun zz => []) (fun zz => zz ≤ (runes l).length ∧ ∀ j, j < zz → okAt (runes l) j) (0) (⟨by omega, fun j h => by omega⟩)
    rintro i hI ih
    try dsimp only at hI
    obtain ⟨hi1, hI⟩ := hI
    have hrl := runes_len l 0
    rw [List.drop_zero] at hrl
    refine .seq (.seq ?_)
    apply AWS.rg [3, 4, 13]
    · intro K hK
      simp (disch := omega) only [rsA, ↓reduceIte, Nat.reduceEqDiff, Nat.reduceAdd, listOf, ty_str_75, ty_slice_75, rsW, getD_map, rowL_cells, rowR_cells, Int.toNat_natCast, List.length_map]
      first | exact hK | exact fin hK
    refine AWS.cI (h1 := fun h2 => ?_) (h2 := fun h2 => ?_)
    · simp only [rsC, decide_eq_true_eq, decide_eq_false_iff_not] at h2
      refine .skip (.seq (.block (.seq ?_)))
      apply AWS.rg [3, 4, 33]
      · intro K hK
        simp (maxSteps := 2000000) (disch := omega) only [rsA, ↓reduceIte, Nat.reduceEqDiff, Nat.reduceAdd, cells_lit, cells_agg, cells_list, listOf, ty_slice_75, ty_array_75, loadX, partX, mkAgg, allPlain, Nat.reduceLeDiff, Nat.le_refl, ty_shape_3, calleeOf, rsW, reduceCtorEq, ty_bool_3, getD_map, rowL_cells, rowR_cells, Int.toNat_natCast, List.length_map, ints_getD (runes l) i (by omega)]
        refine callG1 (refKind_pure _) rfl (hk := ?_)
        simp (maxSteps := 2000000) (disch := omega) only [rsA, ↓reduceIte, Nat.reduceEqDiff, Nat.reduceAdd, cells_lit, cells_agg, cells_list, listOf, ty_slice_75, ty_array_75, loadX, partX, mkAgg, allPlain, Nat.reduceLeDiff, Nat.le_refl, ty_shape_3, calleeOf, rsW, reduceCtorEq, ty_bool_3, getD_map, rowL_cells, rowR_cells, Int.toNat_natCast, List.length_map, ints_getD (runes l) i (by omega)]
        refine callG2 (fun hg => refKind_pure _) rfl (hk := ?_)
        simp (maxSteps := 2000000) (disch := omega) only [rsA, ↓reduceIte, Nat.reduceEqDiff, Nat.reduceAdd, cells_lit, cells_agg, cells_list, listOf, ty_slice_75, ty_array_75, loadX, partX, mkAgg, allPlain, Nat.reduceLeDiff, Nat.le_refl, ty_shape_3, calleeOf, rsW, reduceCtorEq, ty_bool_3, getD_map, rowL_cells, rowR_cells, Int.toNat_natCast, List.length_map, ints_getD (runes l) i (by omega)]
        first | exact hK | exact fin hK | exact fin2 hK
      refine AWS.cI (h1 := fun h3 => ?_) (h2 := fun h3 => ?_)
      · simp only [rsC, decide_eq_true_eq, decide_eq_false_iff_not] at h3
        refine .seq ?_
        apply AWS.rg [2]
        · intro K hK
          simp (disch := omega) only [rsA, ↓reduceIte, Nat.reduceEqDiff, Nat.reduceAdd, getD_map, rowL_cells, rowR_cells, Int.toNat_natCast, List.length_map]
          first | exact hK | exact fin hK
        refine .ret ?_
        simp only [results39, rsR, ↓reduceIte, Nat.reduceEqDiff]
        symm
        unfold refFit
        rw [decide_eq_false_iff_not]
        rintro ⟨_, h, _⟩
        have := h i (by omega)
        unfold okAt at this
        rcases h3 with h3 | ⟨h3, h4⟩
        · exact this.1 h3
        · have := this.2 (by omega)
          omega
      · simp only [rsC, decide_eq_true_eq, decide_eq_false_iff_not] at h3
        refine .skip (.inBlock ?_)
        apply AWS.rg [3, 4]
        · intro K hK
          simp (disch := omega) only [rsA, ↓reduceIte, Nat.reduceEqDiff, Nat.reduceAdd, rsW, getD_map, rowL_cells, rowR_cells, Int.toNat_natCast, List.length_map]
          first | exact hK | exact fin hK
        refine AWS.bk 0 (ih (i + 1) (by first | omega | (dsimp only; omega)) (⟨by omega, fun j hj => by
          by_cases e : j = i
          · subst e
            refine ⟨h3.1, fun e => ?_⟩
            rcases h3.2 with h | h <;> omega
          · exact hI j (by omega)⟩)) ?_ ?_
        · first | rfl | (simp; done)
        · simp [rs0]
    · simp only [rsC, decide_eq_true_eq, decide_eq_false_iff_not] at h2
      refine .exit rfl (.seq ?_)
      apply AWS.rg [2]
      · intro K hK
        simp (maxSteps := 2000000) (disch := omega) only [rsA, ↓reduceIte, Nat.reduceEqDiff, Nat.reduceAdd, listOf, ty_str_75, ty_slice_75, rsW, getD_map, rowL_cells, rowR_cells, Int.toNat_natCast, List.length_map]
        first | exact hK | exact fin hK | exact fin2 hK
      refine .ret ?_
      simp only [results39, rsR, ↓reduceIte, Nat.reduceEqDiff]
      rw [Bool.cond_false_right, Bool.eq_iff_iff]
      unfold refFit
      simp only [Bool.and_eq_true, decide_eq_true_eq]
      constructor
      · rintro ⟨a, b⟩
        exact ⟨by omega, fun j hj => hI j (by omega), by omega, by omega⟩
      · rintro ⟨_, _, a, b⟩
        omega

theorem leaves52 : leavesOf prog 52 = some [9, 3, 3] := by kernel_rfl
theorem rowR_neq (a b : Row) : aggEq prog .neq 52 [.lit (.string (str a.name)), .lit (.int .i64 a.ver), .lit (.int .i64 a.stamp)] [.lit (.string (str b.name)), .lit (.int .i64 b.ver), .lit (.int .i64 b.stamp)] = some (!decide (a = b)) := by
  obtain ⟨n, v, s⟩ := a
  obtain ⟨n', v', s'⟩ := b
  simp only [aggEq, leaves52, leavesEq, leafEq, underlying9, underlying3, Option.bind, Option.map, str_inj, if_true, Bool.and_true]
  congr 1
  rw [Bool.eq_iff_iff]
  simp
/-- comprador/compradorref57.Same -/
theorem same_pure (a b : List Row) (ha : a.length ≤ 1000000) : APure prog 14 [.list (a.map rowR), .list (b.map rowR)] (.pv (.lit (.bool (decide (a = b))))) := by
  apply go func14
  refine .seq ?_
  apply AWS.rg [0, 1]
  · intro K hK
    simp (disch := omega) only [rsA, ↓reduceIte, Nat.reduceEqDiff, Nat.reduceAdd, getD_map, rowL_cells, rowR_cells, Int.toNat_natCast, List.length_map]
    first | exact hK | exact fin hK
  refine .seq (.seq ?_)
  apply AWS.rg [0, 1, 10]
  · intro K hK
    simp (disch := omega) only [rsA, ↓reduceIte, Nat.reduceEqDiff, Nat.reduceAdd, listOf, ty_str_25, ty_slice_25, rsW, reduceCtorEq, ty_bool_3, getD_map, rowL_cells, rowR_cells, Int.toNat_natCast, List.length_map]
    first | exact hK | exact fin hK
  refine AWS.cI (h1 := fun h1 => ?_) (h2 := fun h1 => ?_)
  · simp only [rsC, decide_eq_true_eq, decide_eq_false_iff_not] at h1
    refine .seq ?_
    apply AWS.rg [4]
    · intro K hK
      simp (disch := omega) only [rsA, ↓reduceIte, Nat.reduceEqDiff, Nat.reduceAdd, getD_map, rowL_cells, rowR_cells, Int.toNat_natCast, List.length_map]
      first | exact hK | exact fin hK
    refine .ret ?_
    simp only [results14, rsR, ↓reduceIte, Nat.reduceEqDiff, List.length_map]
    exact (decide_eq_false (fun e => h1 (by rw [e]))).symm
  · simp only [rsC, decide_eq_true_eq, decide_eq_false_iff_not] at h1
    refine .skip (.seq (.seq ?_))
    apply AWS.rg [0, 1, 5]
    · intro K hK
      simp (disch := omega) only [rsA, ↓reduceIte, Nat.reduceEqDiff, Nat.reduceAdd, getD_map, rowL_cells, rowR_cells, Int.toNat_natCast, List.length_map]
      first | exact hK | exact fin hK
    refine .block ?_
    apply AWS.lp [5] [0, 1] (fun zz : Nat => a.length - zz) (fun zz => [.pv (.lit (.int .i64 (zz)))]) (fun zz => []) (fun zz => zz ≤ a.length ∧ decide (a.drop zz = b.drop zz) = decide (a = b)) (0) (by simp)
    rintro i hI ih
    try dsimp only at hI
    obtain ⟨hi1, hI⟩ := hI
    refine .seq (.seq ?_)
    apply AWS.rg [0, 1, 5, 14]
    · intro K hK
      simp (disch := omega) only [rsA, ↓reduceIte, Nat.reduceEqDiff, Nat.reduceAdd, listOf, ty_str_25, ty_slice_25, rsW, getD_map, rowL_cells, rowR_cells, Int.toNat_natCast, List.length_map]
      first | exact hK | exact fin hK
    refine AWS.cI (h1 := fun h2 => ?_) (h2 := fun h2 => ?_)
    · simp only [rsC, decide_eq_true_eq, decide_eq_false_iff_not] at h2
      refine .skip (.seq (.block (.seq ?_)))
      apply AWS.rg [0, 1, 5, 25]
      · intro K hK
        simp (maxSteps := 2000000) (disch := omega) only [rsA, ↓reduceIte, Nat.reduceEqDiff, Nat.reduceAdd, cells_lit, cells_agg, cells_list, listOf, ty_slice_25, ty_array_25, loadX, partX, mkAgg, allPlain, Nat.reduceLeDiff, Nat.le_refl, ty_shape_52, rsW, reduceCtorEq, ty_bool_52, getD_map, rowL_cells, rowR_cells, Int.toNat_natCast, List.length_map, rowR_neq]
        first | exact hK | exact fin hK
      refine AWS.cI (h1 := fun h3 => ?_) (h2 := fun h3 => ?_)
      · simp only [rsC, decide_eq_true_eq, decide_eq_false_iff_not] at h3
        refine .seq ?_
        apply AWS.rg [4]
        · intro K hK
          simp (disch := omega) only [rsA, ↓reduceIte, Nat.reduceEqDiff, Nat.reduceAdd, getD_map, rowL_cells, rowR_cells, Int.toNat_natCast, List.length_map]
          first | exact hK | exact fin hK
        refine .ret ?_
        simp only [results14, rsR, ↓reduceIte, Nat.reduceEqDiff, List.length_map]
        rw [← hI, drop_getD a i (by omega), drop_getD b i (by omega)]
        exact (decide_eq_false (fun e => h3 (List.cons.inj e).1)).symm
      · simp only [rsC, decide_eq_true_eq, decide_eq_false_iff_not] at h3
        refine .skip (.inBlock ?_)
        apply AWS.rg [0, 1, 5]
        · intro K hK
          simp (disch := omega) only [rsA, ↓reduceIte, Nat.reduceEqDiff, Nat.reduceAdd, rsW, getD_map, rowL_cells, rowR_cells, Int.toNat_natCast, List.length_map]
          first | exact hK | exact fin hK
        rw [drop_getD a i (by omega), drop_getD b i (by omega), h3] at hI
        simp only [List.cons.injEq, true_and] at hI
        refine AWS.bk 0 (ih (i + 1) (by first | omega | (dsimp only; omega)) (⟨by omega, hI⟩)) ?_ ?_
        · first | rfl | (simp; done)
        · simp [rs0]
    · simp only [rsC, decide_eq_true_eq, decide_eq_false_iff_not] at h2
      refine .exit rfl (.seq ?_)
      apply AWS.rg [4]
      · intro K hK
        simp (disch := omega) only [rsA, ↓reduceIte, Nat.reduceEqDiff, Nat.reduceAdd, getD_map, rowL_cells, rowR_cells, Int.toNat_natCast, List.length_map]
        first | exact hK | exact fin hK
      refine .ret ?_
      simp only [results14, rsR, ↓reduceIte, Nat.reduceEqDiff, List.length_map]
      rw [← hI, List.drop_eq_nil_of_le (by omega), List.drop_eq_nil_of_le (by omega)]
      simp
/-- comprador/compradorlaw57.rows -/
theorem rows_pure (rs : List Row) (hrs : rs.length ≤ 1000000) (hst : ∀ r ∈ rs, 0 ≤ r.stamp ∧ r.stamp ≤ 4294967295) : APure prog 9 [.list (rs.map rowL)] (.pv (.list (rs.map rowR))) := by
  apply go func9
  refine .seq ?_
  apply AWS.rg [0]
  · intro K hK
    simp (disch := omega) only [rsA, ↓reduceIte, Nat.reduceEqDiff, Nat.reduceAdd, getD_map, rowL_cells, rowR_cells, Int.toNat_natCast, List.length_map]
    first | exact hK | exact fin hK
  refine .seq ?_
  apply AWS.rg [0, 3]
  · intro K hK
    simp (disch := omega) only [rsA, ↓reduceIte, Nat.reduceEqDiff, Nat.reduceAdd, getD_map, rowL_cells, rowR_cells, Int.toNat_natCast, List.length_map]
    first | exact hK | exact fin hK
  refine .seq (.seq ?_)
  apply AWS.rg [0, 3, 4]
  · intro K hK
    simp (disch := omega) only [rsA, ↓reduceIte, Nat.reduceEqDiff, Nat.reduceAdd, getD_map, rowL_cells, rowR_cells, Int.toNat_natCast, List.length_map]
    first | exact hK | exact fin hK
  refine .block ?_
  refine AWS.ownL 3 52 3 rfl ?_
  apply AWS.lp [3, 4] [0] (fun zz : Nat => rs.length - zz) (fun zz => [.own 0 ((rs.take zz).map rowR), .pv (.lit (.int .i64 (zz)))]) (fun zz => [.tok 52 3 ((rs.take zz).map rowR).length]) (fun zz => zz ≤ rs.length) (0) (by simp)
  rintro i hI ih
  try dsimp only at hI
  have hsi : i < rs.length → 0 ≤ (rs.getD i default).stamp ∧ (rs.getD i default).stamp ≤ 4294967295 := fun h => hst _ (by simp [List.getD, h])
  refine .seq (.seq ?_)
  apply AWS.rg [0, 3, 4, 8]
  · intro K hK
    simp (disch := omega) only [rsA, ↓reduceIte, Nat.reduceEqDiff, Nat.reduceAdd, listOf, ty_str_22, ty_slice_22, rsW, getD_map, rowL_cells, rowR_cells, Int.toNat_natCast, List.length_map]
    first | exact hK | exact fin hK
  refine AWS.cI (h1 := fun h1 => ?_) (h2 := fun h1 => ?_)
  · simp only [rsC, decide_eq_true_eq, decide_eq_false_iff_not] at h1
    refine .skip (.seq (.block ?_))
    apply AWS.rg [0, 3, 4]
    · intro K hK
      simp (maxSteps := 2000000) (disch := omega) only [rsA, ↓reduceIte, Nat.reduceEqDiff, Nat.reduceAdd, cells_lit, cells_agg, cells_list, listOf, ty_slice_22, ty_array_22, ty_field_50_0, loadX, partX, mkAgg, allPlain, Nat.reduceLeDiff, Nat.le_refl, ty_shape_9, ty_field_50_1, ty_shape_3, ty_field_50_2, ty_shape_48, rsW, ty_bytes_48, ty_bytes_3, ty_int_3, ty_str_3, ty_str_48, ty_und_48, fillA, Places.at, splice, AV.cells, AV.whole, List.all_cons, List.all_nil, Bool.and_true, constA_int, constA_bool, constA_string, constA_nil, Nat.zero_add, Value.oneCell', ty_places_52, List.forall_mem_cons, List.forall_mem_nil, ty_elem_25, stepX, appendX, srcOf, srcOk, decide_eq_true_eq, eq_self, getD_map, rowL_cells, rowR_cells, Int.toNat_natCast, List.length_map]
      first | exact hK | exact fin hK
    refine .inBlock ?_
    apply AWS.rg [0, 3, 4]
    · intro K hK
      simp (disch := omega) only [rsA, ↓reduceIte, Nat.reduceEqDiff, Nat.reduceAdd, rsW, getD_map, rowL_cells, rowR_cells, Int.toNat_natCast, List.length_map]
      first | exact hK | exact fin hK
    have hi : i < rs.length := by omega
    have hts : (rs.take (i + 1)).map rowR = (rs.take i).map rowR ++ [rowR (rs.getD i default)] := by
      rw [List.take_succ_eq_append_getElem hi, List.map_append]
      simp [List.getD, hi]
    refine AWS.bk 1 (ih (i + 1) (by first | omega | (dsimp only; omega)) (by omega)) ?_ ?_
    · simp only [hts]
      simp
    · simp only [hts]
      simp [rs0, rowR]
  · simp only [rsC, decide_eq_true_eq, decide_eq_false_iff_not] at h1
    refine .exit rfl (.seq ?_)
    apply AWS.rg [2]
    · intro K hK
      simp (disch := omega) only [rsA, ↓reduceIte, Nat.reduceEqDiff, Nat.reduceAdd, getD_map, rowL_cells, rowR_cells, Int.toNat_natCast, List.length_map]
      first | exact hK | exact fin hK
    refine .ret ?_
    simp only [results9, rsR, ↓reduceIte, Nat.reduceEqDiff]
    rw [List.take_of_length_le (by omega)]

/-- Three numbers. -/
def agg3 (a b c : Int) : V := .agg [.lit (.int .i64 a), .lit (.int .i64 b), .lit (.int .i64 c)]
def vsC (s : VS) : List AV := [.pv (.lit (.int .i64 s.a)), .pv (.lit (.int .i64 s.b)), .pv (.lit (.int .i64 s.c))]
theorem vs_get (s : VS) (h : 0 ≤ s.k ∧ s.k ≤ 2) : (vsC s)[s.k.toNat]? = some (.pv (.lit (.int .i64 s.cur))) := by
  have : s.k = 0 ∨ s.k = 1 ∨ s.k = 2 := by omega
  unfold VS.cur vsC
  rcases this with h | h | h <;> rw [h] <;> rfl
theorem vs_put (s : VS) (h : 0 ≤ s.k ∧ s.k ≤ 2) (x : Int) : splice (vsC s) s.k.toNat [.pv (.lit (.int .i64 x))] = vsC (s.put x) := by
  have : s.k = 0 ∨ s.k = 1 ∨ s.k = 2 := by omega
  unfold VS.put vsC
  rcases this with h | h | h <;> rw [h] <;> rfl
theorem vs_put2 (s : VS) (h : 0 ≤ s.k ∧ s.k ≤ 2) (x : Int) : List.take s.k.toNat (vsC s) ++ AV.pv (.lit (.int .i64 x)) :: List.drop (s.k.toNat + 1) (vsC s) = vsC (s.put x) := by
  rw [← vs_put s h]; simp [splice]
theorem vs_len (s : VS) : (vsC s).length = 3 := rfl
theorem leaves100 : leavesOf prog 100 = some [3, 3, 3] := by kernel_rfl
theorem arr3_eq (a b c a' b' c' : Int) : aggEq prog .eql 100 [.lit (.int .i64 a), .lit (.int .i64 b), .lit (.int .i64 c)] [.lit (.int .i64 a'), .lit (.int .i64 b'), .lit (.int .i64 c')] = some (decide (a = a' ∧ b = b' ∧ c = c')) := by
  simp only [aggEq, leaves100, leavesEq, leafEq, underlying3, Option.bind, Option.map, if_true, Bool.and_true]
  congr 1
  rw [Bool.eq_iff_iff]
  simp
def placeOf (a b c : Int) : Int × Bool := if ((0 ≤ a ∧ a ≤ 999) ∧ (0 ≤ b ∧ b ≤ 999)) ∧ (0 ≤ c ∧ c ≤ 999) then (a * 1000000 + b * 1000 + c, true) else (0, false)
/-- comprador/ver.weights -/
theorem weights_pure  : APure prog 92 [] (.pv (.agg [.lit (.int .i64 (1000000)), .lit (.int .i64 (1000)), .lit (.int .i64 (1))])) := by
  apply go func92
  refine .seq ?_
  apply AWS.rg [0]
  · intro K hK
    simp (disch := omega) only [rsA, ↓reduceIte, Nat.reduceEqDiff, Nat.reduceAdd, stepX, ty_zero_100, getD_map, rowL_cells, rowR_cells, Int.toNat_natCast, List.length_map]
    first | exact hK | exact fin hK
  refine .seq ?_
  apply AWS.rg [0]
  · intro K hK
    simp (disch := omega) only [rsA, ↓reduceIte, Nat.reduceEqDiff, Nat.reduceAdd, fillA, mkAgg, allPlain, Places.at, splice, AV.cells, AV.whole, List.all_cons, List.all_nil, Bool.and_true, constA_int, constA_bool, constA_string, constA_nil, Nat.reduceLeDiff, Nat.zero_add, Value.oneCell', ty_places_100, stepX, ty_shape_100, getD_map, rowL_cells, rowR_cells, Int.toNat_natCast, List.length_map]
    first | exact hK | exact fin hK
  refine .ret ?_
  simp only [results92, rsR, ↓reduceIte, Nat.reduceEqDiff, ty_shape_100, allPlain, resOne, mkS, Nat.reduceAdd, Nat.reduceLeDiff, Nat.le_refl, if_true, plainOf]
/-- comprador/ver.Parts -/
theorem parts_ok (p : Int) (h : verFit p = true) : APure prog 64 [.lit (.int .i64 (p))] (.tuple [.pv (.agg [.lit (.int .i64 (p / 1000000)), .lit (.int .i64 (p / 1000 % 1000)), .lit (.int .i64 (p % 1000))]), .pv (.lit (.bool (true)))]) := by
  apply go func64
  have hp := h
  simp only [verFit, decide_eq_true_eq] at hp
  refine .seq ?_
  apply AWS.rg [0, 2]
  · intro K hK
    simp (disch := omega) only [rsA, ↓reduceIte, Nat.reduceEqDiff, Nat.reduceAdd, Int.reduceLT, Int.reduceLE, Int.reduceAdd, Int.reduceSub, Int.reduceMul, Int.reduceToNat, decide_true, decide_false, Bool.not_true, Bool.not_false, stepX, ty_zero_100, getD_map, rowL_cells, rowR_cells, Int.toNat_natCast, List.length_map]
    first | exact hK | exact fin hK
  refine .seq ?_
  apply AWS.rg [0, 2, 4]
  · intro K hK
    simp (disch := omega) only [rsA, ↓reduceIte, Nat.reduceEqDiff, Nat.reduceAdd, Int.reduceLT, Int.reduceLE, Int.reduceAdd, Int.reduceSub, Int.reduceMul, Int.reduceToNat, decide_true, decide_false, Bool.not_true, Bool.not_false, fillA, mkAgg, allPlain, Places.at, splice, AV.cells, AV.whole, List.all_cons, List.all_nil, Bool.and_true, constA_int, constA_bool, constA_string, constA_nil, Nat.reduceLeDiff, Nat.zero_add, Value.oneCell', ty_places_100, stepX, ty_zero_100, ty_shape_100, getD_map, rowL_cells, rowR_cells, Int.toNat_natCast, List.length_map]
    first | exact hK | exact fin hK
  refine .seq (.seq ?_)
  apply AWS.rg [0, 2, 4, 10]
  · intro K hK
    simp (disch := omega) only [rsA, ↓reduceIte, Nat.reduceEqDiff, Nat.reduceAdd, Int.reduceLT, Int.reduceLE, Int.reduceAdd, Int.reduceSub, Int.reduceMul, Int.reduceToNat, decide_true, decide_false, Bool.not_true, Bool.not_false, calleeOf, rsW, getD_map, rowL_cells, rowR_cells, Int.toNat_natCast, List.length_map, h]
    refine callG1 (verFit_pure _) rfl (hk := ?_)
    simp (disch := omega) only [rsA, ↓reduceIte, Nat.reduceEqDiff, Nat.reduceAdd, Int.reduceLT, Int.reduceLE, Int.reduceAdd, Int.reduceSub, Int.reduceMul, Int.reduceToNat, decide_true, decide_false, Bool.not_true, Bool.not_false, calleeOf, rsW, getD_map, rowL_cells, rowR_cells, Int.toNat_natCast, List.length_map, h]
    first | exact hK | exact fin hK
  refine AWS.cI (h1 := fun h1 => by cases h1) (h2 := fun h1 => ?_)
  clear h1
  refine .skip (.seq (.seq ?_))
  apply AWS.rg [0, 2, 4, 12, 13]
  · intro K hK
    simp (disch := omega) only [rsA, ↓reduceIte, Nat.reduceEqDiff, Nat.reduceAdd, Int.reduceLT, Int.reduceLE, Int.reduceAdd, Int.reduceSub, Int.reduceMul, Int.reduceToNat, decide_true, decide_false, Bool.not_true, Bool.not_false, calleeOf, getD_map, rowL_cells, rowR_cells, Int.toNat_natCast, List.length_map]
    refine callG1 (weights_pure) rfl (hk := ?_)
    simp (disch := omega) only [rsA, ↓reduceIte, Nat.reduceEqDiff, Nat.reduceAdd, Int.reduceLT, Int.reduceLE, Int.reduceAdd, Int.reduceSub, Int.reduceMul, Int.reduceToNat, decide_true, decide_false, Bool.not_true, Bool.not_false, calleeOf, getD_map, rowL_cells, rowR_cells, Int.toNat_natCast, List.length_map]
    first | exact hK | exact fin hK
  refine .block (.loop (.seq ?_))
  apply AWS.rg [0, 2, 4, 12, 13, 14]
  · intro K hK
    simp (disch := omega) only [rsA, ↓reduceIte, Nat.reduceEqDiff, Nat.reduceAdd, Int.reduceLT, Int.reduceLE, Int.reduceAdd, Int.reduceSub, Int.reduceMul, Int.reduceToNat, decide_true, decide_false, Bool.not_true, Bool.not_false, rsW, getD_map, rowL_cells, rowR_cells, Int.toNat_natCast, List.length_map]
    first | exact hK | exact fin hK
  refine .seq ?_
  refine .cond true rfl ?_
  refine .skip (.seq (.block (.seq ?_)))
  apply AWS.rg [0, 2, 4, 5, 6, 12, 13]
  · intro K hK
    simp (disch := omega) only [rsA, ↓reduceIte, Nat.reduceEqDiff, Nat.reduceAdd, Int.reduceLT, Int.reduceLE, Int.reduceAdd, Int.reduceSub, Int.reduceMul, Int.reduceToNat, decide_true, decide_false, Bool.not_true, Bool.not_false, partX, partAX, ty_str_100, ty_array_100, getD_map, rowL_cells, rowR_cells, Int.toNat_natCast, List.length_map]
    first | exact hK | exact fin hK
  apply AWS.rg [0, 2, 4, 12, 13]
  · intro K hK
    simp (disch := omega) only [rsA, ↓reduceIte, Nat.reduceEqDiff, Nat.reduceAdd, Int.reduceLT, Int.reduceLE, Int.reduceAdd, Int.reduceSub, Int.reduceMul, Int.reduceToNat, decide_true, decide_false, Bool.not_true, Bool.not_false, rsW, Int.tmod_eq_emod_of_nonneg, Int.tdiv_eq_ediv_of_nonneg, cells_lit, cells_agg, cells_list, listOf, ty_slice_100, ty_array_100, stepX, splice, AV.whole, AV.cells, ty_shape_3, getD_map, rowL_cells, rowR_cells, Int.toNat_natCast, List.length_map]
    first | exact hK | exact fin hK
  refine .inBlock ?_
  apply AWS.rg [0, 2, 4, 12, 13]
  · intro K hK
    simp (disch := omega) only [rsA, ↓reduceIte, Nat.reduceEqDiff, Nat.reduceAdd, Int.reduceLT, Int.reduceLE, Int.reduceAdd, Int.reduceSub, Int.reduceMul, Int.reduceToNat, decide_true, decide_false, Bool.not_true, Bool.not_false, rsW, getD_map, rowL_cells, rowR_cells, Int.toNat_natCast, List.length_map]
    first | exact hK | exact fin hK
  refine .inLoop (.seq ?_)
  apply AWS.rg [0, 2, 4, 12, 13, 14]
  · intro K hK
    simp (disch := omega) only [rsA, ↓reduceIte, Nat.reduceEqDiff, Nat.reduceAdd, Int.reduceLT, Int.reduceLE, Int.reduceAdd, Int.reduceSub, Int.reduceMul, Int.reduceToNat, decide_true, decide_false, Bool.not_true, Bool.not_false, rsW, getD_map, rowL_cells, rowR_cells, Int.toNat_natCast, List.length_map]
    first | exact hK | exact fin hK
  refine .seq ?_
  refine .cond true rfl ?_
  refine .skip (.seq (.block (.seq ?_)))
  apply AWS.rg [0, 2, 4, 5, 6, 12, 13]
  · intro K hK
    simp (disch := omega) only [rsA, ↓reduceIte, Nat.reduceEqDiff, Nat.reduceAdd, Int.reduceLT, Int.reduceLE, Int.reduceAdd, Int.reduceSub, Int.reduceMul, Int.reduceToNat, decide_true, decide_false, Bool.not_true, Bool.not_false, partX, partAX, ty_str_100, ty_array_100, getD_map, rowL_cells, rowR_cells, Int.toNat_natCast, List.length_map]
    first | exact hK | exact fin hK
  apply AWS.rg [0, 2, 4, 12, 13]
  · intro K hK
    simp (disch := omega) only [rsA, ↓reduceIte, Nat.reduceEqDiff, Nat.reduceAdd, Int.reduceLT, Int.reduceLE, Int.reduceAdd, Int.reduceSub, Int.reduceMul, Int.reduceToNat, decide_true, decide_false, Bool.not_true, Bool.not_false, rsW, Int.tmod_eq_emod_of_nonneg, Int.tdiv_eq_ediv_of_nonneg, cells_lit, cells_agg, cells_list, listOf, ty_slice_100, ty_array_100, stepX, splice, AV.whole, AV.cells, ty_shape_3, getD_map, rowL_cells, rowR_cells, Int.toNat_natCast, List.length_map]
    first | exact hK | exact fin hK
  refine .inBlock ?_
  apply AWS.rg [0, 2, 4, 12, 13]
  · intro K hK
    simp (disch := omega) only [rsA, ↓reduceIte, Nat.reduceEqDiff, Nat.reduceAdd, Int.reduceLT, Int.reduceLE, Int.reduceAdd, Int.reduceSub, Int.reduceMul, Int.reduceToNat, decide_true, decide_false, Bool.not_true, Bool.not_false, rsW, getD_map, rowL_cells, rowR_cells, Int.toNat_natCast, List.length_map]
    first | exact hK | exact fin hK
  refine .inLoop (.seq ?_)
  apply AWS.rg [0, 2, 4, 12, 13, 14]
  · intro K hK
    simp (disch := omega) only [rsA, ↓reduceIte, Nat.reduceEqDiff, Nat.reduceAdd, Int.reduceLT, Int.reduceLE, Int.reduceAdd, Int.reduceSub, Int.reduceMul, Int.reduceToNat, decide_true, decide_false, Bool.not_true, Bool.not_false, rsW, getD_map, rowL_cells, rowR_cells, Int.toNat_natCast, List.length_map]
    first | exact hK | exact fin hK
  refine .seq ?_
  refine .cond true rfl ?_
  refine .skip (.seq (.block (.seq ?_)))
  apply AWS.rg [0, 2, 4, 5, 6, 12, 13]
  · intro K hK
    simp (disch := omega) only [rsA, ↓reduceIte, Nat.reduceEqDiff, Nat.reduceAdd, Int.reduceLT, Int.reduceLE, Int.reduceAdd, Int.reduceSub, Int.reduceMul, Int.reduceToNat, decide_true, decide_false, Bool.not_true, Bool.not_false, partX, partAX, ty_str_100, ty_array_100, getD_map, rowL_cells, rowR_cells, Int.toNat_natCast, List.length_map]
    first | exact hK | exact fin hK
  apply AWS.rg [0, 2, 4, 12, 13]
  · intro K hK
    simp (disch := omega) only [rsA, ↓reduceIte, Nat.reduceEqDiff, Nat.reduceAdd, Int.reduceLT, Int.reduceLE, Int.reduceAdd, Int.reduceSub, Int.reduceMul, Int.reduceToNat, decide_true, decide_false, Bool.not_true, Bool.not_false, rsW, Int.tmod_eq_emod_of_nonneg, Int.tdiv_eq_ediv_of_nonneg, cells_lit, cells_agg, cells_list, listOf, ty_slice_100, ty_array_100, stepX, splice, AV.whole, AV.cells, ty_shape_3, getD_map, rowL_cells, rowR_cells, Int.toNat_natCast, List.length_map]
    first | exact hK | exact fin hK
  refine .inBlock ?_
  apply AWS.rg [0, 2, 4, 12, 13]
  · intro K hK
    simp (disch := omega) only [rsA, ↓reduceIte, Nat.reduceEqDiff, Nat.reduceAdd, Int.reduceLT, Int.reduceLE, Int.reduceAdd, Int.reduceSub, Int.reduceMul, Int.reduceToNat, decide_true, decide_false, Bool.not_true, Bool.not_false, rsW, getD_map, rowL_cells, rowR_cells, Int.toNat_natCast, List.length_map]
    first | exact hK | exact fin hK
  refine .inLoop (.seq ?_)
  apply AWS.rg [0, 2, 4, 12, 13, 14]
  · intro K hK
    simp (disch := omega) only [rsA, ↓reduceIte, Nat.reduceEqDiff, Nat.reduceAdd, Int.reduceLT, Int.reduceLE, Int.reduceAdd, Int.reduceSub, Int.reduceMul, Int.reduceToNat, decide_true, decide_false, Bool.not_true, Bool.not_false, rsW, getD_map, rowL_cells, rowR_cells, Int.toNat_natCast, List.length_map]
    first | exact hK | exact fin hK
  refine .seq ?_
  refine .cond false rfl ?_
  refine .exit rfl (.seq ?_)
  apply AWS.rg [2, 3]
  · intro K hK
    simp (disch := omega) only [rsA, ↓reduceIte, Nat.reduceEqDiff, Nat.reduceAdd, Int.reduceLT, Int.reduceLE, Int.reduceAdd, Int.reduceSub, Int.reduceMul, Int.reduceToNat, decide_true, decide_false, Bool.not_true, Bool.not_false, cells_lit, cells_agg, cells_list, loadX, partX, mkAgg, allPlain, Nat.reduceLeDiff, Nat.le_refl, ty_shape_100, stepX, splice, AV.whole, AV.cells, getD_map, rowL_cells, rowR_cells, Int.toNat_natCast, List.length_map]
    first | exact hK | exact fin hK
  refine .ret ?_
  simp only [results64, rsR, ↓reduceIte, Nat.reduceEqDiff, ty_shape_100, allPlain, resOne, mkS, Nat.reduceAdd, Nat.reduceLeDiff, Nat.le_refl, if_true, plainOf]
  omega
/-- comprador/ver.Parts -/
theorem parts_no (p : Int) (h : verFit p = false) : APure prog 64 [.lit (.int .i64 (p))] (.tuple [.pv (.agg [.lit (.int .i64 (0)), .lit (.int .i64 (0)), .lit (.int .i64 (0))]), .pv (.lit (.bool (false)))]) := by
  apply go func64
  refine .seq ?_
  apply AWS.rg [0, 2]
  · intro K hK
    simp (disch := omega) only [rsA, ↓reduceIte, Nat.reduceEqDiff, Nat.reduceAdd, Int.reduceLT, Int.reduceLE, Int.reduceAdd, Int.reduceSub, Int.reduceMul, Int.reduceToNat, decide_true, decide_false, Bool.not_true, Bool.not_false, stepX, ty_zero_100, getD_map, rowL_cells, rowR_cells, Int.toNat_natCast, List.length_map]
    first | exact hK | exact fin hK
  refine .seq ?_
  apply AWS.rg [0, 2, 4]
  · intro K hK
    simp (disch := omega) only [rsA, ↓reduceIte, Nat.reduceEqDiff, Nat.reduceAdd, Int.reduceLT, Int.reduceLE, Int.reduceAdd, Int.reduceSub, Int.reduceMul, Int.reduceToNat, decide_true, decide_false, Bool.not_true, Bool.not_false, fillA, mkAgg, allPlain, Places.at, splice, AV.cells, AV.whole, List.all_cons, List.all_nil, Bool.and_true, constA_int, constA_bool, constA_string, constA_nil, Nat.reduceLeDiff, Nat.zero_add, Value.oneCell', ty_places_100, stepX, ty_zero_100, ty_shape_100, getD_map, rowL_cells, rowR_cells, Int.toNat_natCast, List.length_map]
    first | exact hK | exact fin hK
  refine .seq (.seq ?_)
  apply AWS.rg [0, 2, 4, 10]
  · intro K hK
    simp (disch := omega) only [rsA, ↓reduceIte, Nat.reduceEqDiff, Nat.reduceAdd, Int.reduceLT, Int.reduceLE, Int.reduceAdd, Int.reduceSub, Int.reduceMul, Int.reduceToNat, decide_true, decide_false, Bool.not_true, Bool.not_false, calleeOf, rsW, getD_map, rowL_cells, rowR_cells, Int.toNat_natCast, List.length_map, h]
    refine callG1 (verFit_pure _) rfl (hk := ?_)
    simp (disch := omega) only [rsA, ↓reduceIte, Nat.reduceEqDiff, Nat.reduceAdd, Int.reduceLT, Int.reduceLE, Int.reduceAdd, Int.reduceSub, Int.reduceMul, Int.reduceToNat, decide_true, decide_false, Bool.not_true, Bool.not_false, calleeOf, rsW, getD_map, rowL_cells, rowR_cells, Int.toNat_natCast, List.length_map, h]
    first | exact hK | exact fin hK
  refine AWS.cI (h1 := fun h1 => ?_) (h2 := fun h1 => by cases h1)
  clear h1
  refine .seq ?_
  apply AWS.rg [2, 3]
  · intro K hK
    simp (disch := omega) only [rsA, ↓reduceIte, Nat.reduceEqDiff, Nat.reduceAdd, Int.reduceLT, Int.reduceLE, Int.reduceAdd, Int.reduceSub, Int.reduceMul, Int.reduceToNat, decide_true, decide_false, Bool.not_true, Bool.not_false, cells_lit, cells_agg, cells_list, loadX, partX, mkAgg, allPlain, Nat.reduceLeDiff, Nat.le_refl, ty_shape_100, stepX, splice, AV.whole, AV.cells, getD_map, rowL_cells, rowR_cells, Int.toNat_natCast, List.length_map]
    first | exact hK | exact fin hK
  refine .ret ?_
  simp only [results64, rsR, ↓reduceIte, Nat.reduceEqDiff, ty_shape_100, allPlain, resOne, mkS, Nat.reduceAdd, Nat.reduceLeDiff, Nat.le_refl, if_true, plainOf]

theorem itoa_int (x : Int) (h0 : 0 ≤ x) (h1 : x < 1000) : APure prog 65 [.lit (.int .i64 x)] (.pv (.lit (.string (str (d3 x))))) := by
  have := itoa_pure x.toNat (by omega)
  rwa [show ((x.toNat : Nat) : Int) = x by omega] at this
theorem split_txts (c : UInt8) (l : List UInt8) (hl : l.length ≤ 1000000) : APure prog 34 [.lit (.string (str l)), .lit (.string (str [c]))] (.pv (.list (txts (splitOn c l)))) := by
  have := split_pure l [c] hl (by simp)
  rwa [strs_txts] at this
theorem verText_ok {p : Int} (h : verFit p = true) : verText p = d3 (p / 1000000) ++ 46 :: (d3 (p / 1000 % 1000) ++ 46 :: d3 (p % 1000)) := by
  rw [verText, if_pos h, verL]
theorem verText_no {p : Int} (h : verFit p = false) : verText p = [] := by
  rw [verText, if_neg (by simp [h])]
/-- comprador/ver.Place -/
theorem place_pure (a b c : Int) : APure prog 80 [.agg [.lit (.int .i64 (a)), .lit (.int .i64 (b)), .lit (.int .i64 (c))]] (.tuple [.pv (.lit (.int .i64 ((placeOf a b c).1))), .pv (.lit (.bool ((placeOf a b c).2)))]) := by
  apply go func80
  refine .seq ?_
  apply AWS.rg [1]
  · intro K hK
    simp (disch := omega) only [rsA, ↓reduceIte, Nat.reduceEqDiff, Nat.reduceAdd, Int.reduceLT, Int.reduceLE, Int.reduceAdd, Int.reduceSub, Int.reduceMul, Int.reduceToNat, decide_true, decide_false, Bool.not_true, Bool.not_false, stepX, AV.whole, AV.cells, getD_map, rowL_cells, rowR_cells, Int.toNat_natCast, List.length_map, txts_length, txts_getD, List.take_length]
    first | exact hK | exact fin hK
  refine .seq ?_
  apply AWS.rg [1, 4]
  · intro K hK
    simp (disch := omega) only [rsA, ↓reduceIte, Nat.reduceEqDiff, Nat.reduceAdd, Int.reduceLT, Int.reduceLE, Int.reduceAdd, Int.reduceSub, Int.reduceMul, Int.reduceToNat, decide_true, decide_false, Bool.not_true, Bool.not_false, getD_map, rowL_cells, rowR_cells, Int.toNat_natCast, List.length_map, txts_length, txts_getD, List.take_length]
    first | exact hK | exact fin hK
  refine .seq (.seq ?_)
  apply AWS.rg [1, 4, 7, 8]
  · intro K hK
    simp (disch := omega) only [rsA, ↓reduceIte, Nat.reduceEqDiff, Nat.reduceAdd, Int.reduceLT, Int.reduceLE, Int.reduceAdd, Int.reduceSub, Int.reduceMul, Int.reduceToNat, decide_true, decide_false, Bool.not_true, Bool.not_false, calleeOf, getD_map, rowL_cells, rowR_cells, Int.toNat_natCast, List.length_map, txts_length, txts_getD, List.take_length]
    refine callG1 (weights_pure) rfl (hk := ?_)
    simp (disch := omega) only [rsA, ↓reduceIte, Nat.reduceEqDiff, Nat.reduceAdd, Int.reduceLT, Int.reduceLE, Int.reduceAdd, Int.reduceSub, Int.reduceMul, Int.reduceToNat, decide_true, decide_false, Bool.not_true, Bool.not_false, calleeOf, getD_map, rowL_cells, rowR_cells, Int.toNat_natCast, List.length_map, txts_length, txts_getD, List.take_length]
    first | exact hK | exact fin hK
  refine .block (.loop (.seq ?_))
  apply AWS.rg [1, 4, 7, 8, 9]
  · intro K hK
    simp (disch := omega) only [rsA, ↓reduceIte, Nat.reduceEqDiff, Nat.reduceAdd, Int.reduceLT, Int.reduceLE, Int.reduceAdd, Int.reduceSub, Int.reduceMul, Int.reduceToNat, decide_true, decide_false, Bool.not_true, Bool.not_false, rsW, getD_map, rowL_cells, rowR_cells, Int.toNat_natCast, List.length_map, txts_length, txts_getD, List.take_length]
    first | exact hK | exact fin hK
  refine .seq ?_
  refine .cond true rfl ?_
  refine .skip (.seq (.block (.seq ?_)))
  apply AWS.rg [1, 4, 5, 6, 7, 8]
  · intro K hK
    simp (disch := omega) only [rsA, ↓reduceIte, Nat.reduceEqDiff, Nat.reduceAdd, Int.reduceLT, Int.reduceLE, Int.reduceAdd, Int.reduceSub, Int.reduceMul, Int.reduceToNat, decide_true, decide_false, Bool.not_true, Bool.not_false, partX, partAX, ty_str_100, ty_array_100, getD_map, rowL_cells, rowR_cells, Int.toNat_natCast, List.length_map, txts_length, txts_getD, List.take_length]
    first | exact hK | exact fin hK
  refine .seq (.seq ?_)
  apply AWS.rg [1, 4, 5, 6, 7, 8, 21]
  · intro K hK
    simp (maxSteps := 2000000) (disch := omega) only [rsA, ↓reduceIte, Nat.reduceEqDiff, Nat.reduceAdd, Int.reduceLT, Int.reduceLE, Int.reduceAdd, Int.reduceSub, Int.reduceMul, Int.reduceToNat, decide_true, decide_false, Bool.not_true, Bool.not_false, cells_lit, cells_agg, cells_list, listOf, ty_slice_100, ty_array_100, loadX, partX, mkAgg, allPlain, Nat.reduceLeDiff, Nat.le_refl, ty_shape_3, rsW, getD_map, rowL_cells, rowR_cells, Int.toNat_natCast, List.length_map, txts_length, txts_getD, List.take_length]
    first | exact hK | exact fin hK | exact fin2 hK
  refine AWS.cI (h1 := fun h1 => ?_) (h2 := fun h1 => ?_)
  · simp only [rsC, decide_eq_true_eq, decide_eq_false_iff_not] at h1
    refine .seq ?_
    apply AWS.rg [2, 3]
    · intro K hK
      simp (disch := omega) only [rsA, ↓reduceIte, Nat.reduceEqDiff, Nat.reduceAdd, Int.reduceLT, Int.reduceLE, Int.reduceAdd, Int.reduceSub, Int.reduceMul, Int.reduceToNat, decide_true, decide_false, Bool.not_true, Bool.not_false, getD_map, rowL_cells, rowR_cells, Int.toNat_natCast, List.length_map, txts_length, txts_getD, List.take_length]
      first | exact hK | exact fin hK
    refine .ret ?_
    simp only [results80, rsR, ↓reduceIte, Nat.reduceEqDiff]
    unfold placeOf
    rw [if_neg (by omega)]
    exact ⟨rfl, rfl⟩
  · simp only [rsC, decide_eq_true_eq, decide_eq_false_iff_not] at h1
    refine .skip ?_
    apply AWS.rg [1, 4, 7, 8]
    · intro K hK
      simp (disch := omega) only [rsA, ↓reduceIte, Nat.reduceEqDiff, Nat.reduceAdd, Int.reduceLT, Int.reduceLE, Int.reduceAdd, Int.reduceSub, Int.reduceMul, Int.reduceToNat, decide_true, decide_false, Bool.not_true, Bool.not_false, cells_lit, cells_agg, cells_list, listOf, ty_slice_100, ty_array_100, loadX, partX, mkAgg, allPlain, Nat.reduceLeDiff, Nat.le_refl, ty_shape_3, rsW, getD_map, rowL_cells, rowR_cells, Int.toNat_natCast, List.length_map, txts_length, txts_getD, List.take_length]
      first | exact hK | exact fin hK
    refine .inBlock ?_
    apply AWS.rg [1, 4, 7, 8]
    · intro K hK
      simp (disch := omega) only [rsA, ↓reduceIte, Nat.reduceEqDiff, Nat.reduceAdd, Int.reduceLT, Int.reduceLE, Int.reduceAdd, Int.reduceSub, Int.reduceMul, Int.reduceToNat, decide_true, decide_false, Bool.not_true, Bool.not_false, rsW, getD_map, rowL_cells, rowR_cells, Int.toNat_natCast, List.length_map, txts_length, txts_getD, List.take_length]
      first | exact hK | exact fin hK
    refine .inLoop (.seq ?_)
    apply AWS.rg [1, 4, 7, 8, 9]
    · intro K hK
      simp (disch := omega) only [rsA, ↓reduceIte, Nat.reduceEqDiff, Nat.reduceAdd, Int.reduceLT, Int.reduceLE, Int.reduceAdd, Int.reduceSub, Int.reduceMul, Int.reduceToNat, decide_true, decide_false, Bool.not_true, Bool.not_false, rsW, getD_map, rowL_cells, rowR_cells, Int.toNat_natCast, List.length_map, txts_length, txts_getD, List.take_length]
      first | exact hK | exact fin hK
    refine .seq ?_
    refine .cond true rfl ?_
    refine .skip (.seq (.block (.seq ?_)))
    apply AWS.rg [1, 4, 5, 6, 7, 8]
    · intro K hK
      simp (disch := omega) only [rsA, ↓reduceIte, Nat.reduceEqDiff, Nat.reduceAdd, Int.reduceLT, Int.reduceLE, Int.reduceAdd, Int.reduceSub, Int.reduceMul, Int.reduceToNat, decide_true, decide_false, Bool.not_true, Bool.not_false, partX, partAX, ty_str_100, ty_array_100, getD_map, rowL_cells, rowR_cells, Int.toNat_natCast, List.length_map, txts_length, txts_getD, List.take_length]
      first | exact hK | exact fin hK
    refine .seq (.seq ?_)
    apply AWS.rg [1, 4, 5, 6, 7, 8, 21]
    · intro K hK
      simp (maxSteps := 2000000) (disch := omega) only [rsA, ↓reduceIte, Nat.reduceEqDiff, Nat.reduceAdd, Int.reduceLT, Int.reduceLE, Int.reduceAdd, Int.reduceSub, Int.reduceMul, Int.reduceToNat, decide_true, decide_false, Bool.not_true, Bool.not_false, cells_lit, cells_agg, cells_list, listOf, ty_slice_100, ty_array_100, loadX, partX, mkAgg, allPlain, Nat.reduceLeDiff, Nat.le_refl, ty_shape_3, rsW, getD_map, rowL_cells, rowR_cells, Int.toNat_natCast, List.length_map, txts_length, txts_getD, List.take_length]
      first | exact hK | exact fin hK | exact fin2 hK
    refine AWS.cI (h1 := fun h2 => ?_) (h2 := fun h2 => ?_)
    · simp only [rsC, decide_eq_true_eq, decide_eq_false_iff_not] at h2
      refine .seq ?_
      apply AWS.rg [2, 3]
      · intro K hK
        simp (disch := omega) only [rsA, ↓reduceIte, Nat.reduceEqDiff, Nat.reduceAdd, Int.reduceLT, Int.reduceLE, Int.reduceAdd, Int.reduceSub, Int.reduceMul, Int.reduceToNat, decide_true, decide_false, Bool.not_true, Bool.not_false, getD_map, rowL_cells, rowR_cells, Int.toNat_natCast, List.length_map, txts_length, txts_getD, List.take_length]
        first | exact hK | exact fin hK
      refine .ret ?_
      simp only [results80, rsR, ↓reduceIte, Nat.reduceEqDiff]
      unfold placeOf
      rw [if_neg (by omega)]
      exact ⟨rfl, rfl⟩
    · simp only [rsC, decide_eq_true_eq, decide_eq_false_iff_not] at h2
      refine .skip ?_
      apply AWS.rg [1, 4, 7, 8]
      · intro K hK
        simp (disch := omega) only [rsA, ↓reduceIte, Nat.reduceEqDiff, Nat.reduceAdd, Int.reduceLT, Int.reduceLE, Int.reduceAdd, Int.reduceSub, Int.reduceMul, Int.reduceToNat, decide_true, decide_false, Bool.not_true, Bool.not_false, cells_lit, cells_agg, cells_list, listOf, ty_slice_100, ty_array_100, loadX, partX, mkAgg, allPlain, Nat.reduceLeDiff, Nat.le_refl, ty_shape_3, rsW, getD_map, rowL_cells, rowR_cells, Int.toNat_natCast, List.length_map, txts_length, txts_getD, List.take_length]
        first | exact hK | exact fin hK
      refine .inBlock ?_
      apply AWS.rg [1, 4, 7, 8]
      · intro K hK
        simp (disch := omega) only [rsA, ↓reduceIte, Nat.reduceEqDiff, Nat.reduceAdd, Int.reduceLT, Int.reduceLE, Int.reduceAdd, Int.reduceSub, Int.reduceMul, Int.reduceToNat, decide_true, decide_false, Bool.not_true, Bool.not_false, rsW, getD_map, rowL_cells, rowR_cells, Int.toNat_natCast, List.length_map, txts_length, txts_getD, List.take_length]
        first | exact hK | exact fin hK
      refine .inLoop (.seq ?_)
      apply AWS.rg [1, 4, 7, 8, 9]
      · intro K hK
        simp (disch := omega) only [rsA, ↓reduceIte, Nat.reduceEqDiff, Nat.reduceAdd, Int.reduceLT, Int.reduceLE, Int.reduceAdd, Int.reduceSub, Int.reduceMul, Int.reduceToNat, decide_true, decide_false, Bool.not_true, Bool.not_false, rsW, getD_map, rowL_cells, rowR_cells, Int.toNat_natCast, List.length_map, txts_length, txts_getD, List.take_length]
        first | exact hK | exact fin hK
      refine .seq ?_
      refine .cond true rfl ?_
      refine .skip (.seq (.block (.seq ?_)))
      apply AWS.rg [1, 4, 5, 6, 7, 8]
      · intro K hK
        simp (disch := omega) only [rsA, ↓reduceIte, Nat.reduceEqDiff, Nat.reduceAdd, Int.reduceLT, Int.reduceLE, Int.reduceAdd, Int.reduceSub, Int.reduceMul, Int.reduceToNat, decide_true, decide_false, Bool.not_true, Bool.not_false, partX, partAX, ty_str_100, ty_array_100, getD_map, rowL_cells, rowR_cells, Int.toNat_natCast, List.length_map, txts_length, txts_getD, List.take_length]
        first | exact hK | exact fin hK
      refine .seq (.seq ?_)
      apply AWS.rg [1, 4, 5, 6, 7, 8, 21]
      · intro K hK
        simp (maxSteps := 2000000) (disch := omega) only [rsA, ↓reduceIte, Nat.reduceEqDiff, Nat.reduceAdd, Int.reduceLT, Int.reduceLE, Int.reduceAdd, Int.reduceSub, Int.reduceMul, Int.reduceToNat, decide_true, decide_false, Bool.not_true, Bool.not_false, cells_lit, cells_agg, cells_list, listOf, ty_slice_100, ty_array_100, loadX, partX, mkAgg, allPlain, Nat.reduceLeDiff, Nat.le_refl, ty_shape_3, rsW, getD_map, rowL_cells, rowR_cells, Int.toNat_natCast, List.length_map, txts_length, txts_getD, List.take_length]
        first | exact hK | exact fin hK | exact fin2 hK
      refine AWS.cI (h1 := fun h3 => ?_) (h2 := fun h3 => ?_)
      · simp only [rsC, decide_eq_true_eq, decide_eq_false_iff_not] at h3
        refine .seq ?_
        apply AWS.rg [2, 3]
        · intro K hK
          simp (disch := omega) only [rsA, ↓reduceIte, Nat.reduceEqDiff, Nat.reduceAdd, Int.reduceLT, Int.reduceLE, Int.reduceAdd, Int.reduceSub, Int.reduceMul, Int.reduceToNat, decide_true, decide_false, Bool.not_true, Bool.not_false, getD_map, rowL_cells, rowR_cells, Int.toNat_natCast, List.length_map, txts_length, txts_getD, List.take_length]
          first | exact hK | exact fin hK
        refine .ret ?_
        simp only [results80, rsR, ↓reduceIte, Nat.reduceEqDiff]
        unfold placeOf
        rw [if_neg (by omega)]
        exact ⟨rfl, rfl⟩
      · simp only [rsC, decide_eq_true_eq, decide_eq_false_iff_not] at h3
        refine .skip ?_
        apply AWS.rg [1, 4, 7, 8]
        · intro K hK
          simp (disch := omega) only [rsA, ↓reduceIte, Nat.reduceEqDiff, Nat.reduceAdd, Int.reduceLT, Int.reduceLE, Int.reduceAdd, Int.reduceSub, Int.reduceMul, Int.reduceToNat, decide_true, decide_false, Bool.not_true, Bool.not_false, cells_lit, cells_agg, cells_list, listOf, ty_slice_100, ty_array_100, loadX, partX, mkAgg, allPlain, Nat.reduceLeDiff, Nat.le_refl, ty_shape_3, rsW, getD_map, rowL_cells, rowR_cells, Int.toNat_natCast, List.length_map, txts_length, txts_getD, List.take_length]
          first | exact hK | exact fin hK
        refine .inBlock ?_
        apply AWS.rg [1, 4, 7, 8]
        · intro K hK
          simp (disch := omega) only [rsA, ↓reduceIte, Nat.reduceEqDiff, Nat.reduceAdd, Int.reduceLT, Int.reduceLE, Int.reduceAdd, Int.reduceSub, Int.reduceMul, Int.reduceToNat, decide_true, decide_false, Bool.not_true, Bool.not_false, rsW, getD_map, rowL_cells, rowR_cells, Int.toNat_natCast, List.length_map, txts_length, txts_getD, List.take_length]
          first | exact hK | exact fin hK
        refine .inLoop (.seq ?_)
        apply AWS.rg [1, 4, 7, 8, 9]
        · intro K hK
          simp (disch := omega) only [rsA, ↓reduceIte, Nat.reduceEqDiff, Nat.reduceAdd, Int.reduceLT, Int.reduceLE, Int.reduceAdd, Int.reduceSub, Int.reduceMul, Int.reduceToNat, decide_true, decide_false, Bool.not_true, Bool.not_false, rsW, getD_map, rowL_cells, rowR_cells, Int.toNat_natCast, List.length_map, txts_length, txts_getD, List.take_length]
          first | exact hK | exact fin hK
        refine .seq ?_
        refine .cond false rfl ?_
        refine .exit rfl (.seq ?_)
        apply AWS.rg [2, 3]
        · intro K hK
          simp (disch := omega) only [rsA, ↓reduceIte, Nat.reduceEqDiff, Nat.reduceAdd, Int.reduceLT, Int.reduceLE, Int.reduceAdd, Int.reduceSub, Int.reduceMul, Int.reduceToNat, decide_true, decide_false, Bool.not_true, Bool.not_false, getD_map, rowL_cells, rowR_cells, Int.toNat_natCast, List.length_map, txts_length, txts_getD, List.take_length]
          first | exact hK | exact fin hK
        refine .ret ?_
        simp only [results80, rsR, ↓reduceIte, Nat.reduceEqDiff]
        unfold placeOf
        rw [if_pos (by omega)]
        exact ⟨by dsimp only; omega, rfl⟩
/-- comprador/ver.Text -/
theorem text_ok (p : Int) (h : verFit p = true) : APure prog 31 [.lit (.int .i64 (p))] (.pv (.lit (.string (str (verText p))))) := by
  apply go func31
  have hp := h
  simp only [verFit, decide_eq_true_eq] at hp
  have l1 := d3_length (p / 1000000)
  have l2 := d3_length (p / 1000 % 1000)
  have l3 := d3_length (p % 1000)
  refine .seq ?_
  apply AWS.rg [0]
  · intro K hK
    simp (disch := omega) only [rsA, ↓reduceIte, Nat.reduceEqDiff, Nat.reduceAdd, Int.reduceLT, Int.reduceLE, Int.reduceAdd, Int.reduceSub, Int.reduceMul, Int.reduceToNat, decide_true, decide_false, Bool.not_true, Bool.not_false, getD_map, rowL_cells, rowR_cells, Int.toNat_natCast, List.length_map, txts_length, txts_getD, List.take_length]
    first | exact hK | exact fin hK
  refine .seq ?_
  apply AWS.rg [3, 4]
  · intro K hK
    simp (disch := omega) only [rsA, ↓reduceIte, Nat.reduceEqDiff, Nat.reduceAdd, Int.reduceLT, Int.reduceLE, Int.reduceAdd, Int.reduceSub, Int.reduceMul, Int.reduceToNat, decide_true, decide_false, Bool.not_true, Bool.not_false, calleeOf, stepX, ty_zero_100, splice, AV.whole, AV.cells, ty_shape_100, getD_map, rowL_cells, rowR_cells, Int.toNat_natCast, List.length_map, txts_length, txts_getD, List.take_length]
    refine callG1 (parts_ok p h) rfl (hk := ?_)
    simp (disch := omega) only [rsA, ↓reduceIte, Nat.reduceEqDiff, Nat.reduceAdd, Int.reduceLT, Int.reduceLE, Int.reduceAdd, Int.reduceSub, Int.reduceMul, Int.reduceToNat, decide_true, decide_false, Bool.not_true, Bool.not_false, calleeOf, stepX, ty_zero_100, splice, AV.whole, AV.cells, ty_shape_100, getD_map, rowL_cells, rowR_cells, Int.toNat_natCast, List.length_map, txts_length, txts_getD, List.take_length]
    first | exact hK | exact fin hK
  refine .seq (.seq ?_)
  apply AWS.rg [3, 11]
  · intro K hK
    simp (disch := omega) only [rsA, ↓reduceIte, Nat.reduceEqDiff, Nat.reduceAdd, Int.reduceLT, Int.reduceLE, Int.reduceAdd, Int.reduceSub, Int.reduceMul, Int.reduceToNat, decide_true, decide_false, Bool.not_true, Bool.not_false, rsW, getD_map, rowL_cells, rowR_cells, Int.toNat_natCast, List.length_map, txts_length, txts_getD, List.take_length]
    first | exact hK | exact fin hK
  refine AWS.cI (h1 := fun h1 => by cases h1) (h2 := fun h1 => ?_)
  clear h1
  refine .skip (.seq ?_)
  apply AWS.rg [2]
  · intro K hK
    simp (maxSteps := 2000000) (disch := omega) only [rsA, ↓reduceIte, Nat.reduceEqDiff, Nat.reduceAdd, Int.reduceLT, Int.reduceLE, Int.reduceAdd, Int.reduceSub, Int.reduceMul, Int.reduceToNat, decide_true, decide_false, Bool.not_true, Bool.not_false, cells_lit, cells_agg, cells_list, listOf, ty_slice_100, ty_array_100, loadX, partX, mkAgg, allPlain, Nat.reduceLeDiff, Nat.le_refl, ty_shape_3, calleeOf, rsW, getD_map, rowL_cells, rowR_cells, Int.toNat_natCast, List.length_map, txts_length, txts_getD, List.take_length]
    refine callG1 (itoa_int _ (by omega) (by omega)) rfl (hk := ?_)
    simp (maxSteps := 2000000) (disch := omega) only [rsA, ↓reduceIte, Nat.reduceEqDiff, Nat.reduceAdd, Int.reduceLT, Int.reduceLE, Int.reduceAdd, Int.reduceSub, Int.reduceMul, Int.reduceToNat, decide_true, decide_false, Bool.not_true, Bool.not_false, cells_lit, cells_agg, cells_list, listOf, ty_slice_100, ty_array_100, loadX, partX, mkAgg, allPlain, Nat.reduceLeDiff, Nat.le_refl, ty_shape_3, calleeOf, rsW, getD_map, rowL_cells, rowR_cells, Int.toNat_natCast, List.length_map, txts_length, txts_getD, List.take_length]
    refine callG1 (itoa_int _ (by omega) (by omega)) rfl (hk := ?_)
    simp (maxSteps := 2000000) (disch := omega) only [rsA, ↓reduceIte, Nat.reduceEqDiff, Nat.reduceAdd, Int.reduceLT, Int.reduceLE, Int.reduceAdd, Int.reduceSub, Int.reduceMul, Int.reduceToNat, decide_true, decide_false, Bool.not_true, Bool.not_false, cells_lit, cells_agg, cells_list, listOf, ty_slice_100, ty_array_100, loadX, partX, mkAgg, allPlain, Nat.reduceLeDiff, Nat.le_refl, ty_shape_3, calleeOf, rsW, getD_map, rowL_cells, rowR_cells, Int.toNat_natCast, List.length_map, txts_length, txts_getD, List.take_length]
    refine callG1 (itoa_int _ (by omega) (by omega)) rfl (hk := ?_)
    simp (maxSteps := 2000000) (disch := omega) only [rsA, ↓reduceIte, Nat.reduceEqDiff, Nat.reduceAdd, Int.reduceLT, Int.reduceLE, Int.reduceAdd, Int.reduceSub, Int.reduceMul, Int.reduceToNat, decide_true, decide_false, Bool.not_true, Bool.not_false, cells_lit, cells_agg, cells_list, listOf, ty_slice_100, ty_array_100, loadX, partX, mkAgg, allPlain, Nat.reduceLeDiff, Nat.le_refl, ty_shape_3, calleeOf, rsW, getD_map, rowL_cells, rowR_cells, Int.toNat_natCast, List.length_map, txts_length, txts_getD, List.take_length]
    first | exact hK | exact fin hK
  refine .ret ?_
  simp only [results31, rsR, ↓reduceIte, Nat.reduceEqDiff]
  rw [verText_ok h]
  simp
/-- comprador/ver.Text -/
theorem text_no (p : Int) (h : verFit p = false) : APure prog 31 [.lit (.int .i64 (p))] (.pv (.lit (.string (str (verText p))))) := by
  apply go func31
  refine .seq ?_
  apply AWS.rg [0]
  · intro K hK
    simp (disch := omega) only [rsA, ↓reduceIte, Nat.reduceEqDiff, Nat.reduceAdd, Int.reduceLT, Int.reduceLE, Int.reduceAdd, Int.reduceSub, Int.reduceMul, Int.reduceToNat, decide_true, decide_false, Bool.not_true, Bool.not_false, getD_map, rowL_cells, rowR_cells, Int.toNat_natCast, List.length_map, txts_length, txts_getD, List.take_length]
    first | exact hK | exact fin hK
  refine .seq ?_
  apply AWS.rg [3, 4]
  · intro K hK
    simp (disch := omega) only [rsA, ↓reduceIte, Nat.reduceEqDiff, Nat.reduceAdd, Int.reduceLT, Int.reduceLE, Int.reduceAdd, Int.reduceSub, Int.reduceMul, Int.reduceToNat, decide_true, decide_false, Bool.not_true, Bool.not_false, calleeOf, stepX, ty_zero_100, splice, AV.whole, AV.cells, ty_shape_100, getD_map, rowL_cells, rowR_cells, Int.toNat_natCast, List.length_map, txts_length, txts_getD, List.take_length]
    refine callG1 (parts_no p h) rfl (hk := ?_)
    simp (disch := omega) only [rsA, ↓reduceIte, Nat.reduceEqDiff, Nat.reduceAdd, Int.reduceLT, Int.reduceLE, Int.reduceAdd, Int.reduceSub, Int.reduceMul, Int.reduceToNat, decide_true, decide_false, Bool.not_true, Bool.not_false, calleeOf, stepX, ty_zero_100, splice, AV.whole, AV.cells, ty_shape_100, getD_map, rowL_cells, rowR_cells, Int.toNat_natCast, List.length_map, txts_length, txts_getD, List.take_length]
    first | exact hK | exact fin hK
  refine .seq (.seq ?_)
  apply AWS.rg [3, 11]
  · intro K hK
    simp (disch := omega) only [rsA, ↓reduceIte, Nat.reduceEqDiff, Nat.reduceAdd, Int.reduceLT, Int.reduceLE, Int.reduceAdd, Int.reduceSub, Int.reduceMul, Int.reduceToNat, decide_true, decide_false, Bool.not_true, Bool.not_false, rsW, getD_map, rowL_cells, rowR_cells, Int.toNat_natCast, List.length_map, txts_length, txts_getD, List.take_length]
    first | exact hK | exact fin hK
  refine AWS.cI (h1 := fun h1 => ?_) (h2 := fun h1 => by cases h1)
  clear h1
  refine .seq ?_
  apply AWS.rg [2]
  · intro K hK
    simp (disch := omega) only [rsA, ↓reduceIte, Nat.reduceEqDiff, Nat.reduceAdd, Int.reduceLT, Int.reduceLE, Int.reduceAdd, Int.reduceSub, Int.reduceMul, Int.reduceToNat, decide_true, decide_false, Bool.not_true, Bool.not_false, getD_map, rowL_cells, rowR_cells, Int.toNat_natCast, List.length_map, txts_length, txts_getD, List.take_length]
    first | exact hK | exact fin hK
  refine .ret ?_
  simp only [results31, rsR, ↓reduceIte, Nat.reduceEqDiff]
  rw [verText_no h]

theorem text_pure (p : Int) : APure prog 31 [.lit (.int .i64 p)] (.pv (.lit (.string (str (verText p))))) := by
  cases h : verFit p with
  | true => exact text_ok p h
  | false => exact text_no p h
theorem u8_dg (m : Int) (h0 : 0 ≤ m) (h1 : m ≤ 9) : u8sOf [.lit (.int .u8 (48 + m))] = some [dg8 m] := by
  have e : (48 + m).toNat = 48 + m.toNat := by omega
  simp only [u8sOf, u8Of, if_pos (show 0 ≤ 48 + m ∧ 48 + m < 256 by omega), Option.bind_some, Option.map_some, dg8, e]
/-- comprador/compradorref05.Digits -/
theorem digits_1 (n : Int) (h0 : 0 ≤ n) (hn : n < 10) : APure prog 99 [.lit (.int .i64 (n))] (.pv (.lit (.string (str (d3 n))))) := by
  apply go func99
  have l1 := d3_length (n / 10)
  refine .seq ?_
  apply AWS.rg [0]
  · intro K hK
    simp (disch := omega) only [rsA, ↓reduceIte, Nat.reduceEqDiff, Nat.reduceAdd, Int.reduceLT, Int.reduceLE, Int.reduceAdd, Int.reduceSub, Int.reduceMul, Int.reduceToNat, decide_true, decide_false, Bool.not_true, Bool.not_false, getD_map, rowL_cells, rowR_cells, Int.toNat_natCast, List.length_map, txts_length, txts_getD, List.take_length]
    first | exact hK | exact fin hK
  refine .seq ?_
  apply AWS.rg [0, 3]
  · intro K hK
    simp (disch := omega) only [rsA, ↓reduceIte, Nat.reduceEqDiff, Nat.reduceAdd, Int.reduceLT, Int.reduceLE, Int.reduceAdd, Int.reduceSub, Int.reduceMul, Int.reduceToNat, decide_true, decide_false, Bool.not_true, Bool.not_false, rsW, Int.tmod_eq_emod_of_nonneg, Int.tdiv_eq_ediv_of_nonneg, listOf, ty_bytes_3, ty_bytes_5, ty_int_5, ty_str_5, ty_str_3, ty_und_3, allPlain, List.forall_mem_cons, List.forall_mem_nil, cells_lit, cells_agg, cells_list, ty_elem_54, ty_bytes_54, ty_bytes_9, ty_int_9, ty_str_9, ty_str_54, ty_und_54, getD_map, rowL_cells, rowR_cells, Int.toNat_natCast, List.length_map, txts_length, txts_getD, List.take_length, u8_dg (n % 10) (by omega) (by omega)]
    first | exact hK | exact fin hK
  refine .seq (.seq ?_)
  apply AWS.rg [0, 3, 11]
  · intro K hK
    simp (disch := omega) only [rsA, ↓reduceIte, Nat.reduceEqDiff, Nat.reduceAdd, Int.reduceLT, Int.reduceLE, Int.reduceAdd, Int.reduceSub, Int.reduceMul, Int.reduceToNat, decide_true, decide_false, Bool.not_true, Bool.not_false, rsW, getD_map, rowL_cells, rowR_cells, Int.toNat_natCast, List.length_map, txts_length, txts_getD, List.take_length]
    first | exact hK | exact fin hK
  refine AWS.cI (h1 := fun h1 => ?_) (h2 := fun h1 => by simp only [decide_eq_true_eq, decide_eq_false_iff_not] at h1; omega)
  clear h1
  refine .seq ?_
  apply AWS.rg [2]
  · intro K hK
    simp (disch := omega) only [rsA, ↓reduceIte, Nat.reduceEqDiff, Nat.reduceAdd, Int.reduceLT, Int.reduceLE, Int.reduceAdd, Int.reduceSub, Int.reduceMul, Int.reduceToNat, decide_true, decide_false, Bool.not_true, Bool.not_false, getD_map, rowL_cells, rowR_cells, Int.toNat_natCast, List.length_map, txts_length, txts_getD, List.take_length]
    first | exact hK | exact fin hK
  refine .ret ?_
  simp only [results99, rsR, ↓reduceIte, Nat.reduceEqDiff]
  rw [d3, if_pos (by omega), show n % 10 = n by omega]
/-- comprador/compradorref05.Digits -/
theorem digits_2 (n : Int) (h0 : 10 ≤ n) (hn : n < 100) : APure prog 99 [.lit (.int .i64 (n))] (.pv (.lit (.string (str (d3 n))))) := by
  apply go func99
  have l1 := d3_length (n / 10)
  refine .seq ?_
  apply AWS.rg [0]
  · intro K hK
    simp (disch := omega) only [rsA, ↓reduceIte, Nat.reduceEqDiff, Nat.reduceAdd, Int.reduceLT, Int.reduceLE, Int.reduceAdd, Int.reduceSub, Int.reduceMul, Int.reduceToNat, decide_true, decide_false, Bool.not_true, Bool.not_false, getD_map, rowL_cells, rowR_cells, Int.toNat_natCast, List.length_map, txts_length, txts_getD, List.take_length]
    first | exact hK | exact fin hK
  refine .seq ?_
  apply AWS.rg [0, 3]
  · intro K hK
    simp (disch := omega) only [rsA, ↓reduceIte, Nat.reduceEqDiff, Nat.reduceAdd, Int.reduceLT, Int.reduceLE, Int.reduceAdd, Int.reduceSub, Int.reduceMul, Int.reduceToNat, decide_true, decide_false, Bool.not_true, Bool.not_false, rsW, Int.tmod_eq_emod_of_nonneg, Int.tdiv_eq_ediv_of_nonneg, listOf, ty_bytes_3, ty_bytes_5, ty_int_5, ty_str_5, ty_str_3, ty_und_3, allPlain, List.forall_mem_cons, List.forall_mem_nil, cells_lit, cells_agg, cells_list, ty_elem_54, ty_bytes_54, ty_bytes_9, ty_int_9, ty_str_9, ty_str_54, ty_und_54, getD_map, rowL_cells, rowR_cells, Int.toNat_natCast, List.length_map, txts_length, txts_getD, List.take_length, u8_dg (n % 10) (by omega) (by omega)]
    first | exact hK | exact fin hK
  refine .seq (.seq ?_)
  apply AWS.rg [0, 3, 11]
  · intro K hK
    simp (disch := omega) only [rsA, ↓reduceIte, Nat.reduceEqDiff, Nat.reduceAdd, Int.reduceLT, Int.reduceLE, Int.reduceAdd, Int.reduceSub, Int.reduceMul, Int.reduceToNat, decide_true, decide_false, Bool.not_true, Bool.not_false, rsW, getD_map, rowL_cells, rowR_cells, Int.toNat_natCast, List.length_map, txts_length, txts_getD, List.take_length]
    first | exact hK | exact fin hK
  refine AWS.cI (h1 := fun h1 => by simp only [decide_eq_true_eq, decide_eq_false_iff_not] at h1; omega) (h2 := fun h1 => ?_)
  clear h1
  refine .skip (.seq ?_)
  apply AWS.rg [2]
  · intro K hK
    simp (disch := omega) only [rsA, ↓reduceIte, Nat.reduceEqDiff, Nat.reduceAdd, Int.reduceLT, Int.reduceLE, Int.reduceAdd, Int.reduceSub, Int.reduceMul, Int.reduceToNat, decide_true, decide_false, Bool.not_true, Bool.not_false, rsW, Int.tmod_eq_emod_of_nonneg, Int.tdiv_eq_ediv_of_nonneg, calleeOf, getD_map, rowL_cells, rowR_cells, Int.toNat_natCast, List.length_map, txts_length, txts_getD, List.take_length]
    refine callG1 (digits_1 (n / 10) (by omega) (by omega)) rfl (hk := ?_)
    simp (disch := omega) only [rsA, ↓reduceIte, Nat.reduceEqDiff, Nat.reduceAdd, Int.reduceLT, Int.reduceLE, Int.reduceAdd, Int.reduceSub, Int.reduceMul, Int.reduceToNat, decide_true, decide_false, Bool.not_true, Bool.not_false, rsW, Int.tmod_eq_emod_of_nonneg, Int.tdiv_eq_ediv_of_nonneg, calleeOf, getD_map, rowL_cells, rowR_cells, Int.toNat_natCast, List.length_map, txts_length, txts_getD, List.take_length]
    first | exact hK | exact fin hK
  refine .ret ?_
  simp only [results99, rsR, ↓reduceIte, Nat.reduceEqDiff]
  rw [d3, d3, if_pos (by omega), if_neg (by omega), if_pos (by omega)]; rfl
/-- comprador/compradorref05.Digits -/
theorem digits_3 (n : Int) (h0 : 100 ≤ n) (hn : n < 1000) : APure prog 99 [.lit (.int .i64 (n))] (.pv (.lit (.string (str (d3 n))))) := by
  apply go func99
  have l1 := d3_length (n / 10)
  refine .seq ?_
  apply AWS.rg [0]
  · intro K hK
    simp (disch := omega) only [rsA, ↓reduceIte, Nat.reduceEqDiff, Nat.reduceAdd, Int.reduceLT, Int.reduceLE, Int.reduceAdd, Int.reduceSub, Int.reduceMul, Int.reduceToNat, decide_true, decide_false, Bool.not_true, Bool.not_false, getD_map, rowL_cells, rowR_cells, Int.toNat_natCast, List.length_map, txts_length, txts_getD, List.take_length]
    first | exact hK | exact fin hK
  refine .seq ?_
  apply AWS.rg [0, 3]
  · intro K hK
    simp (disch := omega) only [rsA, ↓reduceIte, Nat.reduceEqDiff, Nat.reduceAdd, Int.reduceLT, Int.reduceLE, Int.reduceAdd, Int.reduceSub, Int.reduceMul, Int.reduceToNat, decide_true, decide_false, Bool.not_true, Bool.not_false, rsW, Int.tmod_eq_emod_of_nonneg, Int.tdiv_eq_ediv_of_nonneg, listOf, ty_bytes_3, ty_bytes_5, ty_int_5, ty_str_5, ty_str_3, ty_und_3, allPlain, List.forall_mem_cons, List.forall_mem_nil, cells_lit, cells_agg, cells_list, ty_elem_54, ty_bytes_54, ty_bytes_9, ty_int_9, ty_str_9, ty_str_54, ty_und_54, getD_map, rowL_cells, rowR_cells, Int.toNat_natCast, List.length_map, txts_length, txts_getD, List.take_length, u8_dg (n % 10) (by omega) (by omega)]
    first | exact hK | exact fin hK
  refine .seq (.seq ?_)
  apply AWS.rg [0, 3, 11]
  · intro K hK
    simp (disch := omega) only [rsA, ↓reduceIte, Nat.reduceEqDiff, Nat.reduceAdd, Int.reduceLT, Int.reduceLE, Int.reduceAdd, Int.reduceSub, Int.reduceMul, Int.reduceToNat, decide_true, decide_false, Bool.not_true, Bool.not_false, rsW, getD_map, rowL_cells, rowR_cells, Int.toNat_natCast, List.length_map, txts_length, txts_getD, List.take_length]
    first | exact hK | exact fin hK
  refine AWS.cI (h1 := fun h1 => by simp only [decide_eq_true_eq, decide_eq_false_iff_not] at h1; omega) (h2 := fun h1 => ?_)
  clear h1
  refine .skip (.seq ?_)
  apply AWS.rg [2]
  · intro K hK
    simp (disch := omega) only [rsA, ↓reduceIte, Nat.reduceEqDiff, Nat.reduceAdd, Int.reduceLT, Int.reduceLE, Int.reduceAdd, Int.reduceSub, Int.reduceMul, Int.reduceToNat, decide_true, decide_false, Bool.not_true, Bool.not_false, rsW, Int.tmod_eq_emod_of_nonneg, Int.tdiv_eq_ediv_of_nonneg, calleeOf, getD_map, rowL_cells, rowR_cells, Int.toNat_natCast, List.length_map, txts_length, txts_getD, List.take_length]
    refine callG1 (digits_2 (n / 10) (by omega) (by omega)) rfl (hk := ?_)
    simp (disch := omega) only [rsA, ↓reduceIte, Nat.reduceEqDiff, Nat.reduceAdd, Int.reduceLT, Int.reduceLE, Int.reduceAdd, Int.reduceSub, Int.reduceMul, Int.reduceToNat, decide_true, decide_false, Bool.not_true, Bool.not_false, rsW, Int.tmod_eq_emod_of_nonneg, Int.tdiv_eq_ediv_of_nonneg, calleeOf, getD_map, rowL_cells, rowR_cells, Int.toNat_natCast, List.length_map, txts_length, txts_getD, List.take_length]
    first | exact hK | exact fin hK
  refine .ret ?_
  simp only [results99, rsR, ↓reduceIte, Nat.reduceEqDiff]
  rw [d3, d3, if_neg (by omega), if_pos (by omega), if_neg (by omega), if_neg (by omega), show n / 10 / 10 = n / 100 by omega]; rfl

theorem digits_pure (n : Int) (h0 : 0 ≤ n) (h1 : n < 1000) : APure prog 99 [.lit (.int .i64 n)] (.pv (.lit (.string (str (d3 n))))) := by
  by_cases a : n < 10
  · exact digits_1 n h0 a
  by_cases b : n < 100
  · exact digits_2 n (by omega) b
  · exact digits_3 n (by omega) h1
/-- comprador/compradorref05.Text -/
theorem refText_ok (p : Int) (h : verFit p = true) : APure prog 70 [.lit (.int .i64 (p))] (.pv (.lit (.string (str (verText p))))) := by
  apply go func70
  have hp := h
  simp only [verFit, decide_eq_true_eq] at hp
  have l1 := d3_length (p / 1000000)
  have l2 := d3_length (p / 1000 % 1000)
  have l3 := d3_length (p % 1000)
  refine .seq ?_
  apply AWS.rg [0]
  · intro K hK
    simp (disch := omega) only [rsA, ↓reduceIte, Nat.reduceEqDiff, Nat.reduceAdd, Int.reduceLT, Int.reduceLE, Int.reduceAdd, Int.reduceSub, Int.reduceMul, Int.reduceToNat, decide_true, decide_false, Bool.not_true, Bool.not_false, getD_map, rowL_cells, rowR_cells, Int.toNat_natCast, List.length_map, txts_length, txts_getD, List.take_length]
    first | exact hK | exact fin hK
  refine .seq (.seq ?_)
  apply AWS.rg [0, 5]
  · intro K hK
    simp (disch := omega) only [rsA, ↓reduceIte, Nat.reduceEqDiff, Nat.reduceAdd, Int.reduceLT, Int.reduceLE, Int.reduceAdd, Int.reduceSub, Int.reduceMul, Int.reduceToNat, decide_true, decide_false, Bool.not_true, Bool.not_false, calleeOf, rsW, getD_map, rowL_cells, rowR_cells, Int.toNat_natCast, List.length_map, txts_length, txts_getD, List.take_length, h]
    refine callG1 (refVerFit_pure _) rfl (hk := ?_)
    simp (disch := omega) only [rsA, ↓reduceIte, Nat.reduceEqDiff, Nat.reduceAdd, Int.reduceLT, Int.reduceLE, Int.reduceAdd, Int.reduceSub, Int.reduceMul, Int.reduceToNat, decide_true, decide_false, Bool.not_true, Bool.not_false, calleeOf, rsW, getD_map, rowL_cells, rowR_cells, Int.toNat_natCast, List.length_map, txts_length, txts_getD, List.take_length, h]
    first | exact hK | exact fin hK
  refine AWS.cI (h1 := fun h1 => by cases h1) (h2 := fun h1 => ?_)
  clear h1
  refine .skip (.seq ?_)
  apply AWS.rg [2]
  · intro K hK
    simp (maxSteps := 2000000) (disch := omega) only [rsA, ↓reduceIte, Nat.reduceEqDiff, Nat.reduceAdd, Int.reduceLT, Int.reduceLE, Int.reduceAdd, Int.reduceSub, Int.reduceMul, Int.reduceToNat, decide_true, decide_false, Bool.not_true, Bool.not_false, rsW, Int.tmod_eq_emod_of_nonneg, Int.tdiv_eq_ediv_of_nonneg, calleeOf, getD_map, rowL_cells, rowR_cells, Int.toNat_natCast, List.length_map, txts_length, txts_getD, List.take_length]
    refine callG1 (digits_pure _ (by omega) (by omega)) rfl (hk := ?_)
    simp (maxSteps := 2000000) (disch := omega) only [rsA, ↓reduceIte, Nat.reduceEqDiff, Nat.reduceAdd, Int.reduceLT, Int.reduceLE, Int.reduceAdd, Int.reduceSub, Int.reduceMul, Int.reduceToNat, decide_true, decide_false, Bool.not_true, Bool.not_false, rsW, Int.tmod_eq_emod_of_nonneg, Int.tdiv_eq_ediv_of_nonneg, calleeOf, getD_map, rowL_cells, rowR_cells, Int.toNat_natCast, List.length_map, txts_length, txts_getD, List.take_length]
    refine callG1 (digits_pure _ (by omega) (by omega)) rfl (hk := ?_)
    simp (maxSteps := 2000000) (disch := omega) only [rsA, ↓reduceIte, Nat.reduceEqDiff, Nat.reduceAdd, Int.reduceLT, Int.reduceLE, Int.reduceAdd, Int.reduceSub, Int.reduceMul, Int.reduceToNat, decide_true, decide_false, Bool.not_true, Bool.not_false, rsW, Int.tmod_eq_emod_of_nonneg, Int.tdiv_eq_ediv_of_nonneg, calleeOf, getD_map, rowL_cells, rowR_cells, Int.toNat_natCast, List.length_map, txts_length, txts_getD, List.take_length]
    refine callG1 (digits_pure _ (by omega) (by omega)) rfl (hk := ?_)
    simp (maxSteps := 2000000) (disch := omega) only [rsA, ↓reduceIte, Nat.reduceEqDiff, Nat.reduceAdd, Int.reduceLT, Int.reduceLE, Int.reduceAdd, Int.reduceSub, Int.reduceMul, Int.reduceToNat, decide_true, decide_false, Bool.not_true, Bool.not_false, rsW, Int.tmod_eq_emod_of_nonneg, Int.tdiv_eq_ediv_of_nonneg, calleeOf, getD_map, rowL_cells, rowR_cells, Int.toNat_natCast, List.length_map, txts_length, txts_getD, List.take_length]
    first | exact hK | exact fin hK
  refine .ret ?_
  simp only [results70, rsR, ↓reduceIte, Nat.reduceEqDiff]
  rw [verText_ok h]
  simp
/-- comprador/compradorref05.Text -/
theorem refText_no (p : Int) (h : verFit p = false) : APure prog 70 [.lit (.int .i64 (p))] (.pv (.lit (.string (str (verText p))))) := by
  apply go func70
  refine .seq ?_
  apply AWS.rg [0]
  · intro K hK
    simp (disch := omega) only [rsA, ↓reduceIte, Nat.reduceEqDiff, Nat.reduceAdd, Int.reduceLT, Int.reduceLE, Int.reduceAdd, Int.reduceSub, Int.reduceMul, Int.reduceToNat, decide_true, decide_false, Bool.not_true, Bool.not_false, getD_map, rowL_cells, rowR_cells, Int.toNat_natCast, List.length_map, txts_length, txts_getD, List.take_length]
    first | exact hK | exact fin hK
  refine .seq (.seq ?_)
  apply AWS.rg [0, 5]
  · intro K hK
    simp (disch := omega) only [rsA, ↓reduceIte, Nat.reduceEqDiff, Nat.reduceAdd, Int.reduceLT, Int.reduceLE, Int.reduceAdd, Int.reduceSub, Int.reduceMul, Int.reduceToNat, decide_true, decide_false, Bool.not_true, Bool.not_false, calleeOf, rsW, getD_map, rowL_cells, rowR_cells, Int.toNat_natCast, List.length_map, txts_length, txts_getD, List.take_length, h]
    refine callG1 (refVerFit_pure _) rfl (hk := ?_)
    simp (disch := omega) only [rsA, ↓reduceIte, Nat.reduceEqDiff, Nat.reduceAdd, Int.reduceLT, Int.reduceLE, Int.reduceAdd, Int.reduceSub, Int.reduceMul, Int.reduceToNat, decide_true, decide_false, Bool.not_true, Bool.not_false, calleeOf, rsW, getD_map, rowL_cells, rowR_cells, Int.toNat_natCast, List.length_map, txts_length, txts_getD, List.take_length, h]
    first | exact hK | exact fin hK
  refine AWS.cI (h1 := fun h1 => ?_) (h2 := fun h1 => by cases h1)
  clear h1
  refine .seq ?_
  apply AWS.rg [2]
  · intro K hK
    simp (disch := omega) only [rsA, ↓reduceIte, Nat.reduceEqDiff, Nat.reduceAdd, Int.reduceLT, Int.reduceLE, Int.reduceAdd, Int.reduceSub, Int.reduceMul, Int.reduceToNat, decide_true, decide_false, Bool.not_true, Bool.not_false, getD_map, rowL_cells, rowR_cells, Int.toNat_natCast, List.length_map, txts_length, txts_getD, List.take_length]
    first | exact hK | exact fin hK
  refine .ret ?_
  simp only [results70, rsR, ↓reduceIte, Nat.reduceEqDiff]
  rw [verText_no h]

theorem refText_pure (p : Int) : APure prog 70 [.lit (.int .i64 p)] (.pv (.lit (.string (str (verText p))))) := by
  cases h : verFit p with
  | true => exact refText_ok p h
  | false => exact refText_no p h

theorem wrap_w64 (x : Int) : IntKind.i64.wrap x = w64 x := rfl
theorem verStep_none {s : VS} {c : Int} (h1 : ¬ (c = 46 ∧ 0 < s.n ∧ s.k < 2)) (h2 : ((c < 48 ∨ 57 < c) ∨ s.n = 3) ∨ (0 < s.n ∧ s.cur = 0)) : verStep s c = none := by
  rw [verStep, if_neg h1, if_pos h2]
theorem verStep_dot {s : VS} {c : Int} (h1 : c = 46 ∧ 0 < s.n ∧ s.k < 2) : verStep s c = some { s with k := s.k + 1, n := 0 } := by
  rw [verStep, if_pos h1]
theorem verStep_dig {s : VS} {c : Int} (h1 : ¬ (c = 46 ∧ 0 < s.n ∧ s.k < 2)) (h2 : ¬ (((c < 48 ∨ 57 < c) ∨ s.n = 3) ∨ (0 < s.n ∧ s.cur = 0))) : verStep s c = some (s.put (s.cur * 10 + (c - 48))) := by
  rw [verStep, if_neg h1, if_neg h2]
theorem good_k {s : VS} (h : s.good) : 0 ≤ s.k ∧ s.k ≤ 2 := by
  unfold VS.good at h; omega
theorem good_n {s : VS} (h : s.good) : (0 ≤ s.n ∧ s.n ≤ 3) ∧ 0 ≤ s.cur ∧ s.cur ≤ 999 := by
  unfold VS.good partOk at h; unfold VS.cur; (repeat' split) <;> omega
theorem put_k (s : VS) (x : Int) : (s.put x).k = s.k ∧ (s.put x).n = s.n + 1 := by
  unfold VS.put; (repeat' split) <;> exact ⟨rfl, rfl⟩

theorem place_good {s : VS} (h : s.good) (hk : s.k = 2) : placeOf s.a s.b s.c = (s.place, true) ∧ verFit s.place = true ∧ s.place / 1000000 = s.a ∧ s.place / 1000 % 1000 = s.b ∧ s.place % 1000 = s.c := by
  unfold VS.good at h
  rcases h with ⟨h1, _⟩ | ⟨h1, _⟩ | ⟨h1, ha, hb, hc⟩
  · omega
  · omega
  · obtain ⟨e1, e2, e3, e4⟩ := place_div s ha hb (partOk_full hc)
    have := partOk_full hc
    unfold full at *
    exact ⟨by rw [placeOf, if_pos (by omega)]; rfl, e4, e1, e2, e3⟩
/-- comprador/ver.Read -/
theorem verRead_pure (l : List UInt8) : APure prog 49 [.lit (.string (str (l)))] (.tuple [.pv (.lit (.int .i64 ((verProg l).1))), .pv (.lit (.bool ((verProg l).2)))]) := by
  apply go func49
  refine .seq ?_
  apply AWS.rg [0]
  · intro K hK
    simp (disch := omega) only [rsA, ↓reduceIte, Nat.reduceEqDiff, Nat.reduceAdd, getD_map, rowL_cells, rowR_cells, Int.toNat_natCast, List.length_map, txts_length, txts_getD, List.take_length]
    first | exact hK | exact fin hK
  refine .seq ?_
  apply AWS.rg [0, 4]
  · intro K hK
    simp (disch := omega) only [rsA, ↓reduceIte, Nat.reduceEqDiff, Nat.reduceAdd, fillA, mkAgg, allPlain, Places.at, splice, AV.cells, AV.whole, List.all_cons, List.all_nil, Bool.and_true, constA_int, constA_bool, constA_string, constA_nil, Nat.reduceLeDiff, Nat.zero_add, Value.oneCell', ty_places_100, stepX, ty_zero_100, ty_shape_100, getD_map, rowL_cells, rowR_cells, Int.toNat_natCast, List.length_map, txts_length, txts_getD, List.take_length]
    first | exact hK | exact fin hK
  refine .seq ?_
  apply AWS.rg [0, 4, 5, 6]
  · intro K hK
    simp (disch := omega) only [rsA, ↓reduceIte, Nat.reduceEqDiff, Nat.reduceAdd, getD_map, rowL_cells, rowR_cells, Int.toNat_natCast, List.length_map, txts_length, txts_getD, List.take_length]
    first | exact hK | exact fin hK
  refine .seq (.seq ?_)
  apply AWS.rg [4, 5, 6, 15]
  · intro K hK
    simp (disch := omega) only [rsA, ↓reduceIte, Nat.reduceEqDiff, Nat.reduceAdd, stepX, ty_str_9, getD_map, rowL_cells, rowR_cells, Int.toNat_natCast, List.length_map, txts_length, txts_getD, List.take_length]
    first | exact hK | exact fin hK
  refine .block ?_
  apply AWS.lp [5, 6] [4, 15] (fun zz : Nat × VS => l.length - zz.1) (fun zz => [.pv (.lit (.int .i64 (zz.2.k))), .pv (.lit (.int .i64 (zz.2.n)))]) (fun zz => [.box 100 (vsC zz.2), .siter (str l) zz.1]) (fun zz => zz.2.good ∧ verScan (runes (l.drop zz.1)) zz.2 = verScan (runes l) vs0) ((0, vs0)) (⟨good0, by simp⟩)
  rintro ⟨pos, s⟩ hI ih
  try dsimp only at hI
  obtain ⟨hg, hI⟩ := hI
  have hk := good_k hg
  have hn := good_n hg
  refine .seq ?_
  apply AWS.rg [4, 5, 6, 15, 16, 17]
  · intro K hK
    simp (disch := omega) only [rsA, ↓reduceIte, Nat.reduceEqDiff, Nat.reduceAdd, stepX, getD_map, rowL_cells, rowR_cells, Int.toNat_natCast, List.length_map, txts_length, txts_getD, List.take_length, vs_get, vs_put, vs_len, nextW]
    first | exact hK | exact fin hK
  refine .seq ?_
  refine AWS.cI (h1 := fun h1 => ?_) (h2 := fun h1 => ?_)
  · simp only [rsC, decide_eq_true_eq, decide_eq_false_iff_not] at h1
    refine .skip (.block (.seq ?_))
    apply AWS.rg [4, 5, 6, 8, 15]
    · intro K hK
      simp (disch := omega) only [rsA, ↓reduceIte, Nat.reduceEqDiff, Nat.reduceAdd, h1, decide_true, getD_map, rowL_cells, rowR_cells, Int.toNat_natCast, List.length_map, txts_length, txts_getD, List.take_length, vs_get, vs_put, vs_len, nextW]
      first | exact hK | exact fin hK
    refine .block (.seq ?_)
    apply AWS.rg [4, 5, 6, 8, 15, 31]
    · intro K hK
      simp (maxSteps := 2000000) (disch := omega) only [rsA, ↓reduceIte, Nat.reduceEqDiff, Nat.reduceAdd, rsW, reduceCtorEq, ty_bool_21, getD_map, rowL_cells, rowR_cells, Int.toNat_natCast, List.length_map, txts_length, txts_getD, List.take_length, vs_get, vs_put, vs_len, nextW]
      first | exact hK | exact fin hK | exact fin2 hK
    refine AWS.cI (h1 := fun h2 => ?_) (h2 := fun h2 => ?_)
    · simp only [rsC, decide_eq_true_eq, decide_eq_false_iff_not] at h2
      apply AWS.rg [4, 5, 6, 15]
      · intro K hK
        simp (disch := omega) only [rsA, ↓reduceIte, Nat.reduceEqDiff, Nat.reduceAdd, rsW, getD_map, rowL_cells, rowR_cells, Int.toNat_natCast, List.length_map, txts_length, txts_getD, List.take_length]
        first | exact hK | exact fin hK
      refine .inBlock (.inBlock ?_)
      have hw := decodeL_pos (l.drop pos)
      rw [runes_drop h1, verScan, verStep_dot (s := s) (c := ((Lib.decodeL (l.drop pos)).1 : Int)) (by omega)] at hI
      refine AWS.bk 2 (ih ((pos + (Lib.decodeL (l.drop pos)).2, { s with k := s.k + 1, n := 0 })) (by first | omega | (dsimp only; omega)) (⟨(verStep_good _ _ _ hg (verStep_dot (s := s) (c := ((Lib.decodeL (l.drop pos)).1 : Int)) (by omega))).1, hI⟩)) ?_ ?_
      · first | rfl | (simp; done)
      · simp [rs0]
    · simp only [rsC, decide_eq_true_eq, decide_eq_false_iff_not] at h2
      refine .seq ?_
      apply AWS.rg [4, 5, 6, 8, 15, 44]
      · intro K hK
        simp (maxSteps := 2000000) (disch := omega) only [rsA, ↓reduceIte, Nat.reduceEqDiff, Nat.reduceAdd, rsW, reduceCtorEq, ty_bool_3, cells_lit, cells_agg, cells_list, listOf, ty_slice_100, ty_array_100, loadX, partX, mkAgg, allPlain, Nat.reduceLeDiff, Nat.le_refl, ty_shape_3, getD_map, rowL_cells, rowR_cells, Int.toNat_natCast, List.length_map, txts_length, txts_getD, List.take_length, vs_get, vs_put, vs_len, nextW]
        first | exact hK | exact fin hK | exact fin2 hK
      refine AWS.cI (h1 := fun h3 => ?_) (h2 := fun h3 => ?_)
      · simp only [rsC, decide_eq_true_eq, decide_eq_false_iff_not] at h3
        refine .seq ?_
        apply AWS.rg [2, 3]
        · intro K hK
          simp (disch := omega) only [rsA, ↓reduceIte, Nat.reduceEqDiff, Nat.reduceAdd, getD_map, rowL_cells, rowR_cells, Int.toNat_natCast, List.length_map, txts_length, txts_getD, List.take_length]
          first | exact hK | exact fin hK
        refine .ret ?_
        simp only [results49, rsR, ↓reduceIte, Nat.reduceEqDiff]
        have hz : verProg l = (0, false) := by
          unfold verProg
          rw [← hI, runes_drop h1, verScan, verStep_none (s := s) (c := ((Lib.decodeL (l.drop pos)).1 : Int)) (by omega) (by omega)]
          rfl
        rw [hz]
        exact ⟨rfl, rfl⟩
      · simp only [rsC, decide_eq_true_eq, decide_eq_false_iff_not] at h3
        refine .seq ?_
        apply AWS.rg [4, 5, 6, 15]
        · intro K hK
          simp (maxSteps := 2000000) (disch := omega) only [rsA, ↓reduceIte, Nat.reduceEqDiff, Nat.reduceAdd, cells_lit, cells_agg, cells_list, listOf, ty_slice_100, ty_array_100, loadX, partX, mkAgg, allPlain, Nat.reduceLeDiff, Nat.le_refl, ty_shape_3, rsW, ty_bytes_21, ty_bytes_3, ty_int_3, ty_str_3, ty_str_21, ty_und_21, stepX, splice, AV.whole, AV.cells, getD_map, rowL_cells, rowR_cells, Int.toNat_natCast, List.length_map, txts_length, txts_getD, List.take_length, vs_get, vs_put, vs_len, nextW]
          first | exact hK | exact fin hK
        apply AWS.rg [4, 5, 6, 15]
        · intro K hK
          simp (disch := omega) only [rsA, ↓reduceIte, Nat.reduceEqDiff, Nat.reduceAdd, rsW, getD_map, rowL_cells, rowR_cells, Int.toNat_natCast, List.length_map, txts_length, txts_getD, List.take_length]
          first | exact hK | exact fin hK
        refine .inBlock (.inBlock ?_)
        have hw := decodeL_pos (l.drop pos)
        rw [runes_drop h1, verScan, verStep_dig (s := s) (c := ((Lib.decodeL (l.drop pos)).1 : Int)) (by omega) (by omega)] at hI
        refine AWS.bk 2 (ih ((pos + (Lib.decodeL (l.drop pos)).2, s.put (s.cur * 10 + (((Lib.decodeL (l.drop pos)).1 : Int) - 48)))) (by first | omega | (dsimp only; omega)) (⟨(verStep_good _ _ _ hg (verStep_dig (s := s) (c := ((Lib.decodeL (l.drop pos)).1 : Int)) (by omega) (by omega))).1, hI⟩)) ?_ ?_
        · first | rfl | (simp [vs_put2 s hk]; done)
        · simp [rs0, put_k]
  · simp only [rsC, decide_eq_true_eq, decide_eq_false_iff_not] at h1
    refine .exit rfl (.seq (.seq ?_))
    apply AWS.rg [4, 70]
    · intro K hK
      simp (disch := omega) only [rsA, ↓reduceIte, Nat.reduceEqDiff, Nat.reduceAdd, rsW, reduceCtorEq, ty_bool_3, getD_map, rowL_cells, rowR_cells, Int.toNat_natCast, List.length_map, txts_length, txts_getD, List.take_length]
      first | exact hK | exact fin hK | exact fin2 hK
    refine AWS.cI (h1 := fun h4 => ?_) (h2 := fun h4 => ?_)
    · simp only [rsC, decide_eq_true_eq, decide_eq_false_iff_not] at h4
      refine .seq ?_
      apply AWS.rg [2, 3]
      · intro K hK
        simp (disch := omega) only [rsA, ↓reduceIte, Nat.reduceEqDiff, Nat.reduceAdd, getD_map, rowL_cells, rowR_cells, Int.toNat_natCast, List.length_map, txts_length, txts_getD, List.take_length]
        first | exact hK | exact fin hK
      refine .ret ?_
      simp only [results49, rsR, ↓reduceIte, Nat.reduceEqDiff]
      have hz : verProg l = (0, false) := by
        unfold verProg
        rw [← hI, runes_end h1, verScan]
        simp only
        rw [if_pos (by omega)]
      rw [hz]
      exact ⟨rfl, rfl⟩
    · simp only [rsC, decide_eq_true_eq, decide_eq_false_iff_not] at h4
      refine .skip (.seq ?_)
      obtain ⟨hpl, e4, e1, e2, e3⟩ := place_good hg (by omega)
      apply AWS.rg [4, 9, 10]
      · intro K hK
        simp (disch := omega) only [rsA, ↓reduceIte, Nat.reduceEqDiff, Nat.reduceAdd, cells_lit, cells_agg, cells_list, loadX, partX, mkAgg, allPlain, Nat.reduceLeDiff, Nat.le_refl, ty_shape_100, calleeOf, getD_map, rowL_cells, rowR_cells, Int.toNat_natCast, List.length_map, txts_length, txts_getD, List.take_length, vsC, hpl]
        refine callG1 (place_pure _ _ _) rfl (hk := ?_)
        simp (disch := omega) only [rsA, ↓reduceIte, Nat.reduceEqDiff, Nat.reduceAdd, cells_lit, cells_agg, cells_list, loadX, partX, mkAgg, allPlain, Nat.reduceLeDiff, Nat.le_refl, ty_shape_100, calleeOf, getD_map, rowL_cells, rowR_cells, Int.toNat_natCast, List.length_map, txts_length, txts_getD, List.take_length, vsC, hpl]
        first | exact hK | exact fin hK
      refine .seq ?_
      apply AWS.rg [4, 9, 10, 11]
      · intro K hK
        simp (disch := omega) only [rsA, ↓reduceIte, Nat.reduceEqDiff, Nat.reduceAdd, calleeOf, stepX, ty_zero_100, splice, AV.whole, AV.cells, ty_shape_100, getD_map, rowL_cells, rowR_cells, Int.toNat_natCast, List.length_map, txts_length, txts_getD, List.take_length, e4]
        refine callG1 (parts_ok s.place e4) rfl (hk := ?_)
        simp (disch := omega) only [rsA, ↓reduceIte, Nat.reduceEqDiff, Nat.reduceAdd, calleeOf, stepX, ty_zero_100, splice, AV.whole, AV.cells, ty_shape_100, getD_map, rowL_cells, rowR_cells, Int.toNat_natCast, List.length_map, txts_length, txts_getD, List.take_length, e4]
        first | exact hK | exact fin hK
      refine .seq ?_
      apply AWS.rg [2, 3]
      · intro K hK
        simp (maxSteps := 2000000) (disch := omega) only [rsA, ↓reduceIte, Nat.reduceEqDiff, Nat.reduceAdd, cells_lit, cells_agg, cells_list, loadX, partX, mkAgg, allPlain, Nat.reduceLeDiff, Nat.le_refl, ty_shape_100, rsW, reduceCtorEq, ty_bool_100, getD_map, rowL_cells, rowR_cells, Int.toNat_natCast, List.length_map, txts_length, txts_getD, List.take_length, arr3_eq, e1, e2, e3, and_self, decide_true]
        first | exact hK | exact fin hK | exact fin2 hK
      refine .ret ?_
      simp only [results49, rsR, ↓reduceIte, Nat.reduceEqDiff]
      have hz : verProg l = (s.place, true) := by
        unfold verProg
        rw [← hI, runes_end h1, verScan]
        simp only
        rw [if_neg (by omega)]
      rw [hz]
      exact ⟨rfl, rfl⟩

theorem drop_bytes (l : List UInt8) (i : Nat) (h : i < l.length) : l.drop i = l.getD i 0 :: l.drop (i + 1) := by
  rw [List.drop_eq_getElem_cons h]
  simp [List.getD, h]
theorem byteI_nat (l : List UInt8) (i : Nat) : byteI l i = ((l.getD i 0).toNat : Int) := rfl
theorem num_dot {l : List UInt8} {i : Nat} {p n : Int} (h : i < l.length) (hc : byteI l i = 46) : (l.drop i).foldl numStep (p, n) = (l.drop (i + 1)).foldl numStep (w64 (w64 (p + n) * 1000), 0) := by
  rw [drop_bytes l i h, List.foldl_cons, numStep, if_pos (by rw [← byteI_nat]; exact hc)]
theorem num_dig {l : List UInt8} {i : Nat} {p n : Int} (h : i < l.length) (hc : ¬ byteI l i = 46) : (l.drop i).foldl numStep (p, n) = (l.drop (i + 1)).foldl numStep (p, w64 (w64 (n * 10) + byteI l i % 48 % 10)) := by
  rw [drop_bytes l i h, List.foldl_cons, numStep, if_neg (by rw [← byteI_nat]; exact hc), ← byteI_nat]
theorem hex_hi {l : List UInt8} {i : Nat} {n : Int} (h : i < l.length) (hc : 97 ≤ byteI l i) : (l.drop i).foldl hexStep n = (l.drop (i + 1)).foldl hexStep (w64 (w64 (n * 16) + (byteI l i - 87) % 16)) := by
  rw [drop_bytes l i h, List.foldl_cons, hexStep, if_pos (by rw [← byteI_nat]; exact hc), ← byteI_nat]
theorem hex_lo {l : List UInt8} {i : Nat} {n : Int} (h : i < l.length) (hc : ¬ 97 ≤ byteI l i) : (l.drop i).foldl hexStep n = (l.drop (i + 1)).foldl hexStep (w64 (w64 (n * 16) + byteI l i % 16)) := by
  rw [drop_bytes l i h, List.foldl_cons, hexStep, if_neg (by rw [← byteI_nat]; exact hc), ← byteI_nat]
/-- comprador/compradorref05.Read -/
theorem refRead_pure (l : List UInt8) : APure prog 53 [.lit (.string (str (l)))] (.tuple [.pv (.lit (.int .i64 ((verRef l).1))), .pv (.lit (.bool ((verRef l).2)))]) := by
  apply go func53
  refine .seq ?_
  apply AWS.rg [0]
  · intro K hK
    simp (disch := omega) only [rsA, ↓reduceIte, Nat.reduceEqDiff, Nat.reduceAdd, getD_map, rowL_cells, rowR_cells, Int.toNat_natCast, List.length_map, txts_length, txts_getD, List.take_length, wrap_w64]
    first | exact hK | exact fin hK
  refine .seq (.seq ?_)
  apply AWS.rg [0, 9]
  · intro K hK
    simp (disch := omega) only [rsA, ↓reduceIte, Nat.reduceEqDiff, Nat.reduceAdd, listOf, ty_str_9, ty_slice_9, rsW, getD_map, rowL_cells, rowR_cells, Int.toNat_natCast, List.length_map, txts_length, txts_getD, List.take_length, wrap_w64]
    first | exact hK | exact fin hK
  refine AWS.cI (h1 := fun h1 => ?_) (h2 := fun h1 => ?_)
  · simp only [rsC, decide_eq_true_eq, decide_eq_false_iff_not] at h1
    refine .seq ?_
    apply AWS.rg [2, 3]
    · intro K hK
      simp (disch := omega) only [rsA, ↓reduceIte, Nat.reduceEqDiff, Nat.reduceAdd, getD_map, rowL_cells, rowR_cells, Int.toNat_natCast, List.length_map, txts_length, txts_getD, List.take_length, wrap_w64]
      first | exact hK | exact fin hK
    refine .ret ?_
    simp only [results53, rsR, ↓reduceIte, Nat.reduceEqDiff]
    rw [verRef, if_pos (by omega)]
    exact ⟨rfl, rfl⟩
  · simp only [rsC, decide_eq_true_eq, decide_eq_false_iff_not] at h1
    refine .skip (.seq ?_)
    apply AWS.rg [0, 4, 5]
    · intro K hK
      simp (disch := omega) only [rsA, ↓reduceIte, Nat.reduceEqDiff, Nat.reduceAdd, getD_map, rowL_cells, rowR_cells, Int.toNat_natCast, List.length_map, txts_length, txts_getD, List.take_length, wrap_w64]
      first | exact hK | exact fin hK
    refine .seq (.seq ?_)
    apply AWS.rg [0, 4, 5, 6]
    · intro K hK
      simp (disch := omega) only [rsA, ↓reduceIte, Nat.reduceEqDiff, Nat.reduceAdd, getD_map, rowL_cells, rowR_cells, Int.toNat_natCast, List.length_map, txts_length, txts_getD, List.take_length, wrap_w64]
      first | exact hK | exact fin hK
    refine .block ?_
    apply AWS.lp [4, 5, 6] [0] (fun zz : Nat × Int × Int => l.length - zz.1) (fun zz => [.pv (.lit (.int .i64 (zz.2.1))), .pv (.lit (.int .i64 (zz.2.2))), .pv (.lit (.int .i64 (zz.1)))]) (fun zz => []) (fun zz => zz.1 ≤ l.length ∧ (l.drop zz.1).foldl numStep (zz.2.1, zz.2.2) = numOf l) ((0, 0, 0)) (⟨by simp, rfl⟩)
    rintro ⟨i, p, n⟩ hI ih
    try dsimp only at hI
    obtain ⟨hi1, hI⟩ := hI
    have hb := byteI_range l i
    refine .seq (.seq ?_)
    apply AWS.rg [0, 4, 5, 6, 13]
    · intro K hK
      simp (disch := omega) only [rsA, ↓reduceIte, Nat.reduceEqDiff, Nat.reduceAdd, listOf, ty_str_9, ty_slice_9, rsW, getD_map, rowL_cells, rowR_cells, Int.toNat_natCast, List.length_map, txts_length, txts_getD, List.take_length, wrap_w64]
      first | exact hK | exact fin hK
    refine AWS.cI (h1 := fun h2 => ?_) (h2 := fun h2 => ?_)
    · simp only [rsC, decide_eq_true_eq, decide_eq_false_iff_not] at h2
      refine .skip (.seq (.block (.seq ?_)))
      apply AWS.rg [0, 4, 5, 6, 19]
      · intro K hK
        simp (disch := omega) only [rsA, ↓reduceIte, Nat.reduceEqDiff, Nat.reduceAdd, partX, partAX, ty_str_9, ty_array_9, rsW, reduceCtorEq, ty_bool_5, getD_map, rowL_cells, rowR_cells, Int.toNat_natCast, List.length_map, txts_length, txts_getD, List.take_length, wrap_w64]
        first | exact hK | exact fin hK
      refine AWS.cI (h1 := fun h3 => ?_) (h2 := fun h3 => ?_)
      · simp only [rsC, decide_eq_true_eq, decide_eq_false_iff_not] at h3
        refine .seq ?_
        apply AWS.rg [0, 4, 6]
        · intro K hK
          simp (disch := omega) only [rsA, ↓reduceIte, Nat.reduceEqDiff, Nat.reduceAdd, rsW, getD_map, rowL_cells, rowR_cells, Int.toNat_natCast, List.length_map, txts_length, txts_getD, List.take_length, wrap_w64]
          first | exact hK | exact fin hK
        apply AWS.rg [0, 4, 5, 6]
        · intro K hK
          simp (disch := omega) only [rsA, ↓reduceIte, Nat.reduceEqDiff, Nat.reduceAdd, getD_map, rowL_cells, rowR_cells, Int.toNat_natCast, List.length_map, txts_length, txts_getD, List.take_length, wrap_w64]
          first | exact hK | exact fin hK
        refine .inBlock ?_
        apply AWS.rg [0, 4, 5, 6]
        · intro K hK
          simp (disch := omega) only [rsA, ↓reduceIte, Nat.reduceEqDiff, Nat.reduceAdd, rsW, getD_map, rowL_cells, rowR_cells, Int.toNat_natCast, List.length_map, txts_length, txts_getD, List.take_length, wrap_w64]
          first | exact hK | exact fin hK
        rw [num_dot (by omega) h3] at hI
        refine AWS.bk 0 (ih ((i + 1, w64 (w64 (p + n) * 1000), 0)) (by first | omega | (dsimp only; omega)) (⟨by dsimp only; omega, hI⟩)) ?_ ?_
        · first | rfl | (simp; done)
        · simp [rs0]
      · simp only [rsC, decide_eq_true_eq, decide_eq_false_iff_not] at h3
        apply AWS.rg [0, 4, 5, 6]
        · intro K hK
          simp (maxSteps := 2000000) (disch := omega) only [rsA, ↓reduceIte, Nat.reduceEqDiff, Nat.reduceAdd, rsW, partX, partAX, ty_str_9, ty_array_9, listOf, ty_bytes_5, ty_bytes_3, ty_int_3, ty_str_3, ty_str_5, ty_und_5, Int.tmod_eq_emod_of_nonneg, Int.tdiv_eq_ediv_of_nonneg, getD_map, rowL_cells, rowR_cells, Int.toNat_natCast, List.length_map, txts_length, txts_getD, List.take_length, wrap_w64]
          first | exact hK | exact fin hK
        refine .inBlock ?_
        apply AWS.rg [0, 4, 5, 6]
        · intro K hK
          simp (disch := omega) only [rsA, ↓reduceIte, Nat.reduceEqDiff, Nat.reduceAdd, rsW, getD_map, rowL_cells, rowR_cells, Int.toNat_natCast, List.length_map, txts_length, txts_getD, List.take_length, wrap_w64]
          first | exact hK | exact fin hK
        rw [num_dig (by omega) h3] at hI
        refine AWS.bk 0 (ih ((i + 1, p, w64 (w64 (n * 10) + byteI l i % 48 % 10))) (by first | omega | (dsimp only; omega)) (⟨by dsimp only; omega, hI⟩)) ?_ ?_
        · first | rfl | (simp; done)
        · simp [rs0]
    · simp only [rsC, decide_eq_true_eq, decide_eq_false_iff_not] at h2
      refine .exit rfl (.seq ?_)
      apply AWS.rg [0, 4]
      · intro K hK
        simp (disch := omega) only [rsA, ↓reduceIte, Nat.reduceEqDiff, Nat.reduceAdd, rsW, getD_map, rowL_cells, rowR_cells, Int.toNat_natCast, List.length_map, txts_length, txts_getD, List.take_length, wrap_w64]
        first | exact hK | exact fin hK
      refine .seq (.seq ?_)
      apply AWS.rg [4, 43]
      · intro K hK
        simp (disch := omega) only [rsA, ↓reduceIte, Nat.reduceEqDiff, Nat.reduceAdd, rsW, reduceCtorEq, ty_bool_9, calleeOf, getD_map, rowL_cells, rowR_cells, Int.toNat_natCast, List.length_map, txts_length, txts_getD, List.take_length, wrap_w64]
        refine callG2 (fun hg => refText_pure _) rfl (hk := ?_)
        simp (disch := omega) only [rsA, ↓reduceIte, Nat.reduceEqDiff, Nat.reduceAdd, rsW, reduceCtorEq, ty_bool_9, calleeOf, getD_map, rowL_cells, rowR_cells, Int.toNat_natCast, List.length_map, txts_length, txts_getD, List.take_length, wrap_w64]
        first | exact hK | exact fin hK | exact fin2 hK
      refine AWS.cI (h1 := fun h4 => ?_) (h2 := fun h4 => ?_)
      · simp only [rsC, decide_eq_true_eq, decide_eq_false_iff_not] at h4
        refine .seq ?_
        apply AWS.rg [2, 3]
        · intro K hK
          simp (disch := omega) only [rsA, ↓reduceIte, Nat.reduceEqDiff, Nat.reduceAdd, getD_map, rowL_cells, rowR_cells, Int.toNat_natCast, List.length_map, txts_length, txts_getD, List.take_length, wrap_w64]
          first | exact hK | exact fin hK
        refine .ret ?_
        simp only [results53, rsR, ↓reduceIte, Nat.reduceEqDiff]
        have e : numOf l = (p, n) := by
          rw [← hI, List.drop_eq_nil_of_le (by omega)]; rfl
        rw [verRef, if_neg (by omega), e, if_pos h4]
        exact ⟨rfl, rfl⟩
      · simp only [rsC, decide_eq_true_eq, decide_eq_false_iff_not] at h4
        refine .skip (.seq ?_)
        apply AWS.rg [2, 3]
        · intro K hK
          simp (disch := omega) only [rsA, ↓reduceIte, Nat.reduceEqDiff, Nat.reduceAdd, getD_map, rowL_cells, rowR_cells, Int.toNat_natCast, List.length_map, txts_length, txts_getD, List.take_length, wrap_w64]
          first | exact hK | exact fin hK
        refine .ret ?_
        simp only [results53, rsR, ↓reduceIte, Nat.reduceEqDiff]
        have e : numOf l = (p, n) := by
          rw [← hI, List.drop_eq_nil_of_le (by omega)]; rfl
        rw [verRef, if_neg (by omega), e, if_neg (by rintro (h | h); exact h4.1 h; exact h h4.2)]
        exact ⟨rfl, rfl⟩
/-- comprador/compradorref57.number -/
theorem number_pure (l : List UInt8) (hl : l.length ≤ 1000000) : APure prog 69 [.lit (.string (str (l)))] (.pv (.lit (.int .i64 (hexNum l)))) := by
  apply go func69
  refine .seq ?_
  apply AWS.rg [0]
  · intro K hK
    simp (disch := omega) only [rsA, ↓reduceIte, Nat.reduceEqDiff, Nat.reduceAdd, getD_map, rowL_cells, rowR_cells, Int.toNat_natCast, List.length_map, txts_length, txts_getD, List.take_length, wrap_w64]
    first | exact hK | exact fin hK
  refine .seq ?_
  apply AWS.rg [0, 3]
  · intro K hK
    simp (disch := omega) only [rsA, ↓reduceIte, Nat.reduceEqDiff, Nat.reduceAdd, getD_map, rowL_cells, rowR_cells, Int.toNat_natCast, List.length_map, txts_length, txts_getD, List.take_length, wrap_w64]
    first | exact hK | exact fin hK
  refine .seq (.seq ?_)
  apply AWS.rg [0, 3, 4]
  · intro K hK
    simp (disch := omega) only [rsA, ↓reduceIte, Nat.reduceEqDiff, Nat.reduceAdd, getD_map, rowL_cells, rowR_cells, Int.toNat_natCast, List.length_map, txts_length, txts_getD, List.take_length, wrap_w64]
    first | exact hK | exact fin hK
  refine .block ?_
  apply AWS.lp [3, 4] [0] (fun zz : Nat × Int => l.length - zz.1) (fun zz => [.pv (.lit (.int .i64 (zz.2))), .pv (.lit (.int .i64 (zz.1)))]) (fun zz => []) (fun zz => zz.1 ≤ l.length ∧ (l.drop zz.1).foldl hexStep zz.2 = hexNum l) ((0, 0)) (⟨by simp, rfl⟩)
  rintro ⟨i, n⟩ hI ih
  try dsimp only at hI
  obtain ⟨hi1, hI⟩ := hI
  have hb := byteI_range l i
  refine .seq (.seq ?_)
  apply AWS.rg [0, 3, 4, 9]
  · intro K hK
    simp (disch := omega) only [rsA, ↓reduceIte, Nat.reduceEqDiff, Nat.reduceAdd, listOf, ty_str_9, ty_slice_9, rsW, getD_map, rowL_cells, rowR_cells, Int.toNat_natCast, List.length_map, txts_length, txts_getD, List.take_length, wrap_w64]
    first | exact hK | exact fin hK
  refine AWS.cI (h1 := fun h1 => ?_) (h2 := fun h1 => ?_)
  · simp only [rsC, decide_eq_true_eq, decide_eq_false_iff_not] at h1
    refine .skip (.seq (.block (.seq ?_)))
    apply AWS.rg [0, 3, 4, 5]
    · intro K hK
      simp (disch := omega) only [rsA, ↓reduceIte, Nat.reduceEqDiff, Nat.reduceAdd, partX, partAX, ty_str_9, ty_array_9, rsW, listOf, ty_bytes_5, ty_bytes_3, ty_int_3, ty_str_3, ty_str_5, ty_und_5, getD_map, rowL_cells, rowR_cells, Int.toNat_natCast, List.length_map, txts_length, txts_getD, List.take_length, wrap_w64]
      first | exact hK | exact fin hK
    refine .seq ?_
    apply AWS.rg [0, 3, 4, 5, 17]
    · intro K hK
      simp (disch := omega) only [rsA, ↓reduceIte, Nat.reduceEqDiff, Nat.reduceAdd, rsW, getD_map, rowL_cells, rowR_cells, Int.toNat_natCast, List.length_map, txts_length, txts_getD, List.take_length, wrap_w64]
      first | exact hK | exact fin hK
    refine AWS.cI (h1 := fun h2 => ?_) (h2 := fun h2 => ?_)
    · simp only [rsC, decide_eq_true_eq, decide_eq_false_iff_not] at h2
      apply AWS.rg [0, 3, 4]
      · intro K hK
        simp (disch := omega) only [rsA, ↓reduceIte, Nat.reduceEqDiff, Nat.reduceAdd, rsW, Int.tmod_eq_emod_of_nonneg, Int.tdiv_eq_ediv_of_nonneg, getD_map, rowL_cells, rowR_cells, Int.toNat_natCast, List.length_map, txts_length, txts_getD, List.take_length, wrap_w64]
        first | exact hK | exact fin hK
      refine .inBlock ?_
      apply AWS.rg [0, 3, 4]
      · intro K hK
        simp (disch := omega) only [rsA, ↓reduceIte, Nat.reduceEqDiff, Nat.reduceAdd, rsW, getD_map, rowL_cells, rowR_cells, Int.toNat_natCast, List.length_map, txts_length, txts_getD, List.take_length, wrap_w64]
        first | exact hK | exact fin hK
      rw [hex_hi (by omega) h2] at hI
      refine AWS.bk 0 (ih ((i + 1, w64 (w64 (n * 16) + (byteI l i - 87) % 16))) (by first | omega | (dsimp only; omega)) (⟨by dsimp only; omega, hI⟩)) ?_ ?_
      · first | rfl | (simp; done)
      · simp [rs0]
    · simp only [rsC, decide_eq_true_eq, decide_eq_false_iff_not] at h2
      apply AWS.rg [0, 3, 4]
      · intro K hK
        simp (disch := omega) only [rsA, ↓reduceIte, Nat.reduceEqDiff, Nat.reduceAdd, rsW, Int.tmod_eq_emod_of_nonneg, Int.tdiv_eq_ediv_of_nonneg, getD_map, rowL_cells, rowR_cells, Int.toNat_natCast, List.length_map, txts_length, txts_getD, List.take_length, wrap_w64]
        first | exact hK | exact fin hK
      refine .inBlock ?_
      apply AWS.rg [0, 3, 4]
      · intro K hK
        simp (disch := omega) only [rsA, ↓reduceIte, Nat.reduceEqDiff, Nat.reduceAdd, rsW, getD_map, rowL_cells, rowR_cells, Int.toNat_natCast, List.length_map, txts_length, txts_getD, List.take_length, wrap_w64]
        first | exact hK | exact fin hK
      rw [hex_lo (by omega) h2] at hI
      refine AWS.bk 0 (ih ((i + 1, w64 (w64 (n * 16) + byteI l i % 16))) (by first | omega | (dsimp only; omega)) (⟨by dsimp only; omega, hI⟩)) ?_ ?_
      · first | rfl | (simp; done)
      · simp [rs0]
  · simp only [rsC, decide_eq_true_eq, decide_eq_false_iff_not] at h1
    refine .exit rfl (.seq ?_)
    apply AWS.rg [2]
    · intro K hK
      simp (disch := omega) only [rsA, ↓reduceIte, Nat.reduceEqDiff, Nat.reduceAdd, getD_map, rowL_cells, rowR_cells, Int.toNat_natCast, List.length_map, txts_length, txts_getD, List.take_length, wrap_w64]
      first | exact hK | exact fin hK
    refine .ret ?_
    simp only [results69, rsR, ↓reduceIte, Nat.reduceEqDiff]
    rw [← hI, List.drop_eq_nil_of_le (by omega)]; rfl
/-- comprador/compradorref57.hex -/
theorem hex_pure (n : Int) (h0 : 0 ≤ n) (h1 : n ≤ 4294967295) : APure prog 71 [.lit (.int .i64 (n))] (.pv (.lit (.string (str (hex8 n))))) := by
  apply go func71
  refine .seq ?_
  apply AWS.rg [0]
  · intro K hK
    simp (disch := omega) only [rsA, ↓reduceIte, Nat.reduceEqDiff, Nat.reduceAdd, getD_map, rowL_cells, rowR_cells, Int.toNat_natCast, List.length_map, txts_length, txts_getD, List.take_length]
    first | exact hK | exact fin hK
  refine .seq ?_
  apply AWS.rg [0, 3]
  · intro K hK
    simp (disch := omega) only [rsA, ↓reduceIte, Nat.reduceEqDiff, Nat.reduceAdd, getD_map, rowL_cells, rowR_cells, Int.toNat_natCast, List.length_map, txts_length, txts_getD, List.take_length]
    first | exact hK | exact fin hK
  refine .seq ?_
  apply AWS.rg [0, 3, 4]
  · intro K hK
    simp (disch := omega) only [rsA, ↓reduceIte, Nat.reduceEqDiff, Nat.reduceAdd, getD_map, rowL_cells, rowR_cells, Int.toNat_natCast, List.length_map, txts_length, txts_getD, List.take_length]
    first | exact hK | exact fin hK
  refine .seq (.seq ?_)
  apply AWS.rg [0, 3, 4, 5]
  · intro K hK
    simp (disch := omega) only [rsA, ↓reduceIte, Nat.reduceEqDiff, Nat.reduceAdd, getD_map, rowL_cells, rowR_cells, Int.toNat_natCast, List.length_map, txts_length, txts_getD, List.take_length]
    first | exact hK | exact fin hK
  refine .block ?_
  apply AWS.lp [0, 4, 5] [3] (fun zz : Nat × Int × List UInt8 => 8 - zz.1) (fun zz => [.pv (.lit (.int .i64 (zz.2.1))), .pv (.lit (.string (str (zz.2.2)))), .pv (.lit (.int .i64 (zz.1)))]) (fun zz => []) (fun zz => zz.1 ≤ 8 ∧ (0 ≤ zz.2.1 ∧ zz.2.1 ≤ 4294967295) ∧ zz.2.2.length = zz.1 ∧ hexR (8 - zz.1) zz.2.1 zz.2.2 = hex8 n) ((0, n, [])) (⟨by simp, by dsimp only; omega, rfl, rfl⟩)
  rintro ⟨i, m, s⟩ hI ih
  try dsimp only at hI
  obtain ⟨hi1, hm, hs, hI⟩ := hI
  have hexp := hex_piece (m % 16) (by omega) (by omega)
  unfold digs at hexp
  refine .seq (.seq ?_)
  apply AWS.rg [0, 3, 4, 5, 8]
  · intro K hK
    simp (disch := omega) only [rsA, ↓reduceIte, Nat.reduceEqDiff, Nat.reduceAdd, rsW, getD_map, rowL_cells, rowR_cells, Int.toNat_natCast, List.length_map, txts_length, txts_getD, List.take_length]
    first | exact hK | exact fin hK
  refine AWS.cI (h1 := fun h1 => ?_) (h2 := fun h1 => ?_)
  · simp only [rsC, decide_eq_true_eq, decide_eq_false_iff_not] at h1
    refine .skip (.seq (.block (.seq ?_)))
    apply AWS.rg [0, 3, 4, 5, 6]
    · intro K hK
      simp (disch := omega) only [rsA, ↓reduceIte, Nat.reduceEqDiff, Nat.reduceAdd, rsW, Int.tmod_eq_emod_of_nonneg, Int.tdiv_eq_ediv_of_nonneg, getD_map, rowL_cells, rowR_cells, Int.toNat_natCast, List.length_map, txts_length, txts_getD, List.take_length]
      first | exact hK | exact fin hK
    refine .seq ?_
    apply AWS.rg [0, 3, 4, 5]
    · intro K hK
      simp (disch := omega) only [rsA, ↓reduceIte, Nat.reduceEqDiff, Nat.reduceAdd, rsW, sliceX, boundX, listOf, ty_str_9, ty_slice_9, ty_array_9, getD_map, rowL_cells, rowR_cells, Int.toNat_natCast, List.length_map, txts_length, txts_getD, List.take_length, hexp]
      first | exact hK | exact fin hK
    apply AWS.rg [0, 3, 4, 5]
    · intro K hK
      simp (disch := omega) only [rsA, ↓reduceIte, Nat.reduceEqDiff, Nat.reduceAdd, rsW, Int.tmod_eq_emod_of_nonneg, Int.tdiv_eq_ediv_of_nonneg, getD_map, rowL_cells, rowR_cells, Int.toNat_natCast, List.length_map, txts_length, txts_getD, List.take_length]
      first | exact hK | exact fin hK
    refine .inBlock ?_
    apply AWS.rg [0, 3, 4, 5]
    · intro K hK
      simp (disch := omega) only [rsA, ↓reduceIte, Nat.reduceEqDiff, Nat.reduceAdd, rsW, getD_map, rowL_cells, rowR_cells, Int.toNat_natCast, List.length_map, txts_length, txts_getD, List.take_length]
      first | exact hK | exact fin hK
    rw [show 8 - i = (7 - i) + 1 by omega, hexR] at hI
    refine AWS.bk 0 (ih ((i + 1, m / 16, hexD (m % 16) :: s)) (by first | omega | (dsimp only; omega)) (⟨by dsimp only; omega, by dsimp only; omega, by simp [hs], by rw [← hI, show 7 - i = 8 - (i + 1) by omega]⟩)) ?_ ?_
    · first | rfl | (simp; done)
    · simp [rs0]
  · simp only [rsC, decide_eq_true_eq, decide_eq_false_iff_not] at h1
    refine .exit rfl (.seq ?_)
    apply AWS.rg [2]
    · intro K hK
      simp (disch := omega) only [rsA, ↓reduceIte, Nat.reduceEqDiff, Nat.reduceAdd, getD_map, rowL_cells, rowR_cells, Int.toNat_natCast, List.length_map, txts_length, txts_getD, List.take_length]
      first | exact hK | exact fin hK
    refine .ret ?_
    simp only [results71, rsR, ↓reduceIte, Nat.reduceEqDiff]
    rw [← hI, show 8 - i = 0 by omega]; rfl

theorem hex8_len (n : Int) : (hex8 n).length = 8 := by
  have : ∀ (k : Nat) (n : Int) (s : List UInt8), (hexR k n s).length = k + s.length := fun k => by
    induction k with
    | zero => intro n s; simp [hexR]
    | succ k ih => intro n s; rw [hexR, ih]; simp; omega
  rw [hex8, this]; rfl
theorem verText_len (p : Int) : (verText p).length ≤ 11 := by
  unfold verText; split
  · exact verL_length p
  · simp
/-- comprador/compradorref57.line -/
theorem line_pure (r : Row) (h : r.name.length ≤ 1000000) (hs : 0 ≤ r.stamp ∧ r.stamp ≤ 4294967295) : APure prog 38 [rowR r] (.pv (.lit (.string (str (lineL r))))) := by
  apply go func38
  unfold rowR
  have l1 := hex8_len r.stamp
  have l2 := verText_len r.ver
  refine .seq ?_
  apply AWS.rg [1]
  · intro K hK
    simp (disch := omega) only [rsA, ↓reduceIte, Nat.reduceEqDiff, Nat.reduceAdd, stepX, AV.whole, AV.cells, getD_map, rowL_cells, rowR_cells, Int.toNat_natCast, List.length_map, txts_length, txts_getD, List.take_length]
    first | exact hK | exact fin hK
  refine .seq ?_
  apply AWS.rg [2]
  · intro K hK
    simp (maxSteps := 2000000) (disch := omega) only [rsA, ↓reduceIte, Nat.reduceEqDiff, Nat.reduceAdd, ty_field_52_0, cells_lit, cells_agg, cells_list, loadX, partX, mkAgg, allPlain, Nat.reduceLeDiff, Nat.le_refl, ty_shape_9, rsW, ty_field_52_1, ty_shape_3, calleeOf, ty_field_52_2, getD_map, rowL_cells, rowR_cells, Int.toNat_natCast, List.length_map, txts_length, txts_getD, List.take_length]
    refine callG1 (refText_pure _) rfl (hk := ?_)
    simp (maxSteps := 2000000) (disch := omega) only [rsA, ↓reduceIte, Nat.reduceEqDiff, Nat.reduceAdd, ty_field_52_0, cells_lit, cells_agg, cells_list, loadX, partX, mkAgg, allPlain, Nat.reduceLeDiff, Nat.le_refl, ty_shape_9, rsW, ty_field_52_1, ty_shape_3, calleeOf, ty_field_52_2, getD_map, rowL_cells, rowR_cells, Int.toNat_natCast, List.length_map, txts_length, txts_getD, List.take_length]
    refine callG1 (hex_pure _ (by omega) (by omega)) rfl (hk := ?_)
    simp (maxSteps := 2000000) (disch := omega) only [rsA, ↓reduceIte, Nat.reduceEqDiff, Nat.reduceAdd, ty_field_52_0, cells_lit, cells_agg, cells_list, loadX, partX, mkAgg, allPlain, Nat.reduceLeDiff, Nat.le_refl, ty_shape_9, rsW, ty_field_52_1, ty_shape_3, calleeOf, ty_field_52_2, getD_map, rowL_cells, rowR_cells, Int.toNat_natCast, List.length_map, txts_length, txts_getD, List.take_length]
    first | exact hK | exact fin hK
  refine .ret ?_
  simp only [results38, rsR, ↓reduceIte, Nat.reduceEqDiff]
  unfold lineL
  simp

theorem hexI_range (c : Int) : -1 ≤ hexI c ∧ hexI c < 16 := by
  have key : ∀ (l : List UInt8) (b : UInt8), -1 ≤ Lib.indexByte l b ∧ Lib.indexByte l b < l.length := fun l b => by
    induction l with
    | nil => simp [Lib.indexByte]
    | cons a l ih => unfold Lib.indexByte; (repeat' split) <;> simp only [List.length_cons] <;> omega
  unfold hexI
  split
  · have := key digs c.toNat.toUInt8
    simp only [digs, List.length_cons, List.length_nil] at this ⊢
    omega
  · omega
theorem str_digs : str [48, 49, 50, 51, 52, 53, 54, 55, 56, 57, 97, 98, 99, 100, 101, 102] = str digs := rfl
theorem index_high (c : Int) (h0 : 128 ≤ c) (h1 : c ≤ 255) (l : List UInt8) (h : ∀ b ∈ l, b.toNat < 128) : Lib.indexByte l c.toNat.toUInt8 = -1 := by
  induction l with
  | nil => rfl
  | cons b l ih =>
    have hb := h b (by simp)
    have hne : (b == c.toNat.toUInt8) = false := by
      rw [beq_eq_false_iff_ne]
      intro e
      have : c.toNat.toUInt8.toNat = c.toNat := by
        rw [Nat.toUInt8, UInt8.toNat_ofNat_of_lt' (by simp [UInt8.size]; omega)]
      rw [← e] at this
      omega
    rw [Lib.indexByte, hne, ih (fun x hx => h x (by simp [hx]))]
    simp
theorem enc_len (r : Int) : 1 ≤ (Utf8.encode r).size ∧ (Utf8.encode r).size ≤ 4 := by
  unfold Utf8.encode
  simp only
  (repeat' split) <;> simp [ByteArray.size]
theorem enc_last (r : Int) (h : 128 ≤ r) (hv : Lib.validRune r = true) : 128 ≤ byteI (Utf8.encode r).data.toList (((Utf8.encode r).size : Int) - 1) ∧ byteI (Utf8.encode r).data.toList (((Utf8.encode r).size : Int) - 1) ≤ 255 := by
  refine ⟨?_, (byteI_range _ _).2⟩
  have hval : Utf8.valid r = true := by
    simp only [Lib.validRune, decide_eq_true_eq] at hv
    simp [Utf8.valid]
    omega
  have hu : ∀ n : Nat, (UInt8.ofNat (128 + n % 64)).toNat = 128 + n % 64 := fun n => UInt8.toNat_ofNat_of_lt' (by simp [UInt8.size]; omega)
  unfold Utf8.encode
  simp only [hval, if_true]
  (repeat' split)
  · omega
  all_goals (simp [byteI, ByteArray.size, hu]; try omega)

def encL (r : Int) : List UInt8 := (Utf8.encode r).data.toList
theorem enc_str (r : Int) : Utf8.encode r = str (encL r) := (str_data _).symm
theorem encL_len (r : Int) : 1 ≤ (encL r).length ∧ (encL r).length ≤ 4 := by
  have := enc_len r
  rw [enc_str, str_size] at this
  exact this
theorem encL_last (r : Int) (h : 128 ≤ r) (hv : Lib.validRune r = true) : 128 ≤ byteI (encL r) (((encL r).length : Int) - 1) ∧ byteI (encL r) (((encL r).length : Int) - 1) ≤ 255 := by
  have := enc_last r h hv
  rw [show (Utf8.encode r).size = (encL r).length by rw [enc_str, str_size]] at this
  exact this
theorem digs_ascii : ∀ b ∈ digs, b.toNat < 128 := by decide
theorem digs_small (i : Int) : byteI digs i < 128 := by
  unfold byteI
  by_cases h : i.toNat < digs.length
  · have := digs_ascii _ (List.getElem_mem h)
    simp only [List.getD, List.getElem?_eq_getElem h, Option.getD_some]
    omega
  · simp [List.getD, List.getElem?_eq_none (Nat.le_of_not_lt h)]
theorem digs_rune (pos : Nat) (h : pos < digs.length) : ((Lib.decodeL (digs.drop pos)).1 : Int) < 128 := by
  have h1 := runes_drop (l := digs) (pos := pos) h
  have h2 := runes_ascii (digs.drop pos) (fun b hb => digs_ascii b (List.mem_of_mem_drop hb))
  have e : nums (digs.drop pos) = ((digs.getD pos 0).toNat : Int) :: nums (digs.drop (pos + 1)) := by rw [drop_bytes digs pos h, nums_cons]
  rw [h1, e] at h2
  have h3 := (List.cons.inj h2).1
  have := digs_small pos
  rw [byteI_nat] at this
  omega
theorem digs_len : digs.length = 16 := rfl
theorem index_high2 (c : Int) (h0 : 128 ≤ c) (h1 : c ≤ 255) (n m : Nat) : Lib.indexByte (List.drop n (List.take m digs)) c.toNat.toUInt8 = -1 :=
  index_high c h0 h1 _ (fun b hb => digs_ascii b (List.mem_of_mem_take (List.mem_of_mem_drop hb)))
theorem hexI_high {r : Int} (h : 128 ≤ r) : hexI r = -1 := by rw [hexI, if_neg (by omega)]
/-- strings.IndexRune -/
theorem indexRune_high (r : Int) (h : 128 ≤ r) : APure prog 97 [.lit (.string (str (digs))), .lit (.int .i32 (r))] (.pv (.lit (.int .i64 (-1)))) := by
  apply go func97
  have hb := digs_small
  have hdl := digs_len
  refine .seq ?_
  apply AWS.rg [0, 1]
  · intro K hK
    simp (disch := omega) only [rsA, ↓reduceIte, Nat.reduceEqDiff, Nat.reduceAdd, getD_map, rowL_cells, rowR_cells, Int.toNat_natCast, List.length_map, txts_length, txts_getD, List.take_length, enc_str, digs_len, nextW]
    first | exact hK | exact fin hK
  refine .block (.seq ?_)
  apply AWS.rg [0, 1, 160]
  · intro K hK
    simp (disch := omega) only [rsA, ↓reduceIte, Nat.reduceEqDiff, Nat.reduceAdd, rsW, getD_map, rowL_cells, rowR_cells, Int.toNat_natCast, List.length_map, txts_length, txts_getD, List.take_length, enc_str, digs_len, nextW]
    first | exact hK | exact fin hK | exact fin2 hK
  refine AWS.cI (h1 := fun h1 => by simp only [decide_eq_true_eq, decide_eq_false_iff_not, rsC] at h1; omega) (h2 := fun h1 => ?_)
  clear h1
  refine .seq ?_
  apply AWS.rg [0, 1, 171]
  · intro K hK
    simp (disch := omega) only [rsA, ↓reduceIte, Nat.reduceEqDiff, Nat.reduceAdd, rsW, reduceCtorEq, ty_bool_21, getD_map, rowL_cells, rowR_cells, Int.toNat_natCast, List.length_map, txts_length, txts_getD, List.take_length, enc_str, digs_len, nextW]
    first | exact hK | exact fin hK
  refine AWS.cI (h1 := fun h2 => ?_) (h2 := fun h2 => ?_)
  · simp only [rsC, decide_eq_true_eq, decide_eq_false_iff_not] at h2
    refine .seq (.seq ?_)
    apply AWS.rg [175]
    · intro K hK
      simp (disch := omega) only [rsA, ↓reduceIte, Nat.reduceEqDiff, Nat.reduceAdd, stepX, ty_str_9, getD_map, rowL_cells, rowR_cells, Int.toNat_natCast, List.length_map, txts_length, txts_getD, List.take_length, enc_str, digs_len, nextW]
      first | exact hK | exact fin hK
    refine .block ?_
    apply AWS.lp [] [175] (fun zz : Nat => 16 - zz) (fun zz => []) (fun zz => [.siter (str digs) zz]) (fun zz => True) (0) (trivial)
    rintro pos hI ih
    try dsimp only at hI
    have hd := digs_rune pos
    refine .seq ?_
    apply AWS.rg [175, 176, 177]
    · intro K hK
      simp (disch := omega) only [rsA, ↓reduceIte, Nat.reduceEqDiff, Nat.reduceAdd, stepX, getD_map, rowL_cells, rowR_cells, Int.toNat_natCast, List.length_map, txts_length, txts_getD, List.take_length, enc_str, digs_len, nextW]
      first | exact hK | exact fin hK
    refine .seq ?_
    refine AWS.cI (h1 := fun h3 => ?_) (h2 := fun h3 => ?_)
    · simp only [rsC, decide_eq_true_eq, decide_eq_false_iff_not] at h3
      refine .skip (.block (.seq ?_))
      apply AWS.rg [5, 6, 175]
      · intro K hK
        simp (disch := omega) only [rsA, ↓reduceIte, Nat.reduceEqDiff, Nat.reduceAdd, h2, h3, decide_true, getD_map, rowL_cells, rowR_cells, Int.toNat_natCast, List.length_map, txts_length, txts_getD, List.take_length, enc_str, digs_len, nextW]
        first | exact hK | exact fin hK
      refine .seq ?_
      apply AWS.rg [5, 175, 181]
      · intro K hK
        simp (disch := omega) only [rsA, ↓reduceIte, Nat.reduceEqDiff, Nat.reduceAdd, rsW, reduceCtorEq, ty_bool_21, getD_map, rowL_cells, rowR_cells, Int.toNat_natCast, List.length_map, txts_length, txts_getD, List.take_length, enc_str, digs_len, nextW]
        first | exact hK | exact fin hK
      refine AWS.cI (h1 := fun h4 => by simp only [decide_eq_true_eq, decide_eq_false_iff_not, rsC] at h4; omega) (h2 := fun h4 => ?_)
      clear h4
      refine .skip (.inBlock ?_)
      have hw := decodeL_pos (digs.drop pos)
      refine AWS.bk 1 (ih (pos + (Lib.decodeL (digs.drop pos)).2) (by first | omega | (dsimp only; omega)) (trivial)) ?_ ?_
      · first | rfl | (simp; done)
      · simp [rs0]
    · simp only [rsC, decide_eq_true_eq, decide_eq_false_iff_not] at h3
      refine .exit rfl (.seq ?_)
      apply AWS.rg [4]
      · intro K hK
        simp (disch := omega) only [rsA, ↓reduceIte, Nat.reduceEqDiff, Nat.reduceAdd, getD_map, rowL_cells, rowR_cells, Int.toNat_natCast, List.length_map, txts_length, txts_getD, List.take_length, enc_str, digs_len, nextW]
        first | exact hK | exact fin hK
      refine .ret ?_
      simp only [results97, rsR, ↓reduceIte, Nat.reduceEqDiff]
  · simp only [rsC, decide_eq_true_eq, decide_eq_false_iff_not] at h2
    refine .seq ?_
    apply AWS.rg [0, 1, 183]
    · intro K hK
      simp (disch := omega) only [rsA, ↓reduceIte, Nat.reduceEqDiff, Nat.reduceAdd, calleeOf, rsW, getD_map, rowL_cells, rowR_cells, Int.toNat_natCast, List.length_map, txts_length, txts_getD, List.take_length, enc_str, digs_len, nextW]
      refine callG1 (validRune_pure _) rfl (hk := ?_)
      simp (disch := omega) only [rsA, ↓reduceIte, Nat.reduceEqDiff, Nat.reduceAdd, calleeOf, rsW, getD_map, rowL_cells, rowR_cells, Int.toNat_natCast, List.length_map, txts_length, txts_getD, List.take_length, enc_str, digs_len, nextW]
      first | exact hK | exact fin hK
    refine AWS.cI (h1 := fun h5 => ?_) (h2 := fun h5 => ?_)
    · simp only [rsC, decide_eq_true_eq, decide_eq_false_iff_not] at h5
      refine .seq ?_
      apply AWS.rg [4]
      · intro K hK
        simp (disch := omega) only [rsA, ↓reduceIte, Nat.reduceEqDiff, Nat.reduceAdd, getD_map, rowL_cells, rowR_cells, Int.toNat_natCast, List.length_map, txts_length, txts_getD, List.take_length, enc_str, digs_len, nextW]
        first | exact hK | exact fin hK
      refine .ret ?_
      simp only [results97, rsR, ↓reduceIte, Nat.reduceEqDiff]
    · simp only [rsC, decide_eq_true_eq, decide_eq_false_iff_not] at h5
      refine .scope (.seq ?_)
      have hv : Lib.validRune r = true := by simpa using h5
      have he := encL_len r
      have hl := encL_last r h hv
      apply AWS.rg [0, 1, 7]
      · intro K hK
        simp (disch := omega) only [rsA, ↓reduceIte, Nat.reduceEqDiff, Nat.reduceAdd, rsW, listOf, ty_bytes_21, ty_bytes_9, ty_int_9, ty_str_9, ty_str_21, ty_und_21, getD_map, rowL_cells, rowR_cells, Int.toNat_natCast, List.length_map, txts_length, txts_getD, List.take_length, enc_str, digs_len, nextW]
        first | exact hK | exact fin hK
      refine .seq ?_
      apply AWS.rg [0, 1, 7, 8]
      · intro K hK
        simp (disch := omega) only [rsA, ↓reduceIte, Nat.reduceEqDiff, Nat.reduceAdd, listOf, ty_str_9, ty_slice_9, rsW, getD_map, rowL_cells, rowR_cells, Int.toNat_natCast, List.length_map, txts_length, txts_getD, List.take_length, enc_str, digs_len, nextW]
        first | exact hK | exact fin hK
      refine .seq ?_
      apply AWS.rg [0, 1, 7, 8, 9]
      · intro K hK
        simp (disch := omega) only [rsA, ↓reduceIte, Nat.reduceEqDiff, Nat.reduceAdd, getD_map, rowL_cells, rowR_cells, Int.toNat_natCast, List.length_map, txts_length, txts_getD, List.take_length, enc_str, digs_len, nextW]
        first | exact hK | exact fin hK
      refine .seq ?_
      apply AWS.rg [0, 1, 7, 8, 9]
      · intro K hK
        simp (disch := omega) only [rsA, ↓reduceIte, Nat.reduceEqDiff, Nat.reduceAdd, getD_map, rowL_cells, rowR_cells, Int.toNat_natCast, List.length_map, txts_length, txts_getD, List.take_length, enc_str, digs_len, nextW]
        first | exact hK | exact fin hK
      refine .seq (.block (.loop (.seq (.seq ?_))))
      apply AWS.rg [0, 1, 7, 8, 9, 26]
      · intro K hK
        simp (disch := omega) only [rsA, ↓reduceIte, Nat.reduceEqDiff, Nat.reduceAdd, listOf, ty_str_9, ty_slice_9, rsW, getD_map, rowL_cells, rowR_cells, Int.toNat_natCast, List.length_map, txts_length, txts_getD, List.take_length, enc_str, digs_len, nextW]
        first | exact hK | exact fin hK
      refine AWS.cI (h1 := fun h6 => ?_) (h2 := fun h6 => by simp only [decide_eq_true_eq, decide_eq_false_iff_not, rsC] at h6; omega)
      clear h6
      refine .skip (.block (.scope (.seq (.seq ?_))))
      apply AWS.rg [0, 1, 7, 8, 9, 33]
      · intro K hK
        simp (disch := omega) only [rsA, ↓reduceIte, Nat.reduceEqDiff, Nat.reduceAdd, partX, partAX, ty_str_9, ty_array_9, rsW, reduceCtorEq, ty_bool_5, getD_map, rowL_cells, rowR_cells, Int.toNat_natCast, List.length_map, txts_length, txts_getD, List.take_length, enc_str, digs_len, nextW]
        first | exact hK | exact fin hK
      refine AWS.cI (h1 := fun h7 => ?_) (h2 := fun h7 => by simp only [decide_eq_true_eq, decide_eq_false_iff_not, rsC] at h7; have := hb (((encL r).length : Int) - 1); omega)
      clear h7
      refine .seq ?_
      apply AWS.rg [11]
      · intro K hK
        simp (maxSteps := 2000000) (disch := omega) only [rsA, ↓reduceIte, Nat.reduceEqDiff, Nat.reduceAdd, rsW, sliceX, boundX, listOf, ty_str_9, ty_slice_9, ty_array_9, partX, partAX, calleeOf, getD_map, rowL_cells, rowR_cells, Int.toNat_natCast, List.length_map, txts_length, txts_getD, List.take_length, enc_str, digs_len, nextW, index_high2]
        refine callG1 (indexByte_pure _ _) rfl (hk := ?_)
        simp (maxSteps := 2000000) (disch := omega) only [rsA, ↓reduceIte, Nat.reduceEqDiff, Nat.reduceAdd, rsW, sliceX, boundX, listOf, ty_str_9, ty_slice_9, ty_array_9, partX, partAX, calleeOf, getD_map, rowL_cells, rowR_cells, Int.toNat_natCast, List.length_map, txts_length, txts_getD, List.take_length, enc_str, digs_len, nextW, index_high2]
        first | exact hK | exact fin hK
      refine .seq (.seq ?_)
      apply AWS.rg [11, 43]
      · intro K hK
        simp (disch := omega) only [rsA, ↓reduceIte, Nat.reduceEqDiff, Nat.reduceAdd, rsW, getD_map, rowL_cells, rowR_cells, Int.toNat_natCast, List.length_map, txts_length, txts_getD, List.take_length, enc_str, digs_len, nextW]
        first | exact hK | exact fin hK
      refine AWS.cI (h1 := fun h8 => ?_) (h2 := fun h8 => by simp only [decide_eq_true_eq, decide_eq_false_iff_not, rsC] at h8; omega)
      clear h8
      refine .seq ?_
      apply AWS.rg [4]
      · intro K hK
        simp (disch := omega) only [rsA, ↓reduceIte, Nat.reduceEqDiff, Nat.reduceAdd, getD_map, rowL_cells, rowR_cells, Int.toNat_natCast, List.length_map, txts_length, txts_getD, List.take_length, enc_str, digs_len, nextW]
        first | exact hK | exact fin hK
      refine .ret ?_
      simp only [results97, rsR, ↓reduceIte, Nat.reduceEqDiff]

theorem indexRune_pure (r : Int) (h0 : 0 ≤ r) : APure prog 97 [.lit (.string (str digs)), .lit (.int .i32 r)] (.pv (.lit (.int .i64 (hexI r)))) := by
  by_cases h : r < 128
  · rw [hexI, if_pos h]; exact indexRune_ascii digs r h0 h
  · rw [hexI, if_neg h]; exact indexRune_high r (by omega)
theorem unhex_no {l : List UInt8} (h : unhexR (runes l) 0 = none) : unhexP l = (0, false) := by rw [unhexP, h]
theorem unhex_yes {l : List UInt8} {n : Int} (h : unhexR (runes l) 0 = some n) : unhexP l = (n, decide ((l.length : Int) = 8)) := by rw [unhexP, h]
theorem byteI_lit (k : Int) : byteI [48, 49, 50, 51, 52, 53, 54, 55, 56, 57, 97, 98, 99, 100, 101, 102] k = ((hexD k).toNat : Int) := rfl
def hxC (i : Nat) (s : List UInt8) : List AV := List.replicate (8 - i) (.pv (.lit (.int .u8 0))) ++ s.map fun b => .pv (.lit (.int .u8 b.toNat))
theorem hx_len (i : Nat) (s : List UInt8) (hi : i ≤ 8) (hs : s.length = i) : (hxC i s).length = 8 := by simp [hxC, hs]; omega
theorem hx_put (i : Nat) (s : List UInt8) (hi : i < 8) (hs : s.length = i) (b : UInt8) : List.take (7 - (i : Int)).toNat (hxC i s) ++ AV.pv (.lit (.int .u8 b.toNat)) :: List.drop ((7 - (i : Int)).toNat + 1) (hxC i s) = hxC (i + 1) (b :: s) := by
  have e : (7 - (i : Int)).toNat = 7 - i := by omega
  have e2 : 8 - i = (7 - i) + 1 := by omega
  have e3 : 8 - (i + 1) = 7 - i := by omega
  rw [e, hxC, hxC, e2, e3]
  have h1 : List.take (7 - i) (List.replicate (7 - i + 1) (AV.pv (.lit (.int .u8 0))) ++ s.map fun b => .pv (.lit (.int .u8 b.toNat))) = List.replicate (7 - i) (AV.pv (.lit (.int .u8 0))) := by
    rw [List.take_append_of_le_length (by simp), List.take_replicate]
    congr 1; omega
  have h2 : List.drop (7 - i + 1) (List.replicate (7 - i + 1) (AV.pv (.lit (.int .u8 0))) ++ s.map fun b => .pv (.lit (.int .u8 b.toNat))) = s.map fun b => .pv (.lit (.int .u8 b.toNat)) := by
    rw [List.drop_append_of_le_length (by simp)]
    simp
  rw [h1, h2]
  rfl
theorem hx_put2 (i : Nat) (s : List UInt8) (hi : i < 8) (hs : s.length = i) (b : UInt8) : List.take (7 - i) (hxC i s) ++ AV.pv (.lit (.int .u8 b.toNat)) :: List.drop (7 - i + 1) (hxC i s) = hxC (i + 1) (b :: s) := by
  have := hx_put i s hi hs b
  rwa [show (7 - (i : Int)).toNat = 7 - i by omega] at this
theorem hx_below (n i : Nat) (s : List UInt8) : belowL n (hxC i s) = true := by
  have : ∀ l : List AV, (∀ x ∈ l, ∃ v, x = .pv v) → belowL n l = true := fun l h => by
    induction l with
    | nil => rfl
    | cons x l ih =>
      obtain ⟨v, rfl⟩ := h x (by simp)
      simp only [belowL, belowA, Bool.true_and]
      exact ih (fun y hy => h y (by simp [hy]))
  refine this _ (fun x hx => ?_)
  unfold hxC at hx
  simp only [List.mem_append, List.mem_replicate, List.mem_map] at hx
  rcases hx with ⟨_, rfl⟩ | ⟨b, _, rfl⟩ <;> exact ⟨_, rfl⟩
theorem hx_plain (s : List UInt8) : allPlain (hxC 8 s) = some (s.map fun b => V.lit (.int .u8 b.toNat)) := by
  unfold hxC
  induction s with
  | nil => rfl
  | cons b s ih =>
    simp only [Nat.sub_self, List.replicate_zero, List.nil_append, List.map_cons, allPlain] at ih ⊢
    rw [ih]; rfl
theorem u8sOf_map (s : List UInt8) : u8sOf (s.map fun b => V.lit (.int .u8 b.toNat)) = some s := by
  induction s with
  | nil => rfl
  | cons b s ih =>
    have hb := UInt8.toNat_lt b
    simp only [List.map_cons, u8sOf, ih, u8Of, if_pos (show (0 : Int) ≤ (b.toNat : Int) ∧ (b.toNat : Int) < 256 by omega), Option.bind_some, Option.map_some, Int.toNat_natCast, UInt8.ofNat_toNat]
theorem u8_cells (s : List UInt8) : (∀ y ∈ (s.map fun b => V.lit (.int .u8 b.toNat)), y.cells.length = 1) = True := by
  simp only [eq_iff_iff, iff_true]
  intro y hy
  simp only [List.mem_map] at hy
  obtain ⟨b, _, rfl⟩ := hy
  rfl
/-- comprador/lock.unhex -/
theorem unhex_pure (l : List UInt8) : APure prog 67 [.lit (.string (str (l)))] (.tuple [.pv (.lit (.int .u32 ((unhexP l).1))), .pv (.lit (.bool ((unhexP l).2)))]) := by
  apply go func67
  refine .seq ?_
  apply AWS.rg [0]
  · intro K hK
    simp (disch := omega) only [rsA, ↓reduceIte, Nat.reduceEqDiff, Nat.reduceAdd, getD_map, rowL_cells, rowR_cells, Int.toNat_natCast, List.length_map, txts_length, txts_getD, List.take_length, nextW]
    first | exact hK | exact fin hK
  refine .seq ?_
  apply AWS.rg [0, 4]
  · intro K hK
    simp (disch := omega) only [rsA, ↓reduceIte, Nat.reduceEqDiff, Nat.reduceAdd, getD_map, rowL_cells, rowR_cells, Int.toNat_natCast, List.length_map, txts_length, txts_getD, List.take_length, nextW]
    first | exact hK | exact fin hK
  refine .seq (.seq ?_)
  apply AWS.rg [0, 4, 9]
  · intro K hK
    simp (disch := omega) only [rsA, ↓reduceIte, Nat.reduceEqDiff, Nat.reduceAdd, stepX, ty_str_9, getD_map, rowL_cells, rowR_cells, Int.toNat_natCast, List.length_map, txts_length, txts_getD, List.take_length, nextW]
    first | exact hK | exact fin hK
  refine .block ?_
  apply AWS.lp [4] [0, 9] (fun zz : Nat × Int => l.length - zz.1) (fun zz => [.pv (.lit (.int .u32 (zz.2)))]) (fun zz => [.siter (str l) zz.1]) (fun zz => (0 ≤ zz.2 ∧ zz.2 ≤ 4294967295) ∧ unhexR (runes (l.drop zz.1)) zz.2 = unhexR (runes l) 0) ((0, 0)) (by simp)
  rintro ⟨pos, n⟩ hI ih
  try dsimp only at hI
  obtain ⟨hn, hI⟩ := hI
  have hx := hexI_range ((Lib.decodeL (l.drop pos)).1 : Int)
  refine .seq ?_
  apply AWS.rg [0, 4, 9, 10, 11]
  · intro K hK
    simp (disch := omega) only [rsA, ↓reduceIte, Nat.reduceEqDiff, Nat.reduceAdd, stepX, getD_map, rowL_cells, rowR_cells, Int.toNat_natCast, List.length_map, txts_length, txts_getD, List.take_length, nextW]
    first | exact hK | exact fin hK
  refine .seq ?_
  refine AWS.cI (h1 := fun h1 => ?_) (h2 := fun h1 => ?_)
  · simp only [rsC, decide_eq_true_eq, decide_eq_false_iff_not] at h1
    refine .skip (.block (.seq ?_))
    apply AWS.rg [0, 4, 6, 9]
    · intro K hK
      simp (disch := omega) only [rsA, ↓reduceIte, Nat.reduceEqDiff, Nat.reduceAdd, h1, decide_true, getD_map, rowL_cells, rowR_cells, Int.toNat_natCast, List.length_map, txts_length, txts_getD, List.take_length, nextW]
      first | exact hK | exact fin hK
    refine .seq ?_
    apply AWS.rg [0, 4, 7, 9]
    · intro K hK
      simp (disch := omega) only [rsA, ↓reduceIte, Nat.reduceEqDiff, Nat.reduceAdd, calleeOf, getD_map, rowL_cells, rowR_cells, Int.toNat_natCast, List.length_map, txts_length, txts_getD, List.take_length, nextW]
      refine callG1 (indexRune_pure _ (by omega)) rfl (hk := ?_)
      simp (disch := omega) only [rsA, ↓reduceIte, Nat.reduceEqDiff, Nat.reduceAdd, calleeOf, getD_map, rowL_cells, rowR_cells, Int.toNat_natCast, List.length_map, txts_length, txts_getD, List.take_length, nextW]
      first | exact hK | exact fin hK
    refine .seq (.seq ?_)
    apply AWS.rg [0, 4, 7, 9, 16]
    · intro K hK
      simp (disch := omega) only [rsA, ↓reduceIte, Nat.reduceEqDiff, Nat.reduceAdd, rsW, getD_map, rowL_cells, rowR_cells, Int.toNat_natCast, List.length_map, txts_length, txts_getD, List.take_length, nextW]
      first | exact hK | exact fin hK
    refine AWS.cI (h1 := fun h2 => ?_) (h2 := fun h2 => ?_)
    · simp only [rsC, decide_eq_true_eq, decide_eq_false_iff_not] at h2
      refine .seq ?_
      apply AWS.rg [2, 3]
      · intro K hK
        simp (disch := omega) only [rsA, ↓reduceIte, Nat.reduceEqDiff, Nat.reduceAdd, getD_map, rowL_cells, rowR_cells, Int.toNat_natCast, List.length_map, txts_length, txts_getD, List.take_length, nextW]
        first | exact hK | exact fin hK
      refine .ret ?_
      simp only [results67, rsR, ↓reduceIte, Nat.reduceEqDiff]
      rw [unhex_no (by rw [← hI, runes_drop h1, unhexR, if_pos (by omega)])]
      exact ⟨rfl, rfl⟩
    · simp only [rsC, decide_eq_true_eq, decide_eq_false_iff_not] at h2
      refine .skip ?_
      apply AWS.rg [0, 4, 9]
      · intro K hK
        simp (disch := omega) only [rsA, ↓reduceIte, Nat.reduceEqDiff, Nat.reduceAdd, rsW, rsBit, listOf, ty_bytes_3, ty_bytes_48, ty_int_48, ty_str_48, ty_str_3, ty_und_3, getD_map, rowL_cells, rowR_cells, Int.toNat_natCast, List.length_map, txts_length, txts_getD, List.take_length, nextW]
        first | exact hK | exact fin hK
      refine .inBlock ?_
      have hw := decodeL_pos (l.drop pos)
      rw [runes_drop h1, unhexR, if_neg (by omega)] at hI
      refine AWS.bk 1 (ih ((pos + (Lib.decodeL (l.drop pos)).2, n * 16 % 4294967296 + hexI ((Lib.decodeL (l.drop pos)).1 : Int))) (by first | omega | (dsimp only; omega)) (⟨by dsimp only; omega, hI⟩)) ?_ ?_
      · first | rfl | (simp; done)
      · simp [rs0]
  · simp only [rsC, decide_eq_true_eq, decide_eq_false_iff_not] at h1
    refine .exit rfl (.seq ?_)
    apply AWS.rg [2, 3]
    · intro K hK
      simp (disch := omega) only [rsA, ↓reduceIte, Nat.reduceEqDiff, Nat.reduceAdd, listOf, ty_str_9, ty_slice_9, rsW, reduceCtorEq, ty_bool_3, getD_map, rowL_cells, rowR_cells, Int.toNat_natCast, List.length_map, txts_length, txts_getD, List.take_length, nextW]
      first | exact hK | exact fin hK
    refine .ret ?_
    simp only [results67, rsR, ↓reduceIte, Nat.reduceEqDiff]
    rw [unhex_yes (n := n) (by rw [← hI, runes_end h1, unhexR])]
    exact ⟨rfl, rfl⟩
/-- comprador/lock.hexed -/
theorem hexed_pure (n : Int) (h0 : 0 ≤ n) (h1 : n ≤ 4294967295) : APure prog 32 [.lit (.int .u32 (n))] (.pv (.lit (.string (str (hex8 n))))) := by
  apply go func32
  refine .seq ?_
  apply AWS.rg [0]
  · intro K hK
    simp (disch := omega) only [rsA, ↓reduceIte, Nat.reduceEqDiff, Nat.reduceAdd, getD_map, rowL_cells, rowR_cells, Int.toNat_natCast, List.length_map, txts_length, txts_getD, List.take_length]
    first | exact hK | exact fin hK
  refine .seq ?_
  apply AWS.rg [0, 3]
  · intro K hK
    simp (disch := omega) only [rsA, ↓reduceIte, Nat.reduceEqDiff, Nat.reduceAdd, fillA, mkAgg, allPlain, Places.at, splice, AV.cells, AV.whole, List.all_cons, List.all_nil, Bool.and_true, constA_int, constA_bool, constA_string, constA_nil, Nat.reduceLeDiff, Nat.zero_add, Value.oneCell', ty_places_103, stepX, ty_zero_103, ty_shape_103, getD_map, rowL_cells, rowR_cells, Int.toNat_natCast, List.length_map, txts_length, txts_getD, List.take_length]
    first | exact hK | exact fin hK
  refine .seq (.seq ?_)
  apply AWS.rg [0, 3, 6]
  · intro K hK
    simp (disch := omega) only [rsA, ↓reduceIte, Nat.reduceEqDiff, Nat.reduceAdd, getD_map, rowL_cells, rowR_cells, Int.toNat_natCast, List.length_map, txts_length, txts_getD, List.take_length]
    first | exact hK | exact fin hK
  refine .block ?_
  apply AWS.lp [0, 6] [3] (fun zz : Nat × Int × List UInt8 => 8 - zz.1) (fun zz => [.pv (.lit (.int .u32 (zz.2.1))), .pv (.lit (.int .i64 (zz.1)))]) (fun zz => [.box 103 (hxC zz.1 zz.2.2)]) (fun zz => zz.1 ≤ 8 ∧ (0 ≤ zz.2.1 ∧ zz.2.1 ≤ 4294967295) ∧ zz.2.2.length = zz.1 ∧ hexR (8 - zz.1) zz.2.1 zz.2.2 = hex8 n) ((0, n, [])) (⟨by simp, by dsimp only; omega, rfl, rfl⟩)
  rintro ⟨i, m, s⟩ hI ih
  try dsimp only at hI
  obtain ⟨hi1, hm, hs, hI⟩ := hI
  refine .seq ?_
  apply AWS.rg [0, 3, 6, 7]
  · intro K hK
    simp (disch := omega) only [rsA, ↓reduceIte, Nat.reduceEqDiff, Nat.reduceAdd, rsW, getD_map, rowL_cells, rowR_cells, Int.toNat_natCast, List.length_map, txts_length, txts_getD, List.take_length]
    first | exact hK | exact fin hK
  refine .seq ?_
  refine AWS.cI (h1 := fun h1 => ?_) (h2 := fun h1 => ?_)
  · simp only [rsC, decide_eq_true_eq, decide_eq_false_iff_not] at h1
    refine .skip (.seq (.block (.seq ?_)))
    apply AWS.rg [0, 3, 4, 6]
    · intro K hK
      simp (disch := omega) only [rsA, ↓reduceIte, Nat.reduceEqDiff, Nat.reduceAdd, getD_map, rowL_cells, rowR_cells, Int.toNat_natCast, List.length_map, txts_length, txts_getD, List.take_length]
      first | exact hK | exact fin hK
    refine .seq ?_
    apply AWS.rg [0, 3, 6]
    · intro K hK
      simp (disch := omega) only [rsA, ↓reduceIte, Nat.reduceEqDiff, Nat.reduceAdd, rsW, rsBit, partX, partAX, ty_str_9, ty_array_9, cells_lit, cells_agg, cells_list, listOf, ty_slice_103, ty_array_103, stepX, splice, AV.whole, AV.cells, ty_shape_5, getD_map, rowL_cells, rowR_cells, Int.toNat_natCast, List.length_map, txts_length, txts_getD, List.take_length, byteI_lit, hx_len i s hi1 hs]
      first | exact hK | exact fin hK
    apply AWS.rg [0, 3, 6]
    · intro K hK
      simp (disch := omega) only [rsA, ↓reduceIte, Nat.reduceEqDiff, Nat.reduceAdd, rsW, rsBit, getD_map, rowL_cells, rowR_cells, Int.toNat_natCast, List.length_map, txts_length, txts_getD, List.take_length]
      first | exact hK | exact fin hK
    refine .inBlock ?_
    apply AWS.rg [0, 3, 6]
    · intro K hK
      simp (disch := omega) only [rsA, ↓reduceIte, Nat.reduceEqDiff, Nat.reduceAdd, rsW, getD_map, rowL_cells, rowR_cells, Int.toNat_natCast, List.length_map, txts_length, txts_getD, List.take_length]
      first | exact hK | exact fin hK
    rw [show 8 - i = (7 - i) + 1 by omega, hexR] at hI
    refine AWS.bk 1 (ih ((i + 1, m / 16, hexD (m % 16) :: s)) (by first | omega | (dsimp only; omega)) (⟨by dsimp only; omega, by dsimp only; omega, by simp [hs], by rw [← hI, show 7 - i = 8 - (i + 1) by omega]⟩)) ?_ ?_ (ho := by simp [belowO, hx_below])
    · first | rfl | (simp [hx_put2 i s (by omega) hs]; done)
    · simp [rs0]
  · simp only [rsC, decide_eq_true_eq, decide_eq_false_iff_not] at h1
    refine .exit rfl (.seq ?_)
    obtain rfl : i = 8 := by omega
    apply AWS.rp [2] (butP [] true)
    · intro K hK
      simp (disch := omega) only [rsA, ↓reduceIte, Nat.reduceEqDiff, Nat.reduceAdd, List.contains_cons, List.contains_nil, Nat.reduceBEq, Bool.or_true, Bool.or_false, Bool.not_true, Bool.not_false, stepX, and_self, sliceX, boundX, listOf, ty_str_103, ty_slice_103, ty_array_103, rsW, ty_bytes_54, ty_bytes_9, ty_int_9, ty_str_9, ty_str_54, ty_und_54, getD_map, rowL_cells, rowR_cells, Int.toNat_natCast, List.length_map, txts_length, txts_getD, List.take_length, hx_plain, u8sOf_map, u8_cells]
      first | exact hK | exact fin hK
    refine .ret ?_
    simp only [results32, rsR, ↓reduceIte, Nat.reduceEqDiff]
    rw [← hI]; rfl

theorem progOne_no {l : List UInt8} (h : (splitOn 32 l).length ≠ 3) : progOne l = (row0, false) := by
  unfold progOne
  split
  · rename_i h1; rw [h1] at h; exact absurd rfl h
  · rfl
theorem progOne_yes {l : List UInt8} (h : (splitOn 32 l).length = 3) : progOne l = (⟨(splitOn 32 l).getD 0 [], (verProg ((splitOn 32 l).getD 1 [])).1, (unhexP ((splitOn 32 l).getD 2 [])).1⟩, (verProg ((splitOn 32 l).getD 1 [])).2 && (unhexP ((splitOn 32 l).getD 2 [])).2) := by
  unfold progOne
  match hs : splitOn 32 l, h with
  | [a, b, c], _ => rfl
theorem lits3 : (1 : Int).toNat = 1 ∧ (2 : Int).toNat = 2 ∧ (0 : Int).toNat = 0 := ⟨rfl, rfl, rfl⟩
/-- comprador/lock.one -/
theorem progOne_pure (l : List UInt8) (hl : l.length ≤ 1000000) : APure prog 35 [.lit (.string (str (l)))] (.tuple [.pv (rowL (progOne l).1), .pv (.lit (.bool ((progOne l).2)))]) := by
  apply go func35
  refine .seq ?_
  apply AWS.rg [0, 2]
  · intro K hK
    simp (disch := omega) only [rsA, ↓reduceIte, Nat.reduceEqDiff, Nat.reduceAdd, stepX, ty_zero_50, getD_map, rowL_cells, rowR_cells, Int.toNat_natCast, List.length_map, txts_length, txts_getD, List.take_length, lits3, Int.reduceToNat]
    first | exact hK | exact fin hK
  refine .seq ?_
  apply AWS.rg [2, 4]
  · intro K hK
    simp (disch := omega) only [rsA, ↓reduceIte, Nat.reduceEqDiff, Nat.reduceAdd, calleeOf, getD_map, rowL_cells, rowR_cells, Int.toNat_natCast, List.length_map, txts_length, txts_getD, List.take_length, lits3, Int.reduceToNat]
    refine callG1 (split_txts 32 l hl) rfl (hk := ?_)
    simp (disch := omega) only [rsA, ↓reduceIte, Nat.reduceEqDiff, Nat.reduceAdd, calleeOf, getD_map, rowL_cells, rowR_cells, Int.toNat_natCast, List.length_map, txts_length, txts_getD, List.take_length, lits3, Int.reduceToNat]
    first | exact hK | exact fin hK
  refine .seq (.seq ?_)
  apply AWS.rg [2, 4, 13]
  · intro K hK
    simp (disch := omega) only [rsA, ↓reduceIte, Nat.reduceEqDiff, Nat.reduceAdd, listOf, ty_str_64, ty_slice_64, rsW, reduceCtorEq, ty_bool_3, getD_map, rowL_cells, rowR_cells, Int.toNat_natCast, List.length_map, txts_length, txts_getD, List.take_length, lits3, Int.reduceToNat]
    first | exact hK | exact fin hK
  refine AWS.cI (h1 := fun h1 => ?_) (h2 := fun h1 => ?_)
  · simp only [rsC, decide_eq_true_eq, decide_eq_false_iff_not] at h1
    refine .seq ?_
    apply AWS.rg [2, 3]
    · intro K hK
      simp (disch := omega) only [rsA, ↓reduceIte, Nat.reduceEqDiff, Nat.reduceAdd, fillA, mkAgg, allPlain, Places.at, splice, AV.cells, AV.whole, List.all_cons, List.all_nil, Bool.and_true, constA_int, constA_bool, constA_string, constA_nil, Nat.reduceLeDiff, Nat.zero_add, Value.oneCell', ty_places_50, stepX, ty_shape_50, getD_map, rowL_cells, rowR_cells, Int.toNat_natCast, List.length_map, txts_length, txts_getD, List.take_length, lits3, Int.reduceToNat]
      first | exact hK | exact fin hK
    refine .ret ?_
    simp only [results35, rsR, ↓reduceIte, Nat.reduceEqDiff, ty_shape_50, allPlain, resOne, mkS, Nat.reduceAdd, Nat.reduceLeDiff, Nat.le_refl, if_true, plainOf]
    rw [progOne_no (by omega)]
    exact ⟨rfl, rfl⟩
  · simp only [rsC, decide_eq_true_eq, decide_eq_false_iff_not] at h1
    refine .skip (.seq ?_)
    apply AWS.rg [2, 4, 5, 6]
    · intro K hK
      simp (maxSteps := 2000000) (disch := omega) only [rsA, ↓reduceIte, Nat.reduceEqDiff, Nat.reduceAdd, cells_lit, cells_agg, cells_list, listOf, ty_slice_64, ty_array_64, loadX, partX, mkAgg, allPlain, Nat.reduceLeDiff, Nat.le_refl, ty_shape_9, calleeOf, getD_map, rowL_cells, rowR_cells, Int.toNat_natCast, List.length_map, txts_length, txts_getD, List.take_length, lits3, Int.reduceToNat]
      refine callG1 (verRead_pure _) rfl (hk := ?_)
      simp (maxSteps := 2000000) (disch := omega) only [rsA, ↓reduceIte, Nat.reduceEqDiff, Nat.reduceAdd, cells_lit, cells_agg, cells_list, listOf, ty_slice_64, ty_array_64, loadX, partX, mkAgg, allPlain, Nat.reduceLeDiff, Nat.le_refl, ty_shape_9, calleeOf, getD_map, rowL_cells, rowR_cells, Int.toNat_natCast, List.length_map, txts_length, txts_getD, List.take_length, lits3, Int.reduceToNat]
      first | exact hK | exact fin hK
    refine .seq ?_
    apply AWS.rg [2, 4, 5, 6, 7, 8]
    · intro K hK
      simp (maxSteps := 2000000) (disch := omega) only [rsA, ↓reduceIte, Nat.reduceEqDiff, Nat.reduceAdd, cells_lit, cells_agg, cells_list, listOf, ty_slice_64, ty_array_64, loadX, partX, mkAgg, allPlain, Nat.reduceLeDiff, Nat.le_refl, ty_shape_9, calleeOf, getD_map, rowL_cells, rowR_cells, Int.toNat_natCast, List.length_map, txts_length, txts_getD, List.take_length, lits3, Int.reduceToNat]
      refine callG1 (unhex_pure _) rfl (hk := ?_)
      simp (maxSteps := 2000000) (disch := omega) only [rsA, ↓reduceIte, Nat.reduceEqDiff, Nat.reduceAdd, cells_lit, cells_agg, cells_list, listOf, ty_slice_64, ty_array_64, loadX, partX, mkAgg, allPlain, Nat.reduceLeDiff, Nat.le_refl, ty_shape_9, calleeOf, getD_map, rowL_cells, rowR_cells, Int.toNat_natCast, List.length_map, txts_length, txts_getD, List.take_length, lits3, Int.reduceToNat]
      first | exact hK | exact fin hK
    refine .seq ?_
    apply AWS.rg [2, 3]
    · intro K hK
      simp (maxSteps := 2000000) (disch := omega) only [rsA, ↓reduceIte, Nat.reduceEqDiff, Nat.reduceAdd, cells_lit, cells_agg, cells_list, listOf, ty_slice_64, ty_array_64, loadX, partX, mkAgg, allPlain, Nat.reduceLeDiff, Nat.le_refl, ty_shape_9, fillA, Places.at, splice, AV.cells, AV.whole, List.all_cons, List.all_nil, Bool.and_true, constA_int, constA_bool, constA_string, constA_nil, Nat.zero_add, Value.oneCell', ty_places_50, stepX, ty_shape_50, getD_map, rowL_cells, rowR_cells, Int.toNat_natCast, List.length_map, txts_length, txts_getD, List.take_length, lits3, Int.reduceToNat]
      first | exact hK | exact fin hK | exact fin2 hK
    refine .ret ?_
    simp only [results35, rsR, ↓reduceIte, Nat.reduceEqDiff, ty_shape_50, allPlain, resOne, mkS, Nat.reduceAdd, Nat.reduceLeDiff, Nat.le_refl, if_true, plainOf]
    rw [progOne_yes (by omega)]
    exact ⟨rfl, by simp only [Bool.cond_false_right]⟩

theorem spAB_range : ∀ (l : List UInt8) (p : Nat), (-1 ≤ (spAB l p).1 ∧ (spAB l p).1 < p + l.length) ∧ (-1 ≤ (spAB l p).2 ∧ (spAB l p).2 < p + l.length)
  | [], p => by simp [spAB]; omega
  | c :: cs, p => by
    have := spAB_range cs (p + 1)
    unfold spAB maxI
    simp only [List.length_cons]
    split <;> (try simp only) <;> (repeat' split) <;> omega
theorem spAB_step (l : List UInt8) (k : Nat) (h1 : 1 ≤ k) (h2 : k ≤ l.length) : spAB (l.drop (k - 1)) (k - 1) = if byteI l ((k : Int) - 1) = 32 then (((k - 1 : Nat) : Int), maxI (spAB (l.drop k) k).1 (spAB (l.drop k) k).2) else spAB (l.drop k) k := by
  rw [drop_bytes l (k - 1) (by omega), spAB, show k - 1 + 1 = k by omega]
  have e : ((k : Int) - 1) = ((k - 1 : Nat) : Int) := by omega
  rw [e, byteI_nat]
  by_cases h : l.getD (k - 1) 0 = 32
  · rw [if_pos h, if_pos (by rw [h]; rfl)]
  · rw [if_neg h, if_neg (fun h' => h (by
      apply UInt8.toNat_inj.1
      have : (32 : UInt8).toNat = 32 := rfl
      omega))]
/-- comprador/compradorref57.one -/
theorem refOne_pure (l : List UInt8) (hl : l.length ≤ 1000000) : APure prog 37 [.lit (.string (str (l)))] (.tuple [.pv (rowR (refOne l).1), .pv (.lit (.bool ((refOne l).2)))]) := by
  apply go func37
  have hr := spAB_range l 0
  refine .seq ?_
  apply AWS.rg [0, 2]
  · intro K hK
    simp (disch := omega) only [rsA, ↓reduceIte, Nat.reduceEqDiff, Nat.reduceAdd, stepX, ty_zero_52, getD_map, rowL_cells, rowR_cells, Int.toNat_natCast, List.length_map, txts_length, txts_getD, List.take_length]
    first | exact hK | exact fin hK
  refine .seq ?_
  apply AWS.rg [0, 2, 4, 5]
  · intro K hK
    simp (disch := omega) only [rsA, ↓reduceIte, Nat.reduceEqDiff, Nat.reduceAdd, getD_map, rowL_cells, rowR_cells, Int.toNat_natCast, List.length_map, txts_length, txts_getD, List.take_length]
    first | exact hK | exact fin hK
  refine .seq (.seq ?_)
  apply AWS.rg [0, 2, 4, 5, 6]
  · intro K hK
    simp (disch := omega) only [rsA, ↓reduceIte, Nat.reduceEqDiff, Nat.reduceAdd, listOf, ty_str_9, ty_slice_9, rsW, getD_map, rowL_cells, rowR_cells, Int.toNat_natCast, List.length_map, txts_length, txts_getD, List.take_length]
    first | exact hK | exact fin hK
  refine .block ?_
  apply AWS.lp [4, 5, 6] [0, 2] (fun zz : Nat => zz) (fun zz => [.pv (.lit (.int .i64 ((spAB (l.drop zz) zz).1))), .pv (.lit (.int .i64 ((spAB (l.drop zz) zz).2))), .pv (.lit (.int .i64 ((zz : Int) - 1)))]) (fun zz => [.box 52 [.pv (.lit (.string (str []))), .pv (.lit (.int .i64 0)), .pv (.lit (.int .i64 0))]]) (fun zz => zz ≤ l.length) (l.length) (by simp) (hv := by simp [rs0, spAB])
  rintro k hI ih
  try dsimp only at hI
  have hrk := spAB_range (l.drop k) k
  have hlk : (l.drop k).length = l.length - k := List.length_drop
  refine .seq (.seq ?_)
  apply AWS.rg [0, 2, 4, 5, 6, 14]
  · intro K hK
    simp (disch := omega) only [rsA, ↓reduceIte, Nat.reduceEqDiff, Nat.reduceAdd, rsW, getD_map, rowL_cells, rowR_cells, Int.toNat_natCast, List.length_map, txts_length, txts_getD, List.take_length]
    first | exact hK | exact fin hK
  refine AWS.cI (h1 := fun h1 => ?_) (h2 := fun h1 => ?_)
  · simp only [rsC, decide_eq_true_eq, decide_eq_false_iff_not] at h1
    refine .skip (.seq (.block (.seq ?_)))
    apply AWS.rg [0, 2, 4, 5, 6, 20]
    · intro K hK
      simp (disch := omega) only [rsA, ↓reduceIte, Nat.reduceEqDiff, Nat.reduceAdd, partX, partAX, ty_str_9, ty_array_9, rsW, reduceCtorEq, ty_bool_5, getD_map, rowL_cells, rowR_cells, Int.toNat_natCast, List.length_map, txts_length, txts_getD, List.take_length]
      first | exact hK | exact fin hK
    apply AWS.cj (s' := [.box 52 [.pv (.lit (.string (str []))), .pv (.lit (.int .i64 0)), .pv (.lit (.int .i64 0))]]) [4, 5] [0, 2, 6] [.pv (.lit (.int .i64 ((spAB (l.drop (k - 1)) (k - 1)).1))), .pv (.lit (.int .i64 ((spAB (l.drop (k - 1)) (k - 1)).2)))]
    · intro h2 hk
      simp only [rsC, decide_eq_true_eq, decide_eq_false_iff_not] at h2
      refine .seq ?_
      apply AWS.rg [0, 2, 5, 6]
      · intro K hK
        simp (disch := omega) only [rsA, ↓reduceIte, Nat.reduceEqDiff, Nat.reduceAdd, getD_map, rowL_cells, rowR_cells, Int.toNat_natCast, List.length_map, txts_length, txts_getD, List.take_length]
        first | exact hK | exact fin hK
      apply AWS.rg [0, 2, 4, 5, 6]
      · intro K hK
        simp (disch := omega) only [rsA, ↓reduceIte, Nat.reduceEqDiff, Nat.reduceAdd, getD_map, rowL_cells, rowR_cells, Int.toNat_natCast, List.length_map, txts_length, txts_getD, List.take_length]
        first | exact hK | exact fin hK
      refine AWS.bk 1 hk ?_ ?_
      · first | rfl | (simp; done)
      · simp only [rs0, rsL, ↓reduceIte, Nat.reduceEqDiff]
        rw [spAB_step l k (by omega) hI]
        first | rw [if_pos h2] | rw [if_neg h2]
        all_goals (first | rfl | (simp only [List.cons.injEq, and_true, AV.pv.injEq, V.lit.injEq, Value.int.injEq, true_and]; try omega))
    · intro h2 hk
      simp only [rsC, decide_eq_true_eq, decide_eq_false_iff_not] at h2
      refine .skip ?_
      refine AWS.bk 1 hk ?_ ?_
      · first | rfl | (simp; done)
      · simp only [rs0, rsL, ↓reduceIte, Nat.reduceEqDiff]
        rw [spAB_step l k (by omega) hI]
        first | rw [if_pos h2] | rw [if_neg h2]
        all_goals (first | rfl | (simp only [List.cons.injEq, and_true, AV.pv.injEq, V.lit.injEq, Value.int.injEq, true_and]; try omega))
    refine .inBlock ?_
    apply AWS.rg [0, 2, 4, 5, 6]
    · intro K hK
      simp (disch := omega) only [rsA, ↓reduceIte, Nat.reduceEqDiff, Nat.reduceAdd, rsW, getD_map, rowL_cells, rowR_cells, Int.toNat_natCast, List.length_map, txts_length, txts_getD, List.take_length]
      first | exact hK | exact fin hK
    refine AWS.bk 1 (ih (k - 1) (by first | omega | (dsimp only; omega)) (by first | omega | (dsimp only; omega))) ?_ ?_
    · first | rfl | (simp; done)
    · simp [rs0]
      omega
  · simp only [rsC, decide_eq_true_eq, decide_eq_false_iff_not] at h1
    refine .exit rfl (.seq (.seq ?_))
    obtain rfl : k = 0 := by omega
    simp only [List.drop_zero] at *
    apply AWS.rg [0, 2, 4, 5, 38]
    · intro K hK
      simp (maxSteps := 2000000) (disch := omega) only [rsA, ↓reduceIte, Nat.reduceEqDiff, Nat.reduceAdd, rsW, listOf, ty_str_9, ty_slice_9, reduceCtorEq, ty_bool_3, getD_map, rowL_cells, rowR_cells, Int.toNat_natCast, List.length_map, txts_length, txts_getD, List.take_length]
      first | exact hK | exact fin hK | exact fin2 hK
    refine AWS.cI (h1 := fun h3 => ?_) (h2 := fun h3 => ?_)
    · simp only [rsC, decide_eq_true_eq, decide_eq_false_iff_not] at h3
      refine .seq ?_
      apply AWS.rg [2, 3]
      · intro K hK
        simp (disch := omega) only [rsA, ↓reduceIte, Nat.reduceEqDiff, Nat.reduceAdd, fillA, mkAgg, allPlain, Places.at, splice, AV.cells, AV.whole, List.all_cons, List.all_nil, Bool.and_true, constA_int, constA_bool, constA_string, constA_nil, Nat.reduceLeDiff, Nat.zero_add, Value.oneCell', ty_places_52, stepX, ty_shape_52, getD_map, rowL_cells, rowR_cells, Int.toNat_natCast, List.length_map, txts_length, txts_getD, List.take_length]
        first | exact hK | exact fin hK
      refine .ret ?_
      simp only [results37, rsR, ↓reduceIte, Nat.reduceEqDiff, ty_shape_52, allPlain, resOne, mkS, Nat.reduceAdd, Nat.reduceLeDiff, Nat.le_refl, if_true, plainOf]
      rw [refOne, if_pos (by omega)]
      exact ⟨rfl, rfl⟩
    · simp only [rsC, decide_eq_true_eq, decide_eq_false_iff_not] at h3
      refine .skip (.seq ?_)
      apply AWS.rg [0, 2, 4, 5, 7, 8]
      · intro K hK
        simp (maxSteps := 2000000) (disch := omega) only [rsA, ↓reduceIte, Nat.reduceEqDiff, Nat.reduceAdd, rsW, sliceX, boundX, listOf, ty_str_9, ty_slice_9, ty_array_9, calleeOf, getD_map, rowL_cells, rowR_cells, Int.toNat_natCast, List.length_map, txts_length, txts_getD, List.take_length, verRef_eq]
        refine callG1 (refRead_pure _) rfl (hk := ?_)
        simp (maxSteps := 2000000) (disch := omega) only [rsA, ↓reduceIte, Nat.reduceEqDiff, Nat.reduceAdd, rsW, sliceX, boundX, listOf, ty_str_9, ty_slice_9, ty_array_9, calleeOf, getD_map, rowL_cells, rowR_cells, Int.toNat_natCast, List.length_map, txts_length, txts_getD, List.take_length, verRef_eq]
        first | exact hK | exact fin hK
      refine .seq ?_
      apply AWS.rg [0, 2, 8, 9]
      · intro K hK
        simp (maxSteps := 2000000) (disch := omega) only [rsA, ↓reduceIte, Nat.reduceEqDiff, Nat.reduceAdd, sliceX, boundX, listOf, ty_str_9, ty_slice_9, ty_array_9, rsW, calleeOf, fillA, mkAgg, allPlain, Places.at, splice, AV.cells, AV.whole, List.all_cons, List.all_nil, Bool.and_true, constA_int, constA_bool, constA_string, constA_nil, Nat.reduceLeDiff, Nat.zero_add, Value.oneCell', ty_places_52, stepX, ty_zero_52, ty_shape_52, getD_map, rowL_cells, rowR_cells, Int.toNat_natCast, List.length_map, txts_length, txts_getD, List.take_length]
        refine callG1 (number_pure (l.drop ((spAB l 0).2 + 1).toNat) (by simp; omega)) rfl (hk := ?_)
        simp (maxSteps := 2000000) (disch := omega) only [rsA, ↓reduceIte, Nat.reduceEqDiff, Nat.reduceAdd, sliceX, boundX, listOf, ty_str_9, ty_slice_9, ty_array_9, rsW, calleeOf, fillA, mkAgg, allPlain, Places.at, splice, AV.cells, AV.whole, List.all_cons, List.all_nil, Bool.and_true, constA_int, constA_bool, constA_string, constA_nil, Nat.reduceLeDiff, Nat.zero_add, Value.oneCell', ty_places_52, stepX, ty_zero_52, ty_shape_52, getD_map, rowL_cells, rowR_cells, Int.toNat_natCast, List.length_map, txts_length, txts_getD, List.take_length]
        first | exact hK | exact fin hK
      refine .seq (.seq ?_)
      apply AWS.rg [2, 9, 72]
      · intro K hK
        simp (maxSteps := 2000000) (disch := omega) only [rsA, ↓reduceIte, Nat.reduceEqDiff, Nat.reduceAdd, rsW, ty_field_52_0, cells_lit, cells_agg, cells_list, loadX, partX, mkAgg, allPlain, Nat.reduceLeDiff, Nat.le_refl, ty_shape_9, calleeOf, ty_shape_52, reduceCtorEq, ty_bool_9, getD_map, rowL_cells, rowR_cells, Int.toNat_natCast, List.length_map, txts_length, txts_getD, List.take_length]
        refine callG2 (fun hg => refFit_pure _) rfl (hk := ?_)
        simp (maxSteps := 2000000) (disch := omega) only [rsA, ↓reduceIte, Nat.reduceEqDiff, Nat.reduceAdd, rsW, ty_field_52_0, cells_lit, cells_agg, cells_list, loadX, partX, mkAgg, allPlain, Nat.reduceLeDiff, Nat.le_refl, ty_shape_9, calleeOf, ty_shape_52, reduceCtorEq, ty_bool_9, getD_map, rowL_cells, rowR_cells, Int.toNat_natCast, List.length_map, txts_length, txts_getD, List.take_length]
        refine callG2 (fun hg => line_pure ⟨l.take (spAB l 0).1.toNat, (verProg ((l.take (spAB l 0).2.toNat).drop ((spAB l 0).1 + 1).toNat)).1, hexNum (l.drop ((spAB l 0).2 + 1).toNat)⟩ (by simp; omega) (hexNum_8 _ (by simp; omega))) rfl (hk := ?_)
        simp (maxSteps := 2000000) (disch := omega) only [rsA, ↓reduceIte, Nat.reduceEqDiff, Nat.reduceAdd, rsW, ty_field_52_0, cells_lit, cells_agg, cells_list, loadX, partX, mkAgg, allPlain, Nat.reduceLeDiff, Nat.le_refl, ty_shape_9, calleeOf, ty_shape_52, reduceCtorEq, ty_bool_9, getD_map, rowL_cells, rowR_cells, Int.toNat_natCast, List.length_map, txts_length, txts_getD, List.take_length]
        first | exact hK | exact fin hK | exact fin2 hK
      refine AWS.cI (h1 := fun h4 => ?_) (h2 := fun h4 => ?_)
      · simp only [rsC, decide_eq_true_eq, decide_eq_false_iff_not] at h4
        refine .seq ?_
        apply AWS.rg [2, 3]
        · intro K hK
          simp (disch := omega) only [rsA, ↓reduceIte, Nat.reduceEqDiff, Nat.reduceAdd, fillA, mkAgg, allPlain, Places.at, splice, AV.cells, AV.whole, List.all_cons, List.all_nil, Bool.and_true, constA_int, constA_bool, constA_string, constA_nil, Nat.reduceLeDiff, Nat.zero_add, Value.oneCell', ty_places_52, stepX, ty_shape_52, getD_map, rowL_cells, rowR_cells, Int.toNat_natCast, List.length_map, txts_length, txts_getD, List.take_length]
          first | exact hK | exact fin hK
        refine .ret ?_
        simp only [results37, rsR, ↓reduceIte, Nat.reduceEqDiff, ty_shape_52, allPlain, resOne, mkS, Nat.reduceAdd, Nat.reduceLeDiff, Nat.le_refl, if_true, plainOf]
        rw [refOne, if_neg (by omega), if_pos h4]
        exact ⟨rfl, rfl⟩
      · simp only [rsC, decide_eq_true_eq, decide_eq_false_iff_not] at h4
        refine .skip (.seq ?_)
        apply AWS.rg [2, 3]
        · intro K hK
          simp (disch := omega) only [rsA, ↓reduceIte, Nat.reduceEqDiff, Nat.reduceAdd, cells_lit, cells_agg, cells_list, loadX, partX, mkAgg, allPlain, Nat.reduceLeDiff, Nat.le_refl, ty_shape_52, stepX, splice, AV.whole, AV.cells, getD_map, rowL_cells, rowR_cells, Int.toNat_natCast, List.length_map, txts_length, txts_getD, List.take_length]
          first | exact hK | exact fin hK
        refine .ret ?_
        simp only [results37, rsR, ↓reduceIte, Nat.reduceEqDiff, ty_shape_52, allPlain, resOne, mkS, Nat.reduceAdd, Nat.reduceLeDiff, Nat.le_refl, if_true, plainOf]
        rw [refOne, if_neg (by omega), if_neg (by rintro ((h | h) | h); (· rw [h4.1.1] at h; cases h); (· rw [h4.1.2] at h; cases h); exact h h4.2)]
        exact ⟨rfl, rfl⟩

theorem lineL_len (r : Row) : (lineL r).length ≤ r.name.length + 21 := by
  have h1 := hex8_len r.stamp
  have h2 := verText_len r.ver
  simp only [lineL, List.length_append, List.length_cons]
  omega
theorem showL_drop (rs : List Row) (i : Nat) (h : i < rs.length) : showL (rs.drop i) = lineL (rs.getD i default) ++ 10 :: showL (rs.drop (i + 1)) := by
  rw [drop_getD rs i h, showL]

theorem rowAt_no {rs : List Row} {i : Nat} (h : (refFit (rs.getD i default).name = false ∨ verFit (rs.getD i default).ver = false) ∨ 0 < (i : Int) ∧ (Op.bytesLess (rs.getD i default).name (rs.getD ((i : Int) - 1).toNat default).name = true ∨ (rs.getD i default).name = (rs.getD ((i : Int) - 1).toNat default).name)) : refRowAt rs i = false := by
  rw [show ((i : Int) - 1).toNat = i - 1 by omega] at h
  unfold refRowAt
  rcases h with (h | h) | ⟨h0, h | h⟩
  · rw [h]; simp
  · rw [h]; simp
  · rw [h, decide_eq_true (p := 0 < i) (by omega)]; simp
  · rw [decide_eq_true h, decide_eq_true (p := 0 < i) (by omega)]; simp
theorem rowAt_yes {rs : List Row} {i : Nat} (h : (refFit (rs.getD i default).name = true ∧ verFit (rs.getD i default).ver = true) ∧ (¬ 0 < (i : Int) ∨ Op.bytesLess (rs.getD i default).name (rs.getD ((i : Int) - 1).toNat default).name = false ∧ ¬ (rs.getD i default).name = (rs.getD ((i : Int) - 1).toNat default).name)) : refRowAt rs i = true := by
  rw [show ((i : Int) - 1).toNat = i - 1 by omega] at h
  unfold refRowAt
  obtain ⟨⟨h1, h2⟩, h3⟩ := h
  rw [h1, h2]
  rcases h3 with h3 | ⟨h3, h4⟩
  · rw [decide_eq_false (p := 0 < i) (by omega)]; rfl
  · rw [h3, decide_eq_false h4]; simp
/-- comprador/compradorref57.Check -/
theorem refCheck_pure (rs : List Row) (hrs : rs.length ≤ 1000000) : APure prog 15 [.list (rs.map rowR)] (.pv (.lit (.bool (refCheck rs)))) := by
  apply go func15
  refine .seq ?_
  apply AWS.rg [0]
  · intro K hK
    simp (disch := omega) only [rsA, ↓reduceIte, Nat.reduceEqDiff, Nat.reduceAdd, getD_map, rowL_cells, rowR_cells, Int.toNat_natCast, List.length_map, txts_length, txts_getD, List.take_length]
    first | exact hK | exact fin hK
  refine .seq (.seq ?_)
  apply AWS.rg [0, 3]
  · intro K hK
    simp (disch := omega) only [rsA, ↓reduceIte, Nat.reduceEqDiff, Nat.reduceAdd, getD_map, rowL_cells, rowR_cells, Int.toNat_natCast, List.length_map, txts_length, txts_getD, List.take_length]
    first | exact hK | exact fin hK
  refine .block ?_
  apply AWS.lp [3] [0] (fun zz : Nat => rs.length - zz) (fun zz => [.pv (.lit (.int .i64 (zz)))]) (fun zz => []) (fun zz => zz ≤ rs.length ∧ ∀ j, j < zz → refRowAt rs j = true) (0) (⟨by omega, fun j h => by omega⟩)
  rintro i hI ih
  try dsimp only at hI
  obtain ⟨hi1, hI⟩ := hI
  refine .seq (.seq ?_)
  apply AWS.rg [0, 3, 7]
  · intro K hK
    simp (disch := omega) only [rsA, ↓reduceIte, Nat.reduceEqDiff, Nat.reduceAdd, listOf, ty_str_25, ty_slice_25, rsW, getD_map, rowL_cells, rowR_cells, Int.toNat_natCast, List.length_map, txts_length, txts_getD, List.take_length]
    first | exact hK | exact fin hK
  refine AWS.cI (h1 := fun h1 => ?_) (h2 := fun h1 => ?_)
  · simp only [rsC, decide_eq_true_eq, decide_eq_false_iff_not] at h1
    refine .skip (.seq (.block (.seq ?_)))
    apply AWS.rg [0, 3, 43]
    · intro K hK
      simp (maxSteps := 2000000) (disch := omega) only [rsA, ↓reduceIte, Nat.reduceEqDiff, Nat.reduceAdd, cells_lit, cells_agg, cells_list, listOf, ty_slice_25, ty_array_25, ty_field_52_0, loadX, partX, mkAgg, allPlain, Nat.reduceLeDiff, Nat.le_refl, ty_shape_9, calleeOf, rsW, ty_field_52_1, ty_shape_3, getD_map, rowL_cells, rowR_cells, Int.toNat_natCast, List.length_map, txts_length, txts_getD, List.take_length]
      refine callG1 (refFit_pure (rs.getD i default).name) rfl (hk := ?_)
      simp (maxSteps := 2000000) (disch := omega) only [rsA, ↓reduceIte, Nat.reduceEqDiff, Nat.reduceAdd, cells_lit, cells_agg, cells_list, listOf, ty_slice_25, ty_array_25, ty_field_52_0, loadX, partX, mkAgg, allPlain, Nat.reduceLeDiff, Nat.le_refl, ty_shape_9, calleeOf, rsW, ty_field_52_1, ty_shape_3, getD_map, rowL_cells, rowR_cells, Int.toNat_natCast, List.length_map, txts_length, txts_getD, List.take_length]
      refine callG2 (fun hg => refVerFit_pure (rs.getD i default).ver) rfl (hk := ?_)
      simp (maxSteps := 2000000) (disch := omega) only [rsA, ↓reduceIte, Nat.reduceEqDiff, Nat.reduceAdd, cells_lit, cells_agg, cells_list, listOf, ty_slice_25, ty_array_25, ty_field_52_0, loadX, partX, mkAgg, allPlain, Nat.reduceLeDiff, Nat.le_refl, ty_shape_9, calleeOf, rsW, ty_field_52_1, ty_shape_3, getD_map, rowL_cells, rowR_cells, Int.toNat_natCast, List.length_map, txts_length, txts_getD, List.take_length]
      exact fin2 hK
    refine AWS.cI (h1 := fun h2 => ?_) (h2 := fun h2 => ?_)
    · simp only [rsC, decide_eq_true_eq, decide_eq_false_iff_not] at h2
      refine .seq ?_
      apply AWS.rg [2]
      · intro K hK
        simp (disch := omega) only [rsA, ↓reduceIte, Nat.reduceEqDiff, Nat.reduceAdd, getD_map, rowL_cells, rowR_cells, Int.toNat_natCast, List.length_map, txts_length, txts_getD, List.take_length]
        first | exact hK | exact fin hK
      refine .ret ?_
      simp only [results15, rsR, ↓reduceIte, Nat.reduceEqDiff]
      symm
      unfold refCheck
      rw [Bool.eq_false_iff]
      intro hh
      rw [List.all_eq_true] at hh
      have := hh i (by simp; omega)
      rw [rowAt_no h2] at this
      cases this
    · simp only [rsC, decide_eq_true_eq, decide_eq_false_iff_not] at h2
      refine .skip (.inBlock ?_)
      apply AWS.rg [0, 3]
      · intro K hK
        simp (disch := omega) only [rsA, ↓reduceIte, Nat.reduceEqDiff, Nat.reduceAdd, rsW, getD_map, rowL_cells, rowR_cells, Int.toNat_natCast, List.length_map, txts_length, txts_getD, List.take_length]
        first | exact hK | exact fin hK
      refine AWS.bk 0 (ih (i + 1) (by first | omega | (dsimp only; omega)) (⟨by omega, fun j hj => by
        by_cases e : j = i
        · subst e; exact rowAt_yes h2
        · exact hI j (by omega)⟩)) ?_ ?_
      · first | rfl | (simp; done)
      · simp [rs0]
  · simp only [rsC, decide_eq_true_eq, decide_eq_false_iff_not] at h1
    refine .exit rfl (.seq ?_)
    apply AWS.rg [2]
    · intro K hK
      simp (disch := omega) only [rsA, ↓reduceIte, Nat.reduceEqDiff, Nat.reduceAdd, getD_map, rowL_cells, rowR_cells, Int.toNat_natCast, List.length_map, txts_length, txts_getD, List.take_length]
      first | exact hK | exact fin hK
    refine .ret ?_
    simp only [results15, rsR, ↓reduceIte, Nat.reduceEqDiff]
    symm
    unfold refCheck
    rw [List.all_eq_true]
    intro j hj
    exact hI j (by simp at hj; omega)
/-- comprador/compradorref57.Show -/
theorem refShow_pure (rs : List Row) (hrs : rs.length ≤ 1000000) (hn : ∀ r ∈ rs, r.name.length ≤ 1000 ∧ (0 ≤ r.stamp ∧ r.stamp ≤ 4294967295)) : APure prog 13 [.list (rs.map rowR)] (.pv (.lit (.string (str (refShow rs))))) := by
  apply go func13
  refine .seq ?_
  apply AWS.rg [0]
  · intro K hK
    simp (disch := omega) only [rsA, ↓reduceIte, Nat.reduceEqDiff, Nat.reduceAdd, getD_map, rowL_cells, rowR_cells, Int.toNat_natCast, List.length_map, txts_length, txts_getD, List.take_length]
    first | exact hK | exact fin hK
  refine .seq (.seq ?_)
  apply AWS.rg [0, 7]
  · intro K hK
    simp (disch := omega) only [rsA, ↓reduceIte, Nat.reduceEqDiff, Nat.reduceAdd, calleeOf, rsW, getD_map, rowL_cells, rowR_cells, Int.toNat_natCast, List.length_map, txts_length, txts_getD, List.take_length]
    refine callG1 (refCheck_pure _ (by omega)) rfl (hk := ?_)
    simp (disch := omega) only [rsA, ↓reduceIte, Nat.reduceEqDiff, Nat.reduceAdd, calleeOf, rsW, getD_map, rowL_cells, rowR_cells, Int.toNat_natCast, List.length_map, txts_length, txts_getD, List.take_length]
    first | exact hK | exact fin hK
  refine AWS.cI (h1 := fun h1 => ?_) (h2 := fun h1 => ?_)
  · simp only [rsC, decide_eq_true_eq, decide_eq_false_iff_not] at h1
    refine .seq ?_
    apply AWS.rg [2]
    · intro K hK
      simp (disch := omega) only [rsA, ↓reduceIte, Nat.reduceEqDiff, Nat.reduceAdd, getD_map, rowL_cells, rowR_cells, Int.toNat_natCast, List.length_map, txts_length, txts_getD, List.take_length]
      first | exact hK | exact fin hK
    refine .ret ?_
    simp only [results13, rsR, ↓reduceIte, Nat.reduceEqDiff]
    symm
    rw [refShow, if_neg (by simp [h1])]
  · simp only [rsC, decide_eq_true_eq, decide_eq_false_iff_not] at h1
    refine .skip (.seq ?_)
    apply AWS.rg [0, 3]
    · intro K hK
      simp (disch := omega) only [rsA, ↓reduceIte, Nat.reduceEqDiff, Nat.reduceAdd, getD_map, rowL_cells, rowR_cells, Int.toNat_natCast, List.length_map, txts_length, txts_getD, List.take_length]
      first | exact hK | exact fin hK
    refine .seq (.seq ?_)
    apply AWS.rg [0, 3, 4]
    · intro K hK
      simp (disch := omega) only [rsA, ↓reduceIte, Nat.reduceEqDiff, Nat.reduceAdd, getD_map, rowL_cells, rowR_cells, Int.toNat_natCast, List.length_map, txts_length, txts_getD, List.take_length]
      first | exact hK | exact fin hK
    refine .block ?_
    apply AWS.lp [3, 4] [0] (fun zz : Nat × List UInt8 => rs.length - zz.1) (fun zz => [.pv (.lit (.string (str (zz.2)))), .pv (.lit (.int .i64 (zz.1)))]) (fun zz => []) (fun zz => zz.1 ≤ rs.length ∧ zz.2.length ≤ 1100 * zz.1 ∧ zz.2 ++ showL (rs.drop zz.1) = showL rs) ((0, [])) (by simp)
    rintro ⟨i, s⟩ hI ih
    try dsimp only at hI
    obtain ⟨hi1, hs, hI⟩ := hI
    have hni : i < rs.length → (rs.getD i default).name.length ≤ 1000 ∧ (0 ≤ (rs.getD i default).stamp ∧ (rs.getD i default).stamp ≤ 4294967295) := fun h => hn _ (by simp [List.getD, h])
    have hll := lineL_len (rs.getD i default)
    refine .seq (.seq ?_)
    apply AWS.rg [0, 3, 4, 11]
    · intro K hK
      simp (disch := omega) only [rsA, ↓reduceIte, Nat.reduceEqDiff, Nat.reduceAdd, listOf, ty_str_25, ty_slice_25, rsW, getD_map, rowL_cells, rowR_cells, Int.toNat_natCast, List.length_map, txts_length, txts_getD, List.take_length]
      first | exact hK | exact fin hK
    refine AWS.cI (h1 := fun h2 => ?_) (h2 := fun h2 => ?_)
    · simp only [rsC, decide_eq_true_eq, decide_eq_false_iff_not] at h2
      refine .skip (.seq (.block ?_))
      apply AWS.rg [0, 3, 4]
      · intro K hK
        simp (maxSteps := 2000000) (disch := omega) only [rsA, ↓reduceIte, Nat.reduceEqDiff, Nat.reduceAdd, cells_lit, cells_agg, cells_list, listOf, ty_slice_25, ty_array_25, loadX, partX, mkAgg, allPlain, Nat.reduceLeDiff, Nat.le_refl, ty_shape_52, calleeOf, rsW, getD_map, rowL_cells, rowR_cells, Int.toNat_natCast, List.length_map, txts_length, txts_getD, List.take_length]
        refine callG1 (line_pure (rs.getD i default) (by omega) (by omega)) rfl (hk := ?_)
        simp (maxSteps := 2000000) (disch := omega) only [rsA, ↓reduceIte, Nat.reduceEqDiff, Nat.reduceAdd, cells_lit, cells_agg, cells_list, listOf, ty_slice_25, ty_array_25, loadX, partX, mkAgg, allPlain, Nat.reduceLeDiff, Nat.le_refl, ty_shape_52, calleeOf, rsW, getD_map, rowL_cells, rowR_cells, Int.toNat_natCast, List.length_map, txts_length, txts_getD, List.take_length]
        first | exact hK | exact fin hK
      refine .inBlock ?_
      apply AWS.rg [0, 3, 4]
      · intro K hK
        simp (disch := omega) only [rsA, ↓reduceIte, Nat.reduceEqDiff, Nat.reduceAdd, rsW, getD_map, rowL_cells, rowR_cells, Int.toNat_natCast, List.length_map, txts_length, txts_getD, List.take_length]
        first | exact hK | exact fin hK
      refine AWS.bk 0 (ih ((i + 1, s ++ lineL (rs.getD i default) ++ [10])) (by first | omega | (dsimp only; omega)) (⟨by dsimp only; omega, by simp only [List.length_append, List.length_cons, List.length_nil]; omega, by rw [← hI, showL_drop rs i (by omega)]; simp⟩)) ?_ ?_
      · first | rfl | (simp; done)
      · simp [rs0]
    · simp only [rsC, decide_eq_true_eq, decide_eq_false_iff_not] at h2
      refine .exit rfl (.seq ?_)
      apply AWS.rg [2]
      · intro K hK
        simp (disch := omega) only [rsA, ↓reduceIte, Nat.reduceEqDiff, Nat.reduceAdd, getD_map, rowL_cells, rowR_cells, Int.toNat_natCast, List.length_map, txts_length, txts_getD, List.take_length]
        first | exact hK | exact fin hK
      refine .ret ?_
      simp only [results13, rsR, ↓reduceIte, Nat.reduceEqDiff]
      rw [refShow, if_pos h1, ← hI, List.drop_eq_nil_of_le (by omega), showL, List.append_nil]

theorem copyCheck_any (s : List AObj) (id : Nat) (p b : AV) (hp : p = .pv (.lit (.pointer none)) ∨ p = .box id 0) (h : s[id]? = some (.box 56 [p, b])) : ACall prog 62 [.box id 0] (mkS s) .undef (mkS (s.set id (.box 56 [.box id 0, b]))) := by
  rcases hp with rfl | rfl
  · exact copyCheck_fresh s id b h
  · have e : s.set id (.box 56 [.box id 0, b]) = s := by
      have hlt := (List.getElem?_eq_some_iff.1 h).1
      have he := (List.getElem?_eq_some_iff.1 h).2
      rw [← he, List.set_getElem_self]
    rw [e]
    exact copyCheck_used s id b h
theorem set_get {s : List AObj} {id : Nat} {x : AObj} (h : s[id]? = some x) (y : AObj) : (s.set id y)[id]? = some y := by
  have hlt := (List.getElem?_eq_some_iff.1 h).1
  simp [hlt]
theorem set_get2 {s : List AObj} {id j : Nat} {x : AObj} (hne : id ≠ j) (h : s[j]? = some x) (y : AObj) : (s.set id y)[j]? = some x := by
  rw [List.getElem?_set_ne hne]; exact h
theorem set_get3 {s : List AObj} {id j : Nat} {x z : AObj} (hne : j ≠ id) (h : s[id]? = some x) (y : AObj) : ((s.set id y).set j z)[id]? = some y := by
  rw [List.getElem?_set_ne hne]; exact set_get h y
theorem set_set (s : List AObj) (id j : Nat) (hne : id ≠ j) (x y z : AObj) : ((s.set id x).set j y).set id z = (s.set j y).set id z := by
  rw [List.set_comm _ _ hne, List.set_set]
theorem bytes_app (x t : List UInt8) : bytesV (str x) ++ bytesV (str t) = bytesV (str (x ++ t)) := by simp [bytesV, str]
theorem bytes_len (x : List UInt8) : (bytesV (str x)).length = x.length := by rw [bytesV_length, str_size]
theorem bytes_cells (x : List UInt8) : (∀ z ∈ bytesV (str x), z.cells.length = 1) = True := by simp only [eq_iff_iff, iff_true]; exact bytesV_cells _
/-- (*strings.Builder).WriteString -/
theorem writeString_any (s : List AObj) (id j : Nat) (p : AV) (x t : List UInt8) (hp : p = .pv (.lit (.pointer none)) ∨ p = .box id 0) (hij : id ≠ j) (h1 : s[id]? = some (.box 56 [p, .own j (bytesV (str x))])) (h2 : s[j]? = some (.tok 5 1 x.length)) (hlen : x.length + t.length ≤ 140737488355328) : ACall prog 29 [.box id 0, .pv (.lit (.string (str (t))))] (mkS (s)) (.tuple [.pv (.lit (.int .i64 t.length)), .pv (.lit .nilIface)]) (mkS ((s.set j (.tok 5 1 (x.length + t.length))).set id (.box 56 [.box id 0, .own j (bytesV (str (x ++ t)))]))) := by
  apply goA func29
  refine .seq ?_
  apply AWS.rg [0, 1]
  · intro K hK
    simp (disch := omega) only [rsA, ↓reduceIte, Nat.reduceEqDiff, Nat.reduceAdd, getD_map, rowL_cells, rowR_cells, Int.toNat_natCast, List.length_map, txts_length, txts_getD, List.take_length]
    first | exact hK | exact fin hK
  refine .seq ?_
  apply AWS.rp [0, 1] (butP [62] false)
  · intro K hK
    simp (disch := omega) only [rsA, ↓reduceIte, Nat.reduceEqDiff, Nat.reduceAdd, List.contains_cons, List.contains_nil, Nat.reduceBEq, Bool.or_true, Bool.or_false, Bool.not_true, Bool.not_false, stepX, and_self, calleeOf, getD_map, rowL_cells, rowR_cells, Int.toNat_natCast, List.length_map, txts_length, txts_getD, List.take_length]
    refine callG3 (copyCheck_any s id p _ hp h1) (hk := ?_)
    simp (disch := omega) only [rsA, ↓reduceIte, Nat.reduceEqDiff, Nat.reduceAdd, List.contains_cons, List.contains_nil, Nat.reduceBEq, Bool.or_true, Bool.or_false, Bool.not_true, Bool.not_false, stepX, and_self, calleeOf, getD_map, rowL_cells, rowR_cells, Int.toNat_natCast, List.length_map, txts_length, txts_getD, List.take_length]
    first | exact hK | exact fin hK
  refine .seq ?_
  apply AWS.rg [1]
  · intro K hK
    simp (maxSteps := 2000000) (disch := omega) only [rsA, ↓reduceIte, Nat.reduceEqDiff, Nat.reduceAdd, ty_field_56_1, cells_lit, cells_agg, cells_list, loadX, partX, mkAgg, allPlain, Nat.reduceLeDiff, Nat.le_refl, ty_shape_54, List.forall_mem_cons, List.forall_mem_nil, stepX, appendX, srcOf, srcOk, decide_eq_true_eq, eq_self, listOf, ty_elem_54, ty_str_9, ty_brow_54, splice, AV.whole, AV.cells, getD_map, rowL_cells, rowR_cells, Int.toNat_natCast, List.length_map, txts_length, txts_getD, List.take_length, set_get h1, set_get2 hij h2, set_get3 hij.symm h1, bytes_len, bytes_cells, bytes_app, set_set s id j hij]
    first | exact hK | exact fin hK
  refine .seq ?_
  apply AWS.rg [4, 5]
  · intro K hK
    simp (disch := omega) only [rsA, ↓reduceIte, Nat.reduceEqDiff, Nat.reduceAdd, listOf, ty_str_9, ty_slice_9, getD_map, rowL_cells, rowR_cells, Int.toNat_natCast, List.length_map, txts_length, txts_getD, List.take_length]
    first | exact hK | exact fin hK
  refine .ret ?_
  refine ⟨rfl, ?_⟩
  simp only [results29, rsRA, rsR, ↓reduceIte, Nat.reduceEqDiff]

theorem join3 (a b c : List UInt8) (ha : a.length ≤ 10000) (hb : b.length ≤ 10000) (hc : c.length ≤ 10000) : APure prog 30 [.list [.lit (.string (str a)), .lit (.string (str b)), .lit (.string (str c))], .lit (.string (str [32]))] (.pv (.lit (.string (str (a ++ 32 :: (b ++ 32 :: c)))))) := by
  have e : Lib.join ([str a, str b, str c].map (·.data.toList)) [32] = a ++ 32 :: (b ++ 32 :: c) := by
    simp [str, Lib.join_cons, Lib.joinTail]
  have := join_pure [str a, str b, str c] [32] (by simp) (by simp) (by rw [e]; simp; omega)
  rw [e] at this
  exact this
/-- comprador/lock.Show -/
theorem lockShow_nil  : APure prog 10 [.list ([])] (.pv (.lit (.string (str ([]))))) := by
  apply go func10
  refine .seq ?_
  apply AWS.rg [0]
  · intro K hK
    simp (disch := omega) only [rsA, ↓reduceIte, Nat.reduceEqDiff, Nat.reduceAdd, Int.reduceLT, Int.reduceLE, Int.reduceAdd, Int.reduceSub, Int.reduceMul, Int.reduceToNat, decide_true, decide_false, Bool.not_true, Bool.not_false, getD_map, rowL_cells, rowR_cells, Int.toNat_natCast, List.length_map, txts_length, txts_getD, List.take_length]
    first | exact hK | exact fin hK
  refine .seq (.seq ?_)
  apply AWS.rg [0, 8]
  · intro K hK
    simp (disch := omega) only [rsA, ↓reduceIte, Nat.reduceEqDiff, Nat.reduceAdd, Int.reduceLT, Int.reduceLE, Int.reduceAdd, Int.reduceSub, Int.reduceMul, Int.reduceToNat, decide_true, decide_false, Bool.not_true, Bool.not_false, calleeOf, rsW, getD_map, rowL_cells, rowR_cells, Int.toNat_natCast, List.length_map, txts_length, txts_getD, List.take_length, checkL]
    refine callG1 (lockCheck_pure [] (by simp)) rfl (hk := ?_)
    simp (disch := omega) only [rsA, ↓reduceIte, Nat.reduceEqDiff, Nat.reduceAdd, Int.reduceLT, Int.reduceLE, Int.reduceAdd, Int.reduceSub, Int.reduceMul, Int.reduceToNat, decide_true, decide_false, Bool.not_true, Bool.not_false, calleeOf, rsW, getD_map, rowL_cells, rowR_cells, Int.toNat_natCast, List.length_map, txts_length, txts_getD, List.take_length, checkL]
    first | exact hK | exact fin hK
  refine AWS.cI (h1 := fun h1 => by cases h1) (h2 := fun h1 => ?_)
  clear h1
  refine .skip (.seq ?_)
  apply AWS.rg [0, 3]
  · intro K hK
    simp (disch := omega) only [rsA, ↓reduceIte, Nat.reduceEqDiff, Nat.reduceAdd, Int.reduceLT, Int.reduceLE, Int.reduceAdd, Int.reduceSub, Int.reduceMul, Int.reduceToNat, decide_true, decide_false, Bool.not_true, Bool.not_false, stepX, ty_zero_56, getD_map, rowL_cells, rowR_cells, Int.toNat_natCast, List.length_map, txts_length, txts_getD, List.take_length]
    first | exact hK | exact fin hK
  refine .seq (.seq ?_)
  apply AWS.rg [3, 9, 10, 11]
  · intro K hK
    simp (disch := omega) only [rsA, ↓reduceIte, Nat.reduceEqDiff, Nat.reduceAdd, Int.reduceLT, Int.reduceLE, Int.reduceAdd, Int.reduceSub, Int.reduceMul, Int.reduceToNat, decide_true, decide_false, Bool.not_true, Bool.not_false, listOf, ty_str_22, ty_slice_22, getD_map, rowL_cells, rowR_cells, Int.toNat_natCast, List.length_map, txts_length, txts_getD, List.take_length]
    first | exact hK | exact fin hK
  refine .block (.loop (.seq ?_))
  apply AWS.rg [3, 9, 10, 11, 12]
  · intro K hK
    simp (disch := omega) only [rsA, ↓reduceIte, Nat.reduceEqDiff, Nat.reduceAdd, Int.reduceLT, Int.reduceLE, Int.reduceAdd, Int.reduceSub, Int.reduceMul, Int.reduceToNat, decide_true, decide_false, Bool.not_true, Bool.not_false, rsW, getD_map, rowL_cells, rowR_cells, Int.toNat_natCast, List.length_map, txts_length, txts_getD, List.take_length]
    first | exact hK | exact fin hK
  refine .seq ?_
  refine .cond false rfl ?_
  refine .exit rfl (.seq ?_)
  apply AWS.rp [2] (butP [33] false)
  · intro K hK
    simp (disch := omega) only [rsA, ↓reduceIte, Nat.reduceEqDiff, Nat.reduceAdd, Int.reduceLT, Int.reduceLE, Int.reduceAdd, Int.reduceSub, Int.reduceMul, Int.reduceToNat, decide_true, decide_false, Bool.not_true, Bool.not_false, List.contains_cons, List.contains_nil, Nat.reduceBEq, Bool.or_true, Bool.or_false, Bool.not_true, Bool.not_false, stepX, and_self, calleeOf, getD_map, rowL_cells, rowR_cells, Int.toNat_natCast, List.length_map, txts_length, txts_getD, List.take_length]
    refine callG3 (builder_String0 _ 0 _ rfl) (hk := ?_)
    simp (disch := omega) only [rsA, ↓reduceIte, Nat.reduceEqDiff, Nat.reduceAdd, Int.reduceLT, Int.reduceLE, Int.reduceAdd, Int.reduceSub, Int.reduceMul, Int.reduceToNat, decide_true, decide_false, Bool.not_true, Bool.not_false, List.contains_cons, List.contains_nil, Nat.reduceBEq, Bool.or_true, Bool.or_false, Bool.not_true, Bool.not_false, stepX, and_self, calleeOf, getD_map, rowL_cells, rowR_cells, Int.toNat_natCast, List.length_map, txts_length, txts_getD, List.take_length]
    first | exact hK | exact fin hK
  refine .ret ?_
  simp only [results10, rsR, ↓reduceIte, Nat.reduceEqDiff]
/-- comprador/lock.Show -/
theorem lockShow_cons (rs : List Row) (hne : rs ≠ []) (hrs : rs.length ≤ 1000000) (hn : ∀ r ∈ rs, r.name.length ≤ 1000 ∧ (0 ≤ r.stamp ∧ r.stamp ≤ 4294967295)) : APure prog 10 [.list (rs.map rowL)] (.pv (.lit (.string (str (lockShow rs))))) := by
  apply go func10
  have hpos := List.length_pos_iff.2 hne
  refine .seq ?_
  apply AWS.rg [0]
  · intro K hK
    simp (disch := omega) only [rsA, ↓reduceIte, Nat.reduceEqDiff, Nat.reduceAdd, getD_map, rowL_cells, rowR_cells, Int.toNat_natCast, List.length_map, txts_length, txts_getD, List.take_length]
    first | exact hK | exact fin hK
  refine .seq (.seq ?_)
  apply AWS.rg [0, 8]
  · intro K hK
    simp (disch := omega) only [rsA, ↓reduceIte, Nat.reduceEqDiff, Nat.reduceAdd, calleeOf, rsW, getD_map, rowL_cells, rowR_cells, Int.toNat_natCast, List.length_map, txts_length, txts_getD, List.take_length]
    refine callG1 (lockCheck_pure _ (by omega)) rfl (hk := ?_)
    simp (disch := omega) only [rsA, ↓reduceIte, Nat.reduceEqDiff, Nat.reduceAdd, calleeOf, rsW, getD_map, rowL_cells, rowR_cells, Int.toNat_natCast, List.length_map, txts_length, txts_getD, List.take_length]
    first | exact hK | exact fin hK
  refine AWS.cI (h1 := fun h1 => ?_) (h2 := fun h1 => ?_)
  · simp only [rsC, decide_eq_true_eq, decide_eq_false_iff_not] at h1
    refine .seq ?_
    apply AWS.rg [2]
    · intro K hK
      simp (disch := omega) only [rsA, ↓reduceIte, Nat.reduceEqDiff, Nat.reduceAdd, getD_map, rowL_cells, rowR_cells, Int.toNat_natCast, List.length_map, txts_length, txts_getD, List.take_length]
      first | exact hK | exact fin hK
    refine .ret ?_
    simp only [results10, rsR, ↓reduceIte, Nat.reduceEqDiff]
    symm
    rw [lockShow, if_neg (by simp [h1])]
  · simp only [rsC, decide_eq_true_eq, decide_eq_false_iff_not] at h1
    refine .skip (.seq ?_)
    apply AWS.rg [0, 3]
    · intro K hK
      simp (disch := omega) only [rsA, ↓reduceIte, Nat.reduceEqDiff, Nat.reduceAdd, stepX, ty_zero_56, getD_map, rowL_cells, rowR_cells, Int.toNat_natCast, List.length_map, txts_length, txts_getD, List.take_length]
      first | exact hK | exact fin hK
    refine .seq (.seq ?_)
    apply AWS.rg [3, 9, 10, 11]
    · intro K hK
      simp (disch := omega) only [rsA, ↓reduceIte, Nat.reduceEqDiff, Nat.reduceAdd, listOf, ty_str_22, ty_slice_22, getD_map, rowL_cells, rowR_cells, Int.toNat_natCast, List.length_map, txts_length, txts_getD, List.take_length]
      first | exact hK | exact fin hK
    refine .block ?_
    refine AWS.ownBx 0 1 56 5 1 _ rfl rfl rfl ?_
    apply AWS.lp [11] [3, 9, 10] (fun zz : Nat × List UInt8 => rs.length - zz.1) (fun zz => [.pv (.lit (.int .i64 (zz.1)))]) (fun zz => [.box 56 [if zz.1 = 0 then .pv (.lit (.pointer none)) else .box 0 0, .own 1 (bytesV (str zz.2))], .tok 5 1 zz.2.length]) (fun zz => zz.1 ≤ rs.length ∧ zz.2.length ≤ 1100 * zz.1 ∧ (0 < zz.1 → zz.2 ≠ []) ∧ zz.2 ++ showL (rs.drop zz.1) = showL rs) ((0, [])) (by simp) (hs := by simp [bytesV, str])
    rintro ⟨i, s⟩ hI ih
    try dsimp only at hI
    obtain ⟨hi1, hs, hsn, hI⟩ := hI
    have hni : i < rs.length → (rs.getD i default).name.length ≤ 1000 ∧ (0 ≤ (rs.getD i default).stamp ∧ (rs.getD i default).stamp ≤ 4294967295) := fun h => hn _ (by simp [List.getD, h])
    have hll := lineL_len (rs.getD i default)
    have hl8 := hex8_len (rs.getD i default).stamp
    have hlv := verText_len (rs.getD i default).ver
    refine .seq ?_
    apply AWS.rg [3, 9, 10, 11, 12]
    · intro K hK
      simp (disch := omega) only [rsA, ↓reduceIte, Nat.reduceEqDiff, Nat.reduceAdd, rsW, getD_map, rowL_cells, rowR_cells, Int.toNat_natCast, List.length_map, txts_length, txts_getD, List.take_length]
      first | exact hK | exact fin hK
    refine .seq ?_
    refine AWS.cI (h1 := fun h2 => ?_) (h2 := fun h2 => ?_)
    · simp only [rsC, decide_eq_true_eq, decide_eq_false_iff_not] at h2
      refine .skip (.seq (.block (.seq ?_)))
      apply AWS.rg [3, 5, 9, 10, 11]
      · intro K hK
        simp (disch := omega) only [rsA, ↓reduceIte, Nat.reduceEqDiff, Nat.reduceAdd, cells_lit, cells_agg, cells_list, listOf, ty_slice_22, ty_array_22, loadX, partX, mkAgg, allPlain, Nat.reduceLeDiff, Nat.le_refl, ty_shape_50, stepX, ty_zero_50, splice, AV.whole, AV.cells, getD_map, rowL_cells, rowR_cells, Int.toNat_natCast, List.length_map, txts_length, txts_getD, List.take_length]
        first | exact hK | exact fin hK
      apply AWS.rp [3, 9, 10, 11] (butP [29] false)
      · intro K hK
        simp (maxSteps := 2000000) (disch := omega) only [rsA, ↓reduceIte, Nat.reduceEqDiff, Nat.reduceAdd, List.contains_cons, List.contains_nil, Nat.reduceBEq, Bool.or_true, Bool.or_false, Bool.not_true, Bool.not_false, stepX, and_self, ty_field_50_0, cells_lit, cells_agg, cells_list, loadX, partX, mkAgg, allPlain, Nat.reduceLeDiff, Nat.le_refl, ty_shape_9, ty_field_50_1, ty_shape_3, calleeOf, ty_field_50_2, ty_shape_48, List.forall_mem_cons, List.forall_mem_nil, ty_elem_64, rsW, getD_map, rowL_cells, rowR_cells, Int.toNat_natCast, List.length_map, txts_length, txts_getD, List.take_length]
        refine callG1 (text_pure (rs.getD i default).ver) rfl (hk := ?_)
        simp (maxSteps := 2000000) (disch := omega) only [rsA, ↓reduceIte, Nat.reduceEqDiff, Nat.reduceAdd, List.contains_cons, List.contains_nil, Nat.reduceBEq, Bool.or_true, Bool.or_false, Bool.not_true, Bool.not_false, stepX, and_self, ty_field_50_0, cells_lit, cells_agg, cells_list, loadX, partX, mkAgg, allPlain, Nat.reduceLeDiff, Nat.le_refl, ty_shape_9, ty_field_50_1, ty_shape_3, calleeOf, ty_field_50_2, ty_shape_48, List.forall_mem_cons, List.forall_mem_nil, ty_elem_64, rsW, getD_map, rowL_cells, rowR_cells, Int.toNat_natCast, List.length_map, txts_length, txts_getD, List.take_length]
        refine callG1 (hexed_pure (rs.getD i default).stamp (by omega) (by omega)) rfl (hk := ?_)
        simp (maxSteps := 2000000) (disch := omega) only [rsA, ↓reduceIte, Nat.reduceEqDiff, Nat.reduceAdd, List.contains_cons, List.contains_nil, Nat.reduceBEq, Bool.or_true, Bool.or_false, Bool.not_true, Bool.not_false, stepX, and_self, ty_field_50_0, cells_lit, cells_agg, cells_list, loadX, partX, mkAgg, allPlain, Nat.reduceLeDiff, Nat.le_refl, ty_shape_9, ty_field_50_1, ty_shape_3, calleeOf, ty_field_50_2, ty_shape_48, List.forall_mem_cons, List.forall_mem_nil, ty_elem_64, rsW, getD_map, rowL_cells, rowR_cells, Int.toNat_natCast, List.length_map, txts_length, txts_getD, List.take_length]
        refine callG1 (join3 _ _ _ (by omega) (by omega) (by omega)) rfl (hk := ?_)
        simp (maxSteps := 2000000) (disch := omega) only [rsA, ↓reduceIte, Nat.reduceEqDiff, Nat.reduceAdd, List.contains_cons, List.contains_nil, Nat.reduceBEq, Bool.or_true, Bool.or_false, Bool.not_true, Bool.not_false, stepX, and_self, ty_field_50_0, cells_lit, cells_agg, cells_list, loadX, partX, mkAgg, allPlain, Nat.reduceLeDiff, Nat.le_refl, ty_shape_9, ty_field_50_1, ty_shape_3, calleeOf, ty_field_50_2, ty_shape_48, List.forall_mem_cons, List.forall_mem_nil, ty_elem_64, rsW, getD_map, rowL_cells, rowR_cells, Int.toNat_natCast, List.length_map, txts_length, txts_getD, List.take_length]
        refine callG3 (writeString_any _ 0 1 _ s _ (by split <;> simp) (by decide) rfl rfl (by simp only [List.length_append, List.length_cons, List.length_nil]; omega)) (hk := ?_)
        simp (maxSteps := 2000000) (disch := omega) only [rsA, ↓reduceIte, Nat.reduceEqDiff, Nat.reduceAdd, List.contains_cons, List.contains_nil, Nat.reduceBEq, Bool.or_true, Bool.or_false, Bool.not_true, Bool.not_false, stepX, and_self, ty_field_50_0, cells_lit, cells_agg, cells_list, loadX, partX, mkAgg, allPlain, Nat.reduceLeDiff, Nat.le_refl, ty_shape_9, ty_field_50_1, ty_shape_3, calleeOf, ty_field_50_2, ty_shape_48, List.forall_mem_cons, List.forall_mem_nil, ty_elem_64, rsW, getD_map, rowL_cells, rowR_cells, Int.toNat_natCast, List.length_map, txts_length, txts_getD, List.take_length]
        first | exact hK | exact fin hK
      refine .inBlock ?_
      apply AWS.rg [3, 9, 10, 11]
      · intro K hK
        simp (disch := omega) only [rsA, ↓reduceIte, Nat.reduceEqDiff, Nat.reduceAdd, rsW, getD_map, rowL_cells, rowR_cells, Int.toNat_natCast, List.length_map, txts_length, txts_getD, List.take_length]
        first | exact hK | exact fin hK
      refine AWS.bk 2 (ih ((i + 1, s ++ (lineL (rs.getD i default) ++ [10]))) (by first | omega | (dsimp only; omega)) (⟨by dsimp only; omega, by simp only [List.length_append, List.length_cons, List.length_nil]; omega, fun _ => by simp, by rw [← hI, showL_drop rs i (by omega)]; simp⟩)) ?_ ?_ (ho := by simp [belowO, belowL, belowA])
      · simp [lineL]
      · simp [rs0]
    · simp only [rsC, decide_eq_true_eq, decide_eq_false_iff_not] at h2
      refine .exit rfl (.seq ?_)
      apply AWS.rp [2] (butP [33] false)
      · intro K hK
        simp (disch := omega) only [rsA, ↓reduceIte, Nat.reduceEqDiff, Nat.reduceAdd, List.contains_cons, List.contains_nil, Nat.reduceBEq, Bool.or_true, Bool.or_false, Bool.not_true, Bool.not_false, stepX, and_self, calleeOf, getD_map, rowL_cells, rowR_cells, Int.toNat_natCast, List.length_map, txts_length, txts_getD, List.take_length]
        refine callG3 (builder_String _ 0 1 _ s (hsn (by omega)) rfl rfl) (hk := ?_)
        simp (disch := omega) only [rsA, ↓reduceIte, Nat.reduceEqDiff, Nat.reduceAdd, List.contains_cons, List.contains_nil, Nat.reduceBEq, Bool.or_true, Bool.or_false, Bool.not_true, Bool.not_false, stepX, and_self, calleeOf, getD_map, rowL_cells, rowR_cells, Int.toNat_natCast, List.length_map, txts_length, txts_getD, List.take_length]
        first | exact hK | exact fin hK
      refine .ret ?_
      simp only [results10, rsR, ↓reduceIte, Nat.reduceEqDiff]
      rw [lockShow, if_pos h1, ← hI, List.drop_eq_nil_of_le (by omega), showL, List.append_nil]

theorem lockShow_pure (rs : List Row) (hrs : rs.length ≤ 1000000) (hn : ∀ r ∈ rs, r.name.length ≤ 1000 ∧ (0 ≤ r.stamp ∧ r.stamp ≤ 4294967295)) : APure prog 10 [.list (rs.map rowL)] (.pv (.lit (.string (str (lockShow rs))))) := by
  by_cases h : rs = []
  · subst h; exact lockShow_nil
  · exact lockShow_cons rs h hrs hn

theorem splitOn_len (c : UInt8) (l : List UInt8) : 1 ≤ (splitOn c l).length ∧ (splitOn c l).length ≤ l.length + 1 := by
  induction l with
  | nil => simp [splitOn]
  | cons b l ih =>
    unfold splitOn
    split
    · simp; omega
    · split
      · rename_i h; rw [h] at ih; simp at ih ⊢; omega
      · simp
theorem splitOn_wlen (c : UInt8) (l : List UInt8) : ∀ w ∈ splitOn c l, w.length ≤ l.length := by
  induction l with
  | nil => simp [splitOn]
  | cons b l ih =>
    unfold splitOn
    split
    · intro w hw
      rcases List.mem_cons.1 hw with rfl | hw
      · simp
      · have := ih w hw; simp; omega
    · split
      · rename_i w ws h
        intro x hx
        rcases List.mem_cons.1 hx with rfl | hx
        · have := ih w (by rw [h]; simp); simp; omega
        · have := ih x (by rw [h]; simp [hx]); simp; omega
      · intro x hx
        simp at hx; subst hx; simp
theorem drop_lines (ls : List (List UInt8)) (i : Nat) (h : i < ls.length) : ls.drop i = ls.getD i [] :: ls.drop (i + 1) := by
  rw [List.drop_eq_getElem_cons h]
  simp [List.getD, h]
theorem rowsL_one (r : Row) (rs : List Row) : (rs ++ [r]).map rowL = rs.map rowL ++ [rowL r] := by simp
theorem txts_take (ls : List (List UInt8)) (n : Nat) : List.take n (txts ls) = txts (ls.take n) := by simp [txts, List.map_take]
theorem txts_cells' (ls : List (List UInt8)) : (∀ y ∈ txts ls, y.cells.length = 1) = True := by simp only [eq_iff_iff, iff_true]; exact txts_cells ls
theorem rowL_agg (r : Row) : AV.pv (rowL r) = .pv (.agg [.lit (.string (str r.name)), .lit (.int .i64 r.ver), .lit (.int .u32 r.stamp)]) := rfl
theorem rowR_agg (r : Row) : AV.pv (rowR r) = .pv (.agg [.lit (.string (str r.name)), .lit (.int .i64 r.ver), .lit (.int .i64 r.stamp)]) := rfl
/-- comprador/lock.Read -/
theorem lockRead_pure (s : List UInt8) (hs : s.length ≤ 1000000) : APure prog 11 [.lit (.string (str (s)))] (.tuple [.pv (.list ((lockRead s).1.map rowL)), .pv (.lit (.int .i64 ((lockRead s).2.1))), .pv (.lit (.bool ((lockRead s).2.2)))]) := by
  apply go func11
  have hsp := split_txts 10 s hs
  have hl := splitOn_len 10 s
  have hw := splitOn_wlen 10 s
  obtain ⟨R, hR⟩ : ∃ R, R = lockRead s := ⟨_, rfl⟩
  rw [← hR]
  unfold lockRead at hR
  generalize splitOn 10 s = ls at hsp hw hl hR
  have hn1 : ((ls.length : Int) - 1).toNat = ls.length - 1 := by omega
  have htl : (ls.take (ls.length - 1)).length = ls.length - 1 := by simp
  refine .seq ?_
  apply AWS.rg [0]
  · intro K hK
    simp (disch := omega) only [rsA, ↓reduceIte, Nat.reduceEqDiff, Nat.reduceAdd, getD_map, rowL_cells, rowR_cells, Int.toNat_natCast, List.length_map, txts_length, txts_getD, List.take_length, txts_take, txts_cells', hn1, htl]
    first | exact hK | exact fin hK
  refine .seq ?_
  apply AWS.rg [0, 5]
  · intro K hK
    simp (disch := omega) only [rsA, ↓reduceIte, Nat.reduceEqDiff, Nat.reduceAdd, calleeOf, getD_map, rowL_cells, rowR_cells, Int.toNat_natCast, List.length_map, txts_length, txts_getD, List.take_length, txts_take, txts_cells', hn1, htl]
    refine callG1 (hsp) rfl (hk := ?_)
    simp (disch := omega) only [rsA, ↓reduceIte, Nat.reduceEqDiff, Nat.reduceAdd, calleeOf, getD_map, rowL_cells, rowR_cells, Int.toNat_natCast, List.length_map, txts_length, txts_getD, List.take_length, txts_take, txts_cells', hn1, htl]
    first | exact hK | exact fin hK
  refine .seq ?_
  apply AWS.rg [0, 5, 6]
  · intro K hK
    simp (disch := omega) only [rsA, ↓reduceIte, Nat.reduceEqDiff, Nat.reduceAdd, listOf, ty_str_64, ty_slice_64, rsW, getD_map, rowL_cells, rowR_cells, Int.toNat_natCast, List.length_map, txts_length, txts_getD, List.take_length, txts_take, txts_cells', hn1, htl]
    first | exact hK | exact fin hK
  refine .seq (.seq ?_)
  apply AWS.rg [5, 6, 27]
  · intro K hK
    simp (maxSteps := 2000000) (disch := omega) only [rsA, ↓reduceIte, Nat.reduceEqDiff, Nat.reduceAdd, listOf, ty_str_9, ty_slice_9, rsW, cells_lit, cells_agg, cells_list, ty_slice_64, ty_array_64, loadX, partX, mkAgg, allPlain, Nat.reduceLeDiff, Nat.le_refl, ty_shape_9, reduceCtorEq, ty_bool_9, getD_map, rowL_cells, rowR_cells, Int.toNat_natCast, List.length_map, txts_length, txts_getD, List.take_length, txts_take, txts_cells', hn1, htl]
    first | exact hK | exact fin hK | exact fin2 hK
  refine AWS.cI (h1 := fun h1 => ?_) (h2 := fun h1 => ?_)
  · simp only [rsC, decide_eq_true_eq, decide_eq_false_iff_not] at h1
    refine .seq ?_
    apply AWS.rg [2, 3, 4]
    · intro K hK
      simp (disch := omega) only [rsA, ↓reduceIte, Nat.reduceEqDiff, Nat.reduceAdd, getD_map, rowL_cells, rowR_cells, Int.toNat_natCast, List.length_map, txts_length, txts_getD, List.take_length, txts_take, txts_cells', hn1, htl]
      first | exact hK | exact fin hK
    refine .ret ?_
    simp only [results11, rsR, ↓reduceIte, Nat.reduceEqDiff]
    rw [hR, if_pos (by rcases h1 with h | h; exact .inl (by omega); exact .inr h)]
    exact ⟨rfl, rfl, rfl⟩
  · simp only [rsC, decide_eq_true_eq, decide_eq_false_iff_not] at h1
    refine .skip (.seq ?_)
    apply AWS.rg [5, 6, 7]
    · intro K hK
      simp (disch := omega) only [rsA, ↓reduceIte, Nat.reduceEqDiff, Nat.reduceAdd, getD_map, rowL_cells, rowR_cells, Int.toNat_natCast, List.length_map, txts_length, txts_getD, List.take_length, txts_take, txts_cells', hn1, htl]
      first | exact hK | exact fin hK
    refine .seq ?_
    apply AWS.rg [5, 6, 7, 8]
    · intro K hK
      simp (disch := omega) only [rsA, ↓reduceIte, Nat.reduceEqDiff, Nat.reduceAdd, getD_map, rowL_cells, rowR_cells, Int.toNat_natCast, List.length_map, txts_length, txts_getD, List.take_length, txts_take, txts_cells', hn1, htl]
      first | exact hK | exact fin hK
    refine .seq (.seq ?_)
    apply AWS.rg [7, 8, 30, 31, 32]
    · intro K hK
      simp (disch := omega) only [rsA, ↓reduceIte, Nat.reduceEqDiff, Nat.reduceAdd, sliceX, boundX, listOf, ty_str_64, ty_slice_64, ty_array_64, getD_map, rowL_cells, rowR_cells, Int.toNat_natCast, List.length_map, txts_length, txts_getD, List.take_length, txts_take, txts_cells', hn1, htl]
      first | exact hK | exact fin hK
    refine .block ?_
    refine AWS.ownL 7 50 3 rfl ?_
    apply AWS.lp [7, 8, 32] [30, 31] (fun zz : Nat × List UInt8 × List Row => ls.length - zz.1) (fun zz => [.own 0 (zz.2.2.map rowL), .pv (.lit (.string (str (zz.2.1)))), .pv (.lit (.int .i64 (zz.1)))]) (fun zz => [.tok 50 3 zz.2.2.length]) (fun zz => zz.1 ≤ ls.length - 1 ∧ zz.2.2.length = zz.1 ∧ readL ((ls.take (ls.length - 1)).drop zz.1) zz.2.1 zz.1 zz.2.2 = readL (ls.take (ls.length - 1)) [] 0 []) ((0, [], [])) (by simp)
    rintro ⟨i, name, out⟩ hI ih
    try dsimp only at hI
    obtain ⟨hi1, ho, hI⟩ := hI
    have hwi : i < ls.length - 1 → ((ls.take (ls.length - 1)).getD i []).length ≤ 1000000 := fun h => Nat.le_trans (hw _ (List.mem_of_mem_take (by simp only [List.getD, List.getElem?_eq_getElem (show i < (ls.take (ls.length - 1)).length by omega), Option.getD_some]; exact List.getElem_mem _))) hs
    refine .seq ?_
    apply AWS.rg [7, 8, 30, 31, 32, 33]
    · intro K hK
      simp (disch := omega) only [rsA, ↓reduceIte, Nat.reduceEqDiff, Nat.reduceAdd, rsW, getD_map, rowL_cells, rowR_cells, Int.toNat_natCast, List.length_map, txts_length, txts_getD, List.take_length, txts_take, txts_cells', hn1, htl]
      first | exact hK | exact fin hK
    refine .seq ?_
    refine AWS.cI (h1 := fun h2 => ?_) (h2 := fun h2 => ?_)
    · simp only [rsC, decide_eq_true_eq, decide_eq_false_iff_not] at h2
      refine .skip (.seq (.block (.seq ?_)))
      apply AWS.rg [7, 8, 9, 10, 30, 31, 32]
      · intro K hK
        simp (disch := omega) only [rsA, ↓reduceIte, Nat.reduceEqDiff, Nat.reduceAdd, cells_lit, cells_agg, cells_list, listOf, ty_slice_64, ty_array_64, loadX, partX, mkAgg, allPlain, Nat.reduceLeDiff, Nat.le_refl, ty_shape_9, getD_map, rowL_cells, rowR_cells, Int.toNat_natCast, List.length_map, txts_length, txts_getD, List.take_length, txts_take, txts_cells', hn1, htl]
        first | exact hK | exact fin hK
      refine .seq ?_
      apply AWS.rg [7, 8, 9, 11, 12, 30, 31, 32]
      · intro K hK
        simp (disch := omega) only [rsA, ↓reduceIte, Nat.reduceEqDiff, Nat.reduceAdd, calleeOf, stepX, ty_zero_50, splice, AV.whole, AV.cells, ty_shape_50, getD_map, rowL_cells, rowR_cells, Int.toNat_natCast, List.length_map, txts_length, txts_getD, List.take_length, txts_take, txts_cells', hn1, htl, rowL_agg]
        refine callG1 (progOne_pure ((ls.take (ls.length - 1)).getD i []) (by omega)) rfl (hk := ?_)
        simp (disch := omega) only [rsA, ↓reduceIte, Nat.reduceEqDiff, Nat.reduceAdd, calleeOf, stepX, ty_zero_50, splice, AV.whole, AV.cells, ty_shape_50, getD_map, rowL_cells, rowR_cells, Int.toNat_natCast, List.length_map, txts_length, txts_getD, List.take_length, txts_take, txts_cells', hn1, htl, rowL_agg]
        first | exact hK | exact fin hK
      refine .seq (.seq ?_)
      apply AWS.rg [7, 9, 11, 30, 31, 32, 49]
      · intro K hK
        simp (disch := omega) only [rsA, ↓reduceIte, Nat.reduceEqDiff, Nat.reduceAdd, rsW, cells_lit, cells_agg, cells_list, loadX, partX, mkAgg, allPlain, Nat.reduceLeDiff, Nat.le_refl, ty_shape_50, calleeOf, getD_map, rowL_cells, rowR_cells, Int.toNat_natCast, List.length_map, txts_length, txts_getD, List.take_length, txts_take, txts_cells', hn1, htl]
        refine callG2 (fun hg => rowFit_pure (progOne ((ls.take (ls.length - 1)).getD i [])).1 name) rfl (hk := ?_)
        simp (disch := omega) only [rsA, ↓reduceIte, Nat.reduceEqDiff, Nat.reduceAdd, rsW, cells_lit, cells_agg, cells_list, loadX, partX, mkAgg, allPlain, Nat.reduceLeDiff, Nat.le_refl, ty_shape_50, calleeOf, getD_map, rowL_cells, rowR_cells, Int.toNat_natCast, List.length_map, txts_length, txts_getD, List.take_length, txts_take, txts_cells', hn1, htl]
        first | exact hK | exact fin hK | exact fin2 hK
      refine AWS.cI (h1 := fun h3 => ?_) (h2 := fun h3 => ?_)
      · simp only [rsC, decide_eq_true_eq, decide_eq_false_iff_not] at h3
        refine .seq ?_
        apply AWS.rg [2, 3, 4]
        · intro K hK
          simp (disch := omega) only [rsA, ↓reduceIte, Nat.reduceEqDiff, Nat.reduceAdd, rsW, getD_map, rowL_cells, rowR_cells, Int.toNat_natCast, List.length_map, txts_length, txts_getD, List.take_length, txts_take, txts_cells', hn1, htl]
          first | exact hK | exact fin hK
        refine .ret ?_
        simp only [results11, rsR, ↓reduceIte, Nat.reduceEqDiff]
        rw [hR, if_neg (by rintro (h | h); omega; exact h h1.2), ← hI, drop_lines _ i (by omega), readL, if_neg (by intro h; rcases h3 with h3 | h3; (· rw [h.1] at h3; cases h3); rw [h.2] at h3; cases h3)]
        exact ⟨rfl, rfl, rfl⟩
      · simp only [rsC, decide_eq_true_eq, decide_eq_false_iff_not] at h3
        refine .skip ?_
        apply AWS.rg [7, 8, 30, 31, 32]
        · intro K hK
          simp (disch := omega) only [rsA, ↓reduceIte, Nat.reduceEqDiff, Nat.reduceAdd, cells_lit, cells_agg, cells_list, loadX, partX, mkAgg, allPlain, Nat.reduceLeDiff, Nat.le_refl, ty_shape_50, List.forall_mem_cons, List.forall_mem_nil, ty_elem_22, stepX, appendX, srcOf, srcOk, decide_eq_true_eq, eq_self, listOf, ty_field_50_0, ty_shape_9, getD_map, rowL_cells, rowR_cells, Int.toNat_natCast, List.length_map, txts_length, txts_getD, List.take_length, txts_take, txts_cells', hn1, htl]
          first | exact hK | exact fin hK
        refine .inBlock ?_
        apply AWS.rg [7, 8, 30, 31, 32]
        · intro K hK
          simp (disch := omega) only [rsA, ↓reduceIte, Nat.reduceEqDiff, Nat.reduceAdd, rsW, getD_map, rowL_cells, rowR_cells, Int.toNat_natCast, List.length_map, txts_length, txts_getD, List.take_length, txts_take, txts_cells', hn1, htl]
          first | exact hK | exact fin hK
        rw [drop_lines _ i (by omega), readL, if_pos h3] at hI
        refine AWS.bk 1 (ih ((i + 1, (progOne ((ls.take (ls.length - 1)).getD i [])).1.name, out ++ [(progOne ((ls.take (ls.length - 1)).getD i [])).1])) (by first | omega | (dsimp only; omega)) (⟨by dsimp only; omega, by simp [ho], by rw [← hI]; simp⟩)) ?_ ?_
        · first | rfl | (simp; done)
        · simp [rs0, rowL]
    · simp only [rsC, decide_eq_true_eq, decide_eq_false_iff_not] at h2
      refine .exit rfl (.seq ?_)
      apply AWS.rg [2, 3, 4]
      · intro K hK
        simp (disch := omega) only [rsA, ↓reduceIte, Nat.reduceEqDiff, Nat.reduceAdd, getD_map, rowL_cells, rowR_cells, Int.toNat_natCast, List.length_map, txts_length, txts_getD, List.take_length, txts_take, txts_cells', hn1, htl]
        first | exact hK | exact fin hK
      refine .ret ?_
      simp only [results11, rsR, ↓reduceIte, Nat.reduceEqDiff]
      rw [hR, if_neg (by rintro (h | h); omega; exact h h1.2), ← hI, List.drop_eq_nil_of_le (by omega), readL]
      exact ⟨rfl, rfl, rfl⟩

theorem linesOf_nl (s : List UInt8) (w r : List UInt8) (h : s = w ++ 10 :: r) (hw : ∀ b ∈ w, b ≠ 10) : linesOf s = w :: linesOf r := by
  subst h
  unfold linesOf
  rw [splitOn_pre 10 w r hw]
  have h1 := (splitOn_len 10 r).1
  simp only [List.length_cons, Nat.add_sub_cancel]
  cases hs : splitOn 10 r with
  | nil => rw [hs] at h1; simp at h1
  | cons x xs => simp
theorem linesOf_end (s : List UInt8) (hs : ∀ b ∈ s, b ≠ 10) : linesOf s = [] := by
  unfold linesOf
  rw [splitOn_end 10 s hs]
  rfl
theorem line_split (s : List UInt8) (f i : Nat) (h : f ≤ i) (hi : i < s.length) (hc : byteI s i = 10) (hb : ∀ j, f ≤ j → j < i → byteI s j ≠ 10) : linesOf (s.drop f) = (s.take i).drop f :: linesOf (s.drop (i + 1)) := by
  have e : s.drop f = (s.take i).drop f ++ 10 :: s.drop (i + 1) := by
    have h1 : s.drop i = 10 :: s.drop (i + 1) := by
      rw [drop_bytes s i hi]
      congr 1
      apply UInt8.toNat_inj.1
      rw [byteI_nat] at hc
      have : (10 : UInt8).toNat = 10 := rfl
      omega
    have h2 : s = s.take i ++ s.drop i := (List.take_append_drop i s).symm
    conv => lhs; rw [h2]
    rw [List.drop_append_of_le_length (by simp; omega), h1]
  refine linesOf_nl _ _ _ e (fun b hb' => ?_)
  obtain ⟨k, hk⟩ := List.getElem?_of_mem hb'
  simp only [List.getElem?_drop, List.getElem?_take] at hk
  split at hk
  · rename_i hlt
    have := hb (f + k) (by omega) hlt
    intro hbe
    subst hbe
    apply this
    rw [byteI_nat]
    simp [List.getD, hk]
  · cases hk
theorem lines_end (s : List UInt8) (f : Nat) (hb : ∀ j, f ≤ j → j < s.length → byteI s j ≠ 10) : linesOf (s.drop f) = [] := by
  refine linesOf_end _ (fun b hb' => ?_)
  obtain ⟨k, hk⟩ := List.getElem?_of_mem hb'
  simp only [List.getElem?_drop] at hk
  have hlt := (List.getElem?_eq_some_iff.1 hk).1
  have := hb (f + k) (by omega) hlt
  intro hbe
  subst hbe
  apply this
  rw [byteI_nat]
  simp [List.getD, hk]
/-- comprador/compradorref57.Read -/
theorem refRead_pure57 (s : List UInt8) (hs : s.length ≤ 1000000) : APure prog 12 [.lit (.string (str (s)))] (.tuple [.pv (.list ((refRead s).1.map rowR)), .pv (.lit (.int .i64 ((refRead s).2.1))), .pv (.lit (.bool ((refRead s).2.2)))]) := by
  apply go func12
  have hs0 : s = [] ∨ 1 ≤ s.length := by cases s <;> simp
  refine .seq ?_
  apply AWS.rg [0]
  · intro K hK
    simp (disch := omega) only [rsA, ↓reduceIte, Nat.reduceEqDiff, Nat.reduceAdd, getD_map, rowL_cells, rowR_cells, Int.toNat_natCast, List.length_map, txts_length, txts_getD, List.take_length, txts_take, txts_cells']
    first | exact hK | exact fin hK
  refine .seq (.seq ?_)
  apply AWS.rg [0, 24]
  · intro K hK
    simp (maxSteps := 2000000) (disch := omega) only [rsA, ↓reduceIte, Nat.reduceEqDiff, Nat.reduceAdd, listOf, ty_str_9, ty_slice_9, rsW, reduceCtorEq, ty_bool_9, partX, partAX, ty_array_9, ty_bool_5, getD_map, rowL_cells, rowR_cells, Int.toNat_natCast, List.length_map, txts_length, txts_getD, List.take_length, txts_take, txts_cells']
    first | exact hK | exact fin hK | exact fin2 hK
  refine AWS.cI (h1 := fun h1 => ?_) (h2 := fun h1 => ?_)
  · simp only [rsC, decide_eq_true_eq, decide_eq_false_iff_not] at h1
    refine .seq ?_
    apply AWS.rg [2, 3, 4]
    · intro K hK
      simp (disch := omega) only [rsA, ↓reduceIte, Nat.reduceEqDiff, Nat.reduceAdd, getD_map, rowL_cells, rowR_cells, Int.toNat_natCast, List.length_map, txts_length, txts_getD, List.take_length, txts_take, txts_cells']
      first | exact hK | exact fin hK
    refine .ret ?_
    simp only [results12, rsR, ↓reduceIte, Nat.reduceEqDiff]
    rw [refRead, if_pos (by rcases h1 with h | h; exact .inl (by omega); exact .inr h)]
    exact ⟨rfl, rfl, rfl⟩
  · simp only [rsC, decide_eq_true_eq, decide_eq_false_iff_not] at h1
    refine .skip (.seq ?_)
    apply AWS.rg [0, 5]
    · intro K hK
      simp (disch := omega) only [rsA, ↓reduceIte, Nat.reduceEqDiff, Nat.reduceAdd, getD_map, rowL_cells, rowR_cells, Int.toNat_natCast, List.length_map, txts_length, txts_getD, List.take_length, txts_take, txts_cells']
      first | exact hK | exact fin hK
    refine .seq ?_
    apply AWS.rg [0, 5, 6]
    · intro K hK
      simp (disch := omega) only [rsA, ↓reduceIte, Nat.reduceEqDiff, Nat.reduceAdd, getD_map, rowL_cells, rowR_cells, Int.toNat_natCast, List.length_map, txts_length, txts_getD, List.take_length, txts_take, txts_cells']
      first | exact hK | exact fin hK
    refine .seq (.seq ?_)
    apply AWS.rg [0, 5, 6, 7]
    · intro K hK
      simp (disch := omega) only [rsA, ↓reduceIte, Nat.reduceEqDiff, Nat.reduceAdd, getD_map, rowL_cells, rowR_cells, Int.toNat_natCast, List.length_map, txts_length, txts_getD, List.take_length, txts_take, txts_cells']
      first | exact hK | exact fin hK
    refine .block ?_
    refine AWS.ownL 5 52 3 rfl ?_
    apply AWS.lp [5, 6, 7] [0] (fun zz : Nat × Nat × List Row => s.length - zz.1) (fun zz => [.own 0 (zz.2.2.map rowR), .pv (.lit (.int .i64 (zz.2.1))), .pv (.lit (.int .i64 (zz.1)))]) (fun zz => [.tok 52 3 zz.2.2.length]) (fun zz => (zz.1 ≤ s.length ∧ zz.2.1 ≤ zz.1 ∧ zz.2.2.length ≤ zz.1) ∧ (∀ j : Nat, zz.2.1 ≤ j → j < zz.1 → byteI s j ≠ 10) ∧ readRf (linesOf (s.drop zz.2.1)) zz.2.2 = readRf (linesOf s) []) ((0, 0, [])) (⟨by simp, fun j h1 h2 => by dsimp only at h2; omega, by simp⟩)
    rintro ⟨i, f, out⟩ hI ih
    try dsimp only at hI
    obtain ⟨⟨hi1, hf, ho⟩, hb, hI⟩ := hI
    refine .seq (.seq ?_)
    apply AWS.rg [0, 5, 6, 7, 28]
    · intro K hK
      simp (disch := omega) only [rsA, ↓reduceIte, Nat.reduceEqDiff, Nat.reduceAdd, listOf, ty_str_9, ty_slice_9, rsW, getD_map, rowL_cells, rowR_cells, Int.toNat_natCast, List.length_map, txts_length, txts_getD, List.take_length, txts_take, txts_cells']
      first | exact hK | exact fin hK
    refine AWS.cI (h1 := fun h2 => ?_) (h2 := fun h2 => ?_)
    · simp only [rsC, decide_eq_true_eq, decide_eq_false_iff_not] at h2
      refine .skip (.seq (.block (.seq (.seq ?_))))
      apply AWS.rg [0, 5, 6, 7, 34]
      · intro K hK
        simp (disch := omega) only [rsA, ↓reduceIte, Nat.reduceEqDiff, Nat.reduceAdd, partX, partAX, ty_str_9, ty_array_9, rsW, reduceCtorEq, ty_bool_5, getD_map, rowL_cells, rowR_cells, Int.toNat_natCast, List.length_map, txts_length, txts_getD, List.take_length, txts_take, txts_cells']
        first | exact hK | exact fin hK
      refine AWS.cI (h1 := fun h3 => ?_) (h2 := fun h3 => ?_)
      · simp only [rsC, decide_eq_true_eq, decide_eq_false_iff_not] at h3
        refine .exit rfl ?_
        apply AWS.rg [0, 5, 6, 7]
        · intro K hK
          simp (disch := omega) only [rsA, ↓reduceIte, Nat.reduceEqDiff, Nat.reduceAdd, rsW, getD_map, rowL_cells, rowR_cells, Int.toNat_natCast, List.length_map, txts_length, txts_getD, List.take_length, txts_take, txts_cells']
          first | exact hK | exact fin hK
        refine AWS.bk 1 (ih ((i + 1, f, out)) (by first | omega | (dsimp only; omega)) (⟨by dsimp only; omega, fun j h1 h2 => by
          dsimp only at h1 h2
          by_cases e : j = i
          · subst e; exact h3
          · exact hb j h1 (by omega), hI⟩)) ?_ ?_
        · first | rfl | (simp; done)
        · simp [rs0]
      · simp only [rsC, decide_eq_true_eq, decide_eq_false_iff_not] at h3
        refine .skip (.seq ?_)
        apply AWS.rg [0, 5, 7, 8, 9]
        · intro K hK
          simp (maxSteps := 2000000) (disch := omega) only [rsA, ↓reduceIte, Nat.reduceEqDiff, Nat.reduceAdd, sliceX, boundX, listOf, ty_str_9, ty_slice_9, ty_array_9, calleeOf, stepX, ty_zero_52, splice, AV.whole, AV.cells, ty_shape_52, getD_map, rowL_cells, rowR_cells, Int.toNat_natCast, List.length_map, txts_length, txts_getD, List.take_length, txts_take, txts_cells', rowR_agg]
          refine callG1 (refOne_pure ((s.take i).drop f) (by simp; omega)) rfl (hk := ?_)
          simp (maxSteps := 2000000) (disch := omega) only [rsA, ↓reduceIte, Nat.reduceEqDiff, Nat.reduceAdd, sliceX, boundX, listOf, ty_str_9, ty_slice_9, ty_array_9, calleeOf, stepX, ty_zero_52, splice, AV.whole, AV.cells, ty_shape_52, getD_map, rowL_cells, rowR_cells, Int.toNat_natCast, List.length_map, txts_length, txts_getD, List.take_length, txts_take, txts_cells', rowR_agg]
          first | exact hK | exact fin hK
        refine .seq (.seq ?_)
        rcases Nat.eq_zero_or_pos out.length with h0 | h0
        · have e0 : decide (0 < (out.length : Int)) = false := by simp [h0]
          apply AWS.rg [0, 5, 7, 8, 61]
          · intro K hK
            simp (maxSteps := 2000000) (disch := omega) only [rsA, ↓reduceIte, Nat.reduceEqDiff, Nat.reduceAdd, e0, rsW, listOf, ty_str_25, ty_slice_25, ty_field_52_0, cells_lit, cells_agg, cells_list, loadX, partX, mkAgg, allPlain, Nat.reduceLeDiff, Nat.le_refl, ty_shape_9, ty_array_25, getD_map, rowL_cells, rowR_cells, Int.toNat_natCast, List.length_map, txts_length, txts_getD, List.take_length, txts_take, txts_cells']
            first | exact hK | exact fin hK | exact fin2 hK
          refine AWS.cI (h1 := fun h4 => ?_) (h2 := fun h4 => ?_)
          · simp only [rsC, decide_eq_true_eq, decide_eq_false_iff_not] at h4
            refine .seq ?_
            apply AWS.rg [2, 3, 4]
            · intro K hK
              simp (disch := omega) only [rsA, ↓reduceIte, Nat.reduceEqDiff, Nat.reduceAdd, e0, listOf, ty_str_25, ty_slice_25, rsW, getD_map, rowL_cells, rowR_cells, Int.toNat_natCast, List.length_map, txts_length, txts_getD, List.take_length, txts_take, txts_cells']
              first | exact hK | exact fin hK
            refine .ret ?_
            simp only [results12, rsR, ↓reduceIte, Nat.reduceEqDiff]
            rw [refRead, if_neg (by rintro (h | h); omega; (rcases h1.2 with g | g; exact h.1 g; exact h.2 g)), ← hI, line_split s f i hf (by omega) h3 hb, readRf, if_pos (.inl h4.1)]
            exact ⟨rfl, rfl, rfl⟩
          · simp only [rsC, decide_eq_true_eq, decide_eq_false_iff_not] at h4
            refine .skip (.seq ?_)
            apply AWS.rg [0, 5, 7]
            · intro K hK
              simp (disch := omega) only [rsA, ↓reduceIte, Nat.reduceEqDiff, Nat.reduceAdd, e0, cells_lit, cells_agg, cells_list, loadX, partX, mkAgg, allPlain, Nat.reduceLeDiff, Nat.le_refl, ty_shape_52, List.forall_mem_cons, List.forall_mem_nil, ty_elem_25, stepX, appendX, srcOf, srcOk, decide_eq_true_eq, eq_self, listOf, getD_map, rowL_cells, rowR_cells, Int.toNat_natCast, List.length_map, txts_length, txts_getD, List.take_length, txts_take, txts_cells']
              first | exact hK | exact fin hK
            apply AWS.rg [0, 5, 6, 7]
            · intro K hK
              simp (disch := omega) only [rsA, ↓reduceIte, Nat.reduceEqDiff, Nat.reduceAdd, e0, rsW, getD_map, rowL_cells, rowR_cells, Int.toNat_natCast, List.length_map, txts_length, txts_getD, List.take_length, txts_take, txts_cells']
              first | exact hK | exact fin hK
            refine .inBlock ?_
            apply AWS.rg [0, 5, 6, 7]
            · intro K hK
              simp (disch := omega) only [rsA, ↓reduceIte, Nat.reduceEqDiff, Nat.reduceAdd, e0, rsW, getD_map, rowL_cells, rowR_cells, Int.toNat_natCast, List.length_map, txts_length, txts_getD, List.take_length, txts_take, txts_cells']
              first | exact hK | exact fin hK
            rw [line_split s f i hf (by omega) h3 hb, readRf, if_neg (by rintro (h | h); (· rcases h4 with h4 | h4; (· rw [h] at h4; cases h4); cases h4); omega)] at hI
            refine AWS.bk 1 (ih ((i + 1, i + 1, out ++ [(refOne ((s.take i).drop f)).1])) (by first | omega | (dsimp only; omega)) (⟨by simp; omega, fun j h1 h2 => by dsimp only at h1 h2; omega, hI⟩)) ?_ ?_
            · first | rfl | (simp; done)
            · simp [rs0, rowR]
        · have e0 : decide (0 < (out.length : Int)) = true := by simp; omega
          have e1 : ((out.length : Int) - 1).toNat = out.length - 1 := by omega
          apply AWS.rg [0, 5, 7, 8, 61]
          · intro K hK
            simp (maxSteps := 2000000) (disch := omega) only [rsA, ↓reduceIte, Nat.reduceEqDiff, Nat.reduceAdd, e0, e1, rsW, listOf, ty_str_25, ty_slice_25, ty_field_52_0, cells_lit, cells_agg, cells_list, loadX, partX, mkAgg, allPlain, Nat.reduceLeDiff, Nat.le_refl, ty_shape_9, ty_array_25, getD_map, rowL_cells, rowR_cells, Int.toNat_natCast, List.length_map, txts_length, txts_getD, List.take_length, txts_take, txts_cells']
            first | exact hK | exact fin hK | exact fin2 hK
          refine AWS.cI (h1 := fun h5 => ?_) (h2 := fun h5 => ?_)
          · simp only [rsC, decide_eq_true_eq, decide_eq_false_iff_not] at h5
            refine .seq ?_
            apply AWS.rg [2, 3, 4]
            · intro K hK
              simp (disch := omega) only [rsA, ↓reduceIte, Nat.reduceEqDiff, Nat.reduceAdd, e0, e1, listOf, ty_str_25, ty_slice_25, rsW, getD_map, rowL_cells, rowR_cells, Int.toNat_natCast, List.length_map, txts_length, txts_getD, List.take_length, txts_take, txts_cells']
              first | exact hK | exact fin hK
            refine .ret ?_
            simp only [results12, rsR, ↓reduceIte, Nat.reduceEqDiff]
            rw [refRead, if_neg (by rintro (h | h); omega; (rcases h1.2 with g | g; exact h.1 g; exact h.2 g)), ← hI, line_split s f i hf (by omega) h3 hb, readRf, if_pos (by rcases h5 with h | h | h; exact .inl h; exact .inr ⟨h0, by rw [h]; rfl⟩; exact .inr ⟨h0, by rw [decide_eq_true h, Bool.or_true]⟩)]
            exact ⟨rfl, rfl, rfl⟩
          · simp only [rsC, decide_eq_true_eq, decide_eq_false_iff_not] at h5
            refine .skip (.seq ?_)
            apply AWS.rg [0, 5, 7]
            · intro K hK
              simp (disch := omega) only [rsA, ↓reduceIte, Nat.reduceEqDiff, Nat.reduceAdd, e0, e1, cells_lit, cells_agg, cells_list, loadX, partX, mkAgg, allPlain, Nat.reduceLeDiff, Nat.le_refl, ty_shape_52, List.forall_mem_cons, List.forall_mem_nil, ty_elem_25, stepX, appendX, srcOf, srcOk, decide_eq_true_eq, eq_self, listOf, getD_map, rowL_cells, rowR_cells, Int.toNat_natCast, List.length_map, txts_length, txts_getD, List.take_length, txts_take, txts_cells']
              first | exact hK | exact fin hK
            apply AWS.rg [0, 5, 6, 7]
            · intro K hK
              simp (disch := omega) only [rsA, ↓reduceIte, Nat.reduceEqDiff, Nat.reduceAdd, e0, e1, rsW, getD_map, rowL_cells, rowR_cells, Int.toNat_natCast, List.length_map, txts_length, txts_getD, List.take_length, txts_take, txts_cells']
              first | exact hK | exact fin hK
            refine .inBlock ?_
            apply AWS.rg [0, 5, 6, 7]
            · intro K hK
              simp (disch := omega) only [rsA, ↓reduceIte, Nat.reduceEqDiff, Nat.reduceAdd, e0, e1, rsW, getD_map, rowL_cells, rowR_cells, Int.toNat_natCast, List.length_map, txts_length, txts_getD, List.take_length, txts_take, txts_cells']
              first | exact hK | exact fin hK
            rw [line_split s f i hf (by omega) h3 hb, readRf, if_neg (by rintro (h | h); (· rw [h5.1] at h; cases h); (have := h.2; rw [h5.2.1, decide_eq_false h5.2.2] at this; cases this))] at hI
            refine AWS.bk 1 (ih ((i + 1, i + 1, out ++ [(refOne ((s.take i).drop f)).1])) (by first | omega | (dsimp only; omega)) (⟨by simp; omega, fun j h1 h2 => by dsimp only at h1 h2; omega, hI⟩)) ?_ ?_
            · first | rfl | (simp; done)
            · simp [rs0, rowR]
    · simp only [rsC, decide_eq_true_eq, decide_eq_false_iff_not] at h2
      refine .exit rfl (.seq ?_)
      apply AWS.rg [2, 3, 4]
      · intro K hK
        simp (disch := omega) only [rsA, ↓reduceIte, Nat.reduceEqDiff, Nat.reduceAdd, getD_map, rowL_cells, rowR_cells, Int.toNat_natCast, List.length_map, txts_length, txts_getD, List.take_length, txts_take, txts_cells']
        first | exact hK | exact fin hK
      refine .ret ?_
      simp only [results12, rsR, ↓reduceIte, Nat.reduceEqDiff]
      rw [refRead, if_neg (by rintro (h | h); omega; (rcases h1.2 with g | g; exact h.1 g; exact h.2 g)), ← hI, lines_end s f (fun j a b => hb j a (by omega)), readRf]
      exact ⟨rfl, rfl, rfl⟩

theorem awake_show : lockShow [⟨[97], 1000000, 255⟩] = [97, 32, 49, 46, 48, 46, 48, 32, 48, 48, 48, 48, 48, 48, 102, 102, 10] := by
  have h : checkL [⟨[97], 1000000, 255⟩] [] = true := by
    rw [checkL, rowFit, runes_ascii [97] (by decide)]
    decide
  rw [lockShow, if_pos h]
  decide
/-- comprador/compradorlaw57.awake -/
theorem awake_pure  : APure prog 8 [] (.pv (.lit (.bool (true)))) := by
  apply go func8
  refine .seq ?_
  apply AWS.rg []
  · intro K hK
    simp (disch := omega) only [rsA, ↓reduceIte, Nat.reduceEqDiff, Nat.reduceAdd, getD_map, rowL_cells, rowR_cells, Int.toNat_natCast, List.length_map, txts_length, txts_getD, List.take_length, txts_take, txts_cells']
    first | exact hK | exact fin hK
  refine .seq ?_
  apply AWS.rg [0]
  · intro K hK
    simp (disch := omega) only [rsA, ↓reduceIte, Nat.reduceEqDiff, Nat.reduceAdd, fillA, mkAgg, allPlain, Places.at, splice, AV.cells, AV.whole, List.all_cons, List.all_nil, Bool.and_true, constA_int, constA_bool, constA_string, constA_nil, Nat.reduceLeDiff, Nat.zero_add, Value.oneCell', ty_places_50, List.forall_mem_cons, List.forall_mem_nil, cells_lit, cells_agg, cells_list, ty_elem_22, calleeOf, rsW, reduceCtorEq, ty_bool_9, getD_map, rowL_cells, rowR_cells, Int.toNat_natCast, List.length_map, txts_length, txts_getD, List.take_length, txts_take, txts_cells', awake_show, decide_true]
    refine callG1 (lockShow_pure [⟨[97], 1000000, 255⟩] (by simp) (by simp)) rfl (hk := ?_)
    simp (disch := omega) only [rsA, ↓reduceIte, Nat.reduceEqDiff, Nat.reduceAdd, fillA, mkAgg, allPlain, Places.at, splice, AV.cells, AV.whole, List.all_cons, List.all_nil, Bool.and_true, constA_int, constA_bool, constA_string, constA_nil, Nat.reduceLeDiff, Nat.zero_add, Value.oneCell', ty_places_50, List.forall_mem_cons, List.forall_mem_nil, cells_lit, cells_agg, cells_list, ty_elem_22, calleeOf, rsW, reduceCtorEq, ty_bool_9, getD_map, rowL_cells, rowR_cells, Int.toNat_natCast, List.length_map, txts_length, txts_getD, List.take_length, txts_take, txts_cells', awake_show, decide_true]
    first | exact hK | exact fin hK
  refine .ret ?_
  simp only [results8, rsR, ↓reduceIte, Nat.reduceEqDiff]
/-- comprador/compradorlaw57.LockTexts -/
theorem lockTexts_pure (rs : List Row) (s : List UInt8) (hst : ∀ r ∈ rs, 0 ≤ r.stamp ∧ r.stamp ≤ 4294967295) (hrs : rs.length ≤ 1000000) : APure prog 3 [.list (rs.map rowL), .lit (.string (str (s)))] (.pv (.lit (.bool (true)))) := by
  apply go func3
  refine .seq ?_
  apply AWS.rg [0, 1]
  · intro K hK
    simp (disch := omega) only [rsA, ↓reduceIte, Nat.reduceEqDiff, Nat.reduceAdd, getD_map, rowL_cells, rowR_cells, Int.toNat_natCast, List.length_map, txts_length, txts_getD, List.take_length, txts_take, txts_cells']
    first | exact hK | exact fin hK
  refine .seq (.seq ?_)
  apply AWS.rg [0, 1, 22]
  · intro K hK
    simp (disch := omega) only [rsA, ↓reduceIte, Nat.reduceEqDiff, Nat.reduceAdd, calleeOf, listOf, ty_str_9, ty_slice_9, rsW, getD_map, rowL_cells, rowR_cells, Int.toNat_natCast, List.length_map, txts_length, txts_getD, List.take_length, txts_take, txts_cells']
    refine callG1 (large_pure rs) rfl (hk := ?_)
    simp (disch := omega) only [rsA, ↓reduceIte, Nat.reduceEqDiff, Nat.reduceAdd, calleeOf, listOf, ty_str_9, ty_slice_9, rsW, getD_map, rowL_cells, rowR_cells, Int.toNat_natCast, List.length_map, txts_length, txts_getD, List.take_length, txts_take, txts_cells']
    first | exact hK | exact fin hK | exact fin2 hK
  refine AWS.cI (h1 := fun h1 => ?_) (h2 := fun h1 => ?_)
  · simp only [rsC, decide_eq_true_eq, decide_eq_false_iff_not] at h1
    refine .seq ?_
    apply AWS.rg [4]
    · intro K hK
      simp (disch := omega) only [rsA, ↓reduceIte, Nat.reduceEqDiff, Nat.reduceAdd, calleeOf, getD_map, rowL_cells, rowR_cells, Int.toNat_natCast, List.length_map, txts_length, txts_getD, List.take_length, txts_take, txts_cells']
      refine callG1 (awake_pure) rfl (hk := ?_)
      simp (disch := omega) only [rsA, ↓reduceIte, Nat.reduceEqDiff, Nat.reduceAdd, calleeOf, getD_map, rowL_cells, rowR_cells, Int.toNat_natCast, List.length_map, txts_length, txts_getD, List.take_length, txts_take, txts_cells']
      first | exact hK | exact fin hK
    refine .ret ?_
    simp only [results3, rsR, ↓reduceIte, Nat.reduceEqDiff]
  · simp only [rsC, decide_eq_true_eq, decide_eq_false_iff_not] at h1
    refine .skip (.seq ?_)
    have hL := large_no h1.1
    have hV := lockRead_valid s
    have hW := lockRead_valid (lockShow rs)
    have hSl := lockShow_len rs hst hL.1
    have hnm : ∀ r ∈ rs, r.name.length ≤ 1000 ∧ (0 ≤ r.stamp ∧ r.stamp ≤ 4294967295) := fun r hr => ⟨by have := hL.2 r hr; omega, hst r hr⟩
    apply AWS.rg [0, 1, 5]
    · intro K hK
      simp (disch := omega) only [rsA, ↓reduceIte, Nat.reduceEqDiff, Nat.reduceAdd, calleeOf, getD_map, rowL_cells, rowR_cells, Int.toNat_natCast, List.length_map, txts_length, txts_getD, List.take_length, txts_take, txts_cells']
      refine callG1 (rows_pure rs hrs hst) rfl (hk := ?_)
      simp (disch := omega) only [rsA, ↓reduceIte, Nat.reduceEqDiff, Nat.reduceAdd, calleeOf, getD_map, rowL_cells, rowR_cells, Int.toNat_natCast, List.length_map, txts_length, txts_getD, List.take_length, txts_take, txts_cells']
      first | exact hK | exact fin hK
    refine .seq ?_
    apply AWS.rg [1, 5, 6]
    · intro K hK
      simp (disch := omega) only [rsA, ↓reduceIte, Nat.reduceEqDiff, Nat.reduceAdd, calleeOf, getD_map, rowL_cells, rowR_cells, Int.toNat_natCast, List.length_map, txts_length, txts_getD, List.take_length, txts_take, txts_cells']
      refine callG1 (lockShow_pure rs hrs (fun r hr => ⟨by have := hL.2 r hr; omega, hst r hr⟩)) rfl (hk := ?_)
      simp (disch := omega) only [rsA, ↓reduceIte, Nat.reduceEqDiff, Nat.reduceAdd, calleeOf, getD_map, rowL_cells, rowR_cells, Int.toNat_natCast, List.length_map, txts_length, txts_getD, List.take_length, txts_take, txts_cells']
      first | exact hK | exact fin hK
    refine .seq ?_
    apply AWS.rg [1, 5, 6, 7, 8, 9]
    · intro K hK
      simp (maxSteps := 2000000) (disch := omega) only [rsA, ↓reduceIte, Nat.reduceEqDiff, Nat.reduceAdd, calleeOf, getD_map, rowL_cells, rowR_cells, Int.toNat_natCast, List.length_map, txts_length, txts_getD, List.take_length, txts_take, txts_cells']
      refine callG1 (lockRead_pure s (by omega)) rfl (hk := ?_)
      simp (maxSteps := 2000000) (disch := omega) only [rsA, ↓reduceIte, Nat.reduceEqDiff, Nat.reduceAdd, calleeOf, getD_map, rowL_cells, rowR_cells, Int.toNat_natCast, List.length_map, txts_length, txts_getD, List.take_length, txts_take, txts_cells']
      first | exact hK | exact fin hK
    refine .seq ?_
    apply AWS.rg [5, 6, 7, 8, 9, 10, 11, 12]
    · intro K hK
      simp (maxSteps := 2000000) (disch := omega) only [rsA, ↓reduceIte, Nat.reduceEqDiff, Nat.reduceAdd, calleeOf, getD_map, rowL_cells, rowR_cells, Int.toNat_natCast, List.length_map, txts_length, txts_getD, List.take_length, txts_take, txts_cells']
      refine callG1 (refRead_pure57 s (by omega)) rfl (hk := ?_)
      simp (maxSteps := 2000000) (disch := omega) only [rsA, ↓reduceIte, Nat.reduceEqDiff, Nat.reduceAdd, calleeOf, getD_map, rowL_cells, rowR_cells, Int.toNat_natCast, List.length_map, txts_length, txts_getD, List.take_length, txts_take, txts_cells']
      first | exact hK | exact fin hK
    refine .seq (.seq ?_)
    apply AWS.rg [5, 6, 60]
    · intro K hK
      simp (maxSteps := 2000000) (disch := omega) only [rsA, ↓reduceIte, Nat.reduceEqDiff, Nat.reduceAdd, calleeOf, rsW, reduceCtorEq, ty_bool_9, ty_bool_3, ty_bool_4, getD_map, rowL_cells, rowR_cells, Int.toNat_natCast, List.length_map, txts_length, txts_getD, List.take_length, txts_take, txts_cells', refShow_eq, refRead_eq, eq_self, decide_true, Bool.not_true, beq_self_eq_true]
      refine callG1 (refShow_pure rs hrs hnm) rfl (hk := ?_)
      simp (maxSteps := 2000000) (disch := omega) only [rsA, ↓reduceIte, Nat.reduceEqDiff, Nat.reduceAdd, calleeOf, rsW, reduceCtorEq, ty_bool_9, ty_bool_3, ty_bool_4, getD_map, rowL_cells, rowR_cells, Int.toNat_natCast, List.length_map, txts_length, txts_getD, List.take_length, txts_take, txts_cells', refShow_eq, refRead_eq, eq_self, decide_true, Bool.not_true, beq_self_eq_true]
      refine callG2 (fun hg => rows_pure (lockRead s).1 (by omega) (fun r hr => (hV.1 r hr).2.2)) rfl (hk := ?_)
      simp (maxSteps := 2000000) (disch := omega) only [rsA, ↓reduceIte, Nat.reduceEqDiff, Nat.reduceAdd, calleeOf, rsW, reduceCtorEq, ty_bool_9, ty_bool_3, ty_bool_4, getD_map, rowL_cells, rowR_cells, Int.toNat_natCast, List.length_map, txts_length, txts_getD, List.take_length, txts_take, txts_cells', refShow_eq, refRead_eq, eq_self, decide_true, Bool.not_true, beq_self_eq_true]
      refine callG2 (fun hg => same_pure (lockRead s).1 (lockRead s).1 (by omega)) rfl (hk := ?_)
      simp (maxSteps := 2000000) (disch := omega) only [rsA, ↓reduceIte, Nat.reduceEqDiff, Nat.reduceAdd, calleeOf, rsW, reduceCtorEq, ty_bool_9, ty_bool_3, ty_bool_4, getD_map, rowL_cells, rowR_cells, Int.toNat_natCast, List.length_map, txts_length, txts_getD, List.take_length, txts_take, txts_cells', refShow_eq, refRead_eq, eq_self, decide_true, Bool.not_true, beq_self_eq_true]
      first | exact hK | exact fin hK | exact fin2 hK
    refine AWS.cI (h1 := fun h2 => by cases h2) (h2 := fun h2 => ?_)
    clear h2
    refine .skip (.seq ?_)
    apply AWS.rg [5, 13, 15]
    · intro K hK
      simp (maxSteps := 2000000) (disch := omega) only [rsA, ↓reduceIte, Nat.reduceEqDiff, Nat.reduceAdd, calleeOf, getD_map, rowL_cells, rowR_cells, Int.toNat_natCast, List.length_map, txts_length, txts_getD, List.take_length, txts_take, txts_cells']
      refine callG1 (lockRead_pure (lockShow rs) (by omega)) rfl (hk := ?_)
      simp (maxSteps := 2000000) (disch := omega) only [rsA, ↓reduceIte, Nat.reduceEqDiff, Nat.reduceAdd, calleeOf, getD_map, rowL_cells, rowR_cells, Int.toNat_natCast, List.length_map, txts_length, txts_getD, List.take_length, txts_take, txts_cells']
      first | exact hK | exact fin hK
    refine .seq ?_
    apply AWS.rg [4]
    · intro K hK
      simp (maxSteps := 2000000) (disch := omega) only [rsA, ↓reduceIte, Nat.reduceEqDiff, Nat.reduceAdd, calleeOf, rsW, getD_map, rowL_cells, rowR_cells, Int.toNat_natCast, List.length_map, txts_length, txts_getD, List.take_length, txts_take, txts_cells', refCheck_eq]
      refine callG1 (refCheck_pure rs hrs) rfl (hk := ?_)
      simp (maxSteps := 2000000) (disch := omega) only [rsA, ↓reduceIte, Nat.reduceEqDiff, Nat.reduceAdd, calleeOf, rsW, getD_map, rowL_cells, rowR_cells, Int.toNat_natCast, List.length_map, txts_length, txts_getD, List.take_length, txts_take, txts_cells', refCheck_eq]
      refine callG2 (fun hg => rows_pure (lockRead (lockShow rs)).1 (by omega) (fun r hr => (hW.1 r hr).2.2)) rfl (hk := ?_)
      simp (maxSteps := 2000000) (disch := omega) only [rsA, ↓reduceIte, Nat.reduceEqDiff, Nat.reduceAdd, calleeOf, rsW, getD_map, rowL_cells, rowR_cells, Int.toNat_natCast, List.length_map, txts_length, txts_getD, List.take_length, txts_take, txts_cells', refCheck_eq]
      refine callG2 (fun hg => same_pure (lockRead (lockShow rs)).1 rs (by omega)) rfl (hk := ?_)
      simp (maxSteps := 2000000) (disch := omega) only [rsA, ↓reduceIte, Nat.reduceEqDiff, Nat.reduceAdd, calleeOf, rsW, getD_map, rowL_cells, rowR_cells, Int.toNat_natCast, List.length_map, txts_length, txts_getD, List.take_length, txts_take, txts_cells', refCheck_eq]
      refine callG2 (fun hg => awake_pure) rfl (hk := ?_)
      simp (maxSteps := 2000000) (disch := omega) only [rsA, ↓reduceIte, Nat.reduceEqDiff, Nat.reduceAdd, calleeOf, rsW, getD_map, rowL_cells, rowR_cells, Int.toNat_natCast, List.length_map, txts_length, txts_getD, List.take_length, txts_take, txts_cells', refCheck_eq]
      first | exact hK | exact fin hK | exact fin2 hK
    refine .ret ?_
    simp only [results3, rsR, ↓reduceIte, Nat.reduceEqDiff]
    cases h : checkL rs [] with
    | false => rfl
    | true =>
      rw [read_show rs h hst hL.1]
      simp
end Go.Proofs.YtaahjmkjdcikcaaDoor.AI
