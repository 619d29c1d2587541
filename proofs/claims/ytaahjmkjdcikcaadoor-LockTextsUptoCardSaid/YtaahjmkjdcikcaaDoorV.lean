/- A machine of plain values: texts as lists of bytes; numbers that do not wrap. No program in sight. -/
import Derived.Test.YtaahjmkjdcikcaaDoorU
import Derived.Lib.TrimUEq
namespace Go.Proofs.YtaahjmkjdcikcaaDoor.AI
open Go.RowKit
set_option linter.unusedVariables false
set_option linter.unusedSimpArgs false

/-- A text, by its bytes. -/
def str (l : List UInt8) : ByteArray := ⟨l.toArray⟩
theorem mk_str (l : List UInt8) : (ByteArray.mk l.toArray) = str l := rfl
theorem str_data (s : ByteArray) : str s.data.toList = s := by cases s; simp [str]
theorem str_size (l : List UInt8) : (str l).size = l.length := by simp [str, ByteArray.size]
theorem str_inj {a b : List UInt8} : str a = str b ↔ a = b := by
  constructor
  · intro h
    have := congrArg (fun s : ByteArray => s.data.toList) h
    simpa [str] using this
  · rintro rfl; rfl
theorem str_append (a b : List UInt8) : str a ++ str b = str (a ++ b) := by
  apply ByteArray.ext
  simp [str, ByteArray.data_append]
theorem str_extract (l : List UInt8) (i j : Nat) : (str l).extract i j = str ((l.take j).drop i) := by
  apply ByteArray.ext
  simp only [str, ByteArray.data_extract, List.extract_toArray, List.extract_eq_drop_take']
theorem toList_str (l : List UInt8) : (str l).toList = l := by
  rw [Lib.toList_data]
  simp [str]
/-- A byte, as a number. -/
def byteI (l : List UInt8) (i : Int) : Int := ((l.getD i.toNat 0).toNat : Int)
theorem byteI_range (l : List UInt8) (i : Int) : 0 ≤ byteI l i ∧ byteI l i ≤ 255 := by
  have := UInt8.toNat_lt (l.getD i.toNat 0)
  unfold byteI
  omega
theorem byteAt_str (l : List UInt8) (i : Int) : byteAt (str l) i = byteI l i := by
  unfold byteAt byteI
  split
  · rename_i h
    have h' : i.toNat < l.length := by rw [str_size] at h; exact h
    simp [str, List.getD, h', ByteArray.getElem_eq_getElem_data]
  · rename_i h
    have h' : ¬ i.toNat < l.length := by rw [str_size] at h; exact h
    simp [List.getD, Nat.le_of_not_lt h']
/-- Is one list of bytes ahead of the other? -/
def lexLt : List UInt8 → List UInt8 → Bool
  | _, [] => false
  | [], _ :: _ => true
  | a :: x, b :: y => decide (a < b) || (decide (a = b) && lexLt x y)
theorem sless_str (a b : List UInt8) : sless (str a) (str b) = Op.bytesLess a b := by
  unfold sless; rw [toList_str, toList_str]
theorem decode_str (l : List UInt8) (pos : Nat) : Utf8.decode (str l) pos = Lib.decodeL (l.drop pos) := by
  rw [← Lib.decodeL_drop]; simp [str]

/-- A text's runes, as Go reads them. -/
def runes (l : List UInt8) : List Int :=
  match l with
  | [] => []
  | b :: r => ((Lib.decodeL (b :: r)).1 : Int) :: runes ((b :: r).drop (Lib.decodeL (b :: r)).2)
  termination_by l.length
  decreasing_by
  have : 1 ≤ (Lib.decodeL (b :: r)).2 := Lib.width_pos _ _
  simp only [List.length_drop, List.length_cons]
  omega
theorem runes_nil : runes [] = [] := by rw [runes]
theorem runes_drop {l : List UInt8} {pos : Nat} (h : pos < l.length) : runes (l.drop pos) = ((Lib.decodeL (l.drop pos)).1 : Int) :: runes (l.drop (pos + (Lib.decodeL (l.drop pos)).2)) := by
  have hne : l.drop pos ≠ [] := by
    intro h0
    have := congrArg List.length h0
    simp at this
    omega
  cases hd : l.drop pos with
  | nil => exact absurd hd hne
  | cons b r =>
    rw [runes, ← hd, List.drop_drop]
theorem runes_end {l : List UInt8} {pos : Nat} (h : ¬ pos < l.length) : runes (l.drop pos) = [] := by
  rw [List.drop_eq_nil_of_le (by omega), runes_nil]
theorem decodeL_pos (l : List UInt8) : 1 ≤ (Lib.decodeL l).2 := Lib.width_pos _ _

theorem wrap_i64 {x : Int} (h1 : -9223372036854775808 ≤ x) (h2 : x ≤ 9223372036854775807) : IntKind.i64.wrap x = x := by
  simp [IntKind.wrap, IntKind.signed, IntKind.bits]
  omega

theorem wrap_i32 {x : Int} (h1 : -2147483648 ≤ x) (h2 : x ≤ 2147483647) : IntKind.i32.wrap x = x := by
  simp [IntKind.wrap, IntKind.signed, IntKind.bits]
  omega
theorem wrap_u32 {x : Int} (h1 : 0 ≤ x) (h2 : x ≤ 4294967295) : IntKind.u32.wrap x = x := by
  simp [IntKind.wrap, IntKind.signed, IntKind.bits]
  omega
theorem wrap_u8 {x : Int} (h1 : 0 ≤ x) (h2 : x ≤ 255) : IntKind.u8.wrap x = x := by
  simp [IntKind.wrap, IntKind.signed, IntKind.bits]
  omega
theorem wrap_byteI (l : List UInt8) (i : Int) : IntKind.i64.wrap (byteI l i) = byteI l i := by
  have := byteI_range l i
  exact wrap_i64 (by omega) (by omega)

theorem rs2 :
    (∀ l : List UInt8, (ByteArray.mk l.toArray) = str l) ∧ (∀ l : List UInt8, (str l).size = l.length) ∧ (∀ a b : List UInt8, str a ++ str b = str (a ++ b)) ∧ (∀ a b : List UInt8, (str a = str b) = (a = b)) ∧
    (∀ (l : List UInt8) (i j : Nat), (str l).extract i j = str ((l.take j).drop i)) ∧ (∀ (l : List UInt8) (i : Int), byteAt (str l) i = byteI l i) ∧ (∀ a b : List UInt8, sless (str a) (str b) = Op.bytesLess a b) ∧
    (∀ (l : List UInt8) (pos : Nat), Utf8.decode (str l) pos = Lib.decodeL (l.drop pos)) :=
  ⟨mk_str, str_size, str_append, fun a b => propext str_inj, str_extract, byteAt_str, sless_str, decode_str⟩
theorem tupAt_tuple (xs : List AV) (i : Nat) : tupAt (.tuple xs) i = xs[i]? := rfl
theorem tupAt_next (b : Bool) (i r : Int) : tupAt (nextT b i r) 0 = some (.pv (.lit (.bool b))) := by cases b <;> rfl
theorem nextT_true (i r : Int) : nextT true i r = .tuple [.pv (.lit (.bool true)), .pv (.lit (.int .i64 i)), .pv (.lit (.int .i32 r))] := rfl
theorem okc_next (b : Bool) (i r : Int) : okc (nextT b i r) = True := by cases b <;> rfl
theorem isCnd_next (b : Bool) (i r : Int) : isCnd (nextT b i r) = false := by cases b <;> rfl
theorem strip_next (b : Bool) (i r : Int) : strip (nextT b i r) = nextT b i r := by cases b <;> rfl
theorem rs3 :
    (∀ (xs : List AV) (i : Nat), tupAt (.tuple xs) i = xs[i]?) ∧ (∀ (b : Bool) (i r : Int), tupAt (nextT b i r) 0 = some (.pv (.lit (.bool b)))) ∧
    (∀ i r : Int, nextT true i r = .tuple [.pv (.lit (.bool true)), .pv (.lit (.int .i64 i)), .pv (.lit (.int .i32 r))]) ∧
    (∀ (b : Bool) (i r : Int), okc (nextT b i r) = True) ∧ (∀ (b : Bool) (i r : Int), isCnd (nextT b i r) = false) ∧ (∀ (b : Bool) (i r : Int), strip (nextT b i r) = nextT b i r) :=
  ⟨tupAt_tuple, tupAt_next, nextT_true, okc_next, isCnd_next, strip_next⟩
end Go.Proofs.YtaahjmkjdcikcaaDoor.AI
