/- Plain laws: hexadecimal digits, words, the lines of a lock. No program in sight. -/
import Derived.Test.YtaahjmkjdcikcaaDoorPC
import Derived.Test.YtaahjmkjdcikcaaDoorY
import Derived.Lib.SplitLaws
namespace Go.Proofs.YtaahjmkjdcikcaaDoor.AI
open Go.RowKit
set_option linter.unusedVariables false
set_option linter.unusedSimpArgs false
set_option linter.unusedSectionVars false
def digs : List UInt8 := [48, 49, 50, 51, 52, 53, 54, 55, 56, 57, 97, 98, 99, 100, 101, 102]
/-- A hexadecimal digit. -/
def hexD (k : Int) : UInt8 := digs.getD k.toNat 0
def hexR : Nat → Int → List UInt8 → List UInt8
  | 0, _, s => s
  | k + 1, n, s => hexR k (n / 16) (hexD (n % 16) :: s)
/-- Eight digits. -/
def hex8 (n : Int) : List UInt8 := hexR 8 n []
theorem byteI_digs (k : Int) : byteI digs k = ((hexD k).toNat : Int) := rfl
theorem hex_piece (k : Int) (h0 : 0 ≤ k) (h1 : k < 16) : (List.take (k + 1).toNat digs).drop k.toNat = [hexD k] := by
  have : k = 0 ∨ k = 1 ∨ k = 2 ∨ k = 3 ∨ k = 4 ∨ k = 5 ∨ k = 6 ∨ k = 7 ∨ k = 8 ∨ k = 9 ∨ k = 10 ∨ k = 11 ∨ k = 12 ∨ k = 13 ∨ k = 14 ∨ k = 15 := by omega
  rcases this with h | h | h | h | h | h | h | h | h | h | h | h | h | h | h | h <;> subst h <;> rfl

/-! ### Bits -/
theorem wrapU32 (x : Int) : IntKind.u32.wrap x = x % 4294967296 := by
  simp [IntKind.wrap, IntKind.signed, IntKind.bits]
theorem and15 (x : Int) (h0 : 0 ≤ x) (h1 : x ≤ 4294967295) : bitsOf .and .u32 x 15 = x % 16 := by
  obtain ⟨n, rfl⟩ : ∃ n : Nat, x = n := ⟨x.toNat, by omega⟩
  show IntKind.u32.wrap (((BitVec.ofInt 32 (n : Int) &&& BitVec.ofInt 32 15 : BitVec 32).toNat : Nat) : Int) = _
  have e1 : (BitVec.ofInt 32 (n : Int)).toNat = n := by
    rw [BitVec.toNat_ofInt]
    simp; omega
  have e2 : (BitVec.ofInt 32 15).toNat = 15 := by decide
  rw [BitVec.toNat_and, e1, e2, show (15 : Nat) = 2 ^ 4 - 1 from rfl, Nat.and_two_pow_sub_one_eq_mod, wrapU32]
  omega
theorem or16 (x k : Int) (h0 : 0 ≤ x) (h1 : x ≤ 4294967295) (hm : x % 16 = 0) (hk0 : 0 ≤ k) (hk1 : k < 16) : bitsOf .or .u32 x k = x + k := by
  obtain ⟨n, rfl⟩ : ∃ n : Nat, x = n := ⟨x.toNat, by omega⟩
  obtain ⟨m, rfl⟩ : ∃ m : Nat, k = m := ⟨k.toNat, by omega⟩
  show IntKind.u32.wrap (((BitVec.ofInt 32 (n : Int) ||| BitVec.ofInt 32 (m : Int) : BitVec 32).toNat : Nat) : Int) = _
  have e1 : (BitVec.ofInt 32 (n : Int)).toNat = n := by
    rw [BitVec.toNat_ofInt]
    simp; omega
  have e2 : (BitVec.ofInt 32 (m : Int)).toNat = m := by
    rw [BitVec.toNat_ofInt]
    simp; omega
  rw [BitVec.toNat_or, e1, e2, wrapU32]
  have e3 : n = 16 * (n / 16) := by omega
  have e4 : n ||| m = n + m := by
    rw [e3, show 16 * (n / 16) = 2 ^ 4 * (n / 16) from rfl, ← Nat.two_pow_add_eq_or_of_lt (by omega : m < 2 ^ 4)]
  rw [e4]
  omega
theorem shr4 (x : Int) : x.fdiv (2 ^ min (Int.toNat 4) (IntKind.bits .u32)) = x / 16 := by
  have : (2 : Int) ^ min (Int.toNat 4) (IntKind.bits .u32) = 16 := by decide
  rw [this, Int.fdiv_eq_ediv_of_nonneg _ (by decide)]
theorem shl4 (x : Int) : IntKind.u32.wrap (x * 2 ^ min (Int.toNat 4) (IntKind.bits .u32)) = x * 16 % 4294967296 := by
  have : (2 : Int) ^ min (Int.toNat 4) (IntKind.bits .u32) = 16 := by decide
  rw [this, wrapU32]
theorem rsBit : (type_of% @and15) ∧ (type_of% @or16) ∧ (type_of% @shr4) ∧ (type_of% @shl4) := ⟨and15, or16, shr4, shl4⟩

/-! ### What a hexadecimal text says -/
def hexI (c : Int) : Int := if c < 128 then Lib.indexByte digs c.toNat.toUInt8 else -1
def unhexR : List Int → Int → Option Int
  | [], n => some n
  | c :: cs, n => if hexI c < 0 then none else unhexR cs (n * 16 % 4294967296 + hexI c)
/-- What the program makes of a stamp's text. -/
def unhexP (l : List UInt8) : Int × Bool :=
  match unhexR (runes l) 0 with
  | none => (0, false)
  | some n => (n, decide ((l.length : Int) = 8))
def hexStep (n : Int) (c : UInt8) : Int := if 97 ≤ (c.toNat : Int) then w64 (w64 (n * 16) + ((c.toNat : Int) - 87) % 16) else w64 (w64 (n * 16) + (c.toNat : Int) % 16)
/-- What the document makes of it. -/
def hexNum (l : List UInt8) : Int := l.foldl hexStep 0

/-! ### Words -/
def splitOn (c : UInt8) : List UInt8 → List (List UInt8)
  | [] => [[]]
  | b :: l => if b = c then [] :: splitOn c l else match splitOn c l with
    | w :: ws => (b :: w) :: ws
    | [] => [[b]]
theorem splitOn_ne (c : UInt8) (l : List UInt8) : splitOn c l ≠ [] := by
  cases l with
  | nil => simp [splitOn]
  | cons b l =>
    unfold splitOn
    split
    · simp
    · split <;> simp
theorem splitOn_pre (c : UInt8) : ∀ (w l : List UInt8), (∀ b ∈ w, b ≠ c) → splitOn c (w ++ c :: l) = w :: splitOn c l
  | [], l, _ => by simp [splitOn]
  | b :: w, l, h => by
    have hb := h b (by simp)
    have := splitOn_pre c w l (fun x hx => h x (by simp [hx]))
    simp only [List.cons_append, splitOn, if_neg hb, this]
theorem splitOn_end (c : UInt8) : ∀ w : List UInt8, (∀ b ∈ w, b ≠ c) → splitOn c w = [w]
  | [], _ => by simp [splitOn]
  | b :: w, h => by
    have hb := h b (by simp)
    have := splitOn_end c w (fun x hx => h x (by simp [hx]))
    simp only [splitOn, if_neg hb, this]
theorem splitOn_join (c : UInt8) : ∀ l : List UInt8, Lib.join (splitOn c l) [c] = l ∧ ∀ w ∈ splitOn c l, ∀ b ∈ w, b ≠ c
  | [] => by simp [splitOn, Lib.join_one]
  | b :: l => by
    obtain ⟨h1, h2⟩ := splitOn_join c l
    unfold splitOn
    split
    · rename_i hb
      subst hb
      refine ⟨?_, ?_⟩
      · cases hs : splitOn b l with
        | nil => exact absurd hs (splitOn_ne b l)
        | cons w ws =>
          rw [hs] at h1
          rw [Lib.join_cons] at h1 ⊢
          simp only [Lib.joinTail, List.map_cons, List.flatten_cons, List.nil_append, List.append_assoc, List.singleton_append] at h1 ⊢
          rw [List.cons_append, h1]
      · intro w hw
        rcases List.mem_cons.1 hw with rfl | hw
        · simp
        · exact h2 w hw
    · rename_i hb
      cases hs : splitOn c l with
      | nil => exact absurd hs (splitOn_ne c l)
      | cons w ws =>
        rw [hs] at h1 h2
        simp only
        refine ⟨?_, ?_⟩
        · rw [Lib.join_cons] at h1 ⊢
          rw [List.cons_append, h1]
        · intro x hx
          rcases List.mem_cons.1 hx with rfl | hx
          · intro d hd
            rcases List.mem_cons.1 hd with rfl | hd
            · exact hb
            · exact h2 w (by simp) d hd
          · exact h2 x (by simp [hx])
theorem index_one (c : UInt8) : ∀ l : List UInt8, (Lib.index l [c] = -1 ∧ ∀ b ∈ l, b ≠ c) ∨ ∃ w r, l = w ++ c :: r ∧ (∀ b ∈ w, b ≠ c) ∧ Lib.index l [c] = w.length
  | [] => .inl ⟨by simp [Lib.index], by simp⟩
  | b :: l => by
    by_cases hb : b = c
    · subst hb
      exact .inr ⟨[], l, rfl, by simp, by simp [Lib.index]⟩
    · have hp : List.isPrefixOf [c] (b :: l) = false := by simp [List.isPrefixOf, Ne.symm hb]
      rcases index_one c l with ⟨h1, h2⟩ | ⟨w, r, rfl, h2, h3⟩
      · refine .inl ⟨?_, ?_⟩
        · simp [Lib.index, hp, h1]
        · intro d hd
          rcases List.mem_cons.1 hd with rfl | hd
          · exact hb
          · exact h2 d hd
      · refine .inr ⟨b :: w, r, rfl, ?_, ?_⟩
        · intro d hd
          rcases List.mem_cons.1 hd with rfl | hd
          · exact hb
          · exact h2 d hd
        · rw [Lib.index, hp, h3]
          simp
theorem splitK_on (c : UInt8) : ∀ (k : Nat) (l : List UInt8), l.length ≤ k → Lib.splitK [c] 0 (l.count c) l = splitOn c l
  | k, l, hk => by
    rcases index_one c l with ⟨h1, h2⟩ | ⟨w, r, rfl, h2, h3⟩
    · have h0 : l.count c = 0 := List.count_eq_zero.2 (fun h => h2 c h rfl)
      rw [h0, splitOn_end c l h2]; rfl
    · have hc : (w ++ c :: r).count c = r.count c + 1 := by
        rw [List.count_append, List.count_cons_self, List.count_eq_zero.2 (fun h => h2 c h rfl)]; omega
      rw [hc, Lib.splitK]
      have hn : ¬ (Lib.index (w ++ c :: r) [c] == -1) = true := by rw [h3]; simp
      rw [if_neg hn, h3, splitOn_pre c w r h2]
      match k, hk with
      | 0, hk => simp at hk
      | k + 1, hk =>
        have := splitK_on c k r (by simp at hk; omega)
        simp only [Int.toNat_natCast, Nat.add_zero, List.take_left, List.length_singleton]
        rw [← this]
        congr 1
        rw [show w.length + 1 = (w ++ [c]).length by simp, show w ++ c :: r = (w ++ [c]) ++ r by simp, List.drop_left]
theorem split_eq (c : UInt8) (l : List UInt8) : (Lib.splitB (str [c]) 0 (Lib.countB (str l) (str [c])) (str l)).map (·.data.toList) = splitOn c l := by
  have e1 : (str l).data.toList = l := by simp [str]
  have e2 : (str [c]).data.toList = [c] := by simp [str]
  rw [Lib.splitB_data, e1, e2]
  have : Lib.countB (str l) (str [c]) = l.count c := by
    unfold Lib.countB
    rw [e1, e2, Lib.count_one]
  rw [this]
  exact splitK_on c l.length l (Nat.le_refl _)
/-- A list of texts. -/
def txts (ls : List (List UInt8)) : List V := ls.map fun l => .lit (.string (str l))
theorem strs_txts (c : UInt8) (l : List UInt8) : strs (Lib.splitB (str [c]) 0 (Lib.countB (str l) (str [c])) (str l)) = txts (splitOn c l) := by
  rw [← split_eq c l]
  unfold strs txts
  rw [List.map_map]
  refine List.map_congr_left (fun s _ => ?_)
  simp [str_data]
theorem txts_length (ls : List (List UInt8)) : (txts ls).length = ls.length := List.length_map _
theorem txts_getD (ls : List (List UInt8)) (i : Nat) (h : i < ls.length) : (txts ls).getD i default = .lit (.string (str (ls.getD i []))) := by
  simp [txts, List.getD, h]
theorem txts_cells (ls : List (List UInt8)) : ∀ x ∈ txts ls, x.cells.length = 1 := by
  intro x hx
  simp only [txts, List.mem_map] at hx
  obtain ⟨s, _, rfl⟩ := hx
  rfl

/-! ### Lines -/
def row0 : Row := ⟨[], 0, 0⟩
/-- What the program makes of a line. -/
def progOne (l : List UInt8) : Row × Bool :=
  match splitOn 32 l with
  | [a, b, c] => (⟨a, (verProg b).1, (unhexP c).1⟩, (verProg b).2 && (unhexP c).2)
  | _ => (row0, false)
/-- A row's line. -/
def lineL (r : Row) : List UInt8 := r.name ++ 32 :: (verText r.ver ++ 32 :: hex8 r.stamp)
/-- Where blanks stand: the first one, the last one of those behind it. -/
def spAB : List UInt8 → Nat → Int × Int
  | [], _ => (-1, -1)
  | c :: cs, p => if c = 32 then ((p : Int), maxI (spAB cs (p + 1)).1 (spAB cs (p + 1)).2) else spAB cs (p + 1)
/-- What the document makes of a line. -/
def refOne (l : List UInt8) : Row × Bool :=
  if ((spAB l 0).1 < 0 ∨ (spAB l 0).2 ≤ (spAB l 0).1) ∨ (l.length : Int) - (spAB l 0).2 ≠ 9 then (row0, false)
  else if ((verProg ((l.take (spAB l 0).2.toNat).drop ((spAB l 0).1 + 1).toNat)).2 = false ∨ refFit (l.take (spAB l 0).1.toNat) = false) ∨
    lineL ⟨l.take (spAB l 0).1.toNat, (verProg ((l.take (spAB l 0).2.toNat).drop ((spAB l 0).1 + 1).toNat)).1, hexNum (l.drop ((spAB l 0).2 + 1).toNat)⟩ ≠ l then (row0, false)
  else (⟨l.take (spAB l 0).1.toNat, (verProg ((l.take (spAB l 0).2.toNat).drop ((spAB l 0).1 + 1).toNat)).1, hexNum (l.drop ((spAB l 0).2 + 1).toNat)⟩, true)
/-- What the program makes of lines. -/
def readL : List (List UInt8) → List UInt8 → Int → List Row → List Row × Int × Bool
  | [], _, _, out => (out, 0, true)
  | l :: ls, last, i, out => if (progOne l).2 = true ∧ rowFit (progOne l).1 last = true then readL ls (progOne l).1.name (i + 1) (out ++ [(progOne l).1]) else ([], i + 1, false)
def lockRead (s : List UInt8) : List Row × Int × Bool :=
  if 20000 < s.length ∨ (splitOn 10 s).getD ((splitOn 10 s).length - 1) [] ≠ [] then ([], 0, false) else readL ((splitOn 10 s).take ((splitOn 10 s).length - 1)) [] 0 []
/-- What the document makes of lines. -/
def readRf : List (List UInt8) → List Row → List Row × Int × Bool
  | [], out => (out, 0, true)
  | l :: ls, out =>
    if (refOne l).2 = false ∨ (0 < out.length ∧ (Op.bytesLess (refOne l).1.name (out.getD (out.length - 1) default).name || decide ((refOne l).1.name = (out.getD (out.length - 1) default).name)) = true) then ([], (out.length : Int) + 1, false)
    else readRf ls (out ++ [(refOne l).1])
def linesOf (s : List UInt8) : List (List UInt8) := (splitOn 10 s).take ((splitOn 10 s).length - 1)
def refRead (s : List UInt8) : List Row × Int × Bool :=
  if 20000 < s.length ∨ (s ≠ [] ∧ byteI s ((s.length : Int) - 1) ≠ 10) then ([], 0, false) else readRf (linesOf s) []
def showL : List Row → List UInt8
  | [] => []
  | r :: rs => lineL r ++ 10 :: showL rs
def lockShow (rs : List Row) : List UInt8 := if checkL rs [] = true then showL rs else []
def refShow (rs : List Row) : List UInt8 := if refCheck rs = true then showL rs else []
theorem hexNum_range : ∀ (l : List UInt8) (k : Nat) (n : Int), k + l.length ≤ 8 → 0 ≤ n → n < 16 ^ k → 0 ≤ l.foldl hexStep n ∧ l.foldl hexStep n < 16 ^ (k + l.length)
  | [], k, n, _, h0, h1 => ⟨h0, by simpa using h1⟩
  | c :: cs, k, n, hk, h0, h1 => by
    have hc := UInt8.toNat_lt c
    simp only [List.length_cons] at hk
    have hk7 : k = 0 ∨ k = 1 ∨ k = 2 ∨ k = 3 ∨ k = 4 ∨ k = 5 ∨ k = 6 ∨ k = 7 := by omega
    have hstep : 0 ≤ hexStep n c ∧ hexStep n c < 16 ^ (k + 1) := by
      have hb : (16 : Int) ^ k ≤ 268435456 ∧ (16 : Int) ^ (k + 1) = 16 * 16 ^ k := by
        rcases hk7 with h | h | h | h | h | h | h | h <;> subst h <;> decide
      have hw := w64_eq (x := n * 16) (by omega) (by omega)
      unfold hexStep
      rw [hw]
      split
      · rw [w64_eq (by omega) (by omega)]; omega
      · rw [w64_eq (by omega) (by omega)]; omega
    have := hexNum_range cs (k + 1) (hexStep n c) (by omega) hstep.1 hstep.2
    rw [List.foldl_cons, List.length_cons, show k + (cs.length + 1) = k + 1 + cs.length by omega]
    exact this
theorem hexNum_8 (l : List UInt8) (h : l.length ≤ 8) : 0 ≤ hexNum l ∧ hexNum l ≤ 4294967295 := by
  have h1 := hexNum_range l 0 0 (by omega) (by omega) (by decide)
  have h2 : (16 : Int) ^ (0 + l.length) ≤ 16 ^ 8 := by
    have : 0 + l.length ≤ 8 := by omega
    exact_mod_cast Nat.pow_le_pow_right (by decide : 0 < 16) this
  have h3 : (16 : Int) ^ 8 = 4294967296 := by decide
  unfold hexNum
  omega
end Go.Proofs.YtaahjmkjdcikcaaDoor.AI
