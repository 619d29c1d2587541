/- Plain laws: a text's runes, as the document reads them and as Go does. No program in sight. -/
import Derived.Test.YtaahjmkjdcikcaaDoorW
namespace Go.Proofs.YtaahjmkjdcikcaaDoor.AI
open Go.RowKit
set_option linter.unusedVariables false
set_option linter.unusedSimpArgs false
def leadN (c : Int) : Int := if 240 ≤ c ∧ c ≤ 244 then 4 else if 224 ≤ c ∧ c ≤ 239 then 3 else if 194 ≤ c ∧ c ≤ 223 then 2 else 0
def offB (x : Int) : Prop := x < 128 ∨ 191 < x
instance (x : Int) : Decidable (offB x) := by unfold offB; infer_instance
def x0N (c n : Int) : Int := if n = 4 then c % 8 else if n = 3 then c % 16 else c % 32
def wideB (n b0 b1 b2 b3 : Int) : Int :=
  if leadN b0 = 0 ∨ n < leadN b0 then 0
  else if (1 < leadN b0 ∧ offB b1) ∨ (2 < leadN b0 ∧ offB b2) ∨ (3 < leadN b0 ∧ offB b3) then 0
  else if ((b0 = 224 ∧ b1 < 160 ∨ b0 = 237 ∧ 159 < b1) ∨ b0 = 240 ∧ b1 < 144) ∨ b0 = 244 ∧ 143 < b1 then 0
  else leadN b0
def runeB (n b0 b1 b2 b3 : Int) : Int × Int :=
  if b0 < 128 then (b0, 1)
  else if wideB n b0 b1 b2 b3 = 0 then (65533, 1)
  else (if wideB n b0 b1 b2 b3 = 2 then x0N b0 (wideB n b0 b1 b2 b3) * 64 + b1 % 64
    else if wideB n b0 b1 b2 b3 = 3 then (x0N b0 (wideB n b0 b1 b2 b3) * 64 + b1 % 64) * 64 + b2 % 64
    else ((x0N b0 (wideB n b0 b1 b2 b3) * 64 + b1 % 64) * 64 + b2 % 64) * 64 + b3 % 64, wideB n b0 b1 b2 b3)
set_option maxHeartbeats 2000000
theorem rune_arith (n b0 b1 b2 b3 : Nat) (hn : 1 ≤ n) (h0 : b0 < 256) (h1 : b1 < 256) (h2 : b2 < 256) (h3 : b3 < 256) :
    runeB n b0 b1 b2 b3 = (((Lib.decodeN n b0 b1 b2 b3).1 : Int), ((Lib.decodeN n b0 b1 b2 b3).2 : Int)) := by
  by_cases c0 : b0 < 128
  · simp only [runeB, Lib.decodeN, if_pos c0, if_pos (show (b0 : Int) < 128 by omega)]; rfl
  rw [runeB, if_neg (by omega), Lib.decodeN, if_neg c0]
  by_cases c1 : 194 ≤ b0 ∧ b0 ≤ 223
  · have hl : leadN b0 = 2 := by unfold leadN; (repeat' split) <;> omega
    by_cases g : 1 < n ∧ b1 / 64 = 2
    · have hw : wideB n b0 b1 b2 b3 = 2 := by
        unfold wideB; rw [hl, if_neg (by omega), if_neg (by unfold offB; omega), if_neg (by omega)]
      rw [if_pos (show b0 / 32 = 6 ∧ 1 < n ∧ b1 / 64 = 2 by omega), if_pos (show b0 % 32 * 64 + b1 % 64 ≥ 128 by omega), hw]
      simp [x0N]
    · have hw : wideB n b0 b1 b2 b3 = 0 := by
        unfold wideB; rw [hl]
        by_cases g2 : (n : Int) < 2
        · rw [if_pos (by omega)]
        · rw [if_neg (by omega), if_pos (by unfold offB; omega)]
      rw [hw, if_pos rfl, if_neg (by omega), if_neg (by omega), if_neg (by omega)]; rfl
  by_cases c2 : 224 ≤ b0 ∧ b0 ≤ 239
  · have hl : leadN b0 = 3 := by unfold leadN; (repeat' split) <;> omega
    rw [if_neg (show ¬ (b0 / 32 = 6 ∧ 1 < n ∧ b1 / 64 = 2) by omega)]
    by_cases g : (1 < n ∧ b1 / 64 = 2) ∧ 2 < n ∧ b2 / 64 = 2
    · rw [if_pos (show b0 / 16 = 14 ∧ (1 < n ∧ b1 / 64 = 2) ∧ 2 < n ∧ b2 / 64 = 2 by omega)]
      by_cases g3 : b0 = 224 ∧ b1 < 160 ∨ b0 = 237 ∧ 159 < b1
      · have hw : wideB n b0 b1 b2 b3 = 0 := by
          unfold wideB; rw [hl, if_neg (by omega), if_neg (by unfold offB; omega), if_pos (by omega)]
        rw [hw, if_pos rfl, if_neg (by omega)]; rfl
      · have hw : wideB n b0 b1 b2 b3 = 3 := by
          unfold wideB; rw [hl, if_neg (by omega), if_neg (by unfold offB; omega), if_neg (by omega)]
        rw [if_pos (show b0 % 16 * 4096 + b1 % 64 * 64 + b2 % 64 ≥ 2048 ∧ (b0 % 16 * 4096 + b1 % 64 * 64 + b2 % 64 < 55296 ∨ (57344 ≤ b0 % 16 * 4096 + b1 % 64 * 64 + b2 % 64 ∧ b0 % 16 * 4096 + b1 % 64 * 64 + b2 % 64 ≤ 1114111)) by omega), hw]
        simp [x0N]
        omega
    · have hw : wideB n b0 b1 b2 b3 = 0 := by
        unfold wideB; rw [hl]
        by_cases g2 : (n : Int) < 3
        · rw [if_pos (by omega)]
        · rw [if_neg (by omega), if_pos (by unfold offB; omega)]
      rw [hw, if_pos rfl, if_neg (by omega), if_neg (by omega)]; rfl
  by_cases c3 : 240 ≤ b0 ∧ b0 ≤ 244
  · have hl : leadN b0 = 4 := by unfold leadN; (repeat' split) <;> omega
    rw [if_neg (show ¬ (b0 / 32 = 6 ∧ 1 < n ∧ b1 / 64 = 2) by omega), if_neg (show ¬ (b0 / 16 = 14 ∧ (1 < n ∧ b1 / 64 = 2) ∧ 2 < n ∧ b2 / 64 = 2) by omega)]
    by_cases g : (1 < n ∧ b1 / 64 = 2) ∧ (2 < n ∧ b2 / 64 = 2) ∧ 3 < n ∧ b3 / 64 = 2
    · rw [if_pos (show b0 / 8 = 30 ∧ (1 < n ∧ b1 / 64 = 2) ∧ (2 < n ∧ b2 / 64 = 2) ∧ 3 < n ∧ b3 / 64 = 2 by omega)]
      by_cases g3 : b0 = 240 ∧ b1 < 144 ∨ b0 = 244 ∧ 143 < b1
      · have hw : wideB n b0 b1 b2 b3 = 0 := by
          unfold wideB; rw [hl, if_neg (by omega), if_neg (by unfold offB; omega), if_pos (by omega)]
        rw [hw, if_pos rfl, if_neg (by omega)]; rfl
      · have hw : wideB n b0 b1 b2 b3 = 4 := by
          unfold wideB; rw [hl, if_neg (by omega), if_neg (by unfold offB; omega), if_neg (by omega)]
        rw [if_pos (show b0 % 8 * 262144 + b1 % 64 * 4096 + b2 % 64 * 64 + b3 % 64 ≥ 65536 ∧ (b0 % 8 * 262144 + b1 % 64 * 4096 + b2 % 64 * 64 + b3 % 64 < 55296 ∨ (57344 ≤ b0 % 8 * 262144 + b1 % 64 * 4096 + b2 % 64 * 64 + b3 % 64 ∧ b0 % 8 * 262144 + b1 % 64 * 4096 + b2 % 64 * 64 + b3 % 64 ≤ 1114111)) by omega), hw]
        simp [x0N]
        omega
    · have hw : wideB n b0 b1 b2 b3 = 0 := by
        unfold wideB; rw [hl]
        by_cases g2 : (n : Int) < 4
        · rw [if_pos (by omega)]
        · rw [if_neg (by omega), if_pos (by unfold offB; omega)]
      rw [hw, if_pos rfl, if_neg (by omega)]; rfl
  have hl : leadN b0 = 0 := by unfold leadN; (repeat' split) <;> omega
  have hw : wideB n b0 b1 b2 b3 = 0 := by unfold wideB; rw [hl, if_pos (.inl rfl)]
  rw [hw, if_pos rfl]
  by_cases d1 : b0 / 32 = 6 ∧ 1 < n ∧ b1 / 64 = 2
  · rw [if_pos d1, if_neg (by omega)]; rfl
  rw [if_neg d1, if_neg (by omega)]
  by_cases d2 : b0 / 8 = 30 ∧ (1 < n ∧ b1 / 64 = 2) ∧ (2 < n ∧ b2 / 64 = 2) ∧ 3 < n ∧ b3 / 64 = 2
  · rw [if_pos d2, if_neg (by omega)]; rfl
  rw [if_neg d2]; rfl

theorem leadN_le (c : Int) : 0 ≤ leadN c ∧ leadN c ≤ 4 ∧ leadN c ≠ 1 := by unfold leadN; (repeat' split) <;> omega
theorem x0N_range (c n : Int) (h : 0 ≤ c) : 0 ≤ x0N c n ∧ x0N c n < 32 := by unfold x0N; (repeat' split) <;> omega
/-- How many bytes the rune at a place has; 0: none stands there. -/
def wideN (l : List UInt8) (p : Nat) : Int := wideB ((l.length : Int) - p) (byteI l p) (byteI l (p + 1)) (byteI l (p + 2)) (byteI l (p + 3))
/-- The rune at a place, and its bytes. -/
def runeN (l : List UInt8) (p : Nat) : Int × Int := runeB ((l.length : Int) - p) (byteI l p) (byteI l (p + 1)) (byteI l (p + 2)) (byteI l (p + 3))
theorem runeN_def (l : List UInt8) (p : Nat) : runeN l p = if byteI l p < 128 then (byteI l p, 1)
  else if wideN l p = 0 then (65533, 1)
  else (if wideN l p = 2 then x0N (byteI l p) (wideN l p) * 64 + byteI l (p + 1) % 64
    else if wideN l p = 3 then (x0N (byteI l p) (wideN l p) * 64 + byteI l (p + 1) % 64) * 64 + byteI l (p + 2) % 64
    else ((x0N (byteI l p) (wideN l p) * 64 + byteI l (p + 1) % 64) * 64 + byteI l (p + 2) % 64) * 64 + byteI l (p + 3) % 64, wideN l p) := rfl
theorem wideN_le (l : List UInt8) (p : Nat) (h : wideN l p ≠ 0) : (p : Int) + wideN l p ≤ l.length ∧ 2 ≤ wideN l p ∧ wideN l p ≤ 4 := by
  have := leadN_le (byteI l p)
  unfold wideN wideB at h ⊢
  split at h
  · exact absurd rfl h
  · rename_i h1
    rw [if_neg h1]
    split at h
    · exact absurd rfl h
    · rename_i h2
      rw [if_neg h2]
      split at h
      · exact absurd rfl h
      · rename_i h3
        rw [if_neg h3]
        omega
theorem runeN_eq (l : List UInt8) (p : Nat) (h : p < l.length) : runeN l p = (((Lib.decodeL (l.drop p)).1 : Int), ((Lib.decodeL (l.drop p)).2 : Int)) := by
  rw [Lib.decodeL_N, Lib.getD_dropU, Lib.getD_dropU, Lib.getD_dropU, Lib.getD_dropU, List.length_drop]
  have hb := fun k : Nat => UInt8.toNat_lt (l.getD (p + k) 0)
  rw [← rune_arith (l.length - p) _ _ _ _ (by omega) (hb 0) (hb 1) (hb 2) (hb 3)]
  unfold runeN byteI
  congr 1
  · omega
  all_goals (congr 2)
theorem decodeL_le (l : List UInt8) (p : Nat) (h : p < l.length) : p + (Lib.decodeL (l.drop p)).2 ≤ l.length := by
  have h1 := runeN_eq l p h
  have h2 := congrArg Prod.snd h1
  have h3 := wideN_le l p
  unfold runeN runeB at h2
  unfold wideN at h3
  split at h2
  · simp only at h2; omega
  · split at h2
    · simp only at h2; omega
    · rename_i h4 h5
      simp only at h2
      have := h3 h5
      omega
/-- What a rune is. -/
def kindN (r : Int) : Int := if 97 ≤ r ∧ r ≤ 122 then 0 else if 945 ≤ r ∧ r ≤ 969 then 1 else if 48 ≤ r ∧ r ≤ 57 then 2 else if r = 45 then 3 else 4
def fitR : List Int → Int → Bool
  | [], n => decide (0 < n)
  | c :: cs, n => if (kindN c > 3 ∨ n = 0 ∧ kindN c > 1) ∨ n = 12 then false else fitR cs (n + 1)
def okAt (r : List Int) (j : Nat) : Prop := kindN (r.getD j 0) ≠ 4 ∧ (j = 0 → kindN (r.getD j 0) ≤ 1)
instance (r : List Int) (j : Nat) : Decidable (okAt r j) := by unfold okAt; infer_instance
/-- The document's names. -/
def refFit (l : List UInt8) : Bool := decide (l.length ≤ 100 ∧ (∀ j, j < (runes l).length → okAt (runes l) j) ∧ 1 ≤ (runes l).length ∧ (runes l).length ≤ 12)
/-- A list of numbers. -/
def ints (l : List Int) : List V := l.map fun x => .lit (.int .i64 x)
theorem ints_append (a b : List Int) : ints (a ++ b) = ints a ++ ints b := List.map_append
theorem ints_length (l : List Int) : (ints l).length = l.length := List.length_map _
theorem ints_one (x : Int) : ints [x] = [.lit (.int .i64 x)] := rfl
theorem ints_cells (l : List Int) : ∀ x ∈ ints l, x.cells.length = 1 := by
  intro x hx
  simp only [ints, List.mem_map] at hx
  obtain ⟨y, _, rfl⟩ := hx
  rfl
theorem ints_getD (l : List Int) (i : Nat) (h : i < l.length) : (ints l).getD i default = .lit (.int .i64 (l.getD i 0)) := by
  simp [ints, List.getD, h]
theorem runes_len (l : List UInt8) : ∀ p, (runes (l.drop p)).length ≤ l.length - p := by
  intro p
  induction hn : l.length - p using Nat.strongRecOn generalizing p with
  | ind n ih =>
    by_cases h : p < l.length
    · rw [runes_drop h]
      have h1 := decodeL_pos (l.drop p)
      have h2 := decodeL_le l p h
      have := ih (l.length - (p + (Lib.decodeL (l.drop p)).2)) (by omega) _ rfl
      simp only [List.length_cons]
      omega
    · rw [runes_end h]; simp
theorem decodeL_le4 (l : List UInt8) (p : Nat) (h : p < l.length) : (Lib.decodeL (l.drop p)).2 ≤ 4 := by
  have h2 := congrArg Prod.snd (runeN_eq l p h)
  have h3 := wideN_le l p
  rw [runeN_def] at h2
  split at h2
  · simp only at h2; omega
  · split at h2
    · simp only at h2; omega
    · rename_i h4 h5
      simp only at h2
      have := h3 h5
      omega
theorem runes_len4 (l : List UInt8) : ∀ p, l.length - p ≤ 4 * (runes (l.drop p)).length := by
  intro p
  induction hn : l.length - p using Nat.strongRecOn generalizing p with
  | ind n ih =>
    by_cases h : p < l.length
    · rw [runes_drop h]
      have h1 := decodeL_pos (l.drop p)
      have h2 := decodeL_le4 l p h
      have := ih (l.length - (p + (Lib.decodeL (l.drop p)).2)) (by omega) _ rfl
      simp only [List.length_cons]
      omega
    · omega
theorem kindN_range (r : Int) : 0 ≤ kindN r ∧ kindN r ≤ 4 := by unfold kindN; (repeat' split) <;> omega
theorem fitR_spec : ∀ (cs : List Int) (n : Int), 0 ≤ n → n ≤ 12 → (fitR cs n = true ↔ (0 < n + cs.length ∧ n + cs.length ≤ 12 ∧ ∀ j, j < cs.length → kindN (cs.getD j 0) ≠ 4 ∧ (n + j = 0 → kindN (cs.getD j 0) ≤ 1)))
  | [], n, h0, h1 => by simp [fitR]; omega
  | c :: cs, n, h0, h1 => by
    have hk := kindN_range c
    rw [fitR]
    split
    · rename_i h
      simp only [Bool.false_eq_true, false_iff]
      rintro ⟨a, b, d⟩
      have hd := d 0 (by simp)
      simp only [List.getD_cons_zero] at hd
      simp only [List.length_cons] at b
      rcases h with (h | h) | h
      · exact hd.1 (by omega)
      · have := hd.2 (by simp; omega)
        omega
      · omega
    · rename_i h
      have hc : n ≠ 12 := fun e => h (.inr e)
      rw [fitR_spec cs (n + 1) (by omega) (by omega)]
      constructor
      · rintro ⟨a, b, d⟩
        refine ⟨by simp; omega, by simp only [List.length_cons]; omega, fun j hj => ?_⟩
        cases j with
        | zero =>
          simp only [List.getD_cons_zero]
          refine ⟨fun e => h (.inl (.inl (by omega))), fun e => ?_⟩
          by_cases g : kindN c ≤ 1
          · exact g
          · exact absurd (.inl (.inr ⟨by simpa using e, by omega⟩)) h
        | succ j =>
          simp only [List.getD_cons_succ]
          have := d j (by simpa using hj)
          exact ⟨this.1, fun e => by omega⟩
      · rintro ⟨a, b, d⟩
        simp only [List.length_cons] at b
        refine ⟨by omega, by omega, fun j hj => ?_⟩
        have := d (j + 1) (by simp; omega)
        simp only [List.getD_cons_succ] at this
        exact ⟨this.1, fun e => by omega⟩
/-- **The program's names are the document's.** -/
theorem refFit_eq (l : List UInt8) : refFit l = fitR (runes l) 0 := by
  rw [Bool.eq_iff_iff, fitR_spec _ 0 (by omega) (by omega)]
  unfold refFit okAt
  rw [decide_eq_true_eq]
  have h4 := runes_len4 l 0
  rw [List.drop_zero] at h4
  constructor
  · rintro ⟨a, b, c, d⟩
    exact ⟨by omega, by omega, fun j hj => ⟨(b j hj).1, fun e => (b j hj).2 (by omega)⟩⟩
  · rintro ⟨a, b, c⟩
    exact ⟨by omega, fun j hj => ⟨(c j hj).1, fun e => (c j hj).2 (by omega)⟩, by omega, by omega⟩
end Go.Proofs.YtaahjmkjdcikcaaDoor.AI
