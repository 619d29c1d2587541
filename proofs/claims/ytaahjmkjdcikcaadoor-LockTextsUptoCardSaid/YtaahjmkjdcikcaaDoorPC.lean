/- Plain laws: versions and their text. No program in sight. -/
import Derived.Test.YtaahjmkjdcikcaaDoorPB
import Derived.Lib.ItoaNum
namespace Go.Proofs.YtaahjmkjdcikcaaDoor.AI
open Go.RowKit
set_option linter.unusedVariables false
set_option linter.unusedSimpArgs false
/-- A digit's byte. -/
def dg8 (n : Int) : UInt8 := UInt8.ofNat (48 + n.toNat)
theorem dg8_toNat (n : Int) (h0 : 0 ≤ n) (h1 : n ≤ 9) : ((dg8 n).toNat : Int) = 48 + n := by
  unfold dg8
  rw [UInt8.toNat_ofNat_of_lt' (by simp [UInt8.size]; omega)]
  omega
/-- The digits of a number below a thousand. -/
def d3 (n : Int) : List UInt8 := if n < 10 then [dg8 n] else if n < 100 then [dg8 (n / 10), dg8 (n % 10)] else [dg8 (n / 100), dg8 (n / 10 % 10), dg8 (n % 10)]
theorem decDigits_d3 (n : Nat) (h : n < 1000) : Lib.decDigits n = d3 n := by
  unfold d3
  by_cases h1 : n < 10
  · rw [if_pos (by omega), Lib.decDigits_one h1]; rfl
  by_cases h2 : n < 100
  · rw [if_neg (by omega), if_pos (by omega), Lib.decDigits_two h1 h2]; rfl
  · rw [if_neg (by omega), if_neg (by omega), Lib.decDigits, dif_neg h1, Lib.decDigits_two (by omega) (by omega)]
    have e : n / 10 / 10 = n / 100 := by omega
    simp only [dg8, List.cons_append, List.nil_append, e]
    rfl
/-- A version's text. -/
def verL (p : Int) : List UInt8 := d3 (p / 1000000) ++ 46 :: (d3 (p / 1000 % 1000) ++ 46 :: d3 (p % 1000))
def verText (p : Int) : List UInt8 := if verFit p = true then verL p else []
theorem d3_ne (n : Int) : d3 n ≠ [] := by unfold d3; (repeat' split) <;> simp
theorem d3_length (n : Int) : 1 ≤ (d3 n).length ∧ (d3 n).length ≤ 3 := by unfold d3; (repeat' split) <;> simp
theorem verL_length (p : Int) : (verL p).length ≤ 11 := by
  unfold verL
  have h1 := d3_length (p / 1000000)
  have h2 := d3_length (p / 1000 % 1000)
  have h3 := d3_length (p % 1000)
  simp only [List.length_append, List.length_cons]
  omega
theorem verL_ne (p : Int) : verL p ≠ [] := by unfold verL; simp
/-- Is a byte a digit? -/
def isDig (c : UInt8) : Prop := 48 ≤ (c.toNat : Int) ∧ (c.toNat : Int) ≤ 57
theorem d3_digits (n : Int) (h0 : 0 ≤ n) (h1 : n < 1000) : ∀ c ∈ d3 n, isDig c := by
  have key : ∀ m : Int, 0 ≤ m → m ≤ 9 → isDig (dg8 m) := fun m a b => by
    have := dg8_toNat m a b
    unfold isDig
    omega
  unfold d3
  (repeat' split)
  · intro c hc; simp only [List.mem_cons, List.not_mem_nil, or_false] at hc; subst hc; exact key _ (by omega) (by omega)
  · intro c hc; simp only [List.mem_cons, List.not_mem_nil, or_false] at hc; rcases hc with rfl | rfl <;> exact key _ (by omega) (by omega)
  · intro c hc; simp only [List.mem_cons, List.not_mem_nil, or_false] at hc; rcases hc with rfl | rfl | rfl <;> exact key _ (by omega) (by omega)
/-- A version's bytes: digits and points. -/
theorem verL_bytes (p : Int) (h : verFit p = true) : ∀ c ∈ verL p, isDig c ∨ c = 46 := by
  simp only [verFit, decide_eq_true_eq] at h
  unfold verL
  simp only [List.mem_append, List.mem_cons]
  rintro c (h1 | h1 | h1 | h1 | h1)
  · exact .inl (d3_digits _ (by omega) (by omega) c h1)
  · exact .inr h1
  · exact .inl (d3_digits _ (by omega) (by omega) c h1)
  · exact .inr h1
  · exact .inl (d3_digits _ (by omega) (by omega) c h1)

/-! ### What the program reads -/
/-- Three parts, which of them is read, how many digits it has. -/
structure VS where
  a : Int
  b : Int
  c : Int
  k : Int
  n : Int
  deriving DecidableEq, Inhabited
def VS.cur (s : VS) : Int := if s.k = 0 then s.a else if s.k = 1 then s.b else s.c
def VS.put (s : VS) (x : Int) : VS := if s.k = 0 then { s with a := x, n := s.n + 1 } else if s.k = 1 then { s with b := x, n := s.n + 1 } else { s with c := x, n := s.n + 1 }
def verStep (s : VS) (c : Int) : Option VS :=
  if c = 46 ∧ 0 < s.n ∧ s.k < 2 then some { s with k := s.k + 1, n := 0 }
  else if ((c < 48 ∨ 57 < c) ∨ s.n = 3) ∨ (0 < s.n ∧ s.cur = 0) then none
  else some (s.put (s.cur * 10 + (c - 48)))
def verScan : List Int → VS → Option VS
  | [], s => some s
  | c :: cs, s => (verStep s c).bind (verScan cs)
def vs0 : VS := ⟨0, 0, 0, 0, 0⟩
def VS.place (s : VS) : Int := s.a * 1000000 + s.b * 1000 + s.c
/-- What the program makes of a text. -/
def verProg (l : List UInt8) : Int × Bool :=
  match verScan (runes l) vs0 with
  | none => (0, false)
  | some s => if s.k ≠ 2 ∨ s.n = 0 then (0, false) else (s.place, true)

theorem verScan_append (xs ys : List Int) (s : VS) : verScan (xs ++ ys) s = (verScan xs s).bind (verScan ys) := by
  induction xs generalizing s with
  | nil => rfl
  | cons x xs ih =>
    simp only [List.cons_append, verScan]
    cases verStep s x with
    | none => rfl
    | some t => simpa using ih t

/-- A part that has been read so far. -/
def partOk (x n : Int) : Prop := (n = 0 ∧ x = 0) ∨ (n = 1 ∧ 0 ≤ x ∧ x ≤ 9) ∨ (n = 2 ∧ 10 ≤ x ∧ x ≤ 99) ∨ (n = 3 ∧ 100 ≤ x ∧ x ≤ 999)
def full (x : Int) : Prop := 0 ≤ x ∧ x ≤ 999
def nums (l : List UInt8) : List Int := l.map fun c => (c.toNat : Int)
theorem nums_append (a b : List UInt8) : nums (a ++ b) = nums a ++ nums b := List.map_append
theorem nums_cons (a : UInt8) (b : List UInt8) : nums (a :: b) = (a.toNat : Int) :: nums b := rfl
def seg (x n : Int) : List UInt8 := if n = 0 then [] else d3 x
def VS.good (s : VS) : Prop := (s.k = 0 ∧ partOk s.a s.n ∧ s.b = 0 ∧ s.c = 0) ∨ (s.k = 1 ∧ full s.a ∧ partOk s.b s.n ∧ s.c = 0) ∨ (s.k = 2 ∧ full s.a ∧ full s.b ∧ partOk s.c s.n)
def VS.text (s : VS) : List UInt8 := if s.k = 0 then seg s.a s.n else if s.k = 1 then d3 s.a ++ 46 :: seg s.b s.n else d3 s.a ++ 46 :: (d3 s.b ++ 46 :: seg s.c s.n)

theorem seg_step (x n c : Int) (h : partOk x n) (hc : 48 ≤ c ∧ c ≤ 57) (h3 : n ≠ 3) (hz : ¬ (0 < n ∧ x = 0)) : partOk (x * 10 + (c - 48)) (n + 1) ∧ nums (seg (x * 10 + (c - 48)) (n + 1)) = nums (seg x n) ++ [c] := by
  unfold partOk at h ⊢
  refine ⟨by omega, ?_⟩
  have e : ∀ m : Int, 0 ≤ m → m ≤ 9 → ((dg8 m).toNat : Int) = 48 + m := dg8_toNat
  rcases h with ⟨rfl, rfl⟩ | ⟨rfl, h1, h2⟩ | ⟨rfl, h1, h2⟩ | ⟨rfl, h1, h2⟩
  · simp only [seg, if_true, d3, Int.zero_mul, Int.zero_add, if_pos (show c - 48 < 10 by omega), Int.reduceEq, if_false, nums, List.map]
    rw [e _ (by omega) (by omega)]
    simp; omega
  · have : ¬ x * 10 + (c - 48) < 10 := by omega
    simp only [seg, d3, Int.reduceAdd, Int.reduceEq, if_false, if_neg this, if_pos (show x * 10 + (c - 48) < 100 by omega), if_pos (show x < 10 by omega), nums, List.map]
    rw [show (x * 10 + (c - 48)) / 10 = x by omega, show (x * 10 + (c - 48)) % 10 = c - 48 by omega, e (c - 48) (by omega) (by omega)]
    simp; omega
  · simp only [seg, d3, Int.reduceAdd, Int.reduceEq, if_false, if_neg (show ¬ x * 10 + (c - 48) < 10 by omega), if_neg (show ¬ x * 10 + (c - 48) < 100 by omega), if_neg (show ¬ x < 10 by omega), if_pos (show x < 100 by omega), nums, List.map]
    rw [show (x * 10 + (c - 48)) / 100 = x / 10 by omega, show (x * 10 + (c - 48)) / 10 % 10 = x % 10 by omega, show (x * 10 + (c - 48)) % 10 = c - 48 by omega, e (c - 48) (by omega) (by omega)]
    simp; omega
  · exact absurd rfl h3

theorem partOk_full {x n : Int} (h : partOk x n) : full x := by unfold partOk at h; unfold full; omega
theorem verStep_good (s t : VS) (c : Int) (h : s.good) (hs : verStep s c = some t) : t.good ∧ nums t.text = nums s.text ++ [c] := by
  unfold verStep at hs
  split at hs
  · rename_i h1
    obtain ⟨rfl, h2, h3⟩ := h1
    cases hs
    unfold VS.good at h ⊢
    unfold VS.text
    rcases h with ⟨hk, ha, hb, hc⟩ | ⟨hk, ha, hb, hc⟩ | ⟨hk, ha, hb, hc⟩
    · simp only [hk]
      refine ⟨.inr (.inl ⟨by omega, partOk_full ha, .inl ⟨rfl, hb⟩, hc⟩), ?_⟩
      simp [seg, show s.n ≠ 0 by omega, nums]
    · simp only [hk]
      refine ⟨.inr (.inr ⟨by omega, ha, partOk_full hb, .inl ⟨rfl, hc⟩⟩), ?_⟩
      simp [seg, show s.n ≠ 0 by omega, nums]
    · omega
  · split at hs
    · cases hs
    · rename_i h1 h2
      cases hs
      have hr : 48 ≤ c ∧ c ≤ 57 := by omega
      have hn : s.n ≠ 3 := by omega
      have hz : ¬ (0 < s.n ∧ s.cur = 0) := by omega
      unfold VS.good at h ⊢
      unfold VS.text VS.put VS.cur at *
      rcases h with ⟨hk, ha, hb, hc⟩ | ⟨hk, ha, hb, hc⟩ | ⟨hk, ha, hb, hc⟩
      · simp only [hk, if_true] at hz ⊢
        have := seg_step _ _ _ ha hr hn hz
        exact ⟨.inl ⟨trivial, this.1, hb, hc⟩, this.2⟩
      · simp only [hk, if_true, Int.reduceEq, if_false] at hz ⊢
        have := seg_step _ _ _ hb hr hn hz
        refine ⟨.inr (.inl ⟨trivial, ha, this.1, hc⟩), ?_⟩
        rw [nums_append, nums_append, nums_cons, nums_cons, this.2]
        simp
      · simp only [hk, if_true, Int.reduceEq, if_false] at hz ⊢
        have := seg_step _ _ _ hc hr hn hz
        refine ⟨.inr (.inr ⟨trivial, ha, hb, this.1⟩), ?_⟩
        rw [nums_append, nums_append, nums_cons, nums_cons, nums_append, nums_append, nums_cons, nums_cons, this.2]
        simp
theorem verScan_good : ∀ (cs : List Int) (s t : VS), s.good → verScan cs s = some t → t.good ∧ nums t.text = nums s.text ++ cs
  | [], s, t, h, hs => by cases hs; exact ⟨h, by simp⟩
  | c :: cs, s, t, h, hs => by
    simp only [verScan, Option.bind_eq_some_iff] at hs
    obtain ⟨u, hu, ht⟩ := hs
    have h1 := verStep_good s u c h hu
    have h2 := verScan_good cs u t h1.1 ht
    exact ⟨h2.1, by rw [h2.2, h1.2]; simp⟩

/-- Texts of single bytes. -/
theorem runes_ascii : ∀ l : List UInt8, (∀ c ∈ l, c.toNat < 128) → runes l = nums l
  | [], _ => runes_nil
  | b :: r, h => by
    have hb := h b (by simp)
    have h1 : Lib.decodeL (b :: r) = (b.toNat, 1) := by
      have := runeN_eq (b :: r) 0 (by simp)
      rw [List.drop_zero] at this
      have e : runeN (b :: r) 0 = ((b.toNat : Int), 1) := by
        rw [runeN_def, if_pos (by simp [byteI]; omega)]
        simp [byteI]
      rw [e] at this
      have h1 := congrArg Prod.fst this
      have h2 := congrArg Prod.snd this
      simp only at h1 h2
      exact Prod.ext (by omega) (by omega)
    rw [runes, h1]
    simp only [List.drop_succ_cons, List.drop_zero, nums_cons]
    rw [runes_ascii r (fun c hc => h c (by simp [hc]))]
theorem rune_big (l : List UInt8) (p : Nat) (hp : p < l.length) (h : 128 ≤ byteI l p) : 128 ≤ (runeN l p).1 := by
  rw [runeN_def, if_neg (by omega)]
  split
  · simp
  · rename_i h0
    have hw := wideN_le l p h0
    have hx := x0N_range (byteI l p) (wideN l p) (by omega)
    have e : ¬ (leadN (byteI l p) = 0 ∨ (l.length : Int) - p < leadN (byteI l p)) := fun hh => h0 (by unfold wideN wideB; rw [if_pos hh])
    have h1 : wideN l p = leadN (byteI l p) := by
      unfold wideN wideB at h0 ⊢
      rw [if_neg e] at h0 ⊢
      split at h0
      · exact absurd rfl h0
      · rename_i h1
        rw [if_neg h1]
        split at h0
        · exact absurd rfl h0
        · rename_i h2
          rw [if_neg h2]
    have h2 : ¬ (((byteI l p = 224 ∧ byteI l (p + 1) < 160 ∨ byteI l p = 237 ∧ 159 < byteI l (p + 1)) ∨ byteI l p = 240 ∧ byteI l (p + 1) < 144) ∨ byteI l p = 244 ∧ 143 < byteI l (p + 1)) := fun hh => h0 (by
      unfold wideN wideB
      rw [if_neg e]
      split
      · rfl
      · first | rfl | rw [if_pos hh])
    have h3 : ¬ ((1 < leadN (byteI l p) ∧ offB (byteI l (p + 1))) ∨ (2 < leadN (byteI l p) ∧ offB (byteI l (p + 2))) ∨ (3 < leadN (byteI l p) ∧ offB (byteI l (p + 3)))) := fun hh => h0 (by
      unfold wideN wideB
      rw [if_neg e, if_pos hh])
    have r1 := byteI_range l (p + 1)
    have r2 := byteI_range l (p + 2)
    have r3 := byteI_range l (p + 3)
    simp only
    rw [h1] at hw ⊢
    unfold leadN at *
    unfold offB at h3
    unfold x0N
    (repeat' split) <;> omega
/-- If a text has only runes of one byte, they are its bytes. -/
theorem runes_small : ∀ l : List UInt8, (∀ r ∈ runes l, r < 128) → runes l = nums l := by
  intro l h
  refine runes_ascii l (fun c hc => ?_)
  induction l with
  | nil => cases hc
  | cons b r ih =>
    have hb : b.toNat < 128 := by
      by_cases g : b.toNat < 128
      · exact g
      · have h1 := rune_big (b :: r) 0 (by simp) (by simp [byteI]; omega)
        have h2 := runeN_eq (b :: r) 0 (by simp)
        rw [List.drop_zero] at h2
        rw [h2] at h1
        have h3 := h ((Lib.decodeL (b :: r)).1 : Int) (by rw [runes]; simp)
        simp only at h1
        omega
    rcases List.mem_cons.1 hc with e | hc
    · rw [e]; exact hb
    · have e : runes (b :: r) = (b.toNat : Int) :: runes r := by
        have h1 : Lib.decodeL (b :: r) = (b.toNat, 1) := by
          have := runeN_eq (b :: r) 0 (by simp)
          rw [List.drop_zero] at this
          have e : runeN (b :: r) 0 = ((b.toNat : Int), 1) := by
            rw [runeN_def, if_pos (by simp [byteI]; omega)]
            simp [byteI]
          rw [e] at this
          have h1 := congrArg Prod.fst this
          have h2 := congrArg Prod.snd this
          simp only at h1 h2
          exact Prod.ext (by omega) (by omega)
        rw [runes, h1]
        simp
      exact ih (fun x hx => h x (by rw [e]; simp [hx])) hc
theorem nums_inj {a b : List UInt8} (h : nums a = nums b) : a = b := by
  refine (List.map_inj_right (fun x y e => ?_)).1 h
  exact UInt8.toNat_inj.1 (by omega)

theorem good0 : vs0.good := .inl ⟨rfl, .inl ⟨rfl, rfl⟩, rfl, rfl⟩
theorem text_small (s : VS) (h : s.good) : ∀ c ∈ nums s.text, c < 128 := by
  have key : ∀ x n, partOk x n → ∀ c ∈ nums (seg x n), c < 128 := fun x n hx c hc => by
    unfold seg at hc
    split at hc
    · cases hc
    · simp only [nums, List.mem_map] at hc
      obtain ⟨d, hd, rfl⟩ := hc
      have := partOk_full hx
      unfold full at this
      have := d3_digits x (by omega) (by omega) d hd
      unfold isDig at this
      omega
  have key2 : ∀ x, full x → ∀ c ∈ nums (d3 x), c < 128 := fun x hx c hc => by
    simp only [nums, List.mem_map] at hc
    obtain ⟨d, hd, rfl⟩ := hc
    unfold full at hx
    have := d3_digits x (by omega) (by omega) d hd
    unfold isDig at this
    omega
  unfold VS.good at h
  unfold VS.text
  rcases h with ⟨hk, ha, hb, hc⟩ | ⟨hk, ha, hb, hc⟩ | ⟨hk, ha, hb, hc⟩
  · simp only [hk, if_true]; exact key _ _ ha
  · simp only [hk, Int.reduceEq, if_false, if_true, nums_append, nums_cons, List.mem_append, List.mem_cons]
    rintro c (h | h | h)
    · exact key2 _ ha c h
    · subst h; decide
    · exact key _ _ hb c h
  · simp only [hk, Int.reduceEq, if_false, nums_append, nums_cons, List.mem_append, List.mem_cons]
    rintro c (h | h | h | h | h)
    · exact key2 _ ha c h
    · subst h; decide
    · exact key2 _ hb c h
    · subst h; decide
    · exact key _ _ hc c h
theorem place_div (s : VS) (ha : full s.a) (hb : full s.b) (hc : full s.c) : s.place / 1000000 = s.a ∧ s.place / 1000 % 1000 = s.b ∧ s.place % 1000 = s.c ∧ verFit s.place = true := by
  unfold full at *
  unfold VS.place verFit
  rw [decide_eq_true_eq]
  omega
/-- **What the program reads is a version's text.** -/
theorem verProg_sound (l : List UInt8) (p : Int) (h : verProg l = (p, true)) : verFit p = true ∧ l = verL p := by
  unfold verProg at h
  split at h
  · simp at h
  · rename_i s hs
    split at h
    · simp at h
    · rename_i hk
      simp only [Prod.mk.injEq, and_true] at h
      subst h
      obtain ⟨hg, ht⟩ := verScan_good _ _ _ good0 hs
      have ht : nums s.text = runes l := by simpa [VS.text, vs0, seg, nums] using ht
      have hl : runes l = nums l := runes_small l (fun r hr => text_small s hg r (by rw [ht]; exact hr))
      rw [hl] at ht
      have hl := nums_inj ht
      rcases hg with ⟨hk', _⟩ | ⟨hk', _⟩ | ⟨hk', ha, hb, hc⟩
      · omega
      · omega
      · obtain ⟨e1, e2, e3, e4⟩ := place_div s ha hb (partOk_full hc)
        refine ⟨e4, ?_⟩
        rw [← hl]
        unfold VS.text verL
        rw [e1, e2, e3, if_neg (by omega), if_neg (by omega), seg, if_neg (by omega)]
theorem verProg_no (l : List UInt8) (h : (verProg l).2 = false) : verProg l = (0, false) := by
  unfold verProg at h ⊢
  split at h
  · rfl
  · split at h
    · rename_i h1; simp [h1]
    · simp at h

theorem scan_d3 (x : Int) (hx : full x) (a b c k : Int) (hk : k = 0 ∨ k = 1 ∨ k = 2) :
    ∃ n, 0 < n ∧ verScan (nums (d3 x)) ⟨a, b, c, k, 0⟩ = if k = 0 then (if a = 0 then some ⟨x, b, c, k, n⟩ else verScan (nums (d3 x)) ⟨a, b, c, k, 0⟩) else if k = 1 then (if b = 0 then some ⟨a, x, c, k, n⟩ else verScan (nums (d3 x)) ⟨a, b, c, k, 0⟩) else (if c = 0 then some ⟨a, b, x, k, n⟩ else verScan (nums (d3 x)) ⟨a, b, c, k, 0⟩) := by
  unfold full at hx
  have e : ∀ m : Int, 0 ≤ m → m ≤ 9 → ((dg8 m).toNat : Int) = 48 + m := dg8_toNat
  have st : ∀ (s : VS) (m : Int), 0 ≤ m → m ≤ 9 → s.n ≠ 3 → (0 < s.n → s.cur ≠ 0) → verStep s (48 + m) = some (s.put (s.cur * 10 + m)) := fun s m h0 h1 h3 hz => by
    unfold verStep
    rw [if_neg (by omega), if_neg (by
      rintro ((h | h) | ⟨h, h'⟩)
      · omega
      · exact h3 h
      · exact hz h h')]
    congr 2; omega
  refine ⟨(d3 x).length, by have := (d3_length x).1; omega, ?_⟩
  unfold d3
  by_cases h1 : x < 10
  · simp only [if_pos h1, nums, List.map, verScan, List.length_cons, List.length_nil]
    rw [e x (by omega) (by omega), st _ _ (by omega) (by omega) (by simp) (by simp)]
    rcases hk with rfl | rfl | rfl
    all_goals
      simp only [VS.cur, VS.put, if_true, Int.reduceEq, if_false, Option.bind_some]
      split
      · rename_i h; subst h; simp
      · rfl
  by_cases h2 : x < 100
  · simp only [if_neg h1, if_pos h2, nums, List.map, verScan, List.length_cons, List.length_nil]
    rw [e (x / 10) (by omega) (by omega), e (x % 10) (by omega) (by omega), st _ _ (by omega) (by omega) (by simp) (by simp)]
    have hz : x / 10 ≠ 0 := by omega
    have e2 : x / 10 * 10 + x % 10 = x := by omega
    rcases hk with rfl | rfl | rfl
    all_goals
      simp only [VS.cur, VS.put, if_true, Int.reduceEq, if_false, Option.bind_some]
      split
      · rename_i h
        subst h
        rw [st _ _ (by omega) (by omega) (by simp) (by simp [VS.cur, hz])]
        simp [VS.cur, VS.put, e2]
      · rfl
  · simp only [if_neg h1, if_neg h2, nums, List.map, verScan, List.length_cons, List.length_nil]
    rw [e (x / 100) (by omega) (by omega), e (x / 10 % 10) (by omega) (by omega), e (x % 10) (by omega) (by omega), st _ _ (by omega) (by omega) (by simp) (by simp)]
    have hz : x / 100 ≠ 0 := by omega
    have hy : x / 100 * 10 + x / 10 % 10 ≠ 0 := by omega
    have e2 : (x / 100 * 10 + x / 10 % 10) * 10 + x % 10 = x := by omega
    rcases hk with rfl | rfl | rfl
    all_goals
      simp only [VS.cur, VS.put, if_true, Int.reduceEq, if_false, Option.bind_some]
      split
      · rename_i h
        subst h
        rw [st _ _ (by omega) (by omega) (by simp) (by simp [VS.cur, hz])]
        simp only [VS.cur, VS.put, if_true, Int.reduceEq, if_false, Option.bind_some, Int.zero_mul, Int.zero_add]
        rw [st _ _ (by omega) (by omega) (by simp) (by simp [VS.cur, hy])]
        simp [VS.cur, VS.put, e2]
      · rfl
theorem verL_ascii (p : Int) (h : verFit p = true) : ∀ c ∈ verL p, c.toNat < 128 := fun c hc => by
  rcases verL_bytes p h c hc with h | h
  · unfold isDig at h; omega
  · subst h; decide
/-- **A version's text is read as that version.** -/
theorem verProg_complete (p : Int) (h : verFit p = true) : verProg (verL p) = (p, true) := by
  unfold verProg
  rw [runes_ascii _ (verL_ascii p h)]
  simp only [verFit, decide_eq_true_eq] at h
  have f1 : full (p / 1000000) := by unfold full; omega
  have f2 : full (p / 1000 % 1000) := by unfold full; omega
  have f3 : full (p % 1000) := by unfold full; omega
  obtain ⟨n1, hn1, s1⟩ := scan_d3 _ f1 0 0 0 0 (by omega)
  obtain ⟨n2, hn2, s2⟩ := scan_d3 _ f2 (p / 1000000) 0 0 1 (by omega)
  obtain ⟨n3, hn3, s3⟩ := scan_d3 _ f3 (p / 1000000) (p / 1000 % 1000) 0 2 (by omega)
  simp only [if_true, Int.reduceEq, if_false] at s1 s2 s3
  have dot : ∀ (a b c k n : Int), 0 < n → k < 2 → verStep ⟨a, b, c, k, n⟩ 46 = some ⟨a, b, c, k + 1, 0⟩ := fun a b c k n h1 h2 => by
    unfold verStep; rw [if_pos ⟨rfl, h1, h2⟩]
  have hs : verScan (nums (verL p)) vs0 = some ⟨p / 1000000, p / 1000 % 1000, p % 1000, 2, n3⟩ := by
    unfold verL
    rw [nums_append, nums_cons, nums_append, nums_cons, verScan_append, vs0, s1, Option.bind_some, verScan, show (((46 : UInt8).toNat : Nat) : Int) = 46 from rfl, dot _ _ _ _ _ hn1 (by omega), Option.bind_some, verScan_append, Int.zero_add, s2, Option.bind_some, verScan, dot _ _ _ _ _ hn2 (by omega), Option.bind_some, show (1 : Int) + 1 = 2 from rfl, s3]
  rw [hs]
  simp only
  rw [if_neg (by omega)]
  simp only [VS.place, Prod.mk.injEq, and_true]
  omega
/-- What the program reads, said at once. -/
theorem verProg_eq (l : List UInt8) (p : Int) (h : verText p = l) (hl : l ≠ []) : verProg l = (p, true) := by
  unfold verText at h
  split at h
  · rename_i hf; rw [← h]; exact verProg_complete p hf
  · exact absurd h.symm hl

/-! ### What the document reads -/
def w64 (x : Int) : Int := IntKind.i64.wrap x
/-- The number that a text's bytes say: what is ahead of the last point, what is behind it. -/
def numStep (s : Int × Int) (c : UInt8) : Int × Int := if (c.toNat : Int) = 46 then (w64 (w64 (s.1 + s.2) * 1000), 0) else (s.1, w64 (w64 (s.2 * 10) + (c.toNat : Int) % 48 % 10))
def numOf (l : List UInt8) : Int × Int := l.foldl numStep (0, 0)
def verRef (l : List UInt8) : Int × Bool :=
  if 11 < l.length then (0, false)
  else if l = [] ∨ verText (w64 ((numOf l).1 + (numOf l).2)) ≠ l then (0, false) else (w64 ((numOf l).1 + (numOf l).2), true)
theorem w64_eq {x : Int} (h1 : -9223372036854775808 ≤ x) (h2 : x ≤ 9223372036854775807) : w64 x = x := wrap_i64 h1 h2
theorem num_d3 (x m : Int) (hx : full x) (hm : 0 ≤ m ∧ m ≤ 1000000000) : (d3 x).foldl numStep (m, 0) = (m, x) := by
  unfold full at hx
  have e : ∀ m : Int, 0 ≤ m → m ≤ 9 → ((dg8 m).toNat : Int) = 48 + m := dg8_toNat
  have st : ∀ (n d : Int), 0 ≤ n → n ≤ 999 → 0 ≤ d → d ≤ 9 → numStep (m, n) (dg8 d) = (m, n * 10 + d) := fun n d h1 h2 h3 h4 => by
    unfold numStep
    rw [e d h3 h4, if_neg (by omega)]
    simp only
    rw [w64_eq (x := n * 10) (by omega) (by omega), w64_eq (by omega) (by omega)]
    congr 2; omega
  unfold d3
  by_cases h1 : x < 10
  · simp only [if_pos h1, List.foldl_cons, List.foldl_nil]
    rw [st 0 x (by omega) (by omega) (by omega) (by omega)]; simp
  by_cases h2 : x < 100
  · simp only [if_neg h1, if_pos h2, List.foldl_cons, List.foldl_nil]
    rw [st 0 _ (by omega) (by omega) (by omega) (by omega), st _ _ (by omega) (by omega) (by omega) (by omega)]
    congr 1; omega
  · simp only [if_neg h1, if_neg h2, List.foldl_cons, List.foldl_nil]
    rw [st 0 _ (by omega) (by omega) (by omega) (by omega), st _ _ (by omega) (by omega) (by omega) (by omega), st _ _ (by omega) (by omega) (by omega) (by omega)]
    congr 1; omega
theorem verRef_complete (p : Int) (h : verFit p = true) : w64 ((numOf (verL p)).1 + (numOf (verL p)).2) = p := by
  simp only [verFit, decide_eq_true_eq] at h
  have f1 : full (p / 1000000) := by unfold full; omega
  have f2 : full (p / 1000 % 1000) := by unfold full; omega
  have f3 : full (p % 1000) := by unfold full; omega
  have dot : ∀ a b : Int, 0 ≤ a → a ≤ 1000000000 → 0 ≤ b → b ≤ 1000 → numStep (a, b) 46 = ((a + b) * 1000, 0) := fun a b h1 h2 h3 h4 => by
    unfold numStep
    rw [if_pos (by decide)]
    simp only
    rw [w64_eq (x := a + b) (by omega) (by omega), w64_eq (by omega) (by omega)]
  unfold numOf verL
  rw [List.foldl_append, num_d3 _ _ f1 (by omega), List.foldl_cons, dot _ _ (by omega) (by omega) (by omega) (by omega), List.foldl_append, num_d3 _ _ f2 (by omega), List.foldl_cons, dot _ _ (by omega) (by omega) (by omega) (by omega), num_d3 _ _ f3 (by omega)]
  simp only
  rw [w64_eq (by omega) (by omega)]
  omega
/-- **The document reads what the program reads.** -/
theorem verRef_eq (l : List UInt8) : verRef l = verProg l := by
  cases hp : (verProg l).2 with
  | true =>
    obtain ⟨hf, hl⟩ := verProg_sound l (verProg l).1 (by rw [← hp])
    generalize (verProg l).1 = p at hf hl
    subst hl
    rw [verProg_complete p hf]
    have h1 := verL_length p
    have h2 := verRef_complete p hf
    unfold verRef
    rw [if_neg (by omega), h2, if_neg]
    rintro (h | h)
    · exact verL_ne p h
    · exact h (by rw [verText, if_pos hf])
  | false =>
    rw [verProg_no l hp]
    unfold verRef
    split
    · rfl
    · split
      · rfl
      · rename_i h1 h2
        have h3 : l ≠ [] := fun h => h2 (.inl h)
        have h4 : verText (w64 ((numOf l).1 + (numOf l).2)) = l := by
          by_cases g : verText (w64 ((numOf l).1 + (numOf l).2)) = l
          · exact g
          · exact absurd (.inr g) h2
        have := verProg_eq l _ h4 h3
        rw [this] at hp
        simp at hp
end Go.Proofs.YtaahjmkjdcikcaaDoor.AI
