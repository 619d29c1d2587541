/- Plain laws: the program's locks are the document's, whole texts. No program in sight. -/
import Derived.Test.YtaahjmkjdcikcaaDoorPE
namespace Go.Proofs.YtaahjmkjdcikcaaDoor.AI
open Go.RowKit
set_option linter.unusedVariables false
set_option linter.unusedSimpArgs false
set_option linter.unusedSectionVars false
theorem rowFit_iff (r : Row) (last : List UInt8) : rowFit r last = true ↔ (refFit r.name = true ∧ verFit r.ver = true) ∧ (Op.bytesLess r.name last = false ∧ ¬ r.name = last) := by
  unfold rowFit verFit
  rw [refFit_eq]
  simp only [Bool.and_eq_true, Bool.not_eq_true', Bool.or_eq_false_iff, decide_eq_true_eq, decide_eq_false_iff_not]
  constructor
  · rintro ⟨⟨⟨a, b, c⟩, d⟩, e⟩; exact ⟨⟨a, d, e⟩, b, c⟩
  · rintro ⟨⟨a, d, e⟩, b, c⟩; exact ⟨⟨⟨a, b, c⟩, d⟩, e⟩
theorem checkL_iff : ∀ (rs : List Row) (last : List UInt8), checkL rs last = true ↔ ∀ i, i < rs.length → rowFit (rs.getD i default) (if i = 0 then last else (rs.getD (i - 1) default).name) = true
  | [], last => by simp [checkL]
  | r :: rs, last => by
    rw [checkL, Bool.and_eq_true, checkL_iff rs r.name]
    constructor
    · rintro ⟨h1, h2⟩ i hi
      cases i with
      | zero => simpa using h1
      | succ i =>
        have := h2 i (by simpa using hi)
        rw [if_neg (by omega), List.getD_cons_succ, show i + 1 - 1 = i by omega]
        cases i with
        | zero => simpa using this
        | succ i =>
          rw [if_neg (by omega), show i + 1 - 1 = i by omega] at this
          rw [List.getD_cons_succ (n := i)]
          exact this
    · intro h
      refine ⟨by simpa using h 0 (by simp), fun i hi => ?_⟩
      have := h (i + 1) (by simpa using hi)
      rw [if_neg (by omega), List.getD_cons_succ, show i + 1 - 1 = i by omega] at this
      cases i with
      | zero => simpa using this
      | succ i =>
        rw [if_neg (by omega), show i + 1 - 1 = i by omega]
        rw [List.getD_cons_succ (n := i)] at this
        exact this
theorem less_nil (l : List UInt8) : Op.bytesLess l [] = false := by cases l <;> rfl
theorem refRow_iff (rs : List Row) (i : Nat) : refRowAt rs i = true ↔ (refFit (rs.getD i default).name = true ∧ verFit (rs.getD i default).ver = true) ∧ (i = 0 ∨ (Op.bytesLess (rs.getD i default).name (rs.getD (i - 1) default).name = false ∧ ¬ (rs.getD i default).name = (rs.getD (i - 1) default).name)) := by
  unfold refRowAt
  simp only [Bool.not_eq_true', Bool.or_eq_false_iff, Bool.and_eq_false_iff, Bool.not_eq_false', decide_eq_false_iff_not]
  constructor
  · rintro ⟨h, k | k⟩
    · exact ⟨h, .inl (by omega)⟩
    · exact ⟨h, .inr k⟩
  · rintro ⟨h, k | k⟩
    · exact ⟨h, .inl (by omega)⟩
    · exact ⟨h, .inr k⟩
/-- **Which locks may be is the document's.** -/
theorem refCheck_eq (rs : List Row) : refCheck rs = checkL rs [] := by
  rw [Bool.eq_iff_iff, checkL_iff]
  unfold refCheck
  rw [List.all_eq_true]
  constructor
  · intro h i hi
    have := (refRow_iff rs i).1 (h i (by simpa using hi))
    rw [rowFit_iff]
    refine ⟨this.1, ?_⟩
    split
    · exact ⟨less_nil _, fit_ne this.1.1⟩
    · rcases this.2 with h0 | h0
      · omega
      · exact h0
  · intro h i hi
    have := (rowFit_iff _ _).1 (h i (by simpa using hi))
    rw [refRow_iff]
    refine ⟨this.1, ?_⟩
    by_cases h0 : i = 0
    · exact .inl h0
    · rw [if_neg h0] at this
      exact .inr this.2
theorem refShow_eq (rs : List Row) : refShow rs = lockShow rs := by unfold refShow lockShow; rw [refCheck_eq]

/-! ### Reading -/
def LastOk (last : List UInt8) (out : List Row) : Prop := (out = [] ∧ last = []) ∨ (0 < out.length ∧ last = (out.getD (out.length - 1) default).name)
theorem LastOk.snoc (out : List Row) (r : Row) : LastOk r.name (out ++ [r]) := .inr ⟨by simp, by simp⟩
theorem readL_eq : ∀ (ls : List (List UInt8)) (last : List UInt8) (i : Int) (out : List Row), i = out.length → LastOk last out → readL ls last i out = readRf ls out
  | [], last, i, out, _, _ => rfl
  | l :: ls, last, i, out, hi, hl => by
    rw [readL, readRf]
    by_cases hP : (progOne l).2 = true ∧ rowFit (progOne l).1 last = true
    · have hfit := (rowFit_iff _ _).1 hP.2
      have hok := (one_ok l).1 ⟨hP.1, hfit.1.1⟩
      have hsame := one_same hok
      rw [if_pos hP, if_neg]
      · rw [hsame]
        exact readL_eq ls _ _ _ (by simp [hi]) (.snoc _ _)
      · rintro (h | ⟨h0, h1⟩)
        · rw [hok] at h; cases h
        · rcases hl with ⟨rfl, _⟩ | ⟨_, h2⟩
          · simp at h0
          · rw [← hsame, ← h2] at h1
            rw [hfit.2.1, decide_eq_false hfit.2.2] at h1
            cases h1
    · rw [if_neg hP, if_pos, hi]
      by_cases hok : (refOne l).2 = true
      · have hsame := one_same hok
        have hfit := (one_ok l).2 hok
        obtain ⟨hv, _⟩ := ref_sound hok
        refine .inr ?_
        have hbad : ¬ (Op.bytesLess (progOne l).1.name last = false ∧ ¬ (progOne l).1.name = last) := fun hh => hP ⟨hfit.1, (rowFit_iff _ _).2 ⟨⟨hfit.2, by rw [hsame]; exact hv.2.1⟩, hh⟩⟩
        rcases hl with ⟨_, rfl⟩ | ⟨h0, h2⟩
        · exact absurd ⟨less_nil _, fit_ne hfit.2⟩ hbad
        · refine ⟨h0, ?_⟩
          rw [← hsame, ← h2]
          cases hb : Op.bytesLess (progOne l).1.name last with
          | true => rfl
          | false =>
            by_cases he : (progOne l).1.name = last
            · rw [decide_eq_true he]; rfl
            · exact absurd ⟨hb, he⟩ hbad
      · refine .inl ?_
        cases h : (refOne l).2 with
        | true => exact absurd h hok
        | false => rfl
theorem splitOn_last (c : UInt8) : ∀ s : List UInt8, ∃ pre w, splitOn c s = pre ++ [w] ∧ (∀ b ∈ w, b ≠ c) ∧ ((s = w ∧ pre = []) ∨ ∃ t, s = t ++ c :: w)
  | [] => ⟨[], [], by simp [splitOn], by simp, .inl ⟨rfl, rfl⟩⟩
  | b :: l => by
    obtain ⟨pre, w, h1, h2, h3⟩ := splitOn_last c l
    by_cases hb : b = c
    · subst hb
      refine ⟨[] :: pre, w, by simp [splitOn, h1], h2, .inr ?_⟩
      rcases h3 with ⟨rfl, rfl⟩ | ⟨t, rfl⟩
      · exact ⟨[], rfl⟩
      · exact ⟨b :: t, rfl⟩
    · rcases h3 with ⟨rfl, rfl⟩ | ⟨t, rfl⟩
      · refine ⟨[], b :: l, by simp [splitOn, hb, h1], fun x hx => ?_, .inl ⟨rfl, rfl⟩⟩
        rcases List.mem_cons.1 hx with rfl | hx
        · exact hb
        · exact h2 x hx
      · cases pre with
        | nil =>
          have := (splitOn_join c (t ++ c :: w)).1
          rw [h1] at this
          simp [Lib.join_one] at this
          have := congrArg List.length this
          simp at this
          omega
        | cons p ps => exact ⟨(b :: p) :: ps, w, by simp [splitOn, hb, h1], h2, .inr ⟨b :: t, rfl⟩⟩
theorem last_piece (s : List UInt8) : (splitOn 10 s).getD ((splitOn 10 s).length - 1) [] ≠ [] ↔ (s ≠ [] ∧ byteI s ((s.length : Int) - 1) ≠ 10) := by
  obtain ⟨pre, w, h1, h2, h3⟩ := splitOn_last 10 s
  have e : (splitOn 10 s).getD ((splitOn 10 s).length - 1) [] = w := by rw [h1]; simp
  rw [e]
  have key : ∀ t : List UInt8, w ≠ [] → byteI (t ++ w) (((t ++ w).length : Int) - 1) ≠ 10 := fun t hw hb => by
    have hpos := List.length_pos_iff.2 hw
    have hlen : (((t ++ w).length : Int) - 1).toNat = t.length + (w.length - 1) := by simp; omega
    unfold byteI at hb
    rw [hlen, List.getD, List.getElem?_append_right (by omega), Nat.add_sub_cancel_left, List.getElem?_eq_getElem (by omega)] at hb
    simp only [Option.getD_some] at hb
    refine h2 _ (List.getElem_mem (by omega : w.length - 1 < w.length)) (UInt8.toNat_inj.1 ?_)
    have : (10 : UInt8).toNat = 10 := rfl
    omega
  rcases h3 with ⟨rfl, _⟩ | ⟨t, rfl⟩
  · constructor
    · intro h; exact ⟨h, by simpa using key [] h⟩
    · intro h; exact h.1
  · constructor
    · intro h
      refine ⟨by simp, ?_⟩
      have := key (t ++ [10]) h
      simpa using this
    · rintro ⟨_, h⟩ rfl
      apply h
      unfold byteI
      have hlen : (((t ++ [10]).length : Int) - 1).toNat = t.length := by simp
      rw [hlen]
      simp
/-- **The lock of any text, or the line that is none, is the document's.** -/
theorem refRead_eq (s : List UInt8) : refRead s = lockRead s := by
  unfold refRead lockRead linesOf
  by_cases h : 20000 < s.length ∨ (splitOn 10 s).getD ((splitOn 10 s).length - 1) [] ≠ []
  · rw [if_pos h, if_pos (h.imp id (last_piece s).1)]
  · rw [if_neg h, if_neg (fun h' => h (h'.imp id (last_piece s).2))]
    exact (readL_eq _ [] 0 [] rfl (.inl ⟨rfl, rfl⟩)).symm
theorem readRf_valid : ∀ (ls : List (List UInt8)) (out : List Row), (∀ r ∈ out, validR r) → (∀ r ∈ (readRf ls out).1, validR r) ∧ (readRf ls out).1.length ≤ out.length + ls.length
  | [], out, h => ⟨h, Nat.le_refl _⟩
  | l :: ls, out, h => by
    rw [readRf]
    split
    · exact ⟨by simp, by simp⟩
    · rename_i h1
      have hok : (refOne l).2 = true := by
        cases hh : (refOne l).2 with
        | true => rfl
        | false => exact absurd (.inl hh) h1
      have := readRf_valid ls (out ++ [(refOne l).1]) (fun r hr => by
        rcases List.mem_append.1 hr with hr | hr
        · exact h r hr
        · simp at hr; subst hr; exact (ref_sound hok).1)
      refine ⟨this.1, Nat.le_trans this.2 (by simp; omega)⟩
theorem splitOn_len' (c : UInt8) (l : List UInt8) : (splitOn c l).length ≤ l.length + 1 := by
  induction l with
  | nil => simp [splitOn]
  | cons b l ih =>
    unfold splitOn
    split
    · simp; omega
    · split
      · rename_i h; rw [h] at ih; simp at ih ⊢; omega
      · simp
theorem lockRead_valid (s : List UInt8) : (∀ r ∈ (lockRead s).1, validR r) ∧ (lockRead s).1.length ≤ s.length := by
  rw [← refRead_eq]
  unfold refRead
  split
  · exact ⟨by simp, by simp⟩
  · have := readRf_valid (linesOf s) [] (by simp)
    refine ⟨this.1, Nat.le_trans this.2 ?_⟩
    have h1 := splitOn_len' 10 s
    unfold linesOf
    simp; omega

/-! ### What is shown is read -/
theorem checkL_valid : ∀ (rs : List Row) (last : List UInt8), checkL rs last = true → (∀ r ∈ rs, 0 ≤ r.stamp ∧ r.stamp ≤ 4294967295) → ∀ r ∈ rs, validR r
  | [], _, _, _, r, hr => by cases hr
  | x :: rs, last, h, hs, r, hr => by
    rw [checkL, Bool.and_eq_true] at h
    rcases List.mem_cons.1 hr with rfl | hr
    · have := (rowFit_iff _ _).1 h.1
      exact ⟨this.1.1, this.1.2, hs r (by simp)⟩
    · exact checkL_valid rs _ h.2 (fun y hy => hs y (by simp [hy])) r hr
theorem split_show : ∀ rs : List Row, (∀ r ∈ rs, validR r) → splitOn 10 (showL rs) = rs.map lineL ++ [[]]
  | [], _ => by simp [showL, splitOn]
  | r :: rs, h => by
    rw [showL, splitOn_pre 10 _ _ (lineL_nl (h r (by simp))), split_show rs (fun x hx => h x (by simp [hx]))]
    rfl
theorem read_lines : ∀ (rs : List Row) (last : List UInt8) (i : Int) (out : List Row), checkL rs last = true → (∀ r ∈ rs, validR r) → readL (rs.map lineL) last i out = (out ++ rs, 0, true)
  | [], _, _, out, _, _ => by simp [readL]
  | r :: rs, last, i, out, h, hv => by
    rw [checkL, Bool.and_eq_true] at h
    rw [List.map_cons, readL, prog_line (hv r (by simp)), if_pos ⟨rfl, h.1⟩]
    rw [read_lines rs r.name (i + 1) (out ++ [r]) h.2 (fun x hx => hv x (by simp [hx]))]
    simp
theorem lineL_len' (r : Row) : (lineL r).length ≤ r.name.length + 21 := by
  have h2 : (verText r.ver).length ≤ 11 := by
    unfold verText; split
    · exact verL_length _
    · simp
  simp only [lineL, List.length_append, List.length_cons, hex8_list, List.length_nil]
  omega
theorem showL_len : ∀ rs : List Row, (∀ r ∈ rs, validR r) → (showL rs).length ≤ 122 * rs.length
  | [], _ => by simp [showL]
  | r :: rs, h => by
    have h1 := lineL_len' r
    have h2 := fit_len (h r (by simp)).1
    have := showL_len rs (fun x hx => h x (by simp [hx]))
    simp only [showL, List.length_append, List.length_cons]
    omega
/-- **What is shown is read.** -/
theorem read_show (rs : List Row) (h : checkL rs [] = true) (hs : ∀ r ∈ rs, 0 ≤ r.stamp ∧ r.stamp ≤ 4294967295) (hn : rs.length ≤ 60) : lockRead (lockShow rs) = (rs, 0, true) := by
  have hv := checkL_valid rs [] h hs
  have hl := showL_len rs hv
  rw [lockShow, if_pos h, lockRead, split_show rs hv, if_neg]
  · simp only [List.length_append, List.length_map, List.length_cons, List.length_nil, Nat.zero_add, Nat.add_sub_cancel]
    rw [show rs.length = (rs.map lineL).length by simp, List.take_left, read_lines rs [] 0 [] h hv]
    rfl
  · rintro (h1 | h1)
    · omega
    · simp at h1
theorem largeF_no : ∀ rs : List Row, largeF rs = false → ∀ r ∈ rs, r.name.length ≤ 200
  | [], _, r, hr => by cases hr
  | x :: rs, h, r, hr => by
    rw [largeF, Bool.or_eq_false_iff, decide_eq_false_iff_not] at h
    rcases List.mem_cons.1 hr with rfl | hr
    · omega
    · exact largeF_no rs h.2 r hr
theorem large_no {rs : List Row} (h : largeR rs = false) : rs.length ≤ 60 ∧ ∀ r ∈ rs, r.name.length ≤ 200 := by
  unfold largeR at h
  rw [Bool.or_eq_false_iff, decide_eq_false_iff_not] at h
  exact ⟨by omega, largeF_no rs h.2⟩
theorem lockShow_len (rs : List Row) (hs : ∀ r ∈ rs, 0 ≤ r.stamp ∧ r.stamp ≤ 4294967295) (hn : rs.length ≤ 60) : (lockShow rs).length ≤ 7320 := by
  unfold lockShow
  split
  · rename_i h
    have := showL_len rs (checkL_valid rs [] h hs)
    omega
  · simp
end Go.Proofs.YtaahjmkjdcikcaaDoor.AI
