/- Plain laws: the program's locks are the document's. No program in sight. -/
import Derived.Test.YtaahjmkjdcikcaaDoorPD
namespace Go.Proofs.YtaahjmkjdcikcaaDoor.AI
open Go.RowKit
set_option linter.unusedVariables false
set_option linter.unusedSimpArgs false
set_option linter.unusedSectionVars false
theorem drop_byte (l : List UInt8) (i : Nat) (h : i < l.length) : l.drop i = l.getD i 0 :: l.drop (i + 1) := by
  rw [List.drop_eq_getElem_cons h]
  simp [List.getD, h]
/-! ### What bytes a name has -/
theorem cont_high (l : List UInt8) (p : Nat) (h0 : wideN l p ≠ 0) : ∀ j : Int, 1 ≤ j → j < wideN l p → 128 ≤ byteI l (p + j) := by
  intro j h1 h2
  have e : ¬ (leadN (byteI l p) = 0 ∨ (l.length : Int) - p < leadN (byteI l p)) := fun hh => h0 (by unfold wideN wideB; rw [if_pos hh])
  have h3 : ¬ ((1 < leadN (byteI l p) ∧ offB (byteI l (p + 1))) ∨ (2 < leadN (byteI l p) ∧ offB (byteI l (p + 2))) ∨ (3 < leadN (byteI l p) ∧ offB (byteI l (p + 3)))) := fun hh => h0 (by
    unfold wideN wideB
    rw [if_neg e, if_pos hh])
  have hw : wideN l p = leadN (byteI l p) := by
    unfold wideN wideB at h0 ⊢
    rw [if_neg e, if_neg h3] at h0 ⊢
    split at h0
    · exact absurd rfl h0
    · rename_i h; rw [if_neg h]
  have hl := leadN_le (byteI l p)
  have hj : j = 1 ∨ j = 2 ∨ j = 3 := by omega
  unfold offB at h3
  rcases hj with rfl | rfl | rfl <;> omega
theorem mem_runes : ∀ (n : Nat) (l : List UInt8), l.length ≤ n → ∀ b ∈ l, b.toNat < 128 → (b.toNat : Int) ∈ runes l
  | 0, l, hn, b, hb, _ => by
    have : l = [] := List.eq_nil_of_length_eq_zero (by omega)
    subst this; cases hb
  | n + 1, l, hn, b, hb, h => by
    obtain ⟨k, hk⟩ := List.getElem?_of_mem hb
    have hlt := (List.getElem?_eq_some_iff.1 hk).1
    have hpos : 0 < l.length := by omega
    have hr := runes_drop (l := l) (pos := 0) hpos
    rw [List.drop_zero, Nat.zero_add] at hr
    have hd := runeN_eq l 0 hpos
    rw [List.drop_zero] at hd
    rw [hr]
    have hbk : byteI l k = b.toNat := by
      unfold byteI
      simp [List.getD, hk]
    by_cases hk0 : k = 0
    · subst hk0
      have : runeN l 0 = ((b.toNat : Int), 1) := by
        rw [runeN_def]
        have : byteI l (0 : Nat) = b.toNat := hbk
        simp only [Int.natCast_zero] at this ⊢
        rw [if_pos (by omega)]
        exact Prod.ext this rfl
      rw [this] at hd
      have h1 := congrArg Prod.fst hd
      simp only at h1
      rw [← h1]
      exact List.mem_cons_self
    · refine List.mem_cons_of_mem _ ?_
      have hw := decodeL_pos l
      have hkw : (Lib.decodeL l).2 ≤ k := by
        have h2 := congrArg Prod.snd hd
        simp only at h2
        rw [runeN_def] at h2
        split at h2
        · simp only at h2; omega
        · split at h2
          · simp only at h2; omega
          · rename_i h4 h5
            simp only at h2
            by_cases hlt2 : k < (Lib.decodeL l).2
            · have := cont_high l 0 h5 k (by omega) (by omega)
              simp only [Int.natCast_zero, Int.zero_add] at this
              omega
            · omega
      refine mem_runes n (l.drop (Lib.decodeL l).2) (by simp; omega) b ?_ h
      refine List.mem_of_getElem? (i := k - (Lib.decodeL l).2) ?_
      rw [List.getElem?_drop, show (Lib.decodeL l).2 + (k - (Lib.decodeL l).2) = k by omega]
      exact hk
theorem fit_byte {l : List UInt8} (h : refFit l = true) : ∀ b ∈ l, b ≠ 32 ∧ b ≠ 10 := by
  intro b hb
  unfold refFit at h
  rw [decide_eq_true_eq] at h
  have key : ∀ c : UInt8, c.toNat < 128 → kindN (c.toNat : Int) = 4 → b ≠ c := fun c hc hk e => by
    subst e
    have := mem_runes l.length l (Nat.le_refl _) b hb hc
    obtain ⟨j, hj⟩ := List.getElem?_of_mem this
    have hlt := (List.getElem?_eq_some_iff.1 hj).1
    have := h.2.1 j hlt
    unfold okAt at this
    rw [show (runes l).getD j 0 = (b.toNat : Int) by simp [List.getD, hj]] at this
    exact this.1 hk
  exact ⟨key 32 (by decide) (by decide), key 10 (by decide) (by decide)⟩
theorem fit_ne {l : List UInt8} (h : refFit l = true) : l ≠ [] := by
  rintro rfl
  unfold refFit at h
  rw [decide_eq_true_eq, runes_nil] at h
  simp at h
theorem fit_len {l : List UInt8} (h : refFit l = true) : l.length ≤ 100 := by
  unfold refFit at h
  rw [decide_eq_true_eq] at h
  exact h.1

/-! ### Stamps -/
theorem hex8_list (n : Int) : hex8 n = [hexD (n / 16 / 16 / 16 / 16 / 16 / 16 / 16 % 16), hexD (n / 16 / 16 / 16 / 16 / 16 / 16 % 16), hexD (n / 16 / 16 / 16 / 16 / 16 % 16), hexD (n / 16 / 16 / 16 / 16 % 16), hexD (n / 16 / 16 / 16 % 16), hexD (n / 16 / 16 % 16), hexD (n / 16 % 16), hexD (n % 16)] := rfl
theorem hexD_facts (k : Int) (h0 : 0 ≤ k) (h1 : k < 16) : hexI ((hexD k).toNat : Int) = k ∧ (hexD k).toNat < 128 ∧ hexD k ≠ 32 ∧ hexD k ≠ 10 ∧ (if 97 ≤ ((hexD k).toNat : Int) then (((hexD k).toNat : Int) - 87) % 16 else ((hexD k).toNat : Int) % 16) = k := by
  have : k = 0 ∨ k = 1 ∨ k = 2 ∨ k = 3 ∨ k = 4 ∨ k = 5 ∨ k = 6 ∨ k = 7 ∨ k = 8 ∨ k = 9 ∨ k = 10 ∨ k = 11 ∨ k = 12 ∨ k = 13 ∨ k = 14 ∨ k = 15 := by omega
  rcases this with h | h | h | h | h | h | h | h | h | h | h | h | h | h | h | h <;> subst h <;> decide
theorem hex8_bytes (n : Int) : ∀ b ∈ hex8 n, b.toNat < 128 ∧ b ≠ 32 ∧ b ≠ 10 := by
  have key : ∀ q : Int, (hexD (q % 16)).toNat < 128 ∧ hexD (q % 16) ≠ 32 ∧ hexD (q % 16) ≠ 10 := fun q => by
    have := hexD_facts (q % 16) (by omega) (by omega)
    exact ⟨this.2.1, this.2.2.1, this.2.2.2.1⟩
  rw [hex8_list]
  intro b hb
  simp only [List.mem_cons, List.not_mem_nil, or_false] at hb
  rcases hb with h | h | h | h | h | h | h | h <;> subst h <;> exact key _
theorem unhex_step (q : Int) (cs : List Int) (h0 : 0 ≤ q) (h1 : q ≤ 4294967295) : unhexR (((hexD (q % 16)).toNat : Int) :: cs) (q / 16) = unhexR cs q := by
  have := hexD_facts (q % 16) (by omega) (by omega)
  rw [unhexR, this.1, if_neg (by omega)]
  congr 1
  omega
theorem hex_step (q : Int) (h0 : 0 ≤ q) (h1 : q ≤ 4294967295) : hexStep (q / 16) (hexD (q % 16)) = q := by
  have h := (hexD_facts (q % 16) (by omega) (by omega)).2.2.2.2
  unfold hexStep
  split at h
  · rename_i h2
    rw [if_pos h2, h, w64_eq (x := q / 16 * 16) (by omega) (by omega), w64_eq (by omega) (by omega)]
    omega
  · rename_i h2
    rw [if_neg h2, h, w64_eq (x := q / 16 * 16) (by omega) (by omega), w64_eq (by omega) (by omega)]
    omega
theorem unhex_hex8 (n : Int) (h0 : 0 ≤ n) (h1 : n ≤ 4294967295) : unhexP (hex8 n) = (n, true) := by
  unfold unhexP
  rw [runes_ascii _ (fun b hb => (hex8_bytes n b hb).1)]
  have : unhexR (nums (hex8 n)) 0 = some n := by
    rw [hex8_list]
    simp only [nums, List.map]
    have e : (0 : Int) = n / 16 / 16 / 16 / 16 / 16 / 16 / 16 / 16 := by omega
    conv => lhs; rw [e]
    rw [unhex_step _ _ (by omega) (by omega), unhex_step _ _ (by omega) (by omega), unhex_step _ _ (by omega) (by omega), unhex_step _ _ (by omega) (by omega), unhex_step _ _ (by omega) (by omega), unhex_step _ _ (by omega) (by omega), unhex_step _ _ (by omega) (by omega), unhex_step _ _ (by omega) (by omega)]
    rfl
  rw [this]
  simp [hex8_list]
theorem hexNum_hex8 (n : Int) (h0 : 0 ≤ n) (h1 : n ≤ 4294967295) : hexNum (hex8 n) = n := by
  rw [hex8_list, hexNum]
  simp only [List.foldl_cons, List.foldl_nil]
  have e : (0 : Int) = n / 16 / 16 / 16 / 16 / 16 / 16 / 16 / 16 := by omega
  conv => lhs; rw [e]
  rw [hex_step _ (by omega) (by omega), hex_step _ (by omega) (by omega), hex_step _ (by omega) (by omega), hex_step _ (by omega) (by omega), hex_step _ (by omega) (by omega), hex_step _ (by omega) (by omega), hex_step _ (by omega) (by omega), hex_step _ (by omega) (by omega)]
theorem index_get : ∀ (l : List UInt8) (b : UInt8), 0 ≤ Lib.indexByte l b → l.getD (Lib.indexByte l b).toNat 0 = b
  | [], b, h => by simp [Lib.indexByte] at h
  | a :: l, b, h => by
    unfold Lib.indexByte at h ⊢
    by_cases hab : a = b
    · subst hab; simp
    · have hf : (a == b) = false := by simpa using hab
      rw [hf] at h ⊢
      simp only [Bool.false_eq_true, if_false] at h ⊢
      by_cases hm : (Lib.indexByte l b == -1) = true
      · rw [if_pos hm] at h; omega
      · rw [if_neg hm] at h ⊢
        have hge : 0 ≤ Lib.indexByte l b := by
          have : Lib.indexByte l b ≠ -1 := by simpa using hm
          omega
        rw [show (Lib.indexByte l b + 1).toNat = (Lib.indexByte l b).toNat + 1 by omega, List.getD_cons_succ]
        exact index_get l b hge
theorem hexI_byte (b : UInt8) (h : 0 ≤ hexI (b.toNat : Int)) : hexD (hexI (b.toNat : Int)) = b := by
  unfold hexI at h ⊢
  split at h
  · rename_i hlt
    rw [if_pos hlt]
    have e : ((b.toNat : Int)).toNat.toUInt8 = b := by simp
    rw [e] at h ⊢
    exact index_get digs b h
  · omega
theorem hexI_lt (c : Int) : hexI c < 16 := by
  have key : ∀ (l : List UInt8) (b : UInt8), -1 ≤ Lib.indexByte l b ∧ Lib.indexByte l b < l.length := fun l b => by
    induction l with
    | nil => simp [Lib.indexByte]
    | cons a l ih => unfold Lib.indexByte; (repeat' split) <;> simp only [List.length_cons] <;> omega
  unfold hexI
  split
  · have := key digs c.toNat.toUInt8
    simp only [digs, List.length_cons, List.length_nil] at this ⊢
    omega
  · omega
theorem unhexR_all : ∀ (cs : List Int) (m n : Int), unhexR cs m = some n → ∀ c ∈ cs, 0 ≤ hexI c
  | [], _, _, _, c, hc => by cases hc
  | x :: cs, m, n, h, c, hc => by
    rw [unhexR] at h
    split at h
    · cases h
    · rename_i hx
      rcases List.mem_cons.1 hc with rfl | hc
      · omega
      · exact unhexR_all cs _ n h c hc
set_option maxRecDepth 10000 in
theorem unhex_sound (l : List UInt8) (n : Int) (h : unhexP l = (n, true)) : (0 ≤ n ∧ n ≤ 4294967295) ∧ l = hex8 n := by
  unfold unhexP at h
  split at h
  · simp at h
  · rename_i m hm
    simp only [Prod.mk.injEq, decide_eq_true_eq] at h
    obtain ⟨rfl, hlen⟩ := h
    have hall := unhexR_all _ _ _ hm
    have hsm : runes l = nums l := runes_small l (fun r hr => by
      have := hall r hr
      unfold hexI at this
      split at this <;> omega)
    rw [hsm] at hm hall
    match l, hlen with
    | [a, b, c, d, e, f, g, i], _ =>
      simp only [nums, List.map, unhexR] at hm
      simp only [nums, List.map, List.mem_cons, List.not_mem_nil, or_false] at hall
      have ha := hall _ (.inl rfl)
      have hb := hall _ (.inr (.inl rfl))
      have hc := hall _ (.inr (.inr (.inl rfl)))
      have hd := hall _ (.inr (.inr (.inr (.inl rfl))))
      have he := hall _ (.inr (.inr (.inr (.inr (.inl rfl)))))
      have hf := hall _ (.inr (.inr (.inr (.inr (.inr (.inl rfl))))))
      have hg := hall _ (.inr (.inr (.inr (.inr (.inr (.inr (.inl rfl)))))))
      have hi := hall _ (.inr (.inr (.inr (.inr (.inr (.inr (.inr rfl)))))))
      rw [if_neg (by omega), if_neg (by omega), if_neg (by omega), if_neg (by omega), if_neg (by omega), if_neg (by omega), if_neg (by omega), if_neg (by omega)] at hm
      have ua := hexI_lt (a.toNat : Int)
      have ub := hexI_lt (b.toNat : Int)
      have uc := hexI_lt (c.toNat : Int)
      have ud := hexI_lt (d.toNat : Int)
      have ue := hexI_lt (e.toNat : Int)
      have uf := hexI_lt (f.toNat : Int)
      have ug := hexI_lt (g.toNat : Int)
      have ui := hexI_lt (i.toNat : Int)
      rw [← hexI_byte a ha, ← hexI_byte b hb, ← hexI_byte c hc, ← hexI_byte d hd, ← hexI_byte e he, ← hexI_byte f hf, ← hexI_byte g hg, ← hexI_byte i hi]
      generalize hexI (a.toNat : Int) = ka at *
      generalize hexI (b.toNat : Int) = kb at *
      generalize hexI (c.toNat : Int) = kc at *
      generalize hexI (d.toNat : Int) = kd at *
      generalize hexI (e.toNat : Int) = ke at *
      generalize hexI (f.toNat : Int) = kf at *
      generalize hexI (g.toNat : Int) = kg at *
      generalize hexI (i.toNat : Int) = ki at *
      have hm := Option.some.inj hm
      have e : m = ka * 268435456 + kb * 16777216 + kc * 1048576 + kd * 65536 + ke * 4096 + kf * 256 + kg * 16 + ki := by omega
      refine ⟨by omega, ?_⟩
      rw [hex8_list, show m / 16 / 16 / 16 / 16 / 16 / 16 / 16 % 16 = ka by omega, show m / 16 / 16 / 16 / 16 / 16 / 16 % 16 = kb by omega, show m / 16 / 16 / 16 / 16 / 16 % 16 = kc by omega, show m / 16 / 16 / 16 / 16 % 16 = kd by omega, show m / 16 / 16 / 16 % 16 = ke by omega, show m / 16 / 16 % 16 = kf by omega, show m / 16 % 16 = kg by omega, show m % 16 = ki by omega]

/-! ### Lines -/
/-- A row that may be. -/
def validR (r : Row) : Prop := refFit r.name = true ∧ verFit r.ver = true ∧ (0 ≤ r.stamp ∧ r.stamp ≤ 4294967295)
theorem verText_fit {p : Int} (h : verFit p = true) : verText p = verL p := by rw [verText, if_pos h]
theorem verText_bytes {p : Int} (h : verFit p = true) : ∀ b ∈ verText p, b ≠ 32 ∧ b ≠ 10 := by
  rw [verText_fit h]
  intro b hb
  rcases verL_bytes p h b hb with h1 | h1
  · unfold isDig at h1
    refine ⟨?_, ?_⟩ <;> (rintro rfl; revert h1; decide)
  · subst h1; decide
theorem lineL_nl {r : Row} (h : validR r) : ∀ b ∈ lineL r, b ≠ 10 := by
  intro b hb
  simp only [lineL, List.mem_append, List.mem_cons] at hb
  rcases hb with h1 | h1 | h1 | h1 | h1
  · exact (fit_byte h.1 b h1).2
  · subst h1; decide
  · exact (verText_bytes h.2.1 b h1).2
  · subst h1; decide
  · exact (hex8_bytes _ b h1).2.2
theorem prog_line {r : Row} (h : validR r) : progOne (lineL r) = (r, true) := by
  have hs : splitOn 32 (lineL r) = [r.name, verText r.ver, hex8 r.stamp] := by
    unfold lineL
    rw [splitOn_pre 32 _ _ (fun b hb => (fit_byte h.1 b hb).1), splitOn_pre 32 _ _ (fun b hb => (verText_bytes h.2.1 b hb).1), splitOn_end 32 _ (fun b hb => (hex8_bytes _ b hb).2.1)]
  unfold progOne
  rw [hs]
  simp only
  rw [verText_fit h.2.1, verProg_complete _ h.2.1, unhex_hex8 _ h.2.2.1 h.2.2.2]
  rfl
theorem spAB_pre : ∀ (w l : List UInt8) (p : Nat), (∀ b ∈ w, b ≠ 32) → spAB (w ++ l) p = spAB l (p + w.length)
  | [], l, p, _ => by simp
  | b :: w, l, p, h => by
    have hb := h b (by simp)
    rw [List.cons_append, spAB, if_neg hb, spAB_pre w l (p + 1) (fun x hx => h x (by simp [hx]))]
    congr 1
    simp; omega
theorem spAB_none (w : List UInt8) (p : Nat) (h : ∀ b ∈ w, b ≠ 32) : spAB w p = (-1, -1) := by
  have := spAB_pre w [] p h
  rw [List.append_nil] at this
  rw [this]; rfl
theorem ref_line {r : Row} (h : validR r) : refOne (lineL r) = (r, true) := by
  have hsp : spAB (lineL r) 0 = ((r.name.length : Int), ((r.name.length + 1 + (verText r.ver).length : Nat) : Int)) := by
    unfold lineL
    rw [spAB_pre _ _ _ (fun b hb => (fit_byte h.1 b hb).1), spAB, if_pos rfl, spAB_pre _ _ _ (fun b hb => (verText_bytes h.2.1 b hb).1), spAB, if_pos rfl, spAB_none _ _ (fun b hb => (hex8_bytes _ b hb).2.1)]
    simp only [maxI, Nat.zero_add]
    rw [if_neg (by omega)]
  have hl : (lineL r).length = r.name.length + 1 + (verText r.ver).length + 1 + 8 := by
    simp [lineL, hex8_list]; omega
  have h1 : (lineL r).take r.name.length = r.name := by simp [lineL]
  have h2 : ((lineL r).take (r.name.length + 1 + (verText r.ver).length)).drop (r.name.length + 1) = verText r.ver := by
    have e : lineL r = (r.name ++ 32 :: verText r.ver) ++ 32 :: hex8 r.stamp := by simp [lineL]
    rw [e, show r.name.length + 1 + (verText r.ver).length = (r.name ++ 32 :: verText r.ver).length by simp; omega, List.take_left, show r.name ++ 32 :: verText r.ver = (r.name ++ [32]) ++ verText r.ver by simp, show r.name.length + 1 = (r.name ++ [32]).length by simp, List.drop_left]
  have h3 : (lineL r).drop (r.name.length + 1 + (verText r.ver).length + 1) = hex8 r.stamp := by
    have e : lineL r = (r.name ++ 32 :: (verText r.ver ++ [32])) ++ hex8 r.stamp := by simp [lineL]
    rw [e, show r.name.length + 1 + (verText r.ver).length + 1 = (r.name ++ 32 :: (verText r.ver ++ [32])).length by simp; omega, List.drop_left]
  unfold refOne
  rw [hsp]
  simp only
  rw [if_neg (by omega)]
  rw [show ((r.name.length : Int) + 1).toNat = r.name.length + 1 by omega, Int.toNat_natCast, Int.toNat_natCast, show (((r.name.length + 1 + (verText r.ver).length : Nat) : Int) + 1).toNat = r.name.length + 1 + (verText r.ver).length + 1 by omega, h1, h2, h3, hexNum_hex8 _ h.2.2.1 h.2.2.2]
  have hv : verProg (verText r.ver) = (r.ver, true) := by rw [verText_fit h.2.1]; exact verProg_complete _ h.2.1
  rw [hv, if_neg]
  rintro ((hh | hh) | hh)
  · cases hh
  · rw [h.1] at hh; cases hh
  · exact hh rfl
theorem ref_sound {l : List UInt8} (h : (refOne l).2 = true) : validR (refOne l).1 ∧ l = lineL (refOne l).1 := by
  unfold refOne at h ⊢
  split
  · rename_i h1; rw [if_pos h1] at h; cases h
  · rename_i h1
    rw [if_neg h1] at h
    split
    · rename_i h2; rw [if_pos h2] at h; cases h
    · rename_i h2
      simp only
      have hv : (verProg ((l.take (spAB l 0).2.toNat).drop ((spAB l 0).1 + 1).toNat)).2 = true := by
        cases hh : (verProg ((l.take (spAB l 0).2.toNat).drop ((spAB l 0).1 + 1).toNat)).2 with
        | true => rfl
        | false => exact absurd (.inl (.inl hh)) h2
      have hf : refFit (l.take (spAB l 0).1.toNat) = true := by
        cases hh : refFit (l.take (spAB l 0).1.toNat) with
        | true => rfl
        | false => exact absurd (.inl (.inr hh)) h2
      have hl : lineL ⟨l.take (spAB l 0).1.toNat, (verProg ((l.take (spAB l 0).2.toNat).drop ((spAB l 0).1 + 1).toNat)).1, hexNum (l.drop ((spAB l 0).2 + 1).toNat)⟩ = l := by
        by_cases hh : lineL ⟨l.take (spAB l 0).1.toNat, (verProg ((l.take (spAB l 0).2.toNat).drop ((spAB l 0).1 + 1).toNat)).1, hexNum (l.drop ((spAB l 0).2 + 1).toNat)⟩ = l
        · exact hh
        · exact absurd (.inr hh) h2
      have hver := verProg_sound _ _ (Prod.ext (rfl : _ = (verProg ((l.take (spAB l 0).2.toNat).drop ((spAB l 0).1 + 1).toNat)).1) hv)
      refine ⟨⟨hf, hver.1, ?_⟩, hl.symm⟩
      have hlen : (l.drop ((spAB l 0).2 + 1).toNat).length ≤ 8 := by simp; omega
      exact hexNum_8 _ hlen
theorem prog_sound {l : List UInt8} (h : (progOne l).2 = true) (hf : refFit (progOne l).1.name = true) : validR (progOne l).1 ∧ l = lineL (progOne l).1 := by
  obtain ⟨hj, _⟩ := splitOn_join 32 l
  unfold progOne at h hf ⊢
  split
  · rename_i a b c hs
    rw [hs] at h hf hj
    simp only [Bool.and_eq_true] at h hf ⊢
    have h1 := verProg_sound b (verProg b).1 (Prod.ext rfl h.1)
    have h2 := unhex_sound c (unhexP c).1 (Prod.ext rfl h.2)
    refine ⟨⟨hf, h1.1, h2.1⟩, ?_⟩
    unfold lineL
    simp only
    rw [verText_fit h1.1, ← h1.2, ← h2.2, ← hj]
    simp [Lib.join_cons, Lib.joinTail]
  · rename_i hs
    split at h
    · rename_i a b c hs'; exact absurd hs' (hs a b c)
    · cases h
/-- **A line is a row to the program, behind a look at its name, just if it is one to the document.** -/
theorem one_ok (l : List UInt8) : ((progOne l).2 = true ∧ refFit (progOne l).1.name = true) ↔ (refOne l).2 = true := by
  constructor
  · rintro ⟨h1, h2⟩
    obtain ⟨hv, hl⟩ := prog_sound h1 h2
    rw [hl, ref_line hv]
  · intro h
    obtain ⟨hv, hl⟩ := ref_sound h
    rw [hl, prog_line hv]
    exact ⟨rfl, hv.1⟩
theorem one_same {l : List UInt8} (h : (refOne l).2 = true) : progOne l = refOne l := by
  obtain ⟨hv, hl⟩ := ref_sound h
  generalize (refOne l).1 = r at hv hl
  subst hl
  rw [prog_line hv, ref_line hv]
end Go.Proofs.YtaahjmkjdcikcaaDoor.AI
