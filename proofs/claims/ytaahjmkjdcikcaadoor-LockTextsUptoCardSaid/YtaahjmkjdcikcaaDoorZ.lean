/- Rows: from the reading of an argument to the machine's value. No program in sight. -/
import Derived.Test.YtaahjmkjdcikcaaDoorY
import Derived.Test.YtaahjmkjdcikcaaDoorRows
import Derived.Deep.Slices
import Derived.Deep.Fields
import Derived.ChangeSame
import Derived.Below
namespace Go.Proofs.YtaahjmkjdcikcaaDoor.AI
open Go.RowKit Go.ChangeShapes Go.WideShapes Go.Deep
set_option linter.unusedVariables false
set_option linter.unusedSimpArgs false
set_option linter.unusedSectionVars false

/-- What was there when the call began turns no more. -/
def oldI (W : World) : Imm := fun b _ => b < W.heap.size
theorem old_of_cell {W : World} {a : Addr} {v : Value} (h : W.cell? a = some v) : oldI W a.block a.off := by
  unfold oldI
  rcases Nat.lt_or_ge a.block W.heap.size with h' | h'
  · exact h'
  · simp [World.cell?, Array.getElem?_eq_none h'] at h

abbrev bulk {H : Type} (d : DataW H) : Nat := Go.Proofs.YtaahjmkjdcikcaaDoor.Rows.uptoBulk d
theorem bulk_pos {H : Type} (d : DataW H) : 1 ≤ bulk d := by
  cases d with
  | lit l => cases l <;> simp [bulk, Go.Proofs.YtaahjmkjdcikcaaDoor.Rows.uptoBulk]
  | nil => simp [bulk, Go.Proofs.YtaahjmkjdcikcaaDoor.Rows.uptoBulk]
  | ptr d => simp [bulk, Go.Proofs.YtaahjmkjdcikcaaDoor.Rows.uptoBulk]
  | slice elems spare => simp [bulk, Go.Proofs.YtaahjmkjdcikcaaDoor.Rows.uptoBulk]
  | agg parts => simp [bulk, Go.Proofs.YtaahjmkjdcikcaaDoor.Rows.uptoBulk]
  | iface t d => simp [bulk, Go.Proofs.YtaahjmkjdcikcaaDoor.Rows.uptoBulk]
  | map entries => simp [bulk, Go.Proofs.YtaahjmkjdcikcaaDoor.Rows.uptoBulk]
  | held h => simp [bulk, Go.Proofs.YtaahjmkjdcikcaaDoor.Rows.uptoBulk]
theorem bulkAll_map {H : Type} : ∀ l : List (DataW H), Go.Proofs.YtaahjmkjdcikcaaDoor.Rows.uptoBulkAll l = (l.map bulk).sum
  | [] => by simp [Go.Proofs.YtaahjmkjdcikcaaDoor.Rows.uptoBulkAll]
  | x :: r => by simp [Go.Proofs.YtaahjmkjdcikcaaDoor.Rows.uptoBulkAll, bulkAll_map r]
theorem bulk_agg {H : Type} (l : List (DataW H)) : bulk (.agg l) = (l.map bulk).sum + 1 := by
  simp [bulk, Go.Proofs.YtaahjmkjdcikcaaDoor.Rows.uptoBulk, bulkAll_map]
theorem bulk_slice {H : Type} (l m : List (DataW H)) : bulk (.slice l m) = (l.map bulk).sum + (m.map bulk).sum + 1 := by
  simp [bulk, Go.Proofs.YtaahjmkjdcikcaaDoor.Rows.uptoBulk, bulkAll_map]

/-- What is read at a type is a value of the machine of which 'ok' is so: the second is how much it holds. -/
def Opens (P : Program) (t : TypeId) (k : Nat) (ok : V → Nat → Prop) : Prop :=
  ∀ (H : Type) (enc : TypeId × Value → H) (w : World) (sp : Nat → Bool) (held : Bool) (n : Nat) (cs : List Value) (x : DataW H × List MemPlace),
    DataW.trod enc P w 0 sp held n t cs = some x →
    ∃ y, ok y (bulk x.1) ∧ y.cells.length = k ∧ cs.length = k ∧ ∀ (j : Nat) u, cs[j]? = some u → u.oneCell' = true ∧ ∃ c, y.cells[j]? = some c ∧ RepV w (oldI w) c u

variable {P : Program}

theorem Opens.mono {t : TypeId} {k : Nat} {ok ok' : V → Nat → Prop} (h : Opens P t k ok) (hm : ∀ x n, ok x n → ok' x n) : Opens P t k ok' := by
  intro H enc w sp held n cs x hx
  obtain ⟨y, h1, h2⟩ := h H enc w sp held n cs x hx
  exact ⟨y, hm _ _ h1, h2⟩

theorem opens_one {w : World} {c : V} {u : Value} {cs : List Value} (hc : cs = [u]) (hcells : c.cells = [c]) (h1 : u.oneCell' = true) (hr : RepV w (oldI w) c u) :
    c.cells.length = 1 ∧ cs.length = 1 ∧ ∀ (j : Nat) v, cs[j]? = some v → v.oneCell' = true ∧ ∃ d, c.cells[j]? = some d ∧ RepV w (oldI w) d v := by
  subst hc
  rw [hcells]
  refine ⟨rfl, rfl, fun j v hv => ?_⟩
  cases j with
  | zero => simp at hv; subst hv; exact ⟨h1, c, rfl, hr⟩
  | succ j => simp at hv

theorem opens_int {t : TypeId} {k : IntKind} (ht : P.underlying t = some (.int k)) : Opens P t 1 (fun x n => ∃ i, x = .lit (.int k i) ∧ (Lit.int k i).wf = true ∧ n = 1) := by
  intro H enc w sp held n cs x h
  obtain ⟨i, rfl, rfl, hw⟩ := DataW.trod_int ht h
  exact ⟨_, ⟨i, rfl, hw, rfl⟩, opens_one rfl rfl rfl (.lit _ rfl)⟩
theorem opens_bool {t : TypeId} (ht : P.underlying t = some .bool) : Opens P t 1 (fun x n => ∃ b, x = .lit (.bool b) ∧ n = 1) := by
  intro H enc w sp held n cs x h
  obtain ⟨i, rfl, rfl⟩ := DataW.trod_bool ht h
  exact ⟨_, ⟨i, rfl, rfl⟩, opens_one rfl rfl rfl (.lit _ rfl)⟩
theorem opens_string {t : TypeId} (ht : P.underlying t = some .string) : Opens P t 1 (fun x n => ∃ l, x = .lit (.string (str l)) ∧ n = l.length + 1) := by
  intro H enc w sp held n cs x h
  obtain ⟨s, rfl, rfl, hw⟩ := DataW.trod_string ht h
  refine ⟨_, ⟨s.data.toList, rfl, by simp [bulk, Go.Proofs.YtaahjmkjdcikcaaDoor.Rows.uptoBulk]⟩, opens_one rfl rfl rfl ?_⟩
  exact .lit _ rfl

/-- Lists, cell by cell: each has what is asked, together they hold so much. -/
def oks : List (V → Nat → Prop) → List V → Nat → Prop
  | [], cs, n => cs = [] ∧ 0 ≤ n
  | ok :: r, cs, n => ∃ c cs' a b, cs = c :: cs' ∧ c.cells = [c] ∧ ok c a ∧ oks r cs' b ∧ n = a + b

theorem opens_fields {H : Type} {enc : TypeId × Value → H} {w : World} {sp : Nat → Bool} {held : Bool} {n : Nat} : ∀ (fs : List Field) (okl : List (V → Nat → Prop)) (cs : List Value) (ys : List (DataW H × List MemPlace)),
    okl.length = fs.length → cs.length = fs.length → ys.length = fs.length →
    (∀ (j : Nat) f ok, fs[j]? = some f → okl[j]? = some ok → Opens P f.type 1 (fun x n => ok x n ∧ x.cells = [x])) →
    (∀ (j : Nat) f u, fs[j]? = some f → cs[j]? = some u → DataW.trod enc P w 0 sp held n f.type [u] = ys[j]?) →
    ∃ zs, oks okl zs ((ys.map fun y => bulk y.1).sum) ∧ zs.length = fs.length ∧ ∀ (j : Nat) u, cs[j]? = some u → u.oneCell' = true ∧ ∃ c, zs[j]? = some c ∧ RepV w (oldI w) c u
  | [], [], [], [], _, _, _, _, _ => ⟨[], ⟨rfl, by simp⟩, rfl, fun j u h => by simp at h⟩
  | f :: fs, ok :: okl, u :: cs, y :: ys, h1, h2, h3, hok, ht => by
    obtain ⟨zs, e1, e2, e3⟩ := opens_fields fs okl cs ys (by simpa using h1) (by simpa using h2) (by simpa using h3) (fun j f' ok' a b => hok (j + 1) f' ok' (by simpa using a) (by simpa using b)) (fun j f' u' a b => by
      have := ht (j + 1) f' u' (by simpa using a) (by simpa using b)
      simpa using this)
    have h0 := ht 0 f u rfl rfl
    simp at h0
    obtain ⟨c, ⟨k1, k2⟩, k3, k4, k5⟩ := hok 0 f ok rfl rfl H enc w sp held n [u] y h0
    obtain ⟨o1, c', hc', hr⟩ := k5 0 u rfl
    rw [k2] at hc'
    simp at hc'
    subst hc'
    refine ⟨c :: zs, ⟨c, zs, _, _, rfl, k2, k1, e1, by simp⟩, by simp [e2], fun j v hv => ?_⟩
    cases j with
    | zero => simp at hv; subst hv; exact ⟨o1, c, rfl, hr⟩
    | succ j => simpa using e3 j v (by simpa using hv)

theorem opens_struct {t : TypeId} {fs : Array Field} {okl : List (V → Nat → Prop)} (ht : P.underlying t = some (.struct fs)) (hone : oneCellFields P fs = true) (hC : P.cellsOf t = fs.size) (hl : okl.length = fs.size)
    (hok : ∀ (j : Nat) f ok, fs.toList[j]? = some f → okl[j]? = some ok → Opens P f.type 1 (fun x n => ok x n ∧ x.cells = [x])) :
    Opens P t fs.size (fun x n => ∃ cs m, x = .agg cs ∧ oks okl cs m ∧ n = m + 1) := by
  intro H enc w sp held n cs x h
  obtain ⟨ys, n', _, rfl, hcl, hyl, hf⟩ := DataW.trod_struct ht h
  obtain ⟨zs, h1, h2, h3⟩ := opens_fields (P := P) (enc := enc) (w := w) (sp := sp) (held := held) (n := n') fs.toList okl cs ys (by simpa using hl) (by simp; omega) (by simpa using hyl) hok (fun j f u hj hu => by
    have hj' : fs[j]? = some f := by simpa using hj
    obtain ⟨ho, hk⟩ := hone_of hone j f hj'
    have h1 := hf j f hj'
    rw [ho, hk] at h1
    have hlt : j < cs.length := (List.getElem?_eq_some_iff.1 hu).1
    have e : (cs.drop j).take 1 = [u] := by
      rw [List.drop_eq_getElem_cons hlt]
      simp only [List.take_succ_cons, List.take_zero]
      rw [List.getElem?_eq_getElem hlt] at hu
      simpa using hu
    rw [e] at h1
    exact h1)
  refine ⟨.agg zs, ⟨zs, _, rfl, h1, ?_⟩, ?_, ?_, h3⟩
  · rw [bulk_agg]
    simp [List.map_map, Function.comp_def]
  · show zs.length = _
    rw [h2]; simp
  · omega

/-- A list of values, each with what is asked. -/
def okList (ok : V → Nat → Prop) : List V → Nat → Prop
  | [], n => 1 ≤ n
  | x :: r, n => ∃ a b, ok x a ∧ okList ok r b ∧ a + b ≤ n
theorem okList_mem {ok : V → Nat → Prop} : ∀ {xs : List V} {n : Nat}, okList ok xs n → ∀ x ∈ xs, ∃ a, ok x a ∧ a ≤ n
  | [], _, _, _, hx => by cases hx
  | y :: r, n, ⟨a, b, h1, h2, h3⟩, x, hx => by
    cases hx with
    | head => exact ⟨a, h1, by omega⟩
    | tail _ hx => obtain ⟨c, h4, h5⟩ := okList_mem h2 x hx; exact ⟨c, h4, by omega⟩
/-- Where each holds k at the least, they are not many. -/
theorem okList_length {ok : V → Nat → Prop} {k : Nat} (hk : ∀ x a, ok x a → k ≤ a) : ∀ {xs : List V} {n : Nat}, okList ok xs n → k * xs.length + 1 ≤ n
  | [], n, h => by simpa [okList] using h
  | y :: r, n, ⟨a, b, h1, h2, h3⟩ => by
    have := okList_length hk h2
    have := hk _ _ h1
    simp only [List.length_cons]
    have e : k * (r.length + 1) = k * r.length + k := by rw [Nat.mul_add]; simp
    omega
theorem okList_of {ok : V → Nat → Prop} : ∀ (xs : List V) (ns : List Nat), xs.length = ns.length → (∀ (j : Nat) x n, xs[j]? = some x → ns[j]? = some n → ok x n) → okList ok xs (ns.sum + 1)
  | [], [], _, _ => by simp [okList]
  | x :: xs, n :: ns, h, hj => ⟨n, ns.sum + 1, hj 0 x n rfl rfl, okList_of xs ns (by simpa using h) (fun j x' n' a b => hj (j + 1) x' n' (by simpa using a) (by simpa using b)), by simp; omega⟩
theorem okList_mono {ok : V → Nat → Prop} {n m : Nat} (h : n ≤ m) : ∀ {xs : List V}, okList ok xs n → okList ok xs m
  | [], h1 => by simp [okList] at h1 ⊢; omega
  | _ :: _, ⟨a, b, h1, h2, h3⟩ => ⟨a, b, h1, h2, by omega⟩

theorem flat_at {k : Nat} (xs : List V) (hs : ∀ x ∈ xs, x.cells.length = k) (hk : 0 < k) (j : Nat) (hj : j < (flat xs).length) :
    ∃ x, xs[j / k]? = some x ∧ (flat xs)[j]? = x.cells[j % k]? := by
  induction xs generalizing j with
  | nil => simp [flat] at hj
  | cons y r ih =>
    have hy := hs y (by simp)
    have e : flat (y :: r) = y.cells ++ flat r := by simp [flat]
    rw [e] at hj ⊢
    by_cases h : j < k
    · refine ⟨y, by simp [Nat.div_eq_of_lt h], ?_⟩
      rw [List.getElem?_append_left (by omega), Nat.mod_eq_of_lt h]
    · simp only [List.length_append, hy] at hj
      obtain ⟨x, h1, h2⟩ := ih (fun x hx => hs x (by simp [hx])) (j - k) (by omega)
      refine ⟨x, ?_, ?_⟩
      · have : j / k = (j - k) / k + 1 := by
          rw [← Nat.add_div_right _ hk]
          congr 1; omega
        rw [this]
        simpa using h1
      · rw [List.getElem?_append_right (by omega), hy, h2]
        congr 1
        rw [← Nat.mod_eq_sub_mod (by omega)]

theorem opens_slice {t e : TypeId} {k : Nat} {ok : V → Nat → Prop} (ht : P.underlying t = some (.slice e)) (hC : P.cellsOf e = k) (hk : 0 < k) (he : Opens P e k ok) :
    Opens P t 1 (fun x n => ∃ xs, x = .list xs ∧ okList ok xs n) := by
  intro H enc w sp held n cs x h
  rcases open_slice ht h with ⟨rfl, rfl⟩ | ⟨a, len, cap, m, n', D, Pl, rfl, _, hl, hm, hmm, rfl, hi⟩
  · refine ⟨.list [], ⟨[], rfl, by simp [okList]; exact bulk_pos _⟩, opens_one rfl rfl rfl ?_⟩
    exact .list 1 [] none 0 (fun _ => undef) (Nat.le_refl _) (by simp) (by simp [flat]) (by simp) (by simp [flat]) (by simp [flat])
  · have hlm : len ≤ m := by rw [hmm]; split <;> omega
    have hall : ∀ i, i < len → ∃ y, ok y (bulk (D i)) ∧ y.cells.length = k ∧ ∀ j, j < k → ∃ u c, w.cell? ((a.add (i * k)).add j) = some u ∧ u.oneCell' = true ∧ y.cells[j]? = some c ∧ RepV w (oldI w) c u := by
      intro i hil
      obtain ⟨cs', hc, ht'⟩ := hi i (by omega)
      rw [hC] at hc
      obtain ⟨y, h1, h2, h3, h4⟩ := he H enc w sp held n' cs' _ ht'
      obtain ⟨_, hcl, hat⟩ := World.cells?_some hc
      refine ⟨y, h1, h2, fun j hj => ?_⟩
      have hat' := hat j hj
      have hu : cs'[j]? = some (cs'[j]'(by omega)) := List.getElem?_eq_getElem (by omega)
      obtain ⟨o1, c, hc1, hr⟩ := h4 j _ hu
      exact ⟨_, c, hat'.trans hu, o1, hc1, hr⟩
    obtain ⟨F, hF⟩ := choose_lt hall
    let xs := (List.range len).map F
    have hxl : xs.length = len := by simp [xs]
    have hmem : ∀ x ∈ xs, x.cells.length = k := by
      intro x hx
      simp only [xs, List.mem_map, List.mem_range] at hx
      obtain ⟨i, hi', rfl⟩ := hx
      exact (hF i hi').2.1
    have hfl := flat_length hmem
    have hcellj : ∀ j, j < (flat xs).length → ∃ u c, w.cell? (a.add j) = some u ∧ u.oneCell' = true ∧ (flat xs)[j]? = some c ∧ RepV w (oldI w) c u := by
      intro j hj
      obtain ⟨x, h1, h2⟩ := flat_at xs hmem hk j hj
      have hlt : j / k < len := by
        have := (List.getElem?_eq_some_iff.1 h1).1
        omega
      have hx : x = F (j / k) := by
        simp only [xs, List.getElem?_map, List.getElem?_range hlt, Option.map_some, Option.some.injEq] at h1
        exact h1.symm
      obtain ⟨u, c, g1, g2, g3, g4⟩ := (hF (j / k) hlt).2.2 (j % k) (Nat.mod_lt _ hk)
      refine ⟨u, c, ?_, g2, ?_, g4⟩
      · rw [Go.Deep.add_add] at g1
        have : j / k * k + j % k = j := by rw [Nat.mul_comm]; exact Nat.div_add_mod j k
        rwa [this] at g1
      · rw [h2, hx, g3]
    refine ⟨.list xs, ⟨xs, rfl, ?_⟩, opens_one rfl rfl rfl ?_⟩
    · rw [bulk_slice]
      refine okList_mono (n := ((List.range len).map fun i => bulk (D i)).sum + 1) ?_ (okList_of xs _ (by simp [xs]) (fun j x b hx hb => ?_))
      · simp only [List.map_map, Function.comp_def]
        omega
      · have hj : j < len := by
          have := (List.getElem?_eq_some_iff.1 hx).1
          omega
        simp only [xs, List.getElem?_map, List.getElem?_range hj, Option.map_some, Option.some.injEq] at hx hb
        subst hx; subst hb
        exact (hF j hj).1
    · have := RepV.list (w := w) (I := oldI w) k xs (some a) cap (fun j => (w.cell? (a.add j)).getD undef) (by omega) hmem
        (fun j hj => by
          obtain ⟨u, c, g1, _⟩ := hcellj j hj
          exact ⟨a, rfl, old_of_cell g1, by rw [g1]; rfl⟩) (by simp)
        (fun j hj => by
          obtain ⟨u, c, g1, g2, _⟩ := hcellj j hj
          rw [g1]; exact g2)
        (fun j c hc => by
          have hj := (List.getElem?_eq_some_iff.1 hc).1
          obtain ⟨u, c', g1, _, g3, g4⟩ := hcellj j hj
          rw [hc] at g3
          obtain rfl := Option.some.inj g3
          rw [g1]; exact g4)
      rw [hxl] at this
      exact this

/-- An argument of one cell. -/
theorem opens_arg {t : TypeId} {ok : V → Nat → Prop} (h : Opens P t 1 ok) {H : Type} {enc : TypeId × Value → H} {w : World} {sp : Nat → Bool} {held : Bool} {v : Value} {d : DataW H} {p : List MemPlace} (hv : v.cells.toList = [v])
    (hd : DataW.Trod enc P w 0 sp held t v d p) : ∃ y c, ok y (bulk d) ∧ y.cells = [c] ∧ RepV w (oldI w) c v := by
  obtain ⟨n, hn⟩ := hd
  obtain ⟨y, h1, h2, h3, h4⟩ := h H enc w sp held n _ _ hn
  obtain ⟨_, c, hc, hr⟩ := h4 0 v (by rw [hv]; rfl)
  refine ⟨y, c, h1, ?_, hr⟩
  obtain ⟨c', hc'⟩ := List.length_eq_one_iff.1 h2
  rw [hc'] at hc ⊢
  simp at hc
  rw [hc]

variable [Glob]
/-- A function that only computes, called by a row. -/
theorem APure.calls {f : FuncId} {args : List V} {r : AV} (h : APure P f args r) (hb : hasBody P f = true) {W : World} {us : List Value} (hG : GOk W (oldI W)) (hR : GRow W W.heap.size)
    (hl : us.length = args.length) (hu : ∀ (j : Nat) x, args[j]? = some x → ∃ u, us[j]? = some u ∧ RepV W (oldI W) x u) :
    Calls P f us.toArray W fun e W' => ∃ v, e = .returned v ∧ Below W.heap.size W W' ∧ Rep W' (ghost0 (Imm.grow (oldI W) W.heap.size W'.heap.size)) r v := by
  rcases h W (oldI W) us (fun b o h => h) hG hR hl hu with ⟨_, hc⟩ | ⟨v, w', hr, _⟩
  · exact hc
  · rw [callFunc_body hb] at hr
    cases hr
/-- .. that answers a bool. -/
theorem APure.calls_bool {f : FuncId} {args : List V} {b : Bool} (h : APure P f args (.pv (.lit (.bool b)))) (hb : hasBody P f = true) {W : World} {us : List Value} (hG : GOk W (oldI W)) (hR : GRow W W.heap.size)
    (hl : us.length = args.length) (hu : ∀ (j : Nat) x, args[j]? = some x → ∃ u, us[j]? = some u ∧ RepV W (oldI W) x u) :
    Calls P f us.toArray W fun e W' => e = .returned (.bool b) ∧ Below W.heap.size W W' := by
  refine (h.calls hb hG hR hl hu).mono fun e W' ⟨v, he, hB, hr⟩ => ?_
  cases hr with
  | pv x u hx => cases hx with
    | lit v h1 => exact ⟨he, hB⟩
end Go.Proofs.YtaahjmkjdcikcaaDoor.AI
