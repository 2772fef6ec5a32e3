/- Several texts of one proof in one file: Grammars as text: sizes, and when there is no text. Plain: no program walked. A variable that is an array of texts, laid: its cells. Conditions: each theorem names its own. -/
import Derived.Test.YtjddmboaaebbiaaGreatDoorGxaq
import Derived.Test.YtjddmboaaebbiaaGreatDoorGxan
import Derived.Test.YtjddmboaaebbiaaGreatDoorGxaa
import Derived.Lib.LaidTab

/- Grammars as text: sizes, and when there is no text. Plain: no program walked. -/
namespace Go.Proofs.YtjddmboaaebbiaaGreatDoor
set_option linter.unusedSimpArgs false
set_option linter.unusedVariables false
set_option maxRecDepth 100000
open Go.RowKit Go.Lib
set_option linter.unusedVariables false

theorem gq_syms {D : Nat} {x : Grm} (h : bulkGrm D x ≤ 1048576) : ∀ y ∈ x.symbols, bulkSym D y ≤ 1048576 := fun y hy => by
  have := sumBy_mem (bulkSym_nonneg D) hy
  have := sumBy_nonneg (bulkRul_nonneg D) x.rules
  unfold bulkGrm at h
  omega
theorem gq_rules {D : Nat} {x : Grm} (h : bulkGrm D x ≤ 1048576) : ∀ y ∈ x.rules, bulkRul D y ≤ 1048576 := fun y hy => by
  have := sumBy_mem (bulkRul_nonneg D) hy
  have := sumBy_nonneg (bulkSym_nonneg D) x.symbols
  unfold bulkGrm at h
  omega
theorem gq_attrs {D : Nat} {x : Sym} (h : bulkSym D x ≤ 1048576) : x.attrs.length ≤ 1048576 := by
  have := sumBy_nonneg (bulkAtr_nonneg D) x.attrs
  have : 0 ≤ (x.name.size : Int) := by omega
  unfold bulkSym at h
  omega
theorem fmtR_len {D : Nat} {r : Rul} : ((fmtR D r).length : Int) ≤ 1 + bulkRul D r := by
  have h1 := sumBy_nonneg (bulkEqn_nonneg D) r.eqs
  have h2 := bulkS_nonneg r.right
  have h3 := sumBy_nonneg (bulkCon_nonneg D) r.cons
  have := bulkRul_nonneg D r
  unfold fmtR
  split
  · have := linesR_len D r r.eqs.length r.cons.length
    unfold bulkRul
    omega
  · simp only [List.length_nil]; omega
theorem flat_len {D : Nat} : ∀ (l : List Rul), ((((l.map (fmtR D)).flatten).length : Nat) : Int) ≤ l.length + sumBy (bulkRul D) l
  | [] => by simp [sumBy]
  | r :: l => by
    have h1 := flat_len (D := D) l
    have h2 := fmtR_len (D := D) (r := r)
    simp only [List.map_cons, List.flatten_cons, List.length_append, List.length_cons, sumBy]
    omega
theorem sumBy_take {α : Type} {f : α → Int} (h : ∀ x, 0 ≤ f x) : ∀ (l : List α) (k : Nat), sumBy f (l.take k) ≤ sumBy f l
  | [], k => by simp
  | x :: l, 0 => by simp only [List.take_zero]; exact sumBy_nonneg h (x :: l)
  | x :: l, k + 1 => by
    have := sumBy_take h l k
    simp only [List.take_succ_cons, sumBy]
    omega
theorem linesG_len {D : Nat} {g : Grm} (h : bulkGrm D g ≤ 1048576) (j k : Nat) : (linesG D g j k).length ≤ 1048576 := by
  have h1 := flat_len (D := D) (g.rules.take k)
  have h2 := sumBy_take (bulkRul_nonneg D) g.rules k
  have h3 := List.length_take_le k g.rules
  have h3' : (g.rules.take k).length ≤ g.rules.length := by rw [List.length_take]; omega
  have h4 : (g.symbols.take j).length ≤ g.symbols.length := by rw [List.length_take]; omega
  have h5 := sumBy_nonneg (bulkSym_nonneg D) g.symbols
  unfold linesG
  rw [List.length_append, List.length_map]
  unfold bulkGrm at h
  omega
theorem one_len {D : Nat} {g : Grm} (h : bulkGrm D g ≤ 1048576) {j : Nat} {x : Rul} (hx : g.rules[j]? = some x) : (fmtR D x).length ≤ 1048576 := by
  have h1 := linesG_len h 0 (j + 1)
  rw [linesG_rul hx, List.length_append] at h1
  omega
theorem nlT_size : ∀ {l : List ByteArray}, (∀ y ∈ l, y.size ≤ 20000) → (nlT l).size ≤ 20001 * l.length
  | [], _ => Nat.zero_le _
  | x :: r, h => by
    have h1 := nlT_size (l := r) fun y hy => h y (by simp [hy])
    have h2 := h x (by simp)
    have h3 : nlT (x :: r) = nlT [x] ++ nlT r := nlT_append [x] r
    have h4 : (nlT [x]).size = x.size + 1 := by
      show (⟨#[]⟩ ++ x ++ nlB).size = _
      rw [none_bcat, ByteArray.size_append]
      rfl
    rw [h3, ByteArray.size_append, List.length_cons]
    omega
theorem bulkS_short : ∀ {l : List ByteArray}, (∀ y ∈ l, y.size ≤ 20000) → bulkS l ≤ 20000 * l.length
  | [], _ => by simp [bulkS]
  | x :: r, h => by
    have h1 := bulkS_short (l := r) fun y hy => h y (by simp [hy])
    have h2 := h x (by simp)
    simp only [bulkS, List.length_cons]
    omega
theorem fmtSym_short (x : Sym) : (fmtSym x).size ≤ 20000 := by
  unfold fmtSym
  split
  · rename_i h
    have := symT_size h x.attrs.length
    omega
  · show 0 ≤ 20000
    omega
theorem fmtR_short {D : Nat} {w : World} {x : Rul} {cs : List Value} {F : List Nat} (h : RulR D w x cs F) : ∀ y ∈ fmtR D x, y.size ≤ 20000 := by
  intro y hy
  unfold fmtR at hy
  split at hy
  · rename_i hv
    have hV := RulV.of hv
    obtain ⟨v2, F2, v4, F4, v5, F5, hl, hok, h0, h1, ⟨h2, g2⟩, h3, ⟨h4, g4⟩, ⟨h5, g5⟩, rfl⟩ := h
    obtain ⟨A4, c4, rfl, hc4, hm4⟩ := g4.form
    obtain ⟨A5, c5, rfl, hc5, hm5⟩ := g5.form
    unfold linesR at hy
    rcases List.mem_cons.1 hy with rfl | hy
    · have := headT_size hV; omega
    · rcases List.mem_append.1 hy with hy | hy
      · obtain ⟨e, he, rfl⟩ := List.mem_map.1 hy
        have he := List.mem_of_mem_take he
        obtain ⟨q, hq⟩ := List.mem_iff_getElem?.1 he
        obtain ⟨b, off, cs, Fk, hA, _, _, _, _, _, hR⟩ := SlR.get (EqnR.good D) g4 hq
        exact (eq_short hR (hV.eqs e he)).2
      · obtain ⟨c, hc, rfl⟩ := List.mem_map.1 hy
        have hc := List.mem_of_mem_take hc
        obtain ⟨q, hq⟩ := List.mem_iff_getElem?.1 hc
        obtain ⟨b, off, cs, Fk, hA, _, _, _, _, _, hR⟩ := SlR.get (ConR.good D) g5 hq
        exact (con_short hR (hV.cons c hc)).2.2
  · cases hy
theorem linesG_short {D : Nat} {g : Grm} (hR : ∀ r ∈ g.rules, ∀ y ∈ fmtR D r, y.size ≤ 20000) (j k : Nat) : ∀ y ∈ linesG D g j k, y.size ≤ 20000 := by
  intro y hy
  unfold linesG at hy
  rcases List.mem_append.1 hy with hy | hy
  · obtain ⟨s, _, rfl⟩ := List.mem_map.1 hy
    exact fmtSym_short s
  · obtain ⟨l, hl, hy⟩ := List.mem_flatten.1 hy
    obtain ⟨r, hr, rfl⟩ := List.mem_map.1 hl
    exact hR r (List.mem_of_mem_take hr) y hy
theorem linesG_max {D : Nat} {g : Grm} (hR : ∀ r ∈ g.rules, ∀ y ∈ fmtR D r, y.size ≤ 20000) (j k : Nat) : ∀ y ∈ linesG D g j k, y.size ≤ maxLen := fun y hy => by
  have := linesG_short hR j k y hy
  unfold maxLen
  omega
theorem nlG_size {D : Nat} {g : Grm} (h : bulkGrm D g ≤ 1048576) (hR : ∀ r ∈ g.rules, ∀ y ∈ fmtR D r, y.size ≤ 20000) (j k : Nat) : (nlT (linesG D g j k)).size ≤ 21000000000 := by
  have h1 := nlT_size (linesG_short hR j k)
  have h2 := linesG_len h j k
  omega
/-- Without a valid symbol or rule there is no text. -/
theorem fmtGrm_sym {D : Nat} {g : Grm} {j : Nat} {x : Sym} (hx : g.symbols[j]? = some x) (h : validY x = false) : fmtGrm D g = ⟨#[]⟩ := by
  unfold fmtGrm okG
  rw [all_bad hx h]
  rfl
theorem fmtGrm_rul {D : Nat} {g : Grm} {j : Nat} {x : Rul} (hx : g.rules[j]? = some x) (h : validRul D x = false) : fmtGrm D g = ⟨#[]⟩ := by
  unfold fmtGrm okG
  rw [all_bad hx h, Bool.and_false]
  rfl
theorem fmtGrm_all {D : Nat} {g : Grm} (h1 : (g.symbols.take g.symbols.length).all validY = true) (h2 : (g.rules.take g.rules.length).all (validRul D) = true) : fmtGrm D g = nlT (linesG D g g.symbols.length g.rules.length) := by
  rw [List.take_length] at h1 h2
  unfold fmtGrm okG
  rw [h1, h2]
  rfl
theorem fmtSym_yes {x : Sym} (h : validY x = true) : 7 ≤ (fmtSym x).size := by
  have hf : ∀ (l : List Atr) (o : ByteArray), o.size ≤ (l.foldl (fun o a => o ++ fmtA a) o).size := fun l => by
    induction l with
    | nil => exact fun o => Nat.le_refl _
    | cons a l ih =>
      intro o
      have := ih (o ++ fmtA a)
      rw [ByteArray.size_append] at this
      simp only [List.foldl_cons]
      omega
  unfold fmtSym
  rw [if_pos h]
  unfold symT
  have := hf (x.attrs.take x.attrs.length) (⟨#[115, 121, 109, 98, 111, 108, 32]⟩ ++ x.name)
  rw [ByteArray.size_append] at this
  have e : (⟨#[115, 121, 109, 98, 111, 108, 32]⟩ : ByteArray).size = 7 := rfl
  omega
theorem fmtSym_no {x : Sym} (h : validY x = false) : fmtSym x = ⟨#[]⟩ := by unfold fmtSym; rw [h]; rfl
theorem fmtR_no {D : Nat} {x : Rul} (h : validRul D x = false) : fmtR D x = [] := by unfold fmtR; rw [h]; rfl
theorem fmtR_yes {D : Nat} {x : Rul} (h : validRul D x = true) : fmtR D x ≠ [] := by unfold fmtR linesR; rw [h]; simp
end Go.Proofs.YtjddmboaaebbiaaGreatDoor

/- A variable that is an array of texts, laid: its cells. Conditions: it stands first on the row's list. -/
namespace Go.Proofs.YtjddmboaaebbiaaGreatDoor
set_option linter.unusedSimpArgs false
set_option linter.unusedVariables false
set_option maxRecDepth 100000
open Go.RowKit Go.Lib

def WordsIs (w : World) (g : Nat) (zs : List ByteArray) : Prop := ∀ (j : Nat) z, zs[j]? = some z → w.cell? ⟨g, j, none⟩ = some (.string z)
theorem cells_of_words {H : Type} {enc : TypeId × Value → H} {P : Program} {w : World} {base : Nat} {sp : Nat → Bool} {held : Bool} {fuel : Nat} {t e : TypeId} {n : Nat} {cs : List Value} {zs : List (List UInt8)} {p : List MemPlace}
    (ht : P.underlying t = some (.array n e)) (he : P.underlying e = some .string) (hce : P.cellsOf e = 1) (hct : P.cellsOf t = n)
    (h : DataW.trod enc P w base sp held fuel t cs = some (.agg (zs.map fun z => .lit (.string z)), p)) : cs = zs.map fun z => Value.string ⟨z.toArray⟩ := by
  cases fuel with
  | zero => simp [DataW.trod] at h
  | succ fuel =>
    simp only [DataW.trod, ht, hce, hct, Nat.mul_one] at h
    split at h
    · rename_i hl
      obtain ⟨xs, hm, hx⟩ := Option.map_eq_some_iff.1 h
      have hxs : xs.map (·.1) = zs.map fun z => (DataW.lit (.string z) : DataW H) := by
        have := congrArg Prod.fst hx
        simpa using this
      have hxl : xs.length = n := by simpa using mapM_length hm
      have hzl : zs.length = n := by
        have := congrArg List.length hxs
        simp at this
        omega
      apply List.ext_getElem?
      intro i
      by_cases hi : i < n
      · obtain ⟨b, hb, hf⟩ := mapM_at hm i i (by simp [hi])
        obtain ⟨z, hc, rfl, _⟩ := DataW.trod_string he hf
        have h1 : cs[i]? = some (.string z) := by
          have := congrArg (·[0]?) hc
          simpa [List.getElem?_take, List.getElem?_drop] using this
        have h2 : (xs.map (·.1))[i]? = some (DataW.lit (.string z.data.toList) : DataW H) := by simp [hb]
        rw [hxs] at h2
        simp only [List.getElem?_map, Option.map_eq_some_iff, DataW.lit.injEq, Lit.string.injEq] at h2
        obtain ⟨z', hz', h3⟩ := h2
        subst h3
        simp [h1, hz']
      · rw [List.getElem?_eq_none (by omega), List.getElem?_eq_none (by simp; omega)]
    · cases h
theorem words_of_head {P : Program} {W : World} {name : String} {zs : List (List UInt8)} {rest : List (String × DataW Unit)} {g : Nat} {t e : TypeId} {n : Nat}
    (hg : P.globalNamed name = some g) (hty : (P.globals[g]?).map (·.type) = some t) (ht : P.underlying t = some (.array n e)) (he : P.underlying e = some .string) (hce : P.cellsOf e = 1) (hct : P.cellsOf t = n)
    (h : laidMet P ((name, .agg (zs.map fun z => .lit (.string z))) :: rest) W) : WordsIs W g (zs.map fun z => ⟨z.toArray⟩) := by
  obtain ⟨ps, ⟨g', t', cs, fuel, p, q, hg', ht', hvar, hd, _, _⟩, _⟩ := h
  obtain rfl := Option.some.inj (hg.symm.trans hg')
  obtain rfl := Option.some.inj (hty.symm.trans ht')
  have hcs := cells_of_words ht he hce hct hd
  intro j z hz
  have := World.var?_cell hg hvar j
  rw [this, ← Array.getElem?_toList, hcs]
  simp only [List.getElem?_map, Option.map_eq_some_iff] at hz
  obtain ⟨y, hy, rfl⟩ := hz
  simp [hy]
theorem WordsIs.below {w w' : World} {g : Nat} {zs : List ByteArray} (h : WordsIs w g zs) (hg : g < w.heap.size) (hb : Below w.heap.size w w') : WordsIs w' g zs := fun j z hz => (hb.cell (p := ⟨g, j, none⟩) hg).trans (h j z hz)
theorem WordsIs.lt {w : World} {g : Nat} {zs : List ByteArray} (h : WordsIs w g zs) (hz : 0 < zs.length) : g < w.heap.size := by
  have h0 := h 0 zs[0] (by simp [hz])
  by_cases hg : g < w.heap.size
  · exact hg
  · simp [World.cell?, Array.getElem?_eq_none (Nat.le_of_not_lt hg)] at h0
end Go.Proofs.YtjddmboaaebbiaaGreatDoor
