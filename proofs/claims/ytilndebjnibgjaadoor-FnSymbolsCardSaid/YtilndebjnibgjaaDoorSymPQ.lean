/- Symbols read from a line: the symbol of a line, as each side finds it. Plain: no program. -/
import Derived.Test.YtilndebjnibgjaaDoorSymPP
namespace Go.Proofs.YtilndebjnibgjaaDoor
set_option maxRecDepth 100000
open Go.RowKit Go.Lib
set_option linter.unusedVariables false

def zeroY : Sym := ⟨⟨#[]⟩, []⟩
def wordsS (line : ByteArray) : List (List UInt8) := splitL line.data.toList 32
def symS (line : ByteArray) : Sym := ⟨toB ((wordsS line).getD 1 []), ((wordsS line).drop 2).map attS⟩
def wordsI (line : ByteArray) : List ByteArray := splitB ⟨#[32]⟩ 0 (min 7 (line.size + 1) - 1) line
def symI (line : ByteArray) : Sym := ⟨(wordsI line).getD 1 ⟨#[]⟩, ((wordsI line).drop 2).map attI⟩
/-- The symbol of a line, and whether it is one: the reference's. -/
def parseY (line : ByteArray) : Sym × Bool := if 2 ≤ (wordsS line).length ∧ fmtSym (symS line) = line then (symS line, true) else (zeroY, false)
def parseQ (line : ByteArray) : Sym × Bool := if 2 ≤ (wordsI line).length ∧ fmtSym (symI line) = line then (symI line, true) else (zeroY, false)
theorem validY_attrs {x : Sym} (h : validY x = true) : x.attrs.length ≤ 4 := by
  unfold validY at h
  simp only [Bool.and_eq_true, decide_eq_true_eq] at h
  exact h.2.2.1
theorem validY_all {x : Sym} (h : validY x = true) : ∀ a ∈ x.attrs, vA a = true := by
  unfold validY at h
  simp only [Bool.and_eq_true, List.all_eq_true] at h
  exact h.1
theorem words_fmt {x : Sym} (h : validY x = true) : wordsS (fmtSym x) = symW :: x.name.data.toList :: x.attrs.map attrL := by
  unfold wordsS fmtSym
  rw [if_pos h]
  exact symT_split h
theorem symS_fmt {x : Sym} (h : validY x = true) : symS (fmtSym x) = x := by
  unfold symS
  rw [words_fmt h]
  show (⟨toB x.name.data.toList, (x.attrs.map attrL).map attS⟩ : Sym) = x
  rw [toB_data, List.map_map]
  have : x.attrs.map (attS ∘ attrL) = x.attrs := by
    conv => rhs; rw [← List.map_id x.attrs]
    exact List.map_congr_left fun a ha => attS_fmt (validY_all h a ha)
  rw [this]
theorem wordsI_fmt {x : Sym} (h : validY x = true) : wordsI (fmtSym x) = toB symW :: x.name :: x.attrs.map (fun a => toB (attrL a)) := by
  have hw := words_fmt h
  unfold wordsS at hw
  have h4 := validY_attrs h
  have hl := splitL_len 32 (fmtSym x).data.toList
  rw [hw] at hl
  simp only [List.length_cons, List.length_map] at hl
  have hz : (fmtSym x).data.toList.length = (fmtSym x).size := by rw [Array.length_toList]; rfl
  unfold wordsI
  rw [splitB_row 32 _ _ (by rw [hw]; simp only [List.length_cons, List.length_map]; omega)]
  unfold splitS
  rw [hw]
  simp only [List.map_cons, List.map_map, toB_data]
  rfl
theorem symI_fmt {x : Sym} (h : validY x = true) : symI (fmtSym x) = x := by
  unfold symI
  rw [wordsI_fmt h]
  show (⟨x.name, (x.attrs.map (fun a => toB (attrL a))).map attI⟩ : Sym) = x
  rw [List.map_map]
  have : x.attrs.map (attI ∘ fun a => toB (attrL a)) = x.attrs := by
    conv => rhs; rw [← List.map_id x.attrs]
    exact List.map_congr_left fun a ha => attI_fmt (validY_all h a ha)
  rw [this]
theorem fmt_bad {x : Sym} (h : validY x = false) : fmtSym x = ⟨#[]⟩ := by unfold fmtSym; rw [h]; rfl
theorem line_valid {x : Sym} {line : ByteArray} (h : fmtSym x = line) (hn : line ≠ ⟨#[]⟩) : validY x = true := by
  cases hv : validY x
  · exact absurd (h.symm.trans (fmt_bad hv)) hn
  · rfl
/-- Both sides find the same. -/
theorem parseQ_eq (line : ByteArray) : parseQ line = parseY line := by
  have h1 : 2 ≤ (wordsS line).length → line ≠ ⟨#[]⟩ := fun h e => by subst e; revert h; decide
  have h2 : 2 ≤ (wordsI line).length → line ≠ ⟨#[]⟩ := fun h e => by subst e; revert h; decide
  have g1 : ∀ x : Sym, validY x = true → 2 ≤ (wordsS (fmtSym x)).length := fun x hx => by rw [words_fmt hx]; simp
  have g2 : ∀ x : Sym, validY x = true → 2 ≤ (wordsI (fmtSym x)).length := fun x hx => by rw [wordsI_fmt hx]; simp
  unfold parseQ parseY
  by_cases hq : 2 ≤ (wordsI line).length ∧ fmtSym (symI line) = line
  · have hv := line_valid hq.2 (h2 hq.1)
    have e1 : symS line = symI line := by
      have := symS_fmt hv
      rwa [hq.2] at this
    have e2 : 2 ≤ (wordsS line).length := by
      have := g1 _ hv
      rwa [hq.2] at this
    rw [if_pos hq, if_pos ⟨e2, by rw [e1]; exact hq.2⟩, e1]
  · by_cases hs : 2 ≤ (wordsS line).length ∧ fmtSym (symS line) = line
    · have hv := line_valid hs.2 (h1 hs.1)
      have e1 : symI line = symS line := by
        have := symI_fmt hv
        rwa [hs.2] at this
      have e2 : 2 ≤ (wordsI line).length := by
        have := g2 _ hv
        rwa [hs.2] at this
      exact absurd ⟨e2, by rw [e1]; exact hs.2⟩ hq
    · rw [if_neg hq, if_neg hs]
/-- A symbol is read from its line. -/
theorem parseY_fmt {x : Sym} (h : validY x = true) : parseY (fmtSym x) = (x, true) := by
  unfold parseY
  rw [symS_fmt h, if_pos ⟨by rw [words_fmt h]; simp, rfl⟩]
theorem parseY_true {line : ByteArray} (h : (parseY line).2 = true) : validY (parseY line).1 = true ∧ fmtSym (parseY line).1 = line := by
  unfold parseY at h ⊢
  split at h
  · rename_i hq
    rw [if_pos hq]
    exact ⟨line_valid hq.2 (fun e => by subst e; revert hq; intro hq; have := hq.1; revert this; decide), hq.2⟩
  · cases h
theorem parseY_false {line : ByteArray} (h : (parseY line).2 = false) : (parseY line).1 = zeroY := by
  unfold parseY at h ⊢
  split
  · rename_i hq
    rw [if_pos hq] at h
    cases h
  · rfl
end Go.Proofs.YtilndebjnibgjaaDoor
