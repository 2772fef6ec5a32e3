/- The attributes that an expression uses: in ascending order, each once: what insertion gives is what sorting and compacting gives. Plain: no program. -/
import Derived.Test.YtaihdnlpdibkoaaRul
import Derived.Lib.SlicesCompact
import Derived.Sort.Walk0
namespace Go.Proofs.Ytaihdnlpdibkoaa
set_option maxRecDepth 100000
set_option linter.unusedVariables false

theorem Occ.ext' {a b : Occ} (h1 : a.pos = b.pos) (h2 : a.name.data.toList = b.name.data.toList) : a = b := by
  obtain ⟨p, n⟩ := a
  obtain ⟨p', n'⟩ := b
  simp only at h1 h2
  subst h1
  congr 1
  apply ByteArray.ext
  exact Array.toList_inj.1 h2
instance : Inhabited Occ := ⟨⟨0, ⟨#[]⟩⟩⟩
instance occDec : DecidableEq Occ := fun a b =>
  if h : a.pos = b.pos ∧ a.name.data.toList = b.name.data.toList then .isTrue (Occ.ext' h.1 h.2) else .isFalse fun e => h (by rw [e]; exact ⟨rfl, rfl⟩)
def occLt (a b : Occ) : Prop := a.pos < b.pos ∨ (a.pos = b.pos ∧ a.name.data.toList < b.name.data.toList)
instance occLtDec (a b : Occ) : Decidable (occLt a b) := inferInstanceAs (Decidable (a.pos < b.pos ∨ (a.pos = b.pos ∧ a.name.data.toList < b.name.data.toList)))
theorem occ_irrefl (a : Occ) : ¬ occLt a a := by
  rintro (h | ⟨_, h⟩)
  · omega
  · exact List.lt_irrefl _ h
theorem occ_trans {a b c : Occ} (h1 : occLt a b) (h2 : occLt b c) : occLt a c := by
  rcases h1 with h1 | ⟨e1, h1⟩ <;> rcases h2 with h2 | ⟨e2, h2⟩
  · exact .inl (by omega)
  · exact .inl (by omega)
  · exact .inl (by omega)
  · exact .inr ⟨by omega, List.lt_trans h1 h2⟩
theorem occ_tri (a b : Occ) (h1 : ¬ occLt a b) (h2 : a ≠ b) : occLt b a := by
  unfold occLt at h1 ⊢
  by_cases hp : a.pos = b.pos
  · right
    refine ⟨hp.symm, ?_⟩
    rcases Classical.em (b.name.data.toList < a.name.data.toList) with h | h
    · exact h
    · have h3 : ¬ a.name.data.toList < b.name.data.toList := fun q => h1 (.inr ⟨hp, q⟩)
      exact absurd (Occ.ext' hp (List.le_antisymm (List.not_lt.1 h) (List.not_lt.1 h3))) h2
  · left
    have : ¬ a.pos < b.pos := fun q => h1 (.inl q)
    omega
/-- Not behind: a ≤ b. -/
theorem occ_le_trans {a b c : Occ} (h1 : ¬ occLt b a) (h2 : ¬ occLt c b) : ¬ occLt c a := fun h => by
  by_cases e : a = b
  · subst e; exact h2 h
  · have hab : occLt a b := by
      by_cases q : occLt a b
      · exact q
      · exact absurd (occ_tri a b q e) h1
    exact h2 (occ_trans h hab)
theorem occ_le_lt {a b c : Occ} (h1 : ¬ occLt b a) (h2 : occLt b c) : occLt a c := by
  by_cases e : a = b
  · subst e; exact h2
  · have hab : occLt a b := by
      by_cases q : occLt a b
      · exact q
      · exact absurd (occ_tri a b q e) h1
    exact occ_trans hab h2
/-- x put at its place, once. -/
def insO : List Occ → Occ → List Occ
  | [], x => [x]
  | y :: r, x => if occLt y x then y :: insO r x else if y = x then y :: r else x :: y :: r
theorem mem_insO (x : Occ) : ∀ (l : List Occ) (z : Occ), z ∈ insO l x ↔ z = x ∨ z ∈ l
  | [], z => by simp [insO]
  | y :: r, z => by
    unfold insO
    split
    · simp only [List.mem_cons, mem_insO x r z]
      constructor
      · rintro (h | h | h)
        · exact .inr (.inl h)
        · exact .inl h
        · exact .inr (.inr h)
      · rintro (h | h | h)
        · exact .inr (.inl h)
        · exact .inl h
        · exact .inr (.inr h)
    · split
      · rename_i h
        subst h
        simp
      · simp
theorem strict_insO (x : Occ) : ∀ (l : List Occ), l.Pairwise occLt → (insO l x).Pairwise occLt
  | [], _ => by simp [insO]
  | y :: r, h => by
    rw [List.pairwise_cons] at h
    unfold insO
    split
    · rename_i hyx
      rw [List.pairwise_cons]
      refine ⟨fun z hz => ?_, strict_insO x r h.2⟩
      rcases (mem_insO x r z).1 hz with rfl | hz
      · exact hyx
      · exact h.1 z hz
    · rename_i hyx
      split
      · exact List.pairwise_cons.2 h
      · rename_i hne
        have hxy : occLt x y := occ_tri y x hyx hne
        rw [List.pairwise_cons]
        refine ⟨fun z hz => ?_, List.pairwise_cons.2 h⟩
        rcases List.mem_cons.1 hz with rfl | hz
        · exact hxy
        · exact occ_trans hxy (h.1 z hz)
/-- What the insertion does, told by the place. -/
theorem insO_at (x : Occ) : ∀ (l : List Occ) (a : Nat), a ≤ l.length → (∀ k y, k < a → l[k]? = some y → occLt y x) → (∀ y, l[a]? = some y → ¬ occLt y x) →
    insO l x = if l[a]? = some x then l else l.take a ++ x :: l.drop a
  | [], a, ha, _, _ => by
    obtain rfl : a = 0 := by simpa using ha
    simp [insO]
  | y :: r, 0, _, _, h2 => by
    have hy : ¬ occLt y x := h2 y rfl
    unfold insO
    rw [if_neg hy]
    by_cases h : y = x <;> simp [h]
  | y :: r, a + 1, ha, h1, h2 => by
    have hy : occLt y x := h1 0 y (by omega) rfl
    unfold insO
    rw [if_pos hy, insO_at x r a (by simpa using ha) (fun k z hk hz => h1 (k + 1) z (by omega) (by simpa using hz)) (fun z hz => h2 z (by simpa using hz))]
    by_cases h : r[a]? = some x <;> simp [h]
/-- All put in, one after the other. -/
def sortO (l : List Occ) : List Occ := l.foldl insO []
theorem foldO_both : ∀ (l a : List Occ), a.Pairwise occLt → (l.foldl insO a).Pairwise occLt ∧ ∀ z, z ∈ l.foldl insO a ↔ z ∈ l ∨ z ∈ a
  | [], a, h => ⟨h, fun z => by simp⟩
  | x :: r, a, h => by
    obtain ⟨h1, h2⟩ := foldO_both r (insO a x) (strict_insO x a h)
    refine ⟨h1, fun z => ?_⟩
    rw [List.foldl_cons, h2, mem_insO, List.mem_cons]
    constructor
    · rintro (h | h | h)
      · exact .inl (.inr h)
      · exact .inl (.inl h)
      · exact .inr h
    · rintro ((h | h) | h)
      · exact .inr (.inl h)
      · exact .inl h
      · exact .inr (.inr h)
theorem sortO_both (l : List Occ) : (sortO l).Pairwise occLt ∧ ∀ z, z ∈ sortO l ↔ z ∈ l := by
  obtain ⟨h1, h2⟩ := foldO_both l [] List.Pairwise.nil
  exact ⟨h1, fun z => by unfold sortO; rw [h2]; simp⟩
/-- Two strictly ascending lists of the same members are one. -/
theorem strict_eqO : ∀ (a b : List Occ), a.Pairwise occLt → b.Pairwise occLt → (∀ z, z ∈ a ↔ z ∈ b) → a = b
  | [], [], _, _, _ => rfl
  | [], y :: r, _, _, h => absurd ((h y).2 (by simp)) (by simp)
  | x :: a, [], _, _, h => absurd ((h x).1 (by simp)) (by simp)
  | x :: a, y :: b, ha, hb, h => by
    rw [List.pairwise_cons] at ha hb
    have hxy : x = y := by
      rcases List.mem_cons.1 ((h x).1 (by simp)) with e | e
      · exact e
      · rcases List.mem_cons.1 ((h y).2 (by simp)) with e' | e'
        · exact e'.symm
        · exact absurd (occ_trans (ha.1 y e') (hb.1 x e)) (occ_irrefl _)
    subst hxy
    congr 1
    refine strict_eqO a b ha.2 hb.2 fun z => ⟨fun hz => ?_, fun hz => ?_⟩
    · rcases List.mem_cons.1 ((h z).1 (by simp [hz])) with e | e
      · subst e; exact absurd (ha.1 z hz) (occ_irrefl _)
      · exact e
    · rcases List.mem_cons.1 ((h z).2 (by simp [hz])) with e | e
      · subst e; exact absurd (hb.1 z hz) (occ_irrefl _)
      · exact e
/-- An ascending row, neighbours that are equal taken once. -/
theorem compact_bothO (l : List Occ) (hs : l.Pairwise (fun a b => ¬ occLt b a)) : (Lib.compact l).Pairwise occLt ∧ ∀ z, z ∈ Lib.compact l ↔ z ∈ l := by
  have hg : ∀ i j, i ≤ j → j < l.length → ¬ occLt l.toArray[j]! l.toArray[i]! := by
    intro i j hij hj
    have hi : i < l.length := by omega
    simp only [List.getElem!_toArray]
    rw [getElem!_pos l i hi, getElem!_pos l j hj]
    rcases Nat.lt_or_eq_of_le hij with h | rfl
    · exact List.pairwise_iff_getElem.1 hs i j hi hj h
    · exact occ_irrefl _
  have key : ∀ m, m ≤ l.length → (Lib.compactUpTo l.toArray m).Pairwise occLt ∧ (∀ z ∈ Lib.compactUpTo l.toArray m, 0 < m ∧ ¬ occLt l.toArray[m - 1]! z) ∧ (∀ z, z ∈ Lib.compactUpTo l.toArray m ↔ ∃ i, i < m ∧ l.toArray[i]! = z) := by
    intro m
    induction m with
    | zero => intro _; simp [Lib.compactUpTo]
    | succ m ih =>
      intro hm
      obtain ⟨h1, h2, h3⟩ := ih (by omega)
      rw [Lib.compactUpTo_succ]
      by_cases hk : Lib.keeps l.toArray m = true
      · rw [if_pos hk]
        refine ⟨?_, ?_, ?_⟩
        · rw [List.pairwise_append]
          refine ⟨h1, by simp, fun z hz u hu => ?_⟩
          obtain rfl := List.mem_singleton.1 hu
          obtain ⟨h0, hz⟩ := h2 z hz
          have hne : l.toArray[m]! ≠ l.toArray[m - 1]! := by
            simp only [Lib.keeps, decide_eq_true_eq] at hk
            rcases hk with hk | hk
            · omega
            · exact hk
          have hle := hg (m - 1) m (by omega) (by omega)
          have hlt : occLt l.toArray[m - 1]! l.toArray[m]! := by
            rcases Classical.em (occLt l.toArray[m - 1]! l.toArray[m]!) with h | h
            · exact h
            · exact absurd (occ_tri _ _ h (fun e => hne e.symm)) hle
          exact occ_le_lt hz hlt
        · intro z hz
          refine ⟨by omega, ?_⟩
          rw [Nat.add_sub_cancel]
          rcases List.mem_append.1 hz with hz | hz
          · obtain ⟨h0, hz⟩ := h2 z hz
            exact occ_le_trans hz (hg (m - 1) m (by omega) (by omega))
          · obtain rfl := List.mem_singleton.1 hz
            exact occ_irrefl _
        · intro z
          rw [List.mem_append, h3, List.mem_singleton]
          constructor
          · rintro (⟨i, hi, h⟩ | h)
            · exact ⟨i, by omega, h⟩
            · exact ⟨m, by omega, h.symm⟩
          · rintro ⟨i, hi, h⟩
            rcases Nat.lt_or_ge i m with h' | h'
            · exact .inl ⟨i, h', h⟩
            · obtain rfl : i = m := by omega
              exact .inr h.symm
      · rw [if_neg hk, List.append_nil]
        have h0 : 0 < m := by
          rcases Nat.eq_zero_or_pos m with h | h
          · subst h; exact absurd (Lib.keeps_lt_one _ 0 (by omega)) hk
          · exact h
        have he : l.toArray[m]! = l.toArray[m - 1]! := by
          rcases Classical.em (l.toArray[m]! = l.toArray[m - 1]!) with h | h
          · exact h
          · exact absurd (Lib.keeps_pos h) hk
        refine ⟨h1, ?_, ?_⟩
        · intro z hz
          refine ⟨by omega, ?_⟩
          rw [Nat.add_sub_cancel, he]
          exact (h2 z hz).2
        · intro z
          rw [h3]
          constructor
          · rintro ⟨i, hi, h⟩
            exact ⟨i, by omega, h⟩
          · rintro ⟨i, hi, h⟩
            rcases Nat.lt_or_ge i m with h' | h'
            · exact ⟨i, h', h⟩
            · obtain rfl : i = m := by omega
              exact ⟨i - 1, by omega, he ▸ h⟩
  obtain ⟨h1, _, h3⟩ := key l.length (Nat.le_refl _)
  refine ⟨h1, fun z => ?_⟩
  rw [Lib.compact, h3]
  constructor
  · rintro ⟨i, hi, h⟩
    simp only [List.getElem!_toArray] at h
    rw [getElem!_pos l i hi] at h
    exact h ▸ List.getElem_mem hi
  · intro hz
    obtain ⟨i, hi, h⟩ := List.getElem_of_mem hz
    refine ⟨i, hi, ?_⟩
    simp only [List.getElem!_toArray]
    rw [getElem!_pos l i hi, h]
/-- What the program's comparison says. -/
def cmpB (a b : List UInt8) : Int := if a < b then -1 else if b < a then 1 else 0
def cmpI (a b : Int) : Int := if a < b then -1 else if a > b then 1 else 0
def cmpO (a b : Occ) : Int := if cmpI a.pos b.pos ≠ 0 then cmpI a.pos b.pos else cmpB a.name.data.toList b.name.data.toList
theorem cmpO_lt (a b : Occ) : cmpO a b < 0 ↔ occLt a b := by
  unfold cmpO cmpI cmpB occLt
  by_cases h1 : a.pos < b.pos
  · simp [h1]
  · by_cases h2 : b.pos < a.pos
    · have : ¬ a.pos = b.pos := by omega
      simp [h1, h2, this]
    · have h3 : a.pos = b.pos := by omega
      by_cases h4 : a.name.data.toList < b.name.data.toList
      · simp [h3, h4]
      · by_cases h5 : b.name.data.toList < a.name.data.toList <;> simp [h3, h4, h5]
/-- THE LAW. -/
theorem sorted_onceO (l : List Occ) (le : Occ → Occ → Bool) (hle : ∀ a b, le a b = !decide (occLt b a)) : Lib.compact (l.mergeSort le) = sortO l := by
  have hs : (l.mergeSort le).Pairwise (fun a b => ¬ occLt b a) := by
    have := List.pairwise_mergeSort (le := le) (fun a b c h1 h2 => by
      rw [hle] at *
      simp only [Bool.not_eq_true', decide_eq_false_iff_not] at *
      exact occ_le_trans h1 h2) (fun a b => by
      rw [hle, hle]
      by_cases h : occLt b a
      · have h2 : ¬ occLt a b := fun q => occ_irrefl _ (occ_trans h q)
        simp [h2]
      · simp [h]) l
    exact this.imp fun h => by rw [hle] at h; simpa using h
  obtain ⟨h1, h2⟩ := compact_bothO _ hs
  obtain ⟨h3, h4⟩ := sortO_both l
  exact strict_eqO _ _ h1 h3 fun z => by rw [h2, List.mem_mergeSort, h4]
/-- The attributes that an expression uses, as its nodes come. -/
def useH (h : ExH) : List Occ := if h.kind = 3 then [⟨h.pos, h.name⟩] else []
def usesE : Nat → Ex → List Occ
  | 0, _ => []
  | d + 1, e => useH e.h ++ (e.args.map (usesE d)).flatten
def putsE (d : Nat) (e : Ex) (l : List Occ) : List Occ := (usesE d e).foldl insO l
theorem usesE_len : ∀ d e, ((usesE d e).length : Int) ≤ cntE d e
  | 0, _ => Int.le_refl _
  | d + 1, e => by
    have h : ∀ l : List Ex, (((l.map (usesE d)).flatten).length : Int) ≤ sumBy (cntE d) l := by
      intro l
      induction l with
      | nil => simp [sumBy]
      | cons x r ih =>
        have := usesE_len d x
        simp only [List.map_cons, List.flatten_cons, List.length_append, sumBy]
        omega
    have h2 : ((useH e.h).length : Int) ≤ 1 := by unfold useH; split <;> simp
    have := h e.args
    simp only [usesE, cntE, List.length_append]
    omega
end Go.Proofs.Ytaihdnlpdibkoaa
