/- Texts in ascending order, each once: what insertion gives is what sorting and compacting gives. Plain: no program. -/
import Derived.Lib.SlicesCompact
import Derived.Sort.Walk0
namespace Go.Proofs.Ytnbkckklodeifaa
set_option maxRecDepth 100000

abbrev Bs := List UInt8
theorem bs_tri (a b : Bs) (h1 : ¬ a < b) (h2 : a ≠ b) : b < a := by
  rcases Classical.em (b < a) with h | h
  · exact h
  · exact absurd (List.le_antisymm (List.not_lt.1 h) (List.not_lt.1 h1)) h2
theorem bs_le_lt {a b c : Bs} (h1 : a ≤ b) (h2 : b < c) : a < c := List.lt_of_le_of_lt h1 h2
/-- x put at its place, once. -/
def ins : List Bs → Bs → List Bs
  | [], x => [x]
  | y :: r, x => if y < x then y :: ins r x else if y = x then y :: r else x :: y :: r
theorem mem_ins (x : Bs) : ∀ (l : List Bs) (z : Bs), z ∈ ins l x ↔ z = x ∨ z ∈ l
  | [], z => by simp [ins]
  | y :: r, z => by
    unfold ins
    split
    · simp only [List.mem_cons, mem_ins x r z]
      constructor
      · rintro (h | h | h)
        · exact .inr (.inl h)
        · exact .inl h
        · exact .inr (.inr h)
      · rintro (h | h | h)
        · exact .inr (.inl h)
        · exact .inl h
        · exact .inr (.inr h)
    · split
      · rename_i h
        subst h
        simp
      · simp
theorem strict_ins (x : Bs) : ∀ (l : List Bs), l.Pairwise (· < ·) → (ins l x).Pairwise (· < ·)
  | [], _ => by simp [ins]
  | y :: r, h => by
    rw [List.pairwise_cons] at h
    unfold ins
    split
    · rename_i hyx
      rw [List.pairwise_cons]
      refine ⟨fun z hz => ?_, strict_ins x r h.2⟩
      rcases (mem_ins x r z).1 hz with rfl | hz
      · exact hyx
      · exact h.1 z hz
    · rename_i hyx
      split
      · exact List.pairwise_cons.2 h
      · rename_i hne
        have hxy : x < y := bs_tri y x hyx hne
        rw [List.pairwise_cons]
        refine ⟨fun z hz => ?_, List.pairwise_cons.2 h⟩
        rcases List.mem_cons.1 hz with rfl | hz
        · exact hxy
        · exact List.lt_trans hxy (h.1 z hz)
/-- What the insertion does, told by the place. -/
theorem ins_at (x : Bs) : ∀ (l : List Bs) (a : Nat), a ≤ l.length → (∀ k y, k < a → l[k]? = some y → y < x) → (∀ y, l[a]? = some y → ¬ y < x) →
    ins l x = if l[a]? = some x then l else l.take a ++ x :: l.drop a
  | [], a, ha, _, _ => by
    obtain rfl : a = 0 := by simpa using ha
    simp [ins]
  | y :: r, 0, _, _, h2 => by
    have hy : ¬ y < x := h2 y rfl
    unfold ins
    rw [if_neg hy]
    by_cases h : y = x <;> simp [h]
  | y :: r, a + 1, ha, h1, h2 => by
    have hy : y < x := h1 0 y (by omega) rfl
    unfold ins
    rw [if_pos hy, ins_at x r a (by simpa using ha) (fun k z hk hz => h1 (k + 1) z (by omega) (by simpa using hz)) (fun z hz => h2 z (by simpa using hz))]
    by_cases h : r[a]? = some x <;> simp [h]
/-- All put in, one after the other. -/
def sortB (l : List Bs) : List Bs := l.foldl ins []
theorem sortB_snoc (l : List Bs) (x : Bs) : sortB (l ++ [x]) = ins (sortB l) x := by simp [sortB, List.foldl_append]
theorem sortB_both (l : List Bs) : (sortB l).Pairwise (· < ·) ∧ ∀ z, z ∈ sortB l ↔ z ∈ l := by
  have : ∀ (n : Nat) (l : List Bs), l.length = n → (sortB l).Pairwise (· < ·) ∧ ∀ z, z ∈ sortB l ↔ z ∈ l := by
    intro n
    induction n with
    | zero => intro l hl; obtain rfl := List.length_eq_zero_iff.1 hl; simp [sortB]
    | succ n ih =>
      intro l hl
      have hne : l ≠ [] := by intro h; subst h; simp at hl
      rw [← List.dropLast_concat_getLast hne, sortB_snoc]
      obtain ⟨h1, h2⟩ := ih l.dropLast (by simp; omega)
      refine ⟨strict_ins _ _ h1, fun z => ?_⟩
      rw [mem_ins, h2]
      simp [or_comm]
  exact this _ l rfl
/-- Two strictly ascending lists of the same members are one. -/
theorem strict_eq : ∀ (a b : List Bs), a.Pairwise (· < ·) → b.Pairwise (· < ·) → (∀ z, z ∈ a ↔ z ∈ b) → a = b
  | [], [], _, _, _ => rfl
  | [], y :: r, _, _, h => absurd ((h y).2 (by simp)) (by simp)
  | x :: a, [], _, _, h => absurd ((h x).1 (by simp)) (by simp)
  | x :: a, y :: b, ha, hb, h => by
    rw [List.pairwise_cons] at ha hb
    have hxy : x = y := by
      rcases List.mem_cons.1 ((h x).1 (by simp)) with e | e
      · exact e
      · rcases List.mem_cons.1 ((h y).2 (by simp)) with e' | e'
        · exact e'.symm
        · exact absurd (List.lt_trans (ha.1 y e') (hb.1 x e)) (List.lt_irrefl _)
    subst hxy
    congr 1
    refine strict_eq a b ha.2 hb.2 fun z => ⟨fun hz => ?_, fun hz => ?_⟩
    · rcases List.mem_cons.1 ((h z).1 (by simp [hz])) with e | e
      · subst e; exact absurd (ha.1 z hz) (List.lt_irrefl _)
      · exact e
    · rcases List.mem_cons.1 ((h z).2 (by simp [hz])) with e | e
      · subst e; exact absurd (hb.1 z hz) (List.lt_irrefl _)
      · exact e
/-- An ascending row, neighbours that are equal taken once. -/
theorem compact_both (l : List Bs) (hs : l.Pairwise (· ≤ ·)) : (Lib.compact l).Pairwise (· < ·) ∧ ∀ z, z ∈ Lib.compact l ↔ z ∈ l := by
  have hg : ∀ i j, i ≤ j → j < l.length → l.toArray[i]! ≤ l.toArray[j]! := by
    intro i j hij hj
    have hi : i < l.length := by omega
    simp only [List.getElem!_toArray]
    rw [getElem!_pos l i hi, getElem!_pos l j hj]
    rcases Nat.lt_or_eq_of_le hij with h | rfl
    · exact List.pairwise_iff_getElem.1 hs i j hi hj h
    · exact List.le_refl _
  have key : ∀ m, m ≤ l.length → (Lib.compactUpTo l.toArray m).Pairwise (· < ·) ∧ (∀ z ∈ Lib.compactUpTo l.toArray m, 0 < m ∧ z ≤ l.toArray[m - 1]!) ∧ (∀ z, z ∈ Lib.compactUpTo l.toArray m ↔ ∃ i, i < m ∧ l.toArray[i]! = z) := by
    intro m
    induction m with
    | zero => intro _; simp [Lib.compactUpTo]
    | succ m ih =>
      intro hm
      obtain ⟨h1, h2, h3⟩ := ih (by omega)
      rw [Lib.compactUpTo_succ]
      by_cases hk : Lib.keeps l.toArray m = true
      · rw [if_pos hk]
        refine ⟨?_, ?_, ?_⟩
        · rw [List.pairwise_append]
          refine ⟨h1, by simp, fun z hz u hu => ?_⟩
          obtain rfl := List.mem_singleton.1 hu
          obtain ⟨h0, hz⟩ := h2 z hz
          have hne : l.toArray[m]! ≠ l.toArray[m - 1]! := by
            simp only [Lib.keeps, decide_eq_true_eq] at hk
            rcases hk with hk | hk
            · omega
            · exact hk
          have hle := hg (m - 1) m (by omega) (by omega)
          have hlt : l.toArray[m - 1]! < l.toArray[m]! := by
            rcases Classical.em (l.toArray[m - 1]! < l.toArray[m]!) with h | h
            · exact h
            · exact absurd (List.le_antisymm hle (List.not_lt.1 h)).symm hne
          exact bs_le_lt hz hlt
        · intro z hz
          refine ⟨by omega, ?_⟩
          rw [Nat.add_sub_cancel]
          rcases List.mem_append.1 hz with hz | hz
          · obtain ⟨h0, hz⟩ := h2 z hz
            exact List.le_trans hz (hg (m - 1) m (by omega) (by omega))
          · obtain rfl := List.mem_singleton.1 hz
            exact List.le_refl _
        · intro z
          rw [List.mem_append, h3, List.mem_singleton]
          constructor
          · rintro (⟨i, hi, h⟩ | h)
            · exact ⟨i, by omega, h⟩
            · exact ⟨m, by omega, h.symm⟩
          · rintro ⟨i, hi, h⟩
            rcases Nat.lt_or_ge i m with h' | h'
            · exact .inl ⟨i, h', h⟩
            · obtain rfl : i = m := by omega
              exact .inr h.symm
      · rw [if_neg hk, List.append_nil]
        have h0 : 0 < m := by
          rcases Nat.eq_zero_or_pos m with h | h
          · subst h; exact absurd (Lib.keeps_lt_one _ 0 (by omega)) hk
          · exact h
        have he : l.toArray[m]! = l.toArray[m - 1]! := by
          rcases Classical.em (l.toArray[m]! = l.toArray[m - 1]!) with h | h
          · exact h
          · exact absurd (Lib.keeps_pos h) hk
        refine ⟨h1, ?_, ?_⟩
        · intro z hz
          refine ⟨by omega, ?_⟩
          rw [Nat.add_sub_cancel, he]
          exact (h2 z hz).2
        · intro z
          rw [h3]
          constructor
          · rintro ⟨i, hi, h⟩
            exact ⟨i, by omega, h⟩
          · rintro ⟨i, hi, h⟩
            rcases Nat.lt_or_ge i m with h' | h'
            · exact ⟨i, h', h⟩
            · obtain rfl : i = m := by omega
              exact ⟨i - 1, by omega, he ▸ h⟩
  obtain ⟨h1, _, h3⟩ := key l.length (Nat.le_refl _)
  refine ⟨h1, fun z => ?_⟩
  rw [Lib.compact, h3]
  constructor
  · rintro ⟨i, hi, h⟩
    simp only [List.getElem!_toArray] at h
    rw [getElem!_pos l i hi] at h
    exact h ▸ List.getElem_mem hi
  · intro hz
    obtain ⟨i, hi, h⟩ := List.getElem_of_mem hz
    refine ⟨i, hi, ?_⟩
    simp only [List.getElem!_toArray]
    rw [getElem!_pos l i hi, h]
/-- THE LAW. -/
theorem sorted_once (l : List Bs) : Lib.compact (l.mergeSort fun x y => decide (x ≤ y)) = sortB l := by
  have hs : (l.mergeSort fun x y => decide (x ≤ y)).Pairwise (· ≤ ·) := by
    have := List.pairwise_mergeSort (le := fun (x y : Bs) => decide (x ≤ y)) (fun a b c h1 h2 => by simp only [decide_eq_true_eq] at *; exact List.le_trans h1 h2) (fun a b => by simp only [Bool.or_eq_true, decide_eq_true_eq]; exact List.le_total a b) l
    exact this.imp fun h => by simpa using h
  obtain ⟨h1, h2⟩ := compact_both _ hs
  obtain ⟨h3, h4⟩ := sortB_both l
  exact strict_eq _ _ h1 h3 fun z => by rw [h2, List.mem_mergeSort, h4]
theorem ins_len (x : Bs) : ∀ (l : List Bs), l.Pairwise (· < ·) → (ins l x).length = if x ∈ l then l.length else l.length + 1
  | [], _ => by simp [ins]
  | y :: r, h => by
    rw [List.pairwise_cons] at h
    unfold ins
    split
    · rename_i hyx
      have hne : ¬ x = y := fun e => by subst e; exact List.lt_irrefl _ hyx
      rw [List.length_cons, ins_len x r h.2]
      by_cases hm : x ∈ r <;> simp [hm, hne]
    · rename_i hyx
      split
      · rename_i e
        subst e
        simp
      · rename_i hne
        have hxy : x < y := bs_tri y x hyx hne
        have : ¬ x ∈ y :: r := by
          intro hm
          rcases List.mem_cons.1 hm with e | e
          · exact hne e.symm
          · exact List.lt_irrefl _ (List.lt_trans hxy (h.1 x e))
        rw [if_neg this]
        simp
theorem sortB_take {l : List Bs} {j : Nat} {x : Bs} (hx : l[j]? = some x) : sortB (l.take (j + 1)) = ins (sortB (l.take j)) x := by
  rw [List.take_add_one, hx]
  exact sortB_snoc _ _
theorem sortB_len_step {l : List Bs} {j : Nat} {x : Bs} (hx : l[j]? = some x) : (sortB (l.take (j + 1))).length = if x ∈ l.take j then (sortB (l.take j)).length else (sortB (l.take j)).length + 1 := by
  obtain ⟨h1, h2⟩ := sortB_both (l.take j)
  rw [sortB_take hx, ins_len x _ h1]
  simp only [h2]
theorem sortB_len_le (l : List Bs) : ∀ k j, j + k = l.length → (sortB l).length ≤ (sortB (l.take j)).length + k
  | 0, j, h => by
    rw [List.take_of_length_le (by omega)]
    omega
  | k + 1, j, h => by
    have hx : l[j]? = some l[j] := List.getElem?_eq_getElem (by omega)
    have h1 := sortB_len_le l k (j + 1) (by omega)
    have h2 := sortB_len_step hx
    split at h2 <;> omega
end Go.Proofs.Ytnbkckklodeifaa
