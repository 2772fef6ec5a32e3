/- The least heights of trees, round by round. Plain: no program. -/
import Derived.Test.YtfbcipfionhhaaaGrm
namespace Go.Proofs.Ytfbcipfionhhaaa
set_option maxRecDepth 100000
open Go.RowKit
set_option linter.unusedVariables false

/-- The place of the first symbol with a name. -/
def symIdx (g : Grm) (s : ByteArray) : Option Nat := g.symbols.findIdx? (fun x => x.name.toList == s.toList)
/-- The height that a row of heights has for a name. -/
def hOf (g : Grm) (h : List Nat) (s : ByteArray) : Nat := match symIdx g s with
  | some i => h.getD i 0
  | none => 0
def childOk (g : Grm) (h : List Nat) (c : ByteArray) : Bool := decide (0 < hOf g h c)
def rOk (g : Grm) (h : List Nat) (s : ByteArray) (r : Rul) : Bool := (r.left.toList == s.toList) && r.right.all (childOk g h)
def reach (g : Grm) (h : List Nat) (s : ByteArray) : Bool := g.rules.any (rOk g h s)
def newH (g : Grm) (h : List Nat) (k : Nat) (x : Sym) (v : Nat) : Nat := if v = 0 ∧ reach g h x.name = true then k else v
def stepH (g : Grm) (k : Nat) (h : List Nat) : List Nat := List.zipWith (newH g h k) g.symbols h
def hts (g : Grm) : Nat → List Nat
  | 0 => List.replicate g.symbols.length 0
  | k + 1 => stepH g (k + 1) (hts g k)
def minH (g : Grm) (s : ByteArray) : Nat := hOf g (hts g g.symbols.length) s

theorem stepH_len (g : Grm) (k : Nat) (h : List Nat) (hl : h.length = g.symbols.length) : (stepH g k h).length = g.symbols.length := by
  unfold stepH
  rw [List.length_zipWith]
  omega
theorem hts_len (g : Grm) : ∀ k, (hts g k).length = g.symbols.length
  | 0 => by unfold hts; simp
  | k + 1 => by unfold hts; exact stepH_len g _ _ (hts_len g k)
theorem stepH_le (g : Grm) (k m : Nat) (h : List Nat) (hk : k ≤ m) (hm : ∀ v ∈ h, v ≤ m) : ∀ v ∈ stepH g k h, v ≤ m := by
  intro v hv
  unfold stepH at hv
  obtain ⟨i, hi, rfl⟩ := List.mem_iff_getElem.1 hv
  rw [List.getElem_zipWith]
  unfold newH
  split
  · exact hk
  · exact hm _ (List.getElem_mem _)
theorem hts_le (g : Grm) : ∀ k, ∀ v ∈ hts g k, v ≤ k
  | 0 => by unfold hts; intro v hv; rw [List.eq_of_mem_replicate hv]; exact Nat.le_refl _
  | k + 1 => by unfold hts; exact stepH_le g _ _ _ (Nat.le_refl _) fun v hv => Nat.le_succ_of_le (hts_le g k v hv)
/-- The row in the middle of a round. -/
def midH (g : Grm) (k : Nat) (h : List Nat) (j : Nat) : List Nat := (stepH g k h).take j ++ h.drop j
theorem midH_zero (g : Grm) (k : Nat) (h : List Nat) : midH g k h 0 = h := by simp [midH]
theorem midH_all (g : Grm) (k : Nat) (h : List Nat) (hl : h.length = g.symbols.length) : midH g k h g.symbols.length = stepH g k h := by
  unfold midH
  rw [List.take_of_length_le (Nat.le_of_eq (stepH_len g k h hl)), List.drop_of_length_le (Nat.le_of_eq hl), List.append_nil]
theorem midH_len (g : Grm) (k : Nat) (h : List Nat) (hl : h.length = g.symbols.length) (j : Nat) : (midH g k h j).length = g.symbols.length := by
  unfold midH
  rw [List.length_append, List.length_take, List.length_drop, stepH_len g k h hl]
  omega
theorem stepH_at {g : Grm} {k : Nat} {h : List Nat} {j : Nat} {x : Sym} {v : Nat} (hx : g.symbols[j]? = some x) (hv : h[j]? = some v) : (stepH g k h)[j]? = some (newH g h k x v) := by
  unfold stepH
  rw [List.getElem?_zipWith, hx, hv]
theorem midH_set {g : Grm} {k : Nat} {h : List Nat} {j : Nat} {x : Sym} {v : Nat} (hx : g.symbols[j]? = some x) (hv : h[j]? = some v) (hl : h.length = g.symbols.length) :
    midH g k h (j + 1) = (midH g k h j).set j (newH g h k x v) := by
  have hs := stepH_at (k := k) hx hv
  have hj := (List.getElem?_eq_some_iff.1 hv).1
  have hj2 : j < (stepH g k h).length := (List.getElem?_eq_some_iff.1 hs).1
  unfold midH
  rw [List.set_append_right _ _ (by simp; omega), List.length_take, Nat.min_eq_left (by omega), Nat.sub_self, List.take_add_one, hs, List.append_assoc]
  congr 1
  rw [List.drop_eq_getElem_cons hj, List.set_cons_zero]
  rfl
theorem midH_at {g : Grm} {k : Nat} {h : List Nat} {j : Nat} {v : Nat} (hv : h[j]? = some v) (hl : h.length = g.symbols.length) : (midH g k h j)[j]? = some v := by
  have hj := (List.getElem?_eq_some_iff.1 hv).1
  unfold midH
  rw [List.getElem?_append_right (by simp; omega), List.length_take, stepH_len g k h hl, Nat.min_eq_left (by omega), Nat.sub_self, List.getElem?_drop]
  simpa using hv
theorem midH_keep {g : Grm} {k : Nat} {h : List Nat} {j : Nat} {x : Sym} {v : Nat} (hx : g.symbols[j]? = some x) (hv : h[j]? = some v) (hl : h.length = g.symbols.length) (hn : newH g h k x v = v) :
    midH g k h (j + 1) = midH g k h j := by
  rw [midH_set hx hv hl, hn]
  apply List.ext_getElem?
  intro i
  rw [List.getElem?_set]
  split
  · rename_i he
    subst he
    rw [midH_at hv hl, midH_len g k h hl]
    simp [hl ▸ (List.getElem?_eq_some_iff.1 hv).1]
  · rfl
theorem newH_pos {g : Grm} {h : List Nat} {k : Nat} {x : Sym} {v : Nat} (hv : 0 < v) : newH g h k x v = v := by
  unfold newH
  rw [if_neg (by omega)]
theorem newH_reach {g : Grm} {h : List Nat} {k : Nat} {x : Sym} (hr : reach g h x.name = true) : newH g h k x 0 = k := by
  unfold newH
  rw [if_pos ⟨rfl, hr⟩]
theorem newH_not {g : Grm} {h : List Nat} {k : Nat} {x : Sym} {v : Nat} (hr : reach g h x.name = false) : newH g h k x v = v := by
  unfold newH
  rw [if_neg (by rw [hr]; simp)]
/-- The value at a symbol's place behind some of the rules. -/
def partH (g : Grm) (h : List Nat) (k : Nat) (s : ByteArray) (m : Nat) : Nat := if (g.rules.take m).any (rOk g h s) = true then k else 0
theorem partH_zero (g : Grm) (h : List Nat) (k : Nat) (s : ByteArray) : partH g h k s 0 = 0 := by simp [partH]
theorem partH_all (g : Grm) (h : List Nat) (k : Nat) (x : Sym) : partH g h k x.name g.rules.length = newH g h k x 0 := by
  unfold partH newH reach
  rw [List.take_length]
  simp
theorem any_snoc' {g : Grm} {h : List Nat} {s : ByteArray} {m : Nat} {r : Rul} (hr : g.rules[m]? = some r) : (g.rules.take (m + 1)).any (rOk g h s) = ((g.rules.take m).any (rOk g h s) || rOk g h s r) := by
  rw [List.take_add_one, hr, List.any_append]
  simp
theorem partH_hit {g : Grm} {h : List Nat} {k : Nat} {s : ByteArray} {m : Nat} {r : Rul} (hr : g.rules[m]? = some r) (hk : rOk g h s r = true) : partH g h k s (m + 1) = k := by
  unfold partH
  rw [any_snoc' hr, hk]
  simp
theorem partH_miss {g : Grm} {h : List Nat} {k : Nat} {s : ByteArray} {m : Nat} {r : Rul} (hr : g.rules[m]? = some r) (hk : rOk g h s r = false) : partH g h k s (m + 1) = partH g h k s m := by
  unfold partH
  rw [any_snoc' hr, hk]
  simp
theorem all_snoc' {g : Grm} {h : List Nat} {l : List ByteArray} {m : Nat} {c : ByteArray} (hc : l[m]? = some c) : (l.take (m + 1)).all (childOk g h) = ((l.take m).all (childOk g h) && childOk g h c) := by
  rw [List.take_add_one, hc, List.all_append]
  simp
theorem symIdx_hit {g : Grm} {s : ByteArray} {x : Sym} {j : Nat} (hno : ∀ (k : Nat) (y : Sym), k < j → g.symbols[k]? = some y → (y.name.toList == s.toList) = false) (hx : g.symbols[j]? = some x) (he : (x.name.toList == s.toList) = true) : symIdx g s = some j := by
  unfold symIdx
  obtain ⟨hj, rfl⟩ := List.getElem?_eq_some_iff.1 hx
  rw [List.findIdx?_eq_some_iff_getElem]
  exact ⟨hj, he, fun k hk => by simpa using hno k _ hk (List.getElem?_eq_getElem (by omega))⟩
theorem symIdx_no {g : Grm} {s : ByteArray} (hno : ∀ (k : Nat) (y : Sym), g.symbols[k]? = some y → (y.name.toList == s.toList) = false) : symIdx g s = none := by
  unfold symIdx
  rw [List.findIdx?_eq_none_iff]
  intro y hy
  obtain ⟨k, hk, rfl⟩ := List.mem_iff_getElem.1 hy
  simpa using hno k _ (List.getElem?_eq_getElem hk)
theorem symIdx_lt {g : Grm} {s : ByteArray} {j : Nat} (h : symIdx g s = some j) : j < g.symbols.length := by
  unfold symIdx at h
  rw [List.findIdx?_eq_some_iff_getElem] at h
  exact h.1
end Go.Proofs.Ytfbcipfionhhaaa
