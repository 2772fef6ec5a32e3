/- Slices of texts: sizes, copies, comparisons, searches. Conditions: the texts' lengths and the slice's length fit an int; a copy is asked of at most 2^20 texts. -/
import Derived.Test.YtilndebjnibgjaaDoorNames
import Derived.Deep.OwnRows
import Derived.Deep.QuietTactic
import Derived.BigQuiet
namespace Go.Proofs.YtilndebjnibgjaaDoor
set_option maxRecDepth 100000
open Go.RowKit

/-- The lengths of texts together, and one for each. -/
def bulkS : List ByteArray → Int
  | [] => 0
  | x :: r => x.size + bulkS r
theorem bulkS_nonneg : ∀ xs : List ByteArray, 0 ≤ bulkS xs
  | [] => Int.le_refl _
  | x :: r => by have := bulkS_nonneg r; simp only [bulkS]; omega
theorem bulkS_append (xs ys : List ByteArray) : bulkS (xs ++ ys) = bulkS xs + bulkS ys := by
  induction xs with
  | nil => simp [bulkS]
  | cons x r ih => simp only [List.cons_append, bulkS, ih]; omega
theorem bulkS_snoc (xs : List ByteArray) (x : ByteArray) : bulkS (xs ++ [x]) = bulkS xs + x.size := by rw [bulkS_append]; simp [bulkS]
theorem bulkS_take_le (xs : List ByteArray) (k : Nat) : bulkS (xs.take k) ≤ bulkS xs := by
  have h := bulkS_append (xs.take k) (xs.drop k)
  rw [List.take_append_drop] at h
  have := bulkS_nonneg (xs.drop k)
  omega
theorem bulkS_mem {xs : List ByteArray} {x : ByteArray} (h : x ∈ xs) : (x.size : Int) ≤ bulkS xs := by
  induction xs with
  | nil => cases h
  | cons y r ih =>
    simp only [bulkS]
    rcases List.mem_cons.1 h with rfl | h
    · have := bulkS_nonneg r; omega
    · have := ih h; omega

/-- Where a text stands first; -1 if it does not. -/
def idxS (xs : List ByteArray) (s : ByteArray) : Int := match xs.findIdx? (fun x => x.toList == s.toList) with | some i => (i : Int) | none => -1
theorem idxS_none {xs : List ByteArray} {s : ByteArray} (h : hasS xs s = false) : idxS xs s = -1 := by
  unfold idxS
  rw [List.findIdx?_eq_none_iff.2 (fun x hx => by unfold hasS at h; rw [List.any_eq_false] at h; simpa using h x hx)]
theorem idxS_hit {xs : List ByteArray} {s x : ByteArray} {k : Nat} (hx : xs[k]? = some x) (he : (x.toList == s.toList) = true) (hno : hasS (xs.take k) s = false) : idxS xs s = k := by
  unfold idxS
  obtain ⟨hk, rfl⟩ := List.getElem?_eq_some_iff.1 hx
  rw [(List.findIdx?_eq_some_iff_getElem).2 ⟨hk, he, fun j hj => ?_⟩]
  unfold hasS at hno
  rw [List.any_eq_false] at hno
  exact hno _ (by rw [List.mem_take_iff_getElem]; exact ⟨j, by omega, rfl⟩)

theorem s_IndexOf (A : Option Addr) (n c : Nat) (s : ByteArray) (xs : List ByteArray) (B : Nat) (w : World) (hr : Rd w B A n (xs.map Value.string)) (hm : n ≤ 9223372036854775807) :
    Calls Tryd.prog 46 #[.slice A n c, .string s] w fun e w' => e = .returned (.int .i64 (idxS xs s)) ∧ w = w' := by
  go_enter Tryd.func46, Tryd.ntmps46
  go_wp2
  go_loop [5] (fun i => ∃ k : Nat, k ≤ n ∧ i = .int .i64 k ∧ hasS (xs.take k) s = false) (fun i => n - (intOf i).toNat)
  case atStart => exact ⟨0, by omega, rfl, rfl⟩
  case round =>
    obtain ⟨k, hk, rfl, hno⟩ := hrel
    have Hno := hide hno
    clear hno
    by_cases hlt : k < n
    · obtain ⟨b, off, x, hA, hb, hx, hc⟩ := hr.get hlt
      subst hA
      have Hx := hide hx
      clear hx
      cases he : (x.toList == s.toList)
      · have he' : (s.toList == x.toList) = false := by rw [Bool.eq_false_iff] at he ⊢; intro h; apply he; rw [beq_iff_eq] at h ⊢; exact h.symm
        go_wp2
        go_round
        case rel => exact ⟨k + 1, by omega, by go_num, by rw [take_snoc Hx.out, hasS_snoc, Hno.out, he]; rfl⟩
        case measure => simp [intOf]; omega
      · have he' : (s.toList == x.toList) = true := by rw [beq_iff_eq] at he ⊢; exact he.symm
        go_wp2
        go_ret
        exact ⟨ret_int (idxS_hit Hx.out he Hno.out).symm, rfl⟩
    · go_wp2
      go_ret
      exact ⟨ret_int (by have h := Hno.out; rw [List.take_of_length_le (by have := hr.len; omega)] at h; exact (idxS_none h).symm), rfl⟩

theorem i_Index (A : Option Addr) (n c : Nat) (s : ByteArray) (xs : List ByteArray) (B : Nat) (w : World) (hr : Rd w B A n (xs.map Value.string)) (hm : n ≤ 9223372036854775807) :
    Calls Tryd.prog 19 #[.slice A n c, .string s] w fun e w' => e = .returned (.int .i64 (idxS xs s)) ∧ w = w' := by
  go_enter Tryd.func19, Tryd.ntmps19
  go_wp2
  go_loop [8] (fun i => ∃ k : Nat, k ≤ n ∧ i = .int .i64 k ∧ hasS (xs.take k) s = false) (fun i => n - (intOf i).toNat)
  case atStart => exact ⟨0, by omega, rfl, rfl⟩
  case round =>
    obtain ⟨k, hk, rfl, hno⟩ := hrel
    have Hno := hide hno
    clear hno
    by_cases hlt : k < n
    · obtain ⟨b, off, x, hA, hb, hx, hc⟩ := hr.get hlt
      subst hA
      have Hx := hide hx
      clear hx
      cases he : (x.toList == s.toList)
      · have he' : (s.toList == x.toList) = false := by rw [Bool.eq_false_iff] at he ⊢; intro h; apply he; rw [beq_iff_eq] at h ⊢; exact h.symm
        go_wp2
        go_round
        case rel => exact ⟨k + 1, by omega, by go_num, by rw [take_snoc Hx.out, hasS_snoc, Hno.out, he]; rfl⟩
        case measure => simp [intOf]; omega
      · have he' : (s.toList == x.toList) = true := by rw [beq_iff_eq] at he ⊢; exact he.symm
        go_wp2
        go_ret
        exact ⟨ret_int (idxS_hit Hx.out he Hno.out).symm, rfl⟩
    · go_wp2
      go_ret
      exact ⟨ret_int (by have h := Hno.out; rw [List.take_of_length_le (by have := hr.len; omega)] at h; exact (idxS_none h).symm), rfl⟩
/-- Cells of texts, the first k of them filled. -/
def partS (xs : List ByteArray) (n k : Nat) : List Value := (xs.take k).map Value.string ++ List.replicate (n - k) (.string ByteArray.empty)
theorem partS_len {xs : List ByteArray} {n k : Nat} (hl : xs.length = n) (hk : k ≤ n) : (partS xs n k).length = n := by simp [partS]; omega
theorem partS_zero (xs : List ByteArray) (n : Nat) : (partS xs n 0).toArray = madeCells #[.string ByteArray.empty] n := by
  apply Array.ext_getElem?
  intro i
  by_cases h : i < n
  · simp [partS, madeCells, h, Nat.mod_one]
  · simp [partS, madeCells, h]
theorem partS_at {xs : List ByteArray} {n k : Nat} (hl : xs.length = n) (hk : k < n) : (partS xs n k)[k]? = some (.string ByteArray.empty) := by
  have hlen : ((xs.take k).map Value.string).length = k := by simp; omega
  unfold partS
  generalize (xs.take k).map Value.string = l at hlen
  subst hlen
  rw [List.getElem?_append_right (Nat.le_refl _), Nat.sub_self, List.getElem?_replicate, if_pos (by omega)]
theorem partS_set {xs : List ByteArray} {n k : Nat} {x : ByteArray} (hl : xs.length = n) (hx : xs[k]? = some x) (hk : k < n) : (partS xs n k).toArray.setIfInBounds k (.string x) = (partS xs n (k + 1)).toArray := by
  have hlen : ((xs.take k).map Value.string).length = k := by simp; omega
  have e : n - k = (n - (k + 1)) + 1 := by omega
  unfold partS
  rw [take_snoc hx, List.map_append, e, List.replicate_succ]
  generalize (xs.take k).map Value.string = l at hlen
  clear hx
  subst hlen
  simp
theorem partS_all {xs : List ByteArray} {n : Nat} (hl : xs.length = n) : partS xs n n = xs.map Value.string := by
  unfold partS
  rw [List.take_of_length_le (by omega)]
  simp
end Go.Proofs.YtilndebjnibgjaaDoor
