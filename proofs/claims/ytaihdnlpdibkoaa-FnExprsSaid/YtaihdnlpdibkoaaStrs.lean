/- Slices of texts: sizes, copies, comparisons, searches. Conditions: the texts' lengths and the slice's length fit an int; a copy is asked of at most 2^20 texts. -/
import Derived.Test.YtaihdnlpdibkoaaNames
import Derived.Deep.OwnRows
import Derived.Deep.QuietTactic
import Derived.BigQuiet
namespace Go.Proofs.Ytaihdnlpdibkoaa
set_option maxRecDepth 100000
open Go.RowKit

/-- The lengths of texts together, and one for each. -/
def bulkS : List ByteArray → Int
  | [] => 0
  | x :: r => x.size + bulkS r
theorem bulkS_nonneg : ∀ xs : List ByteArray, 0 ≤ bulkS xs
  | [] => Int.le_refl _
  | x :: r => by have := bulkS_nonneg r; simp only [bulkS]; omega
theorem bulkS_append (xs ys : List ByteArray) : bulkS (xs ++ ys) = bulkS xs + bulkS ys := by
  induction xs with
  | nil => simp [bulkS]
  | cons x r ih => simp only [List.cons_append, bulkS, ih]; omega
theorem bulkS_snoc (xs : List ByteArray) (x : ByteArray) : bulkS (xs ++ [x]) = bulkS xs + x.size := by rw [bulkS_append]; simp [bulkS]
theorem bulkS_take_le (xs : List ByteArray) (k : Nat) : bulkS (xs.take k) ≤ bulkS xs := by
  have h := bulkS_append (xs.take k) (xs.drop k)
  rw [List.take_append_drop] at h
  have := bulkS_nonneg (xs.drop k)
  omega
theorem bulkS_mem {xs : List ByteArray} {x : ByteArray} (h : x ∈ xs) : (x.size : Int) ≤ bulkS xs := by
  induction xs with
  | nil => cases h
  | cons y r ih =>
    simp only [bulkS]
    rcases List.mem_cons.1 h with rfl | h
    · have := bulkS_nonneg r; omega
    · have := ih h; omega

/-- Where a text stands first; -1 if it does not. -/
def idxS (xs : List ByteArray) (s : ByteArray) : Int := match xs.findIdx? (fun x => x.toList == s.toList) with | some i => (i : Int) | none => -1
theorem idxS_none {xs : List ByteArray} {s : ByteArray} (h : hasS xs s = false) : idxS xs s = -1 := by
  unfold idxS
  rw [List.findIdx?_eq_none_iff.2 (fun x hx => by unfold hasS at h; rw [List.any_eq_false] at h; simpa using h x hx)]
theorem idxS_hit {xs : List ByteArray} {s x : ByteArray} {k : Nat} (hx : xs[k]? = some x) (he : (x.toList == s.toList) = true) (hno : hasS (xs.take k) s = false) : idxS xs s = k := by
  unfold idxS
  obtain ⟨hk, rfl⟩ := List.getElem?_eq_some_iff.1 hx
  rw [(List.findIdx?_eq_some_iff_getElem).2 ⟨hk, he, fun j hj => ?_⟩]
  unfold hasS at hno
  rw [List.any_eq_false] at hno
  exact hno _ (by rw [List.mem_take_iff_getElem]; exact ⟨j, by omega, rfl⟩)

theorem l_szStringS (A : Option Addr) (n c : Nat) (L : Int) (xs : List ByteArray) (B : Nat) (w : World) (hr : Rd w B A n (xs.map Value.string)) (hm : n ≤ 9223372036854775807) (hs : ∀ x ∈ xs, x.size ≤ maxLen) (h0 : 0 ≤ L) (h1 : L ≤ 1048576) :
    Calls Try.prog 107 #[.slice A n c, .int .i64 L] w fun e w' => Sized (n + bulkS xs) L e ∧ w = w' := by
  by_cases hn : L < n
  · go_enter Try.func107, Try.ntmps107
    go_wp2
    go_ret
    exact ⟨⟨-1, rfl, .inl rfl⟩, rfl⟩
  go_enter Try.func107, Try.ntmps107
  go_wp2
  go_loop [1, 5] (fun l i => ∃ k : Nat, k ≤ n ∧ i = .int .i64 k ∧ l = .int .i64 (L - n - bulkS (xs.take k)) ∧ 0 ≤ L - n - bulkS (xs.take k)) (fun _ i => n - (intOf i).toNat)
  case atStart => exact ⟨0, by omega, rfl, by simp [bulkS], by simp [bulkS]; omega⟩
  case round =>
    obtain ⟨k, hk, rfl, rfl, h2⟩ := hrel
    have hnn := bulkS_nonneg (xs.take k)
    generalize ht : bulkS (xs.take k) = t at *
    have Ht := hide ht
    clear ht
    by_cases hlt : k < n
    · obtain ⟨b, off, x, hA, hb, hx, hc⟩ := hr.get hlt
      subst hA
      have hsz := hs x (List.mem_of_getElem? hx)
      unfold maxLen at hsz
      have hsn := bulkS_snoc (xs.take k) x
      rw [← take_snoc hx, Ht.out] at hsn
      have Hsn := hide hsn
      clear hsn hx
      by_cases hbig : L - n - t < x.size
      · go_wp2
        go_ret
        exact ⟨⟨-1, rfl, .inl rfl⟩, rfl⟩
      · go_wp2
        go_round
        case rel => exact ⟨k + 1, by omega, by go_num, by rw [Hsn.out]; go_num, by rw [Hsn.out]; omega⟩
        case measure => simp [intOf]; omega
    · go_wp2
      go_ret
      refine ⟨⟨_, rfl, .inr ⟨h2, ?_⟩⟩, rfl⟩
      have h := Ht.out
      rw [List.take_of_length_le (by have := hr.len; omega)] at h
      omega

/-- Cells of texts, the first k of them filled. -/
def partS (xs : List ByteArray) (n k : Nat) : List Value := (xs.take k).map Value.string ++ List.replicate (n - k) (.string ByteArray.empty)
theorem partS_len {xs : List ByteArray} {n k : Nat} (hl : xs.length = n) (hk : k ≤ n) : (partS xs n k).length = n := by simp [partS]; omega
theorem partS_zero (xs : List ByteArray) (n : Nat) : (partS xs n 0).toArray = madeCells #[.string ByteArray.empty] n := by
  apply Array.ext_getElem?
  intro i
  by_cases h : i < n
  · simp [partS, madeCells, h, Nat.mod_one]
  · simp [partS, madeCells, h]
theorem partS_at {xs : List ByteArray} {n k : Nat} (hl : xs.length = n) (hk : k < n) : (partS xs n k)[k]? = some (.string ByteArray.empty) := by
  have hlen : ((xs.take k).map Value.string).length = k := by simp; omega
  unfold partS
  generalize (xs.take k).map Value.string = l at hlen
  subst hlen
  rw [List.getElem?_append_right (Nat.le_refl _), Nat.sub_self, List.getElem?_replicate, if_pos (by omega)]
theorem partS_set {xs : List ByteArray} {n k : Nat} {x : ByteArray} (hl : xs.length = n) (hx : xs[k]? = some x) (hk : k < n) : (partS xs n k).toArray.setIfInBounds k (.string x) = (partS xs n (k + 1)).toArray := by
  have hlen : ((xs.take k).map Value.string).length = k := by simp; omega
  have e : n - k = (n - (k + 1)) + 1 := by omega
  unfold partS
  rw [take_snoc hx, List.map_append, e, List.replicate_succ]
  generalize (xs.take k).map Value.string = l at hlen
  clear hx
  subst hlen
  simp
theorem partS_all {xs : List ByteArray} {n : Nat} (hl : xs.length = n) : partS xs n n = xs.map Value.string := by
  unfold partS
  rw [List.take_of_length_le (by omega)]
  simp
theorem l_toStringS (A : Option Addr) (n c : Nat) (xs : List ByteArray) (B : Nat) (w : World) (hr : Rd w B A n (xs.map Value.string)) (hm : n ≤ 1048576) (hB : B ≤ w.heap.size) :
    Calls Try.prog 111 #[.slice A n c] w fun e w' => e = .returned (.slice (some ⟨w.heap.size, 0, none⟩) n n) ∧ w'.heap[w.heap.size]? = some (.cells (xs.map Value.string).toArray 9 (0, 0)) ∧ Below w.heap.size w w' := by
  have hmk := run_make_row' (P := Try.prog) 27 9 (.string ByteArray.empty) 16 Try.underlying27 (by kernel_rfl) rfl .i64 .i64 n (by omega) (by omega)
  go_enter Try.func111, Try.ntmps111
  go_wp2
  go_loopw [4] (fun i wr => ∃ k : Nat, k ≤ n ∧ i = .int .i64 k ∧ wr.heap[w.heap.size]? = some (.cells (partS xs n k).toArray 9 (0, 0)) ∧ Below w.heap.size w wr) (fun i _ => n - (intOf i).toNat)
  case atStart => exact ⟨0, by omega, rfl, by rw [partS_zero]; exact heap_alloc_new w _, (Below.refl _ _).alloc (Nat.le_refl _) _⟩
  case round =>
    obtain ⟨k, hk, rfl, hblk, hbel⟩ := hrel
    by_cases hlt : k < n
    · obtain ⟨b, off, x, hA, hb, hx, hc⟩ := hr.get hlt
      subst hA
      have hc' : wr.cell? ⟨b, off + k, none⟩ = some (.string x) := (hbel.cell (by show b < _; omega)).trans hc
      have hcell : wr.cell? ⟨w.heap.size, k, none⟩ = some (.string ByteArray.empty) := by rw [cell_of_row _ _ k _ _ _ hblk]; simpa using partS_at hr.len hlt
      have hfz := frozen_of_row wr w.heap.size k _ _ hblk
      have Hblk := hide hblk
      have Hx := hide hx
      clear hblk hx
      go_wp2
      go_roundw
      case rel => exact ⟨k + 1, by omega, by go_num, by rw [← partS_set hr.len Hx.out hlt]; exact heap_setCell_same wr w.heap.size k _ _ _ Hblk.out, hbel.setCell (by simp) _⟩
      case measure => simp [intOf]; omega
    · have hkn : k = n := by omega
      rw [hkn, partS_all hr.len] at hblk
      have Hblk := hide hblk
      clear hblk hkn
      go_wp2
      go_ret
      exact ⟨rfl, Hblk.out, hbel⟩

theorem l_eqStringS (A A' : Option Addr) (n n' c c' : Nat) (xs ys : List ByteArray) (B B' : Nat) (w : World) (hr : Rd w B A n (xs.map Value.string)) (hr' : Rd w B' A' n' (ys.map Value.string)) (hm : n ≤ 9223372036854775807) (hm' : n' ≤ 9223372036854775807) :
    Calls Try.prog 42 #[.slice A n c, .slice A' n' c'] w fun e w' => e = .returned (.bool (decide (xs = ys))) ∧ Below w.heap.size w w' := by
  by_cases hnn : n = n'
  · subst hnn
    go_enter Try.func42, Try.ntmps42
    go_wp2
    go_loopw [5] (fun i wr => ∃ k m : Nat, k ≤ n ∧ i = .int .i64 k ∧ Hid (xs.take k = ys.take k) ∧ wr = w.drewN m) (fun i _ => n - (intOf i).toNat)
    case atStart => exact ⟨0, 0, by omega, rfl, hide rfl, rfl⟩
    case round =>
      obtain ⟨k, m, hk, rfl, Hno, rfl⟩ := hrel
      by_cases hlt : k < n
      · obtain ⟨b, off, x, hA, hb, hx, hc⟩ := hr.get hlt
        obtain ⟨b', off', y, hA', hb', hy, hc'⟩ := hr'.get hlt
        subst hA hA'
        have Hx := hide hx
        have Hy := hide hy
        clear hx hy
        by_cases he : x = y
        · have he1 : (x.toList != y.toList) = false := by rw [he]; simp
          go_wp2
          go_quiet (fail)
          go_wp2
          exact ⟨⟨k + 1, _, by omega, by go_num, hide (by rw [take_snoc Hx.out, take_snoc Hy.out, Hno.out, he]), rfl⟩, by simp [intOf]; omega⟩
        · have he2 : (x.toList == y.toList) = false := by rw [bytes_beq]; simpa using he
          have he1 : (x.toList != y.toList) = true := by rw [bne_iff_ne]; intro h; exact he (by simpa [bytes_beq] using beq_iff_eq.2 h)
          have hxy : decide (xs = ys) = false := by
            rw [decide_eq_false_iff_not]
            rintro rfl
            have h1 := Hx.out
            rw [Hy.out] at h1
            injection h1 with h1
            exact he h1.symm
          have Hxy := hide hxy
          clear hxy
          go_wp2
          go_quiet (fail)
          go_wp2
          go_ret
          exact ⟨ret_bool Hxy.out.symm, below_drewN (below_drewN (Below.refl _ _) _) _⟩
      · have hxy : decide (xs = ys) = true := by
          rw [decide_eq_true_eq]
          have h := Hno.out
          rw [List.take_of_length_le (by have := hr.len; omega), List.take_of_length_le (by have := hr'.len; omega)] at h
          exact h
        have Hxy := hide hxy
        clear hxy
        go_wp2
        go_ret
        exact ⟨ret_bool Hxy.out.symm, below_drewN (Below.refl _ _) _⟩
  · have hne : ((n : Int) != (n' : Int)) = true := by rw [bne_iff_ne]; omega
    have hxy : decide (xs = ys) = false := by rw [decide_eq_false_iff_not]; rintro rfl; exact hnn (hr.len.symm.trans hr'.len)
    have Hxy := hide hxy
    clear hxy
    go_enter Try.func42, Try.ntmps42
    go_wp2
    go_ret
    exact ⟨ret_bool Hxy.out.symm, Below.refl _ _⟩
end Go.Proofs.Ytaihdnlpdibkoaa
