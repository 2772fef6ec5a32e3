/- Several texts of one proof in one file: Slices of texts: sizes, copies, comparisons, searches. Slices of things of several cells, read as lists, with the blocks that they own. Plain: no program. What the walks of the exact laws share: boxes of parameters, cells that every later world keeps. Plain: no program. Conditions: each theorem names its own. -/
import Derived.Test.YthlhhnnlbpecnaaGreatGcsaa
import Derived.Deep.OwnRows
import Derived.Deep.QuietTactic
import Derived.BigQuiet
import Derived.Laws.MakeOwn
import Derived.Deep.RegionHeld3
import Derived.Sort.AtCall

/- Slices of texts: sizes, copies, comparisons, searches. Conditions: the texts' lengths and the slice's length fit an int; a copy is asked of at most 2^20 texts. -/
namespace Go.Proofs.YthlhhnnlbpecnaaGreat
set_option linter.unusedSimpArgs false
set_option linter.unusedVariables false
set_option maxRecDepth 100000
open Go.RowKit

/-- The lengths of texts together, and one for each. -/
def bulkS : List ByteArray → Int
  | [] => 0
  | x :: r => x.size + bulkS r
theorem bulkS_nonneg : ∀ xs : List ByteArray, 0 ≤ bulkS xs
  | [] => Int.le_refl _
  | x :: r => by have := bulkS_nonneg r; simp only [bulkS]; omega
theorem bulkS_append (xs ys : List ByteArray) : bulkS (xs ++ ys) = bulkS xs + bulkS ys := by
  induction xs with
  | nil => simp [bulkS]
  | cons x r ih => simp only [List.cons_append, bulkS, ih]; omega
theorem bulkS_snoc (xs : List ByteArray) (x : ByteArray) : bulkS (xs ++ [x]) = bulkS xs + x.size := by rw [bulkS_append]; simp [bulkS]
theorem bulkS_take_le (xs : List ByteArray) (k : Nat) : bulkS (xs.take k) ≤ bulkS xs := by
  have h := bulkS_append (xs.take k) (xs.drop k)
  rw [List.take_append_drop] at h
  have := bulkS_nonneg (xs.drop k)
  omega
theorem bulkS_mem {xs : List ByteArray} {x : ByteArray} (h : x ∈ xs) : (x.size : Int) ≤ bulkS xs := by
  induction xs with
  | nil => cases h
  | cons y r ih =>
    simp only [bulkS]
    rcases List.mem_cons.1 h with rfl | h
    · have := bulkS_nonneg r; omega
    · have := ih h; omega

/-- Where a text stands first; -1 if it does not. -/
def idxS (xs : List ByteArray) (s : ByteArray) : Int := match xs.findIdx? (fun x => x.toList == s.toList) with | some i => (i : Int) | none => -1
theorem idxS_none {xs : List ByteArray} {s : ByteArray} (h : hasS xs s = false) : idxS xs s = -1 := by
  unfold idxS
  rw [List.findIdx?_eq_none_iff.2 (fun x hx => by unfold hasS at h; rw [List.any_eq_false] at h; simpa using h x hx)]
theorem idxS_hit {xs : List ByteArray} {s x : ByteArray} {k : Nat} (hx : xs[k]? = some x) (he : (x.toList == s.toList) = true) (hno : hasS (xs.take k) s = false) : idxS xs s = k := by
  unfold idxS
  obtain ⟨hk, rfl⟩ := List.getElem?_eq_some_iff.1 hx
  rw [(List.findIdx?_eq_some_iff_getElem).2 ⟨hk, he, fun j hj => ?_⟩]
  unfold hasS at hno
  rw [List.any_eq_false] at hno
  exact hno _ (by rw [List.mem_take_iff_getElem]; exact ⟨j, by omega, rfl⟩)

theorem l_szStringS (A : Option Addr) (n c : Nat) (L : Int) (xs : List ByteArray) (B : Nat) (w : World) (hr : Rd w B A n (xs.map Value.string)) (hm : n ≤ 9223372036854775807) (hs : ∀ x ∈ xs, x.size ≤ maxLen) (h0 : 0 ≤ L) (h1 : L ≤ 1048576) :
    Calls Tryz.prog 62 #[.slice A n c, .int .i64 L] w fun e w' => Sized (n + bulkS xs) L e ∧ w = w' := by
  by_cases hn : L < n
  · go_enter Tryz.func62, Tryz.ntmps62
    go_wp2
    go_ret
    exact ⟨⟨-1, rfl, .inl rfl⟩, rfl⟩
  go_enter Tryz.func62, Tryz.ntmps62
  go_wp2
  go_loop [1, 5] (fun l i => ∃ k : Nat, k ≤ n ∧ i = .int .i64 k ∧ l = .int .i64 (L - n - bulkS (xs.take k)) ∧ 0 ≤ L - n - bulkS (xs.take k)) (fun _ i => n - (intOf i).toNat)
  case atStart => exact ⟨0, by omega, rfl, by simp [bulkS], by simp [bulkS]; omega⟩
  case round =>
    obtain ⟨k, hk, rfl, rfl, h2⟩ := hrel
    have hnn := bulkS_nonneg (xs.take k)
    generalize ht : bulkS (xs.take k) = t at *
    have Ht := hide ht
    clear ht
    by_cases hlt : k < n
    · obtain ⟨b, off, x, hA, hb, hx, hc⟩ := hr.get hlt
      subst hA
      have hsz := hs x (List.mem_of_getElem? hx)
      unfold maxLen at hsz
      have hsn := bulkS_snoc (xs.take k) x
      rw [← take_snoc hx, Ht.out] at hsn
      have Hsn := hide hsn
      clear hsn hx
      by_cases hbig : L - n - t < x.size
      · go_wp2
        go_ret
        exact ⟨⟨-1, rfl, .inl rfl⟩, rfl⟩
      · go_wp2
        go_round
        case rel => exact ⟨k + 1, by omega, by go_num, by rw [Hsn.out]; go_num, by rw [Hsn.out]; omega⟩
        case measure => simp [intOf]; omega
    · go_wp2
      go_ret
      refine ⟨⟨_, rfl, .inr ⟨h2, ?_⟩⟩, rfl⟩
      have h := Ht.out
      rw [List.take_of_length_le (by have := hr.len; omega)] at h
      omega

/-- Cells of texts, the first k of them filled. -/
def partS (xs : List ByteArray) (n k : Nat) : List Value := (xs.take k).map Value.string ++ List.replicate (n - k) (.string ByteArray.empty)
theorem partS_len {xs : List ByteArray} {n k : Nat} (hl : xs.length = n) (hk : k ≤ n) : (partS xs n k).length = n := by simp [partS]; omega
theorem partS_zero (xs : List ByteArray) (n : Nat) : (partS xs n 0).toArray = madeCells #[.string ByteArray.empty] n := by
  apply Array.ext_getElem?
  intro i
  by_cases h : i < n
  · simp [partS, madeCells, h, Nat.mod_one]
  · simp [partS, madeCells, h]
theorem partS_at {xs : List ByteArray} {n k : Nat} (hl : xs.length = n) (hk : k < n) : (partS xs n k)[k]? = some (.string ByteArray.empty) := by
  have hlen : ((xs.take k).map Value.string).length = k := by simp; omega
  unfold partS
  generalize (xs.take k).map Value.string = l at hlen
  subst hlen
  rw [List.getElem?_append_right (Nat.le_refl _), Nat.sub_self, List.getElem?_replicate, if_pos (by omega)]
theorem partS_set {xs : List ByteArray} {n k : Nat} {x : ByteArray} (hl : xs.length = n) (hx : xs[k]? = some x) (hk : k < n) : (partS xs n k).toArray.setIfInBounds k (.string x) = (partS xs n (k + 1)).toArray := by
  have hlen : ((xs.take k).map Value.string).length = k := by simp; omega
  have e : n - k = (n - (k + 1)) + 1 := by omega
  unfold partS
  rw [take_snoc hx, List.map_append, e, List.replicate_succ]
  generalize (xs.take k).map Value.string = l at hlen
  clear hx
  subst hlen
  simp
theorem partS_all {xs : List ByteArray} {n : Nat} (hl : xs.length = n) : partS xs n n = xs.map Value.string := by
  unfold partS
  rw [List.take_of_length_le (by omega)]
  simp
theorem l_toStringS (A : Option Addr) (n c : Nat) (xs : List ByteArray) (B : Nat) (w : World) (hr : Rd w B A n (xs.map Value.string)) (hm : n ≤ 1048576) (hB : B ≤ w.heap.size) :
    Calls Tryz.prog 76 #[.slice A n c] w fun e w' => e = .returned (.slice (some ⟨w.heap.size, 0, none⟩) n n) ∧ w'.heap[w.heap.size]? = some (.cells (xs.map Value.string).toArray 9 (0, 0)) ∧ Below w.heap.size w w' := by
  have hmk := run_make_row' (P := Tryz.prog) 46 9 (.string ByteArray.empty) 16 Tryz.underlying46 (by kernel_rfl) rfl .i64 .i64 n (by omega) (by omega)
  go_enter Tryz.func76, Tryz.ntmps76
  go_wp2
  go_loopw [4] (fun i wr => ∃ k : Nat, k ≤ n ∧ i = .int .i64 k ∧ wr.heap[w.heap.size]? = some (.cells (partS xs n k).toArray 9 (0, 0)) ∧ Below w.heap.size w wr) (fun i _ => n - (intOf i).toNat)
  case atStart => exact ⟨0, by omega, rfl, by rw [partS_zero]; exact heap_alloc_new w _, (Below.refl _ _).alloc (Nat.le_refl _) _⟩
  case round =>
    obtain ⟨k, hk, rfl, hblk, hbel⟩ := hrel
    by_cases hlt : k < n
    · obtain ⟨b, off, x, hA, hb, hx, hc⟩ := hr.get hlt
      subst hA
      have hc' : wr.cell? ⟨b, off + k, none⟩ = some (.string x) := (hbel.cell (by show b < _; omega)).trans hc
      have hcell : wr.cell? ⟨w.heap.size, k, none⟩ = some (.string ByteArray.empty) := by rw [cell_of_row _ _ k _ _ _ hblk]; simpa using partS_at hr.len hlt
      have hfz := frozen_of_row wr w.heap.size k _ _ hblk
      have Hblk := hide hblk
      have Hx := hide hx
      clear hblk hx
      go_wp2
      go_roundw
      case rel => exact ⟨k + 1, by omega, by go_num, by rw [← partS_set hr.len Hx.out hlt]; exact heap_setCell_same wr w.heap.size k _ _ _ Hblk.out, hbel.setCell (by simp) _⟩
      case measure => simp [intOf]; omega
    · have hkn : k = n := by omega
      rw [hkn, partS_all hr.len] at hblk
      have Hblk := hide hblk
      clear hblk hkn
      go_wp2
      go_ret
      exact ⟨rfl, Hblk.out, hbel⟩

theorem l_eqStringS (A A' : Option Addr) (n n' c c' : Nat) (xs ys : List ByteArray) (B B' : Nat) (w : World) (hr : Rd w B A n (xs.map Value.string)) (hr' : Rd w B' A' n' (ys.map Value.string)) (hm : n ≤ 9223372036854775807) (hm' : n' ≤ 9223372036854775807) :
    Calls Tryz.prog 96 #[.slice A n c, .slice A' n' c'] w fun e w' => e = .returned (.bool (decide (xs = ys))) ∧ Below w.heap.size w w' := by
  by_cases hnn : n = n'
  · subst hnn
    go_enter Tryz.func96, Tryz.ntmps96
    go_wp2
    go_loopw [5] (fun i wr => ∃ k m : Nat, k ≤ n ∧ i = .int .i64 k ∧ Hid (xs.take k = ys.take k) ∧ wr = w.drewN m) (fun i _ => n - (intOf i).toNat)
    case atStart => exact ⟨0, 0, by omega, rfl, hide rfl, rfl⟩
    case round =>
      obtain ⟨k, m, hk, rfl, Hno, rfl⟩ := hrel
      by_cases hlt : k < n
      · obtain ⟨b, off, x, hA, hb, hx, hc⟩ := hr.get hlt
        obtain ⟨b', off', y, hA', hb', hy, hc'⟩ := hr'.get hlt
        subst hA hA'
        have Hx := hide hx
        have Hy := hide hy
        clear hx hy
        by_cases he : x = y
        · have he1 : (x.toList != y.toList) = false := by rw [he]; simp
          go_wp2
          go_quiet (fail)
          go_wp2
          exact ⟨⟨k + 1, _, by omega, by go_num, hide (by rw [take_snoc Hx.out, take_snoc Hy.out, Hno.out, he]), rfl⟩, by simp [intOf]; omega⟩
        · have he2 : (x.toList == y.toList) = false := by rw [bytes_beq]; simpa using he
          have he1 : (x.toList != y.toList) = true := by rw [bne_iff_ne]; intro h; exact he (by simpa [bytes_beq] using beq_iff_eq.2 h)
          have hxy : decide (xs = ys) = false := by
            rw [decide_eq_false_iff_not]
            rintro rfl
            have h1 := Hx.out
            rw [Hy.out] at h1
            injection h1 with h1
            exact he h1.symm
          have Hxy := hide hxy
          clear hxy
          go_wp2
          go_quiet (fail)
          go_wp2
          go_ret
          exact ⟨ret_bool Hxy.out.symm, below_drewN (below_drewN (Below.refl _ _) _) _⟩
      · have hxy : decide (xs = ys) = true := by
          rw [decide_eq_true_eq]
          have h := Hno.out
          rw [List.take_of_length_le (by have := hr.len; omega), List.take_of_length_le (by have := hr'.len; omega)] at h
          exact h
        have Hxy := hide hxy
        clear hxy
        go_wp2
        go_ret
        exact ⟨ret_bool Hxy.out.symm, below_drewN (Below.refl _ _) _⟩
  · have hne : ((n : Int) != (n' : Int)) = true := by rw [bne_iff_ne]; omega
    have hxy : decide (xs = ys) = false := by rw [decide_eq_false_iff_not]; rintro rfl; exact hnn (hr.len.symm.trans hr'.len)
    have Hxy := hide hxy
    clear hxy
    go_enter Tryz.func96, Tryz.ntmps96
    go_wp2
    go_ret
    exact ⟨ret_bool Hxy.out.symm, Below.refl _ _⟩
end Go.Proofs.YthlhhnnlbpecnaaGreat

/- Slices of things of several cells, read as lists, with the blocks that they own. Plain: no program. -/
namespace Go.Proofs.YthlhhnnlbpecnaaGreat
set_option linter.unusedSimpArgs false
set_option linter.unusedVariables false
set_option maxRecDepth 100000
open Go.RowKit

/-- How a thing lies: the world, the thing, its own cells, the blocks that it owns beyond them. -/
abbrev CR (α : Type) := World → α → List Value → List Nat → Prop
structure Good {α : Type} (n : Nat) (R : CR α) : Prop where
  len : ∀ {w x cs F}, R w x cs F → cs.length = n
  frame : ∀ {w w' x cs F}, R w x cs F → (∀ b ∈ F, w'.heap[b]? = w.heap[b]?) → w.heap.size ≤ w'.heap.size → R w' x cs F
  lt : ∀ {w x cs F}, R w x cs F → ∀ b ∈ F, b < w.heap.size

/-- The elements of a row, from an offset on. -/
def ElR {α : Type} (n : Nat) (R : CR α) (w : World) (b : Nat) : Nat → List α → List Nat → Prop
  | _, [], F => F = []
  | off, x :: r, F => ∃ cs F1 F2, F = F1 ++ F2 ∧ CellsAt w b off cs ∧ R w x cs F1 ∧ ElR n R w b (off + n) r F2

/-- A slice value that holds the list xs; F: the blocks that it owns. -/
def SlR {α : Type} (n : Nat) (R : CR α) (w : World) (xs : List α) (v : Value) (F : List Nat) : Prop :=
  ∃ A cap, v = .slice A xs.length cap ∧ xs.length ≤ cap ∧ cap ≤ maxLen ∧
    ((xs = [] ∧ F = []) ∨ ∃ b off F', A = some ⟨b, off, none⟩ ∧ b < w.heap.size ∧ F = b :: F' ∧ ElR n R w b off xs F')

section
variable {α : Type} {n : Nat} {R : CR α}
theorem ElR.frame (hR : Good n R) {w w' : World} {b : Nat} (hb : w'.heap[b]? = w.heap[b]?) (hz : w.heap.size ≤ w'.heap.size) : ∀ {xs : List α} {off : Nat} {F : List Nat}, ElR n R w b off xs F → (∀ k ∈ F, w'.heap[k]? = w.heap[k]?) → ElR n R w' b off xs F
  | [], _, _, h, _ => h
  | x :: r, off, F, h, hk => by
    obtain ⟨cs, F1, F2, rfl, h1, h2, h3⟩ := h
    exact ⟨cs, F1, F2, rfl, h1.frame hb, hR.frame h2 (fun k hk' => hk k (by simp [hk'])) hz, ElR.frame hR hb hz h3 (fun k hk' => hk k (by simp [hk']))⟩
theorem ElR.lt (hR : Good n R) {w : World} {b : Nat} : ∀ {xs : List α} {off : Nat} {F : List Nat}, ElR n R w b off xs F → ∀ k ∈ F, k < w.heap.size
  | [], _, _, h, k, hk => by
    rw [show (_ : List Nat) = [] from h] at hk
    cases hk
  | x :: r, off, F, h, k, hk => by
    obtain ⟨cs, F1, F2, rfl, h1, h2, h3⟩ := h
    rcases List.mem_append.1 hk with hk | hk
    · exact hR.lt h2 k hk
    · exact ElR.lt hR h3 k hk
theorem ElR.get (hR : Good n R) {w : World} {b : Nat} : ∀ {xs : List α} {off : Nat} {F : List Nat} {k : Nat} {x : α}, ElR n R w b off xs F → xs[k]? = some x →
    ∃ cs F1 Fk F2, F = F1 ++ (Fk ++ F2) ∧ CellsAt w b (off + k * n) cs ∧ R w x cs Fk ∧ ElR n R w b off (xs.take k) F1 ∧ ElR n R w b (off + (k + 1) * n) (xs.drop (k + 1)) F2
  | [], _, _, _, _, _, hk => by cases hk
  | y :: r, off, F, 0, x, h, hk => by
    obtain ⟨cs, F1, F2, rfl, h1, h2, h3⟩ := h
    simp at hk
    subst hk
    exact ⟨cs, [], F1, F2, rfl, by simpa using h1, h2, rfl, by simpa using h3⟩
  | y :: r, off, F, k + 1, x, h, hk => by
    obtain ⟨cs, F1, F2, rfl, h1, h2, h3⟩ := h
    obtain ⟨cs', G1, Gk, G2, rfl, g1, g2, g3, g4⟩ := ElR.get hR h3 (by simpa using hk)
    refine ⟨cs', F1 ++ G1, Gk, G2, by simp, ?_, g2, ⟨cs, F1, G1, rfl, h1, h2, g3⟩, ?_⟩
    · rw [show off + (k + 1) * n = off + n + k * n by rw [Nat.add_mul]; omega]; exact g1
    · rw [show off + (k + 1 + 1) * n = off + n + (k + 1) * n by rw [Nat.add_mul (k + 1)]; omega]; simpa using g4
theorem ElR.append {w : World} {b : Nat} : ∀ {xs : List α} {off : Nat} {F : List Nat} {ys : List α} {G : List Nat}, ElR n R w b off xs F → ElR n R w b (off + xs.length * n) ys G → ElR n R w b off (xs ++ ys) (F ++ G)
  | [], off, F, ys, G, h, g => by
    rw [show F = [] from h]
    simpa using g
  | x :: r, off, F, ys, G, h, g => by
    obtain ⟨cs, F1, F2, rfl, h1, h2, h3⟩ := h
    refine ⟨cs, F1, F2 ++ G, by simp, h1, h2, ElR.append h3 ?_⟩
    rw [List.length_cons, Nat.add_mul] at g
    rw [show off + n + r.length * n = off + (r.length * n + 1 * n) by omega]
    exact g
theorem ElR.one {w : World} {b off : Nat} {x : α} {cs : List Value} {F : List Nat} (h1 : CellsAt w b off cs) (h2 : R w x cs F) : ElR n R w b off [x] F := ⟨cs, F, [], by simp, h1, h2, rfl⟩
theorem ElR.snoc {w : World} {b off : Nat} {xs : List α} {x : α} {cs : List Value} {F G : List Nat} (h : ElR n R w b off xs F) (h1 : CellsAt w b (off + xs.length * n) cs) (h2 : R w x cs G) : ElR n R w b off (xs ++ [x]) (F ++ G) :=
  h.append (ElR.one h1 h2)

theorem SlR.frame (hR : Good n R) {w w' : World} {xs : List α} {v : Value} {F : List Nat} (h : SlR n R w xs v F) (hk : ∀ k ∈ F, w'.heap[k]? = w.heap[k]?) (hz : w.heap.size ≤ w'.heap.size) : SlR n R w' xs v F := by
  obtain ⟨A, cap, hv, hl, hm, h⟩ := h
  refine ⟨A, cap, hv, hl, hm, ?_⟩
  rcases h with h | ⟨b, off, F', hA, hb, rfl, he⟩
  · exact .inl h
  · exact .inr ⟨b, off, F', hA, by omega, rfl, ElR.frame hR (hk b (by simp)) hz he (fun k hk' => hk k (by simp [hk']))⟩
theorem SlR.lt (hR : Good n R) {w : World} {xs : List α} {v : Value} {F : List Nat} (h : SlR n R w xs v F) : ∀ k ∈ F, k < w.heap.size := by
  obtain ⟨A, cap, hv, hl, hm, h⟩ := h
  rcases h with ⟨_, rfl⟩ | ⟨b, off, F', hA, hb, rfl, he⟩
  · intro k hk; cases hk
  · intro k hk
    rcases List.mem_cons.1 hk with rfl | hk
    · exact hb
    · exact ElR.lt hR he k hk
/-- The value's form. -/
theorem SlR.form {w : World} {xs : List α} {v : Value} {F : List Nat} (h : SlR n R w xs v F) : ∃ A cap, v = .slice A xs.length cap ∧ xs.length ≤ cap ∧ cap ≤ maxLen := by
  obtain ⟨A, cap, hv, hl, hm, _⟩ := h
  exact ⟨A, cap, hv, hl, hm⟩
theorem SlR.bnd {w : World} {xs : List α} {A : Option Addr} {len cap : Nat} {F : List Nat} (h : SlR n R w xs (.slice A len cap) F) : len = xs.length ∧ xs.length ≤ cap ∧ cap ≤ maxLen := by
  obtain ⟨A', cap', hv, hl, hm⟩ := h.form
  injection hv with _ h2 h3
  subst h2 h3
  exact ⟨rfl, hl, hm⟩
/-- Element k, by its cells. -/
theorem SlR.get (hR : Good n R) {w : World} {xs : List α} {A : Option Addr} {l cap : Nat} {F : List Nat} {k : Nat} {x : α} (h : SlR n R w xs (.slice A l cap) F) (hk : xs[k]? = some x) :
    ∃ b off cs Fk, A = some ⟨b, off, none⟩ ∧ b < w.heap.size ∧ b ∈ F ∧ (∀ j ∈ Fk, j ∈ F) ∧ cs.length = n ∧ CellsAt w b (off + k * n) cs ∧ R w x cs Fk := by
  obtain ⟨A', cap', hv, hl, hm, h⟩ := h
  injection hv with hA _ _
  subst hA
  rcases h with ⟨rfl, _⟩ | ⟨b, off, F', hA, hb, rfl, he⟩
  · cases hk
  · obtain ⟨cs, F1, Fk, F2, rfl, h1, h2, _, _⟩ := ElR.get hR he hk
    exact ⟨b, off, cs, Fk, hA, hb, by simp, fun j hj => by simp [hj], hR.len h2, h1, h2⟩
end

theorem ElR.build {α : Type} {n : Nat} {R : CR α} {w : World} {b off : Nat} : ∀ len : Nat, (∀ i, i < len → ∃ x cs F, CellsAt w b (off + i * n) cs ∧ R w x cs F) → ∃ xs F, xs.length = len ∧ ElR n R w b off xs F
  | 0, _ => ⟨[], [], rfl, rfl⟩
  | len + 1, h => by
    obtain ⟨xs, F, hl, he⟩ := ElR.build len (fun i hi => h i (by omega))
    obtain ⟨x, cs, G, h1, h2⟩ := h len (by omega)
    exact ⟨xs ++ [x], F ++ G, by simp [hl], he.snoc (by rw [hl]; exact h1) h2⟩
theorem ElR.mono {α : Type} {n : Nat} {R R' : CR α} {w : World} {b : Nat} (hR : ∀ x cs F, R w x cs F → R' w x cs F) : ∀ {xs : List α} {off : Nat} {F : List Nat}, ElR n R w b off xs F → ElR n R' w b off xs F
  | [], _, _, h => h
  | x :: r, off, F, h => by
    obtain ⟨cs, F1, F2, rfl, h1, h2, h3⟩ := h
    exact ⟨cs, F1, F2, rfl, h1, hR _ _ _ h2, ElR.mono hR h3⟩
theorem SlR.mono {α : Type} {n : Nat} {R R' : CR α} {w : World} {xs : List α} {v : Value} {F : List Nat} (hR : ∀ x cs F, R w x cs F → R' w x cs F) (h : SlR n R w xs v F) : SlR n R' w xs v F := by
  obtain ⟨A, cap, hv, hl, hm, h⟩ := h
  refine ⟨A, cap, hv, hl, hm, ?_⟩
  rcases h with h | ⟨b, off, F', hA, hb, rfl, he⟩
  · exact .inl h
  · exact .inr ⟨b, off, F', hA, hb, rfl, he.mono hR⟩

section
variable {H : Type} {enc : TypeId × Value → H} {P : Program} {w : World} {base fuel : Nat} {sp : Nat → Bool} {held : Bool}
/-- A slice that came in, if each of its elements can be read. -/
theorem open_SlR {α : Type} {t e n : Nat} {cs : List Value} {x : DataW H × List MemPlace} (ht : P.underlying t = some (.slice e)) (hC : P.cellsOf e = n) (hn : 0 < n) (R : CR α) (h : DataW.trod enc P w base sp held fuel t cs = some x)
    (hel : ∀ m cs y, m < fuel → DataW.trod enc P w base sp held m e cs = some y → ∃ z F, R w z cs F) : ∃ xs v F, cs = [v] ∧ SlR n R w xs v F := by
  rcases DataW.trod_slice ht h with ⟨hcs, _⟩ | ⟨a, len, cap, elems, rest, m, hfu, hcs, _, hb, hl, hm, hlen, hi, _, _⟩
  · exact ⟨[], _, [], hcs, none, 0, rfl, Nat.le_refl _, by simp [maxLen], .inl ⟨rfl, rfl⟩⟩
  · rcases Nat.eq_zero_or_pos len with h0 | hpos
    · subst h0
      exact ⟨[], _, [], hcs, some a, cap, rfl, by simp, hm, .inl ⟨rfl, rfl⟩⟩
    · have hget : ∀ i, i < len → ∃ cs' z F, w.cells? base (a.add (i * n)) n = some cs' ∧ R w z cs' F := by
        intro i hil
        have h1 := hi i hil
        rw [List.getElem?_eq_getElem (by omega), hC] at h1
        obtain ⟨cs', hc, ht'⟩ := Option.bind_eq_some_iff.1 h1
        obtain ⟨z, F, hz⟩ := hel m cs' _ (by omega) ht'
        exact ⟨cs', z, F, hc, hz⟩
      obtain ⟨c0, _, _, hc0, _⟩ := hget 0 hpos
      obtain ⟨_, hl0, hat0⟩ := World.cells?_some hc0
      have hcell0 := hat0 0 hn
      rw [List.getElem?_eq_getElem (by omega)] at hcell0
      have hspot := cell_spot hcell0
      have hblt := cell_lt hcell0
      obtain ⟨b, off, spot⟩ := a
      simp [Addr.add] at hspot hblt
      subst hspot
      obtain ⟨xs, F, hxl, he⟩ := ElR.build (n := n) (R := R) (w := w) (b := b) (off := off) len (fun i hil => by
        obtain ⟨cs', z, F, hc, hz⟩ := hget i hil
        obtain ⟨_, hl', hat⟩ := World.cells?_some hc
        refine ⟨z, cs', F, fun j u hu => ?_, hz⟩
        have hj : j < n := by have := (List.getElem?_eq_some_iff.1 hu).1; omega
        have h2 := hat j hj
        rw [hu] at h2
        have e : ((⟨b, off, none⟩ : Addr).add (i * n)).add j = ⟨b, off + i * n + j, none⟩ := by
          unfold Addr.add
          by_cases h1 : i * n = 0 <;> by_cases h3 : j = 0 <;> simp [h1, h3]
        rw [e] at h2
        exact h2)
      refine ⟨xs, _, b :: F, hcs, some ⟨b, off, none⟩, cap, by rw [hxl], by omega, hm, .inr ⟨b, off, F, rfl, hblt, rfl, he⟩⟩
end

/-! ### Sums over lists -/
def sumBy {α : Type} (f : α → Int) : List α → Int
  | [] => 0
  | x :: r => f x + sumBy f r
theorem sumBy_append {α : Type} (f : α → Int) (xs ys : List α) : sumBy f (xs ++ ys) = sumBy f xs + sumBy f ys := by
  induction xs with
  | nil => simp [sumBy]
  | cons x r ih => simp only [List.cons_append, sumBy, ih]; omega
theorem sumBy_snoc {α : Type} (f : α → Int) (xs : List α) (x : α) : sumBy f (xs ++ [x]) = sumBy f xs + f x := by rw [sumBy_append]; simp [sumBy]
theorem sumBy_nonneg {α : Type} {f : α → Int} (hf : ∀ x, 0 ≤ f x) : ∀ xs : List α, 0 ≤ sumBy f xs
  | [] => Int.le_refl _
  | x :: r => by have := sumBy_nonneg hf r; have := hf x; simp only [sumBy]; omega
theorem sumBy_take_succ {α : Type} {f : α → Int} {xs : List α} {k : Nat} {x : α} (hx : xs[k]? = some x) : sumBy f (xs.take (k + 1)) = sumBy f (xs.take k) + f x := by rw [take_snoc hx, sumBy_snoc]
theorem sumBy_take_le {α : Type} {f : α → Int} (hf : ∀ x, 0 ≤ f x) (xs : List α) (k : Nat) : sumBy f (xs.take k) ≤ sumBy f xs := by
  have h := sumBy_append f (xs.take k) (xs.drop k)
  rw [List.take_append_drop] at h
  have := sumBy_nonneg hf (xs.drop k)
  omega
theorem sumBy_mem {α : Type} {f : α → Int} (hf : ∀ x, 0 ≤ f x) {xs : List α} {x : α} (h : x ∈ xs) : f x ≤ sumBy f xs := by
  induction xs with
  | nil => cases h
  | cons y r ih =>
    simp only [sumBy]
    rcases List.mem_cons.1 h with rfl | h
    · have := sumBy_nonneg hf r; omega
    · have := ih h; have := hf y; omega

theorem Good.heap {α : Type} {n : Nat} {R : CR α} (hR : Good n R) {w w' : World} {x : α} {cs : List Value} {F : List Nat} (h : R w x cs F) (he : w'.heap = w.heap) : R w' x cs F :=
  hR.frame h (fun k _ => by rw [he]) (by rw [he]; exact Nat.le_refl _)
theorem SlR.heap {α : Type} {n : Nat} {R : CR α} (hR : Good n R) {w w' : World} {xs : List α} {v : Value} {F : List Nat} (h : SlR n R w xs v F) (he : w'.heap = w.heap) : SlR n R w' xs v F :=
  h.frame hR (fun k _ => by rw [he]) (by rw [he]; exact Nat.le_refl _)
/-- A thing below a block number stands where it stood. -/
theorem Good.below {α : Type} {n : Nat} {R : CR α} (hR : Good n R) {w w' : World} {x : α} {cs : List Value} {F : List Nat} {B : Nat} (h : R w x cs F) (hb : Below B w w') (hF : ∀ k ∈ F, k < B) : R w' x cs F :=
  hR.frame h (fun k hk => hb.block k (hF k hk)) hb.size
theorem SlR.below {α : Type} {n : Nat} {R : CR α} (hR : Good n R) {w w' : World} {xs : List α} {v : Value} {F : List Nat} {B : Nat} (h : SlR n R w xs v F) (hb : Below B w w') (hF : ∀ k ∈ F, k < B) : SlR n R w' xs v F :=
  h.frame hR (fun k hk => hb.block k (hF k hk)) hb.size

/-- 'make([]T, n)', T of several cells. -/
theorem run_make_rowN' {P : Program} (t e : TypeId) (z : Value) (size bytes : Nat) (ht : P.underlying t = some (.slice e)) (hinfo : (P.info? e).map (fun i => (i.zero, i.size, i.bytes)) = some (some z, size, bytes))
    (kl kc : IntKind) (n : Nat) (hbytes : bytes * n ≤ 281474976710656) (h63 : n ≤ 9223372036854775807) (w : World) :
    (Instr.makeSlice t (.int kl (n : Int)) (.int kc (n : Int))).run P w = .ok (.slice (some ⟨w.heap.size, 0, none⟩) n n) (w.alloc (.cells (madeCells z.cells (n * size)) e)) := by
  obtain ⟨i, hi, hzz⟩ := Option.map_eq_some_iff.1 hinfo
  simp only [Prod.mk.injEq] at hzz
  obtain ⟨hz, hs, hb⟩ := hzz
  have hb' : (i.bytes : Int) * (n : Int) ≤ 281474976710656 := by
    have h : ((i.bytes * n : Nat) : Int) ≤ 281474976710656 := by rw [hb]; omega
    rwa [Int.natCast_mul] at h
  have hr := run_make (P := P) w t e i z ht hi hz kl kc n n (by omega) (Int.le_refl _) hb' (by omega)
  simp only [Int.toNat_natCast, hs] at hr
  exact hr

/-- Seven cells of a block of the call's own: there, and not frozen. -/
theorem cells7_of {w : World} {b o : Nat} {cs : Array Value} {t : TypeId} (h : w.heap[b]? = some (.cells cs t (0, 0))) (ho : o + 7 ≤ cs.size) :
    ∃ v0 v1 v2 v3 v4 v5 v6, (w.cell? ⟨b, o, none⟩ = some v0 ∧ w.cell? ⟨b, o + 1, none⟩ = some v1 ∧ w.cell? ⟨b, o + 2, none⟩ = some v2 ∧ w.cell? ⟨b, o + 3, none⟩ = some v3 ∧ w.cell? ⟨b, o + 4, none⟩ = some v4 ∧
      w.cell? ⟨b, o + 5, none⟩ = some v5 ∧ w.cell? ⟨b, o + 6, none⟩ = some v6) ∧
      (w.frozen? ⟨b, o, none⟩ = false ∧ w.frozen? ⟨b, o + 1, none⟩ = false ∧ w.frozen? ⟨b, o + 2, none⟩ = false ∧ w.frozen? ⟨b, o + 3, none⟩ = false ∧ w.frozen? ⟨b, o + 4, none⟩ = false ∧ w.frozen? ⟨b, o + 5, none⟩ = false ∧ w.frozen? ⟨b, o + 6, none⟩ = false) := by
  have hc : ∀ i, i < 7 → w.cell? ⟨b, o + i, none⟩ = some (cs.getD (o + i) undef) := fun i hi => by
    rw [cell_of_row _ _ _ _ _ _ h]
    have : o + i < cs.size := by omega
    simp [Array.getD, this]
  exact ⟨_, _, _, _, _, _, _, ⟨hc 0 (by omega), hc 1 (by omega), hc 2 (by omega), hc 3 (by omega), hc 4 (by omega), hc 5 (by omega), hc 6 (by omega)⟩,
    frozen_of_row _ _ _ _ _ h, frozen_of_row _ _ _ _ _ h, frozen_of_row _ _ _ _ _ h, frozen_of_row _ _ _ _ _ h, frozen_of_row _ _ _ _ _ h, frozen_of_row _ _ _ _ _ h, frozen_of_row _ _ _ _ _ h⟩

/-! ### A struct stored into a row -/
def putCells (w : World) (b : Nat) : Nat → List Value → World
  | _, [] => w
  | o, v :: r => putCells (w.setCell ⟨b, o, none⟩ v) b (o + 1) r
structure Put (w : World) (b o : Nat) (vs : List Value) (cs : Array Value) (t : TypeId) (w' : World) : Prop where
  blk : ∃ cs', w'.heap[b]? = some (.cells cs' t (0, 0)) ∧ cs'.size = cs.size ∧ (∀ i, i < o ∨ o + vs.length ≤ i → cs'[i]? = cs[i]?) ∧ (∀ j u, vs[j]? = some u → cs'[o + j]? = some u)
  far : ∀ k, k ≠ b → w'.heap[k]? = w.heap[k]?
  size : w'.heap.size = w.heap.size
  os : w'.os = w.os
  tape : w'.tape = w.tape
  output : w'.output = w.output
theorem put_spec {b : Nat} {t : TypeId} : ∀ (vs : List Value) (o : Nat) (w : World) (cs : Array Value), w.heap[b]? = some (.cells cs t (0, 0)) → o + vs.length ≤ cs.size → Put w b o vs cs t (putCells w b o vs)
  | [], o, w, cs, h, _ => ⟨⟨cs, h, rfl, fun _ _ => rfl, fun j u hu => by cases hu⟩, fun _ _ => rfl, rfl, rfl, rfl, rfl⟩
  | v :: r, o, w, cs, h, hz => by
    have h1 : (w.setCell ⟨b, o, none⟩ v).heap[b]? = some (.cells (cs.setIfInBounds o v) t (0, 0)) := heap_setCell_same w b o cs t v h
    rw [List.length_cons] at hz
    obtain ⟨⟨cs', hb, hs, hout, hin⟩, hf, hsz, h2, h3, h4⟩ := put_spec r (o + 1) (w.setCell ⟨b, o, none⟩ v) _ h1 (by simp; omega)
    refine ⟨⟨cs', hb, by simpa using hs, fun i hi => ?_, fun j u hu => ?_⟩, fun k hk => (hf k hk).trans (heap_setCell_other w _ k v (by simpa using hk)), hsz.trans (by simp [World.setCell]), h2, h3, h4⟩
    · rw [List.length_cons] at hi
      rw [hout i (by omega), Array.getElem?_setIfInBounds]
      rw [if_neg (by omega)]
    · cases j with
      | zero =>
        simp at hu
        subst hu
        rw [hout (o + 0) (by omega), Array.getElem?_setIfInBounds]
        simp
        omega
      | succ j =>
        have := hin j u (by simpa using hu)
        rw [show o + (j + 1) = o + 1 + j by omega]
        exact this
theorem Put.cellsAt {w w' : World} {b o : Nat} {vs : List Value} {cs : Array Value} {t : TypeId} (h : Put w b o vs cs t w') : CellsAt w' b o vs := fun j u hu => by
  obtain ⟨cs', hb, _, _, hin⟩ := h.blk
  rw [cell_of_row _ _ _ _ _ _ hb]
  exact hin j u hu
theorem Put.keeps {w w' : World} {b o : Nat} {vs : List Value} {cs : Array Value} {t : TypeId} (h : Put w b o vs cs t w') (hb0 : w.heap[b]? = some (.cells cs t (0, 0))) {o' : Nat} {us : List Value} (hu : CellsAt w b o' us) (hd : o' + us.length ≤ o ∨ o + vs.length ≤ o') : CellsAt w' b o' us := fun j u hj => by
  obtain ⟨cs', hb, _, hout, _⟩ := h.blk
  have h1 := hu j u hj
  rw [cell_of_row _ _ _ _ _ _ hb0] at h1
  rw [cell_of_row _ _ _ _ _ _ hb, hout (o' + j) (by have := (List.getElem?_eq_some_iff.1 hj).1; omega)]
  exact h1
theorem Put.below {w w' : World} {b o : Nat} {vs : List Value} {cs : Array Value} {t : TypeId} (h : Put w b o vs cs t w') {B : Nat} (hB : B ≤ b) : Below B w w' :=
  ⟨h.os, h.tape, h.output, by rw [h.size]; exact Nat.le_refl _, fun k hk => h.far k (by omega)⟩
/-- Elements that lie ahead of a stored one. -/
theorem ElR.put {α : Type} {n : Nat} {R : CR α} (hR : Good n R) {w w' : World} {b o : Nat} {vs : List Value} {cs : Array Value} {t : TypeId} (h : Put w b o vs cs t w') (hb0 : w.heap[b]? = some (.cells cs t (0, 0))) :
    ∀ {xs : List α} {off : Nat} {F : List Nat}, ElR n R w b off xs F → off + xs.length * n ≤ o ∨ o + vs.length ≤ off → b ∉ F → ElR n R w' b off xs F
  | [], _, _, hE, _, _ => hE
  | x :: r, off, F, hE, hd, hF => by
    obtain ⟨cs1, F1, F2, rfl, h1, h2, h3⟩ := hE
    simp only [List.mem_append, not_or] at hF
    rw [List.length_cons, Nat.add_mul] at hd
    have hl := hR.len h2
    exact ⟨cs1, F1, F2, rfl, h.keeps hb0 h1 (by omega), hR.frame h2 (fun k hk => h.far k (fun e => hF.1 (e ▸ hk))) (by rw [h.size]; exact Nat.le_refl _), ElR.put hR h hb0 h3 (by omega) hF.2⟩
end Go.Proofs.YthlhhnnlbpecnaaGreat

/- What the walks of the exact laws share: boxes of parameters, cells that every later world keeps. Plain: no program. -/
namespace Go.Proofs.YthlhhnnlbpecnaaGreat
set_option linter.unusedSimpArgs false
set_option linter.unusedVariables false
set_option maxRecDepth 100000
open Go.RowKit

theorem below_step {n : Nat} {w W w' : World} (h : Below n w W) (hn : n ≤ w.heap.size) (hb : Below W.heap.size W w') : Below n w w' := h.trans (hb.mono (Nat.le_trans hn h.size))
theorem below_alloc {n : Nat} {w W : World} (hn : n ≤ w.heap.size) (o : Obj) (h : Below n w W) : Below n w (W.alloc o) := h.alloc (Nat.le_trans hn h.size) o
theorem boxes1 (w : World) (a : List Value) (ta : TypeId) :
    CellsAt (w.alloc (.cells a.toArray ta)) w.heap.size 0 a ∧ (w.alloc (.cells a.toArray ta)).heap.size = w.heap.size + 1 ∧ Below w.heap.size w (w.alloc (.cells a.toArray ta)) :=
  ⟨CellsAt.new w a ta, World.size_alloc _ _, (Below.refl _ _).alloc (Nat.le_refl _) _⟩
theorem boxes2 (w : World) (a b : List Value) (ta tb : TypeId) :
    CellsAt ((w.alloc (.cells a.toArray ta)).alloc (.cells b.toArray tb)) w.heap.size 0 a ∧ CellsAt ((w.alloc (.cells a.toArray ta)).alloc (.cells b.toArray tb)) (w.heap.size + 1) 0 b ∧
      ((w.alloc (.cells a.toArray ta)).alloc (.cells b.toArray tb)).heap.size = w.heap.size + 2 ∧ Below w.heap.size w ((w.alloc (.cells a.toArray ta)).alloc (.cells b.toArray tb)) := by
  obtain ⟨h1, h2, h3⟩ := boxes1 w a ta
  obtain ⟨g1, g2, g3⟩ := boxes1 (w.alloc (.cells a.toArray ta)) b tb
  rw [h2] at g1 g2 g3
  exact ⟨h1.below g3 (by omega), g1, g2, h3.trans (g3.mono (by omega))⟩
theorem boxes3 (w : World) (a b c : List Value) (ta tb tc : TypeId) :
    CellsAt (((w.alloc (.cells a.toArray ta)).alloc (.cells b.toArray tb)).alloc (.cells c.toArray tc)) w.heap.size 0 a ∧ CellsAt (((w.alloc (.cells a.toArray ta)).alloc (.cells b.toArray tb)).alloc (.cells c.toArray tc)) (w.heap.size + 1) 0 b ∧
      CellsAt (((w.alloc (.cells a.toArray ta)).alloc (.cells b.toArray tb)).alloc (.cells c.toArray tc)) (w.heap.size + 2) 0 c ∧
      (((w.alloc (.cells a.toArray ta)).alloc (.cells b.toArray tb)).alloc (.cells c.toArray tc)).heap.size = w.heap.size + 3 ∧ Below w.heap.size w (((w.alloc (.cells a.toArray ta)).alloc (.cells b.toArray tb)).alloc (.cells c.toArray tc)) := by
  obtain ⟨h1, h2, h3, h4⟩ := boxes2 w a b ta tb
  obtain ⟨g1, g2, g3⟩ := boxes1 ((w.alloc (.cells a.toArray ta)).alloc (.cells b.toArray tb)) c tc
  rw [h3] at g1 g2 g3
  exact ⟨h1.below g3 (by omega), h2.below g3 (by omega), g1, g2, h4.trans (g3.mono (by omega))⟩
/-- Behind a box of one's own: what is known of the world ahead of it is known of every later one. -/
theorem below_box {n : Nat} {w W : World} {o : Obj} (h : Below n w W) (hn : n ≤ w.heap.size) : ∀ V, Below (W.heap.size + 1) (W.alloc o) V → Below n w V := fun V hV =>
  below_step h hn (((Below.refl _ _).alloc (Nat.le_refl _) _).trans (hV.mono (by omega)))
theorem below_of_box {w V : World} {o : Obj} (h : Below (w.heap.size + 1) (w.alloc o) V) : Below w.heap.size w V := ((Below.refl _ _).alloc (Nat.le_refl _) _).trans (h.mono (by omega))
theorem cell_rule {n b : Nat} {w : World} {cs : List Value} (hc : CellsAt w b 0 cs) (hb : b < n) (i : Nat) {v : Value} (hi : cs[i]? = some v) : ∀ W : World, Below n w W → W.cell? ⟨b, i, none⟩ = some v := fun W h => by
  have := hc.below h hb i v hi
  rwa [Nat.zero_add] at this
/-- Blocks of the call's own: each once, from B on, none frozen. -/
structure Fresh (B : Nat) (w : World) (F : List Nat) : Prop where
  nodup : F.Nodup
  from_ : ∀ b ∈ F, B ≤ b
  cells : ∀ b ∈ F, ∃ cs t, w.heap[b]? = some (.cells cs t (0, 0))
theorem Fresh.nil (B : Nat) (w : World) : Fresh B w [] := ⟨by simp, by simp, by simp⟩
theorem Fresh.lt {B : Nat} {w : World} {F : List Nat} (h : Fresh B w F) : ∀ b ∈ F, b < w.heap.size := fun b hb => by
  obtain ⟨cs, t, hc⟩ := h.cells b hb
  exact (Array.getElem?_eq_some_iff.1 hc).1
theorem Fresh.keep {B : Nat} {w w' : World} {F : List Nat} (h : Fresh B w F) (hk : ∀ b ∈ F, w'.heap[b]? = w.heap[b]?) : Fresh B w' F :=
  ⟨h.nodup, h.from_, fun b hb => by rw [hk b hb]; exact h.cells b hb⟩
theorem Fresh.mono {B C : Nat} {w : World} {F : List Nat} (h : Fresh B w F) (hC : C ≤ B) : Fresh C w F := ⟨h.nodup, fun b hb => Nat.le_trans hC (h.from_ b hb), h.cells⟩
theorem Fresh.append {B C : Nat} {w : World} {F G : List Nat} (h : Fresh B w F) (g : Fresh C w G) (hF : ∀ b ∈ F, b < C) (hBC : B ≤ C) : Fresh B w (F ++ G) :=
  ⟨List.nodup_append.2 ⟨h.nodup, g.nodup, fun a ha b hb e => by have := hF a ha; have := g.from_ b hb; omega⟩,
   fun b hb => by rcases List.mem_append.1 hb with hb | hb; exact h.from_ b hb; have := g.from_ b hb; omega,
   fun b hb => by rcases List.mem_append.1 hb with hb | hb; exact h.cells b hb; exact g.cells b hb⟩
/-- One argument more has been copied into its row. -/
theorem copy_step {α : Type} {n : Nat} {R : CR α} (hR : Good n R) {w wr w2 W : World} {l : List α} {j : Nat} {x : α} {F' F2 : List Nat} {vs : List Value} {cs : Array Value} {t : TypeId} (hx : l[j]? = some x)
    (hel : ElR n R wr w.heap.size 0 (l.take j) F') (hfr : Fresh (w.heap.size + 1) wr F') (hcs : wr.heap[w.heap.size]? = some (.cells cs t (0, 0))) (hcz : cs.size = l.length * n) (hb : Below w.heap.size w wr)
    (hb2 : Below wr.heap.size wr w2) (hR2 : R w2 x vs F2) (hf2 : Fresh wr.heap.size w2 F2) (hW : W = putCells w2 w.heap.size (j * n) vs) :
    ElR n R W w.heap.size 0 (l.take (j + 1)) (F' ++ F2) ∧ Fresh (w.heap.size + 1) W (F' ++ F2) ∧ (∃ cs, W.heap[w.heap.size]? = some (.cells cs t (0, 0)) ∧ cs.size = l.length * n) ∧ Below w.heap.size w W := by
  subst hW
  have hlt := blk_lt hcs
  have hcs2 : w2.heap[w.heap.size]? = some (.cells cs t (0, 0)) := blk_below hcs hb2 hlt
  have hjl : j < l.length := (List.getElem?_eq_some_iff.1 hx).1
  have hvl := hR.len hR2
  have hmul : j * n + n ≤ l.length * n := by rw [← Nat.succ_mul]; exact Nat.mul_le_mul_right n hjl
  have hP := put_spec vs (j * n) w2 cs hcs2 (by omega)
  have hF' := hfr.lt
  have hbF' : w.heap.size ∉ F' := fun h => by have := hfr.from_ _ h; omega
  have hbF2 : w.heap.size ∉ F2 := fun h => by have := hf2.from_ _ h; omega
  have hel2 : ElR n R w2 w.heap.size 0 (l.take j) F' := ElR.frame hR (hb2.block _ hlt) hb2.size hel (fun k hk => hb2.block k (hF' k hk))
  have htl : (l.take j).length = j := by simp; omega
  refine ⟨?_, ?_, ?_, ?_⟩
  · rw [take_snoc hx]
    refine (ElR.put hR hP hcs2 hel2 (.inl (by rw [htl]; omega)) hbF').snoc (cs := vs) ?_ (hR.frame hR2 (fun k hk => hP.far k (fun e => hbF2 (e ▸ hk))) (by rw [hP.size]; exact Nat.le_refl _))
    rw [htl, Nat.zero_add]
    exact hP.cellsAt
  · have h1 : Fresh (w.heap.size + 1) (putCells w2 w.heap.size (j * n) vs) F' := hfr.keep (fun b hb' => (hP.far b (fun e => hbF' (e ▸ hb'))).trans (hb2.block b (hF' b hb')))
    have h2 : Fresh wr.heap.size (putCells w2 w.heap.size (j * n) vs) F2 := hf2.keep (fun b hb' => hP.far b (fun e => hbF2 (e ▸ hb')))
    exact h1.append h2 hF' (by omega)
  · obtain ⟨cs', h1, h2, _⟩ := hP.blk
    exact ⟨cs', h1, by omega⟩
  · exact hb.trans ((hb2.mono hb.size).trans (hP.below (Nat.le_refl _)))
/-- All arguments have been copied. -/
theorem copy_done {α : Type} {n : Nat} {R : CR α} {w wr : World} {l : List α} {F' : List Nat} {cs : Array Value} {t : TypeId} (hl : l.length ≤ maxLen) (hel : ElR n R wr w.heap.size 0 l F') (hfr : Fresh (w.heap.size + 1) wr F') (hcs : wr.heap[w.heap.size]? = some (.cells cs t (0, 0))) :
    ∃ F, SlR n R wr l (.slice (some ⟨w.heap.size, 0, none⟩) l.length l.length) F ∧ Fresh w.heap.size wr F := by
  refine ⟨if l = [] then [] else w.heap.size :: F', ⟨some ⟨w.heap.size, 0, none⟩, l.length, rfl, Nat.le_refl _, hl, ?_⟩, ?_⟩
  · by_cases h : l = []
    · rw [if_pos h]; exact .inl ⟨h, rfl⟩
    · rw [if_neg h]; exact .inr ⟨_, _, F', rfl, blk_lt hcs, rfl, hel⟩
  · by_cases h : l = []
    · rw [if_pos h]; exact Fresh.nil _ _
    · rw [if_neg h]
      refine ⟨List.nodup_cons.2 ⟨fun hm => by have := hfr.from_ _ hm; omega, hfr.nodup⟩, fun b hb => ?_, fun b hb => ?_⟩
      · rcases List.mem_cons.1 hb with rfl | hb
        · exact Nat.le_refl _
        · have := hfr.from_ b hb; omega
      · rcases List.mem_cons.1 hb with rfl | hb
        · exact ⟨cs, t, hcs⟩
        · exact hfr.cells b hb
theorem cell_at {W : World} {b i : Nat} {cs : Array Value} {t : TypeId} (h : W.heap[b]? = some (.cells cs t (0, 0))) (hi : i < cs.size) : W.cell? ⟨b, i, none⟩ = some (cs.getD i undef) := by
  rw [cell_of_row _ _ _ _ _ _ h]
  simp [Array.getD, hi]
/-- What is new from block B on stays, old blocks of one's own may turn. -/
structure Later (B : Nat) (W W' : World) : Prop where
  size : W.heap.size ≤ W'.heap.size
  block : ∀ k, B ≤ k → k < W.heap.size → W'.heap[k]? = W.heap[k]?
theorem Later.refl (B : Nat) (W : World) : Later B W W := ⟨Nat.le_refl _, fun _ _ _ => rfl⟩
theorem Later.trans {B : Nat} {a b c : World} (h : Later B a b) (g : Later B b c) : Later B a c :=
  ⟨Nat.le_trans h.size g.size, fun k hk hl => (g.block k hk (Nat.lt_of_lt_of_le hl h.size)).trans (h.block k hk hl)⟩
theorem Later.of_below {B : Nat} {W W' : World} (h : Below W.heap.size W W') : Later B W W' := ⟨h.size, fun k _ hl => h.block k hl⟩
theorem Later.of_put {B b o : Nat} {vs : List Value} {cs : Array Value} {t : TypeId} {W W' : World} (h : Put W b o vs cs t W') (hb : b < B) : Later B W W' :=
  ⟨by rw [h.size]; exact Nat.le_refl _, fun k hk _ => h.far k (by omega)⟩
theorem Fresh.below {C : Nat} {w w' : World} {F : List Nat} (h : Fresh C w F) (hb : Below w.heap.size w w') : Fresh C w' F := h.keep fun b hb' => hb.block b (h.lt b hb')
theorem Fresh.later {B C : Nat} {W W' : World} {F : List Nat} (h : Fresh C W F) (hl : Later B W W') (hB : B ≤ C) : Fresh C W' F :=
  h.keep fun b hb => hl.block b (Nat.le_trans hB (h.from_ b hb)) (h.lt b hb)
theorem Good.later {α : Type} {n B C : Nat} {R : CR α} (hR : Good n R) {W W' : World} {x : α} {cs : List Value} {F : List Nat} (h : R W x cs F) (hf : Fresh C W F) (hl : Later B W W') (hB : B ≤ C) : R W' x cs F :=
  hR.frame h (fun b hb => hl.block b (Nat.le_trans hB (hf.from_ b hb)) (hf.lt b hb)) hl.size
theorem SlR.later {α : Type} {n B C : Nat} {R : CR α} (hR : Good n R) {W W' : World} {xs : List α} {v : Value} {F : List Nat} (h : SlR n R W xs v F) (hf : Fresh C W F) (hl : Later B W W') (hB : B ≤ C) : SlR n R W' xs v F :=
  h.frame hR (fun b hb => hl.block b (Nat.le_trans hB (hf.from_ b hb)) (hf.lt b hb)) hl.size
/-- Cells stored one by one into an array that is known. -/
def setMany (cs : Array Value) : Nat → List Value → Array Value
  | _, [] => cs
  | o, v :: r => setMany (cs.setIfInBounds o v) (o + 1) r
theorem put_blk {b : Nat} {t : TypeId} : ∀ (vs : List Value) (o : Nat) (w : World) (cs : Array Value), w.heap[b]? = some (.cells cs t (0, 0)) → (putCells w b o vs).heap[b]? = some (.cells (setMany cs o vs) t (0, 0))
  | [], _, _, _, h => h
  | v :: r, o, w, cs, h => put_blk r (o + 1) (w.setCell ⟨b, o, none⟩ v) _ (heap_setCell_same w b o cs t v h)
theorem SlR.one {α : Type} {n : Nat} {R : CR α} {w : World} {xs : List α} {v : Value} {F : List Nat} (h : SlR n R w xs v F) : v.oneCell' = true := by
  obtain ⟨A, cap, rfl, _⟩ := h.form
  rfl
end Go.Proofs.YthlhhnnlbpecnaaGreat
