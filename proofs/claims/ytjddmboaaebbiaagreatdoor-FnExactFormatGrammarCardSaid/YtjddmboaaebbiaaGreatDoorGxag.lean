/- Several texts of one proof in one file: Tokens and attributes: structs by value, opened; the functions on one of them. Texts of a slice without some: contracts of both sides; how an owned row of texts is told as a slice. Valid symbols: both sides. Valid symbols: the reference. Valid symbols: an earlier attribute of the same name, sought by a closure. Valid symbols: the program. Symbols as text: what the text is, and how long. Plain: no program. Expressions, told as the other structs are: copies and comparisons. Conditions: each theorem names its own. -/
import Derived.Test.YtjddmboaaebbiaaGreatDoorGxaa
import Derived.Test.YtjddmboaaebbiaaGreatDoorGxac
import Derived.Laws.IdiomStrings
import Derived.Test.YtjddmboaaebbiaaGreatDoorGxaf
import Derived.Test.YtjddmboaaebbiaaGreatDoorGxab

/- Tokens and attributes: structs by value, opened; the functions on one of them. Conditions: a text's length fits an int. -/
namespace Go.Proofs.YtjddmboaaebbiaaGreatDoor
set_option linter.unusedSimpArgs false
set_option linter.unusedVariables false
set_option maxRecDepth 100000
open Go.RowKit Go.WideShapes

structure Tok where
  kind : Int
  n : Int
  at_ : Int
  text : ByteArray
def Tok.cells (t : Tok) : List Value := [.int .i64 t.kind, .int .i64 t.n, .int .i64 t.at_, .string t.text]
structure Tok.ok (t : Tok) : Prop where
  kind : (Lit.int .i64 t.kind).wf = true
  n : (Lit.int .i64 t.n).wf = true
  at_ : (Lit.int .i64 t.at_).wf = true
  text : t.text.size ≤ maxLen
section
variable {H : Type} {enc : TypeId × Value → H} {w : World} {base fuel : Nat} {sp : Nat → Bool} {held : Bool} {cs : List Value} {x : DataW H × List MemPlace}
end
structure Attr where
  name : ByteArray
  type : Int
  mode : Int
  circ : Bool
def Attr.cells (a : Attr) : List Value := [.string a.name, .int .i64 a.type, .int .i64 a.mode, .bool a.circ]
structure Attr.ok (a : Attr) : Prop where
  name : a.name.size ≤ maxLen
  type : (Lit.int .i64 a.type).wf = true
  mode : (Lit.int .i64 a.mode).wf = true
section
variable {H : Type} {enc : TypeId × Value → H} {w : World} {base fuel : Nat} {sp : Nat → Bool} {held : Bool} {cs : List Value} {x : DataW H × List MemPlace}
theorem cells_Attr (h : DataW.trod enc Tryz.prog w base sp held fuel 156 cs = some x) : ∃ t : Attr, cs = t.cells ∧ t.ok := by
  have ht := Tryz.underlying156
  have hl := (trod_len ht h).trans (show Tryz.prog.cellsOf 156 = 4 by kernel_rfl)
  obtain ⟨c0, c1, c2, c3, rfl⟩ := list4 hl
  obtain ⟨z0, e0, w0⟩ := field_string 0 _ ht h rfl Tryz.underlying9 (by kernel_rfl)
  obtain ⟨z1, e1, w1⟩ := field_int 1 _ ht h rfl Tryz.underlying3 (by kernel_rfl)
  obtain ⟨z2, e2, w2⟩ := field_int 2 _ ht h rfl Tryz.underlying3 (by kernel_rfl)
  obtain ⟨z3, e3⟩ := field_bool 3 _ ht h rfl Tryz.underlying4 (by kernel_rfl)
  simp at e0 e1 e2 e3
  subst e0 e1 e2 e3
  exact ⟨⟨z0, z1, z2, z3⟩, rfl, ⟨w0, w1, w2⟩⟩
end
theorem open_Attr {H : Type} {enc : TypeId × Value → H} {w : World} {C base : Nat} {sp : Nat → Bool} {held : Bool} {v : Value} {d : DataW H} {p : List MemPlace} (hv : Value.okWide Tryz.prog w .any C 156 v)
    (h : DataW.Trod enc Tryz.prog w base sp held 156 v d p) : ∃ t : Attr, v = .agg t.cells.toArray ∧ t.ok := by
  obtain ⟨cs, fuel, x, rfl, hf⟩ := okWide_cells Tryz.underlying156 hv h
  obtain ⟨t, he, ht⟩ := cells_Attr hf
  exact ⟨t, by rw [← he], ht⟩

theorem l_toAttribute (s : ByteArray) (t m : Int) (c : Bool) (w : World) : Calls Tryz.prog 128 #[.agg #[.string s, .int .i64 t, .int .i64 m, .bool c]] w fun e w' => e = .returned (.agg #[.string s, .int .i64 t, .int .i64 m, .bool c]) ∧ Below w.heap.size w w' := by
  go_enter Tryz.func128, Tryz.ntmps128
  go_wp2
  exact bodyPost_ret (v := .agg #[.string s, .int .i64 t, .int .i64 m, .bool c]) (by simp [results, Tryz.results128, go_sem]) rfl ⟨rfl, (((Below.refl _ _).alloc (Nat.le_refl _) _).alloc (by simp) _).alloc (by simp; omega) _⟩
theorem l_szAttribute (s : ByteArray) (t m : Int) (c : Bool) (L : Int) (hs : s.size ≤ maxLen) (h0 : 0 ≤ L) (h1 : L ≤ 1048576) (w : World) : Calls Tryz.prog 127 #[.agg #[.string s, .int .i64 t, .int .i64 m, .bool c], .int .i64 L] w fun e w' => e = .returned (.int .i64 (if L < s.size then -1 else L - s.size)) ∧ Below w.heap.size w w' := by
  unfold maxLen at hs
  by_cases h : L < s.size
  all_goals
    go_enter Tryz.func127, Tryz.ntmps127
    go_wp2
    go_ret
    exact ⟨ret_int (by first | rfl | (split <;> first | rfl | omega)), (Below.refl _ _).alloc (Nat.le_refl _) _⟩

/-- A valid attribute. -/
def validA (s : ByteArray) (t m : Int) (c : Bool) : Bool := validN s && decide (1 ≤ t ∧ t ≤ 4) && decide (1 ≤ m ∧ m ≤ 3) && (if m = 3 then decide (t = 2) && !c else !c || decide (t = 2))
theorem validA_bad {s : ByteArray} {t m : Int} {c : Bool} (h : ¬ (validN s = true ∧ (1 ≤ t ∧ t ≤ 4) ∧ (1 ≤ m ∧ m ≤ 3))) : validA s t m c = false := by
  unfold validA
  rw [Bool.eq_false_iff]
  intro hh
  simp only [Bool.and_eq_true, decide_eq_true_eq] at hh
  exact h ⟨hh.1.1.1, hh.1.1.2, hh.1.2⟩
theorem validA_good {s : ByteArray} {t m : Int} {c : Bool} (hn : validN s = true) (ht : 1 ≤ t ∧ t ≤ 4) (hm : 1 ≤ m ∧ m ≤ 3) : validA s t m c = (if m = 3 then decide (t = 2) && !c else !c || decide (t = 2)) := by
  unfold validA
  rw [hn]
  simp [ht, hm]
set_option maxHeartbeats 800000 in
theorem s_IsValidAttribute (s : ByteArray) (t m : Int) (c : Bool) (hs : s.size ≤ maxLen) (w : World) : Calls Tryz.prog 100 #[.agg #[.string s, .int .i64 t, .int .i64 m, .bool c]] w fun e w' => e = .returned (.bool (validA s t m c)) ∧ Below w.heap.size w w' := by
  have HC := hide (CellsAt.new w [.string s, .int .i64 t, .int .i64 m, .bool c] 112)
  by_cases h1 : validN s = true ∧ (1 ≤ t ∧ t ≤ 4) ∧ (1 ≤ m ∧ m ≤ 3)
  · obtain ⟨hn, ht, hm⟩ := h1
    rw [validA_good hn ht hm]
    have ht' := inR_yes ht
    have hm' := inR_yes hm
    clear ht hm
    by_cases h3 : m = 3 <;> by_cases h2 : t = 2 <;> cases c
    all_goals
      first | rw [if_pos h3] | rw [if_neg h3]
      first | rw [decide_eq_true h2] | rw [decide_eq_false h2]
      first | (have e3 : (m == 3) = true := beq_iff_eq.2 h3) | (have e3 : (m == 3) = false := beq_eq_false_iff_ne.2 h3)
      first | (have e2 : (t == 2) = true := beq_iff_eq.2 h2) | (have e2 : (t == 2) = false := beq_eq_false_iff_ne.2 h2)
      first | (have e4 : (t != 2) = false := by rw [bne_eq_false_iff_eq]; exact h2) | (have e4 : (t != 2) = true := by rw [bne_iff_ne]; exact h2)
      clear h2 h3
      go_enter Tryz.func100, Tryz.ntmps100
      go_wp2_with (first
        | (go_at_call 48; refine (s_IsValidName _ _ hs).mono ?_; rintro e w' ⟨rfl, hb⟩; rw [World.size_alloc] at hb; obtain ⟨c0, c1, c2, c3⟩ := (HC.out.below hb (by omega)).four0)
        | (go_at_call 49; refine (s_l1In _ _ _ _).mono ?_; rintro e w' ⟨rfl, rfl⟩)
        | go_in)
      go_ret
      exact ⟨rfl, box_below hb⟩
  · have Hv := hide (validA_bad (c := c) h1)
    cases hn : validN s
    · go_enter Tryz.func100, Tryz.ntmps100
      go_wp2_with (first
        | (go_at_call 48; refine (s_IsValidName _ _ hs).mono ?_; rintro e w' ⟨rfl, hb⟩; rw [World.size_alloc] at hb; obtain ⟨c0, c1, c2, c3⟩ := (HC.out.below hb (by omega)).four0)
        | (go_at_call 49; refine (s_l1In _ _ _ _).mono ?_; rintro e w' ⟨rfl, rfl⟩)
        | go_in)
      go_ret
      exact ⟨ret_bool Hv.out.symm, box_below hb⟩
    · by_cases ht : 1 ≤ t ∧ t ≤ 4
      · have hm := inR_no (fun hm => h1 ⟨hn, ht, hm⟩ : ¬ (1 ≤ m ∧ m ≤ 3))
        have ht' := inR_yes ht
        clear h1 ht
        go_enter Tryz.func100, Tryz.ntmps100
        go_wp2_with (first
        | (go_at_call 48; refine (s_IsValidName _ _ hs).mono ?_; rintro e w' ⟨rfl, hb⟩; rw [World.size_alloc] at hb; obtain ⟨c0, c1, c2, c3⟩ := (HC.out.below hb (by omega)).four0)
        | (go_at_call 49; refine (s_l1In _ _ _ _).mono ?_; rintro e w' ⟨rfl, rfl⟩)
        | go_in)
        go_ret
        exact ⟨ret_bool Hv.out.symm, box_below hb⟩
      · have ht' := inR_no ht
        clear h1 ht
        go_enter Tryz.func100, Tryz.ntmps100
        go_wp2_with (first
        | (go_at_call 48; refine (s_IsValidName _ _ hs).mono ?_; rintro e w' ⟨rfl, hb⟩; rw [World.size_alloc] at hb; obtain ⟨c0, c1, c2, c3⟩ := (HC.out.below hb (by omega)).four0)
        | (go_at_call 49; refine (s_l1In _ _ _ _).mono ?_; rintro e w' ⟨rfl, rfl⟩)
        | go_in)
        go_ret
        exact ⟨ret_bool Hv.out.symm, box_below hb⟩
set_option maxHeartbeats 800000 in
theorem i_IsValidAttribute (s : ByteArray) (t m : Int) (c : Bool) (hs : s.size ≤ maxLen) (w : World) : Calls Tryz.prog 103 #[.agg #[.string s, .int .i64 t, .int .i64 m, .bool c]] w fun e w' => e = .returned (.bool (validA s t m c)) ∧ Below w.heap.size w w' := by
  by_cases h1 : validN s = true ∧ (1 ≤ t ∧ t ≤ 4) ∧ (1 ≤ m ∧ m ≤ 3)
  · obtain ⟨hn, ht, hm⟩ := h1
    rw [validA_good hn ht hm]
    have ht' := inR_yes ht
    have hm' := inR_yes hm
    clear ht hm
    by_cases h3 : m = 3 <;> by_cases h2 : t = 2 <;> cases c
    all_goals
      first | rw [if_pos h3] | rw [if_neg h3]
      first | rw [decide_eq_true h2] | rw [decide_eq_false h2]
      first | (have e3 : (m == 3) = true := beq_iff_eq.2 h3) | (have e3 : (m == 3) = false := beq_eq_false_iff_ne.2 h3)
      first | (have e2 : (t == 2) = true := beq_iff_eq.2 h2) | (have e2 : (t == 2) = false := beq_eq_false_iff_ne.2 h2)
      first | (have e4 : (t != 2) = false := by rw [bne_eq_false_iff_eq]; exact h2) | (have e4 : (t != 2) = true := by rw [bne_iff_ne]; exact h2)
      clear h2 h3
      go_enter Tryz.func103, Tryz.ntmps103
      go_wp2_with (first
        | (go_at_call 55; refine (i_IsValidName _ _ hs).mono ?_; rintro e w' ⟨rfl, rfl⟩)
        | (go_at_call 57; refine (i_within _ _ _ _).mono ?_; rintro e w' ⟨rfl, rfl⟩)
        | go_in)
      go_ret
      exact ⟨rfl, (Below.refl _ _).alloc (Nat.le_refl _) _⟩
  · have Hv := hide (validA_bad (c := c) h1)
    cases hn : validN s
    · go_enter Tryz.func103, Tryz.ntmps103
      go_wp2_with (first
        | (go_at_call 55; refine (i_IsValidName _ _ hs).mono ?_; rintro e w' ⟨rfl, rfl⟩)
        | (go_at_call 57; refine (i_within _ _ _ _).mono ?_; rintro e w' ⟨rfl, rfl⟩)
        | go_in)
      go_ret
      exact ⟨ret_bool Hv.out.symm, (Below.refl _ _).alloc (Nat.le_refl _) _⟩
    · by_cases ht : 1 ≤ t ∧ t ≤ 4
      · have hm := inR_no (fun hm => h1 ⟨hn, ht, hm⟩ : ¬ (1 ≤ m ∧ m ≤ 3))
        have ht' := inR_yes ht
        clear h1 ht
        go_enter Tryz.func103, Tryz.ntmps103
        go_wp2_with (first
        | (go_at_call 55; refine (i_IsValidName _ _ hs).mono ?_; rintro e w' ⟨rfl, rfl⟩)
        | (go_at_call 57; refine (i_within _ _ _ _).mono ?_; rintro e w' ⟨rfl, rfl⟩)
        | go_in)
        go_ret
        exact ⟨ret_bool Hv.out.symm, (Below.refl _ _).alloc (Nat.le_refl _) _⟩
      · have ht' := inR_no ht
        clear h1 ht
        go_enter Tryz.func103, Tryz.ntmps103
        go_wp2_with (first
        | (go_at_call 55; refine (i_IsValidName _ _ hs).mono ?_; rintro e w' ⟨rfl, rfl⟩)
        | (go_at_call 57; refine (i_within _ _ _ _).mono ?_; rintro e w' ⟨rfl, rfl⟩)
        | go_in)
        go_ret
        exact ⟨ret_bool Hv.out.symm, (Below.refl _ _).alloc (Nat.le_refl _) _⟩
end Go.Proofs.YtjddmboaaebbiaaGreatDoor

/- Texts of a slice without some: contracts of both sides; how an owned row of texts is told as a slice. Conditions: the slice has at most 2^20 texts. -/
namespace Go.Proofs.YtjddmboaaebbiaaGreatDoor
set_option linter.unusedSimpArgs false
set_option linter.unusedVariables false
set_option maxRecDepth 100000
open Go.RowKit Go.WideShapes
set_option linter.unusedVariables false

/-- An owned row of texts, told as a slice. -/
theorem own_strs {D : Nat} {w : World} {base e n : Nat} {v : Value} {xs : List ByteArray} (h : w.ownsRow base e 1 v n (xs.map Value.string)) (hx : ∀ x ∈ xs, x.size ≤ maxLen) :
    ∃ F, SlR 1 (StrR D) w xs v F ∧ Fresh base w F := by
  obtain ⟨h1, h2⟩ := h
  have hl : xs.length = n := by simpa using h1
  rcases h2 with ⟨rfl, h0⟩ | ⟨g, cap, cur, rfl, hg, hb, hn, hm, hc, ht⟩
  · have hx0 : xs = [] := List.length_eq_zero_iff.1 (by omega)
    subst hx0
    exact ⟨[], ⟨none, 0, rfl, Nat.le_refl _, by simp [maxLen], .inl ⟨rfl, rfl⟩⟩, Fresh.nil _ _⟩
  · subst hl
    have hcell : ∀ (j : Nat) (u : Value), (xs.map Value.string)[j]? = some u → w.cell? ⟨g, 0 + j, none⟩ = some u := fun j u hu => by
      rw [cell_of_row _ _ _ _ _ _ hb, Nat.zero_add]
      rw [← ht] at hu
      have hj := (List.getElem?_eq_some_iff.1 hu).1
      rw [List.getElem?_take] at hu
      split at hu
      · simpa using hu
      · cases hu
    exact ⟨[g], ⟨some ⟨g, 0, none⟩, cap, rfl, hn, hm, .inr ⟨g, 0, [], rfl, blk_lt hb, rfl, ElR.of_strs hx hcell⟩⟩, ⟨by simp, fun b hb' => by simp at hb'; omega, fun b hb' => by simp at hb'; subst hb'; exact ⟨cur, e, hb⟩⟩⟩
def without (xs rm : List ByteArray) : List ByteArray := xs.filter fun x => !hasS rm x
theorem without_keep {xs rm : List ByteArray} {j : Nat} {x : ByteArray} (hx : xs[j]? = some x) (h : hasS rm x = false) : without (xs.take (j + 1)) rm = without (xs.take j) rm ++ [x] := by
  unfold without
  rw [take_snoc hx, List.filter_append]
  simp [List.filter, h]
theorem without_drop {xs rm : List ByteArray} {j : Nat} {x : ByteArray} (hx : xs[j]? = some x) (h : hasS rm x = true) : without (xs.take (j + 1)) rm = without (xs.take j) rm := by
  unfold without
  rw [take_snoc hx, List.filter_append]
  simp [List.filter, h]
theorem without_len (xs rm : List ByteArray) (j : Nat) : (without (xs.take j) rm).length ≤ j := by
  unfold without
  exact Nat.le_trans (List.length_filter_le _ _) (List.length_take_le _ _)
theorem infoStr : (Tryz.prog.info? 9).map (fun i => (i.zero, i.size, i.bytes)) = some (some (.string ByteArray.empty), 1, 16) := by kernel_rfl
end Go.Proofs.YtjddmboaaebbiaaGreatDoor

/- Valid symbols: both sides. Conditions: a symbol has at most 2^20 attributes. -/
namespace Go.Proofs.YtjddmboaaebbiaaGreatDoor
set_option linter.unusedSimpArgs false
set_option linter.unusedVariables false
set_option maxRecDepth 100000
open Go.RowKit Go.WideShapes
set_option linter.unusedVariables false

theorem Rd.take {w : World} {B : Nat} {A : Option Addr} {n k : Nat} {xs : List ByteArray} (h : Rd w B A n (xs.map Value.string)) (hk : k ≤ n) : Rd w B A k ((xs.take k).map Value.string) := by
  refine ⟨by have := h.len; simp; omega, fun h0 => ?_⟩
  obtain ⟨b, off, hA, hb, hc⟩ := h.2 (by omega)
  refine ⟨b, off, hA, hb, fun j u hu => hc j u ?_⟩
  rw [List.map_take, List.getElem?_take] at hu
  split at hu
  · exact hu
  · cases hu
def disB (xs : List ByteArray) (j : Nat) : Bool := !hasS (xs.take j) (xs.getD j ⟨#[]⟩)
def distS (xs : List ByteArray) : Bool := (List.range xs.length).all (disB xs)
theorem dist_next {xs : List ByteArray} {j : Nat} (h : (List.range j).all (disB xs) = true) (hj : disB xs j = true) : (List.range (j + 1)).all (disB xs) = true := by
  rw [List.range_succ, List.all_append, h]
  simp [hj]
theorem dist_bad {xs : List ByteArray} {j : Nat} (hl : j < xs.length) (hj : disB xs j = false) : distS xs = false := by
  unfold distS
  rw [List.all_eq_false]
  exact ⟨j, by simp; exact hl, by simp [hj]⟩
theorem disB_at {xs : List ByteArray} {j : Nat} {x : ByteArray} (hx : xs[j]? = some x) : disB xs j = !hasS (xs.take j) x := by unfold disB; rw [List.getD, hx]; rfl
set_option maxRecDepth 100000 in
theorem s_AllDistinct (A : Option Addr) (n c : Nat) (xs : List ByteArray) (w : World) (hr : Rd w w.heap.size A n (xs.map Value.string)) (hn : n ≤ 1048576) (hc : n ≤ c) :
    Calls Tryz.prog 101 #[.slice A n c] w fun e w' => e = .returned (.bool (distS xs)) ∧ Below w.heap.size w w' := by
  have hl := hr.len
  have Hr := hide hr
  have hm : n ≤ 9223372036854775807 := by omega
  clear hr
  go_enter Tryz.func101, Tryz.ntmps101
  go_wp2_with fail
  go_loopw [3] (fun i wr => ∃ j : Nat, j ≤ n ∧ i = .int .i64 j ∧ Hid ((List.range j).all (disB xs) = true) ∧ Hid (Below w.heap.size w wr)) (fun i _ => n - (intOf i).toNat)
  case atStart => exact ⟨0, by omega, rfl, hide rfl, hide (Below.refl _ _)⟩
  case round =>
    obtain ⟨j, hj, rfl, Hall, Hb⟩ := hrel
    by_cases hlt : j < n
    · obtain ⟨b, off, x, hA, hb, hx, hcell⟩ := (Hr.out.below Hb.out).get hlt
      subst hA
      have hblt := Nat.lt_of_lt_of_le hb Hb.out.size
      have e0 : ∀ W : World, Below wr.heap.size wr W → W.cell? ⟨b, off + j, none⟩ = some (.string x) := fun W h => (h.cell (p := ⟨b, off + j, none⟩) hblt).trans hcell
      have HT : Hid (∀ W : World, Below wr.heap.size wr W → Rd W w.heap.size (some ⟨b, off, none⟩) j ((xs.take j).map Value.string)) := hide fun W h => ((Hr.out.below Hb.out).below (h.mono Hb.out.size)).take (by omega)
      have Hx := hide hx
      have hj0 : (0 : Int) ≤ (j : Int) := by omega
      have hj1 : (j : Int) < (n : Int) := by omega
      have hj2 : (j : Int) ≤ (c : Int) := by omega
      have hjm : j ≤ 9223372036854775807 := by omega
      clear hx hcell hb
      cases hq : hasS (xs.take j) x
      all_goals
        go_wp2_with fail
        go_region_held3 (fun W => Below wr.heap.size wr W)
          (first | assumption | exact Below.drew (by first | assumption | exact Below.refl _ _))
          ((go_at_call 111; refine Calls.mono (s_l1Has (some ⟨b, off, none⟩) j c x (xs.take j) w.heap.size _ (HT.out _ (by (repeat (first | assumption | apply Below.drew | exact Below.refl _ _)))) hjm) ?_; rintro en w2 ⟨rfl, rfl⟩; rw [hq]))
      · have Hj := hide (show disB xs j = true by rw [disB_at Hx.out, hq]; rfl)
        clear hq
        go_wp2_with fail
        go_roundw
        case rel => exact ⟨j + 1, by omega, by go_num, hide (dist_next Hall.out Hj.out), hide (by (repeat (first | exact Hb.out | apply Below.drew)))⟩
        case measure => simp [intOf]; omega
      · have Hj := hide (dist_bad (j := j) (by omega) (show disB xs j = false by rw [disB_at Hx.out, hq]; rfl))
        clear hq
        go_wp2_with fail
        go_ret
        exact ⟨ret_bool Hj.out.symm, by (repeat (first | exact Hb.out | apply Below.drew))⟩
    · have hjn : j = n := by omega
      have Hd : Hid (distS xs = true) := hide (by have := Hall.out; rw [hjn, ← hl] at this; exact this)
      go_wp2_with fail
      go_ret
      exact ⟨ret_bool Hd.out.symm, Hb.out⟩
def vA (a : Atr) : Bool := validA a.name a.type a.mode a.circ
def nms (x : Sym) : List ByteArray := x.attrs.map (·.name)
def validY (x : Sym) : Bool := x.attrs.all vA && (validN x.name && (decide (x.attrs.length ≤ 4) && distS (nms x)))
theorem nms_len (x : Sym) : (nms x).length = x.attrs.length := by simp [nms]
theorem nms_next {x : Sym} {j : Nat} {y : Atr} (h : x.attrs[j]? = some y) : (nms x).take (j + 1) = (nms x).take j ++ [y.name] := take_snoc (by simp [nms, h])
theorem all_take' {α : Type} {f : α → Bool} {xs : List α} {k : Nat} {x : α} (hx : xs[k]? = some x) (h : (xs.take k).all f = true) (hf : f x = true) : (xs.take (k + 1)).all f = true := by rw [take_snoc hx, List.all_append, h]; simp [hf]
theorem all_miss' {α : Type} {f : α → Bool} {xs : List α} {k : Nat} {x : α} (hx : xs[k]? = some x) (hf : f x = false) : xs.all f = false := by
  rw [List.all_eq_false]
  exact ⟨x, List.mem_of_getElem? hx, by simp [hf]⟩
end Go.Proofs.YtjddmboaaebbiaaGreatDoor

/- Valid symbols: the reference. Conditions: a symbol has at most 2^20 attributes. -/
namespace Go.Proofs.YtjddmboaaebbiaaGreatDoor
set_option linter.unusedSimpArgs false
set_option linter.unusedVariables false
set_option maxRecDepth 100000
open Go.RowKit Go.WideShapes
set_option linter.unusedVariables false

theorem heap_new_at {w : World} {o : Obj} {k : Nat} (h : w.heap.size = k) : (w.alloc o).heap[k]? = some o := h ▸ heap_alloc_new w o
set_option maxRecDepth 100000 in
set_option maxHeartbeats 2000000 in
theorem s_IsValidSymbol (D : Nat) (x : Sym) (cs : List Value) (F : List Nat) (w : World) (h : SymR D w x cs F) (hn : x.attrs.length ≤ 1048576) :
    Calls Tryz.prog 66 #[.agg cs.toArray] w fun en w' => en = .returned (.bool (validY x)) ∧ Below w.heap.size w w' := by
  obtain ⟨c0, c1, rfl⟩ := list2 ((SymR.good D).len h)
  obtain ⟨v1, F1, _, hk, h0, ⟨h1, g1⟩, rfl⟩ := h
  obtain rfl := Option.some.inj h0
  obtain rfl := Option.some.inj h1
  obtain ⟨A, cap, rfl, hlc, hm⟩ := g1.form
  have Hname := hide hk.name
  have Hsz : Hid (∀ k ∈ x.attrs, k.name.size ≤ maxLen) := hide fun a ha => by
    obtain ⟨k, hk⟩ := List.getElem?_of_mem ha
    obtain ⟨b, off, cs, Fk, _, _, _, _, _, _, hR⟩ := SlR.get (AtrR.good D) g1 hk
    exact hR.2.1.name
  have HF := hide (g1.lt (AtrR.good D))
  have Hs := hide g1
  have hmm : x.attrs.length ≤ 9223372036854775807 := by omega
  clear hk g1 hlc hm
  obtain ⟨C, hz0, hw0⟩ := boxes1 w [.string x.name, .slice A x.attrs.length cap] 78
  go_enter Tryz.func66, Tryz.ntmps66
  go_wp2_with fail
  generalize w.alloc (Obj.cells #[.string x.name, .slice A x.attrs.length cap] 78) = W0 at C hz0 hw0 ⊢
  have hn0 : w.heap.size + 1 ≤ W0.heap.size := by omega
  have Hw : Hid (∀ W : World, Below (w.heap.size + 1) W0 W → Below w.heap.size w W) := hide fun W h => hw0.trans (h.mono (by omega))
  have e0 := cell_rule C (n := w.heap.size + 1) (by omega) 0 (v := .string x.name) rfl
  have e1 := cell_rule C (n := w.heap.size + 1) (by omega) 1 (v := .slice A x.attrs.length cap) rfl
  have hgz : w.heap.size + 1 ≤ W0.heap.size := by omega
  have Hz0 := hide hz0
  clear C hz0 hw0
  go_loopw [3, 4] (fun o i wr => ∃ j : Nat, j ≤ x.attrs.length ∧ i = .int .i64 j ∧ Hid (wr.ownsRow (w.heap.size + 1) 9 1 o ((nms x).take j).length (((nms x).take j).map Value.string)) ∧ Hid ((x.attrs.take j).all vA = true) ∧ Hid (Below (w.heap.size + 1) W0 wr)) (fun _ i _ => x.attrs.length - (intOf i).toNat)
  case atStart => exact ⟨0, by omega, rfl, hide ⟨rfl, .inr ⟨w.heap.size + 1, 0, #[], rfl, Nat.le_refl _, heap_new_at Hz0.out, Nat.le_refl _, by simp [maxLen], rfl, rfl⟩⟩, hide rfl, hide ((Below.refl _ _).alloc hgz _)⟩
  case round =>
    obtain ⟨j, hj, rfl, Ho, Hall, Hb⟩ := hrel
    have hBr := Hb.out
    have hbz : w.heap.size + 1 ≤ wr.heap.size := Nat.le_trans hn0 Hb.out.size
    by_cases hlt : j < x.attrs.length
    · have hx : x.attrs[j]? = some x.attrs[j] := List.getElem?_eq_getElem hlt
      generalize x.attrs[j] = y at hx
      have Hx := hide hx
      obtain ⟨b, off, cs, Fk, hA, _, hbF, hFk, hcl, hcat, hR⟩ := SlR.get (AtrR.good D) (Hs.out.below (AtrR.good D) (Hw.out _ Hb.out) HF.out) hx
      subst hA
      obtain ⟨c0, c1, c2, c3, rfl⟩ := list4 hcl
      obtain ⟨_, hk, h0, h1, h2, h3, rfl⟩ := hR
      obtain rfl := Option.some.inj h0
      obtain rfl := Option.some.inj h1
      obtain rfl := Option.some.inj h2
      obtain rfl := Option.some.inj h3
      have hblt := Nat.lt_of_lt_of_le (HF.out b hbF) (Hw.out _ Hb.out).size
      have g0 : ∀ W : World, Below wr.heap.size wr W → W.cell? ⟨b, off + j * 4, none⟩ = some (.string y.name) := fun W h => (hcat.below h hblt) 0 _ rfl
      have g1 : ∀ W : World, Below wr.heap.size wr W → W.cell? ⟨b, off + j * 4 + 1, none⟩ = some (.int .i64 y.type) := fun W h => (hcat.below h hblt) 1 _ rfl
      have g2 : ∀ W : World, Below wr.heap.size wr W → W.cell? ⟨b, off + j * 4 + 2, none⟩ = some (.int .i64 y.mode) := fun W h => (hcat.below h hblt) 2 _ rfl
      have g3 : ∀ W : World, Below wr.heap.size wr W → W.cell? ⟨b, off + j * 4 + 3, none⟩ = some (.bool y.circ) := fun W h => (hcat.below h hblt) 3 _ rfl
      have hrr : Below wr.heap.size wr wr := Below.refl _ _
      have Hky := hide hk.name
      have hj0 : (0 : Int) ≤ (j : Int) := by omega
      have hj1 : (j : Int) < (x.attrs.length : Int) := by omega
      have hlen : ((nms x).take j).length ≤ 1048576 := by rw [List.length_take, nms_len]; omega
      clear hx hcat hFk hbF hcl hk h0 h1 h2 h3
      go_wp2_with fail
      refine (s_IsValidAttribute y.name y.type y.mode y.circ Hky.out _).mono ?_
      rintro e w2 ⟨rfl, hb2⟩
      have hB2 : Below (w.heap.size + 1) W0 w2 := below_step Hb.out hn0 hb2
      have Ho2 : Hid (w2.ownsRow (w.heap.size + 1) 9 1 _ ((nms x).take j).length (((nms x).take j).map Value.string)) := hide (own_below Ho.out hb2)
      have hz2 : w.heap.size + 1 ≤ w2.heap.size := Nat.le_trans hn0 hB2.size
      cases hq : validA y.name y.type y.mode y.circ
      · have Hf : Hid (validY x = false) := hide (by unfold validY; rw [all_miss' (f := vA) Hx.out hq]; rfl)
        clear hq
        go_wp2_with fail
        go_ret
        exact ⟨ret_bool Hf.out.symm, Hw.out _ hB2⟩
      · have Hall2 := hide (all_take' (f := vA) Hx.out Hall.out hq)
        have Hnx := hide (nms_next Hx.out)
        clear hq
        go_wp2_with (first | (at_builtin; refine app_own rfl (.tmp 20) (.tmp 27) 22 9 rfl Tryz.underlying22 infoStr rfl (by decide) w2 (w.heap.size + 1) _ _ _ Ho2.out rfl [.string y.name] rfl (fun u hu => by simp at hu; subst hu; rfl) rfl (by omega) (by omega) hz2 ?_; intro v1 w3 hown hbl))
        have Hown := hide hown
        have HB3 : Hid (Below (w.heap.size + 1) W0 w3) := hide (hB2.trans hbl)
        clear hown hbl
        go_wp2_with fail
        go_roundw
        case rel =>
          refine ⟨j + 1, by omega, by go_num, hide ?_, Hall2, HB3⟩
          rw [Hnx.out]
          simpa using Hown.out
        case measure => simp [intOf]; omega
    · have hjl : j = x.attrs.length := by omega
      have Ho' : Hid (wr.ownsRow (w.heap.size + 1) 9 1 _ (nms x).length ((nms x).map Value.string)) := hide (by have := Ho.out; rw [hjl, ← nms_len, List.take_length] at this; exact this)
      have Hv : Hid (validY x = (validN x.name && (decide (x.attrs.length ≤ 4) && distS (nms x)))) := hide (by have := Hall.out; rw [hjl, List.take_length] at this; unfold validY; rw [this]; rfl)
      obtain ⟨G, hG, hGf⟩ := own_strs (D := D) Ho'.out (fun z hz => by
        simp only [nms, List.mem_map] at hz
        obtain ⟨a, ha, rfl⟩ := hz
        exact Hsz.out a ha)
      obtain ⟨A', cap', rfl, hlc', hm'⟩ := hG.form
      have HG := hide hG
      have Hnl := hide (nms_len x)
      have hnl1 : (nms x).length ≤ 1048576 := by have := nms_len x; omega
      clear hG hGf Ho Ho' hm'
      go_wp2_with fail
      refine (s_IsValidName x.name _ Hname.out).mono ?_
      rintro e w2 ⟨rfl, hb2⟩
      have hB2 : Below (w.heap.size + 1) W0 w2 := below_step Hb.out hn0 hb2
      have HG2 := hide (HG.out.below (StrR.good D) hb2 (HG.out.lt (StrR.good D)))
      clear hb2
      cases hq : validN x.name
      · go_wp2_with fail
        go_ret
        exact ⟨ret_bool (by rw [Hv.out, hq]; rfl), Hw.out _ hB2⟩
      · by_cases h4 : x.attrs.length ≤ 4
        · have h4' : ((nms x).length : Int) ≤ 4 := by have := Hnl.out; omega
          go_wp2_with fail
          refine (s_AllDistinct A' (nms x).length cap' (nms x) w2 HG2.out.strs.1 (by omega) hlc').mono ?_
          rintro e w3 ⟨rfl, hb3⟩
          have hB3 : Below (w.heap.size + 1) W0 w3 := below_step hB2 hn0 hb3
          clear hb3
          go_wp2_with fail
          go_ret
          exact ⟨ret_bool (by rw [Hv.out, hq, decide_eq_true h4]; rfl), Hw.out _ hB3⟩
        · have h4' : (4 : Int) < ((nms x).length : Int) := by have := Hnl.out; omega
          go_wp2_with fail
          go_ret
          exact ⟨ret_bool (by rw [Hv.out, hq, decide_eq_false h4]; rfl), Hw.out _ hB2⟩
end Go.Proofs.YtjddmboaaebbiaaGreatDoor

/- Valid symbols: an earlier attribute of the same name, sought by a closure. Conditions: none beyond that the symbol can be read. -/
namespace Go.Proofs.YtjddmboaaebbiaaGreatDoor
set_option linter.unusedSimpArgs false
set_option linter.unusedVariables false
set_option maxRecDepth 100000
open Go.RowKit Go.WideShapes
set_option linter.unusedVariables false

theorem clo_name (D : Nat) (y : Atr) (cs : List Value) (F : List Nat) (w : World) (h : AtrR D w y cs F) (B : Nat) (an : ByteArray) (hB : w.cell? ⟨B, 0, none⟩ = some (.string an)) :
    Calls Tryz.prog 105 #[.agg cs.toArray, .pointer (some ⟨B, 0, none⟩)] w fun en w' => en = .returned (.bool (y.name.toList == an.toList)) ∧ Below w.heap.size w w' := by
  obtain ⟨c0, c1, c2, c3, rfl⟩ := list4 ((AtrR.good D).len h)
  obtain ⟨_, hk, h0, h1, h2, h3, rfl⟩ := h
  obtain rfl := Option.some.inj h0
  obtain rfl := Option.some.inj h1
  obtain rfl := Option.some.inj h2
  obtain rfl := Option.some.inj h3
  have hlt := cell_lt hB
  simp only at hlt
  clear hk h0 h1 h2 h3
  show Calls _ _ #[.agg #[.string y.name, .int .i64 y.type, .int .i64 y.mode, .bool y.circ], .pointer (some ⟨B, 0, none⟩)] w _
  go_enter Tryz.func105, Tryz.ntmps105
  go_wp2_with fail
  go_ret
  exact ⟨rfl, (Below.refl _ _).alloc (Nat.le_refl _) _⟩
def IdxOk (b : Bool) (e : Ending) : Prop := ∃ r : Int, e = .returned (.int .i64 r) ∧ decide (0 ≤ r) = b
set_option maxRecDepth 100000 in
theorem idx_name (D : Nat) (l : List Atr) (A : Option Addr) (cap k : Nat) (F : List Nat) (w : World) (hs : SlR 4 (AtrR D) w l (.slice A l.length cap) F) (hk : k ≤ l.length) (B : Nat) (an : ByteArray) (hB : w.cell? ⟨B, 0, none⟩ = some (.string an)) :
    Calls Tryz.prog 129 #[.slice A k cap, .func (.func 105) #[] #[.pointer (some ⟨B, 0, none⟩)]] w fun en w' =>
      IdxOk ((l.take k).any fun a => a.name.toList == an.toList) en ∧ Below w.heap.size w w' := by
  obtain ⟨_, hlc, hm⟩ := hs.bnd
  unfold maxLen at hm
  have hkm : k ≤ 9223372036854775807 := by omega
  have HF := hide (hs.lt (AtrR.good D))
  have Hs := hide hs
  have HB := hide hB
  have HBl := hide (cell_lt hB)
  clear hs hB hlc hm
  go_enter Tryz.func129, Tryz.ntmps129
  go_wp2_with fail
  go_loopw [8] (fun i wr => ∃ j : Nat, j ≤ k ∧ i = .int .i64 j ∧ Hid ((l.take j).any (fun a => a.name.toList == an.toList) = false) ∧ Hid (Below w.heap.size w wr)) (fun i _ => k - (intOf i).toNat)
  case atStart => exact ⟨0, by omega, rfl, hide rfl, hide (Below.refl _ _)⟩
  case round =>
    obtain ⟨j, hj, rfl, Hno, Hb⟩ := hrel
    by_cases hlt : j < k
    · have hx : l[j]? = some (l[j]'(by omega)) := List.getElem?_eq_getElem _
      generalize l[j]'(by omega) = y at hx
      have Hx := hide hx
      obtain ⟨b, off, cs, Fk, hA, _, hbF, hFk, hcl, hcat, hR⟩ := SlR.get (AtrR.good D) (Hs.out.below (AtrR.good D) Hb.out HF.out) hx
      subst hA
      obtain ⟨c0, c1, c2, c3, rfl⟩ := list4 hcl
      obtain ⟨g0, g1, g2, g3⟩ := hcat.four
      have HR := hide hR
      have hblt := Nat.lt_of_lt_of_le (HF.out b hbF) Hb.out.size
      have HBw := hide ((Hb.out.cell HBl.out).trans HB.out)
      have hj0 : (0 : Int) ≤ (j : Int) := by omega
      have hj1 : (j : Int) < (k : Int) := by omega
      clear hx hR hcat hFk hbF hcl
      go_wp2_with fail
      refine Calls.mono (clo_name D y _ Fk _ HR.out B an HBw.out) ?_
      rintro en w2 ⟨rfl, hb2⟩
      have HB2 : Hid (Below w.heap.size w w2) := hide (Hb.out.trans (hb2.mono Hb.out.size))
      clear hb2
      cases hq : (y.name.toList == an.toList)
      · have Hno2 : Hid ((l.take (j + 1)).any (fun a => a.name.toList == an.toList) = false) := hide (by rw [take_snoc Hx.out, List.any_append, Hno.out]; simp [hq])
        clear hq
        go_wp2_with fail
        go_roundw
        case rel => exact ⟨j + 1, by omega, by go_num, Hno2, HB2⟩
        case measure => simp [intOf]; omega
      · have Hyes : Hid ((l.take k).any (fun a => a.name.toList == an.toList) = true) := hide (by
          rw [List.any_eq_true]
          exact ⟨y, List.mem_of_getElem? (i := j) (by rw [List.getElem?_take, if_pos hlt]; exact Hx.out), hq⟩)
        clear hq
        go_wp2_with fail
        go_ret
        exact ⟨⟨_, rfl, by rw [Hyes.out]; exact decide_eq_true hj0⟩, HB2.out⟩
    · have hjk : j = k := by omega
      subst hjk
      go_wp2_with fail
      go_ret
      exact ⟨⟨-1, rfl, by rw [Hno.out]; rfl⟩, Hb.out⟩
theorem con_name (D : Nat) (l : List Atr) (A : Option Addr) (cap k : Nat) (F : List Nat) (w : World) (hs : SlR 4 (AtrR D) w l (.slice A l.length cap) F) (hk : k ≤ l.length) (B : Nat) (an : ByteArray) (hB : w.cell? ⟨B, 0, none⟩ = some (.string an)) :
    Calls Tryz.prog 104 #[.slice A k cap, .func (.func 105) #[] #[.pointer (some ⟨B, 0, none⟩)]] w fun en w' =>
      en = .returned (.bool ((l.take k).any fun a => a.name.toList == an.toList)) ∧ Below w.heap.size w w' := by
  have HI := hide (idx_name D l A cap k F w hs hk B an hB)
  generalize (l.take k).any (fun a => a.name.toList == an.toList) = q at HI
  clear hs hB
  go_enter Tryz.func104, Tryz.ntmps104
  go_wp2_with fail
  refine Calls.mono HI.out ?_
  rintro en w2 ⟨⟨r, rfl, hr⟩, hb⟩
  have Hr := hide hr
  clear hr
  go_wp2_with fail
  go_ret
  exact ⟨ret_bool Hr.out, hb⟩
end Go.Proofs.YtjddmboaaebbiaaGreatDoor

/- Valid symbols: the program. Conditions: a symbol has at most 2^20 attributes. -/
namespace Go.Proofs.YtjddmboaaebbiaaGreatDoor
set_option linter.unusedSimpArgs false
set_option linter.unusedVariables false
set_option maxRecDepth 100000
open Go.RowKit Go.WideShapes
set_option linter.unusedVariables false

theorem sym_short {D : Nat} {x : Sym} (h : bulkSym D x ≤ 1048576) : x.attrs.length ≤ 1048576 := by
  have := sumBy_nonneg (bulkAtr_nonneg D) x.attrs
  unfold bulkSym at h
  omega
theorem has_any (l : List Atr) (j : Nat) (an : ByteArray) : (l.take j).any (fun a => a.name.toList == an.toList) = hasS ((l.map (·.name)).take j) an := by
  unfold hasS
  rw [← List.map_take, List.any_map]
  rfl
/-- Valid, and no earlier one of the same name. -/
def okA (l : List Atr) (j : Nat) : Bool := match l[j]? with | some y => vA y && !(l.take j).any (fun a => a.name.toList == y.name.toList) | none => true
theorem okA_at {l : List Atr} {j : Nat} {y : Atr} (h : l[j]? = some y) : okA l j = (vA y && !(l.take j).any (fun a => a.name.toList == y.name.toList)) := by unfold okA; rw [h]
theorem okA_all (x : Sym) : (List.range x.attrs.length).all (okA x.attrs) = (x.attrs.all vA && distS (nms x)) := by
  rw [Bool.eq_iff_iff]
  simp only [List.all_eq_true, List.mem_range, Bool.and_eq_true, distS, nms_len]
  constructor
  · intro h
    refine ⟨fun y hy => ?_, fun j hj => ?_⟩
    · obtain ⟨j, hj⟩ := List.getElem?_of_mem hy
      have := h j (List.getElem?_eq_some_iff.1 hj).1
      rw [okA_at hj] at this
      simp at this
      exact this.1
    · have hx : x.attrs[j]? = some x.attrs[j] := List.getElem?_eq_getElem hj
      have := h j hj
      rw [okA_at hx, has_any] at this
      rw [disB_at (x := x.attrs[j].name) (by simp [nms, hx])]
      simp at this
      simpa [nms] using this.2
  · rintro ⟨h1, h2⟩ j hj
    have hx : x.attrs[j]? = some x.attrs[j] := List.getElem?_eq_getElem hj
    have h3 := h2 j hj
    rw [disB_at (x := x.attrs[j].name) (by simp [nms, hx])] at h3
    rw [okA_at hx, has_any, h1 _ (List.mem_of_getElem? hx)]
    simpa [nms] using h3
theorem all_range_bad {f : Nat → Bool} {n j : Nat} (hj : j < n) (h : f j = false) : (List.range n).all f = false := by
  rw [List.all_eq_false]
  exact ⟨j, by simp; exact hj, by simp [h]⟩
theorem all_range_next {f : Nat → Bool} {j : Nat} (h : (List.range j).all f = true) (hj : f j = true) : (List.range (j + 1)).all f = true := by
  rw [List.range_succ, List.all_append, h]
  simp [hj]
theorem validY_eq (x : Sym) : validY x = ((List.range x.attrs.length).all (okA x.attrs) && (validN x.name && decide (x.attrs.length ≤ 4))) := by
  rw [okA_all]
  unfold validY
  cases x.attrs.all vA <;> cases validN x.name <;> cases decide (x.attrs.length ≤ 4) <;> cases distS (nms x) <;> rfl
set_option maxRecDepth 100000 in
set_option maxHeartbeats 2000000 in
theorem i_IsValidSymbol (D : Nat) (x : Sym) (cs : List Value) (F : List Nat) (w : World) (h : SymR D w x cs F) (hn : x.attrs.length ≤ 1048576) :
    Calls Tryz.prog 70 #[.agg cs.toArray] w fun en w' => en = .returned (.bool (validY x)) ∧ Below w.heap.size w w' := by
  obtain ⟨c0, c1, rfl⟩ := list2 ((SymR.good D).len h)
  obtain ⟨v1, F1, _, hk, h0, ⟨h1, g1⟩, rfl⟩ := h
  obtain rfl := Option.some.inj h0
  obtain rfl := Option.some.inj h1
  obtain ⟨A, cap, rfl, hlc, hm⟩ := g1.form
  have Hname := hide hk.name
  have HF := hide (g1.lt (AtrR.good D))
  have Hs := hide g1
  have Hv := hide (validY_eq x)
  have hmm : x.attrs.length ≤ 9223372036854775807 := by omega
  have hcc : (x.attrs.length : Int) ≤ (cap : Int) := by omega
  clear hk g1 hlc hm
  obtain ⟨C, hz0, hw0⟩ := boxes1 w [.string x.name, .slice A x.attrs.length cap] 78
  go_enter Tryz.func70, Tryz.ntmps70
  go_wp2_with fail
  generalize w.alloc (Obj.cells #[.string x.name, .slice A x.attrs.length cap] 78) = W0 at C hz0 hw0 ⊢
  have hn0 : w.heap.size + 1 ≤ W0.heap.size := by omega
  have Hw : Hid (∀ W : World, Below (w.heap.size + 1) W0 W → Below w.heap.size w W) := hide fun W h => hw0.trans (h.mono (by omega))
  have e0 := cell_rule C (n := w.heap.size + 1) (by omega) 0 (v := .string x.name) rfl
  have e1 := cell_rule C (n := w.heap.size + 1) (by omega) 1 (v := .slice A x.attrs.length cap) rfl
  have hA0 : ∀ (W : World) (o : Obj), Below (w.heap.size + 1) W0 W → Below (w.heap.size + 1) W0 (W.alloc o) := fun _ o h => below_alloc hn0 o h
  clear C hz0 hw0
  go_loopw [8] (fun i wr => ∃ j : Nat, j ≤ x.attrs.length ∧ i = .int .i64 j ∧ Hid ((List.range j).all (okA x.attrs) = true) ∧ Hid (Below (w.heap.size + 1) W0 wr)) (fun i _ => x.attrs.length - (intOf i).toNat)
  case atStart => exact ⟨0, by omega, rfl, hide rfl, hide (Below.refl _ _)⟩
  case round =>
    obtain ⟨j, hj, rfl, Hall, Hb⟩ := hrel
    have hBr := Hb.out
    by_cases hlt : j < x.attrs.length
    · have hx : x.attrs[j]? = some x.attrs[j] := List.getElem?_eq_getElem hlt
      generalize x.attrs[j] = y at hx
      have Hx := hide hx
      obtain ⟨b, off, cs, Fk, hA, _, hbF, hFk, hcl, hcat, hR⟩ := SlR.get (AtrR.good D) (Hs.out.below (AtrR.good D) (Hw.out _ Hb.out) HF.out) hx
      subst hA
      obtain ⟨c0, c1, c2, c3, rfl⟩ := list4 hcl
      obtain ⟨_, hk, h0, h1, h2, h3, rfl⟩ := hR
      obtain rfl := Option.some.inj h0
      obtain rfl := Option.some.inj h1
      obtain rfl := Option.some.inj h2
      obtain rfl := Option.some.inj h3
      obtain ⟨g0, g1, g2, g3⟩ := hcat.four
      have hblt := Nat.lt_of_lt_of_le (HF.out b hbF) (Hw.out _ Hb.out).size
      have Hky := hide hk.name
      have hj0 : (0 : Int) ≤ (j : Int) := by omega
      have hj1 : (j : Int) < (x.attrs.length : Int) := by omega
      have hj2 : (j : Int) ≤ (cap : Int) := by omega
      have Cy := CellsAt.new wr [.string y.name, .int .i64 y.type, .int .i64 y.mode, .bool y.circ] 112
      have hbx : Below (w.heap.size + 1) W0 (wr.alloc (Obj.cells #[.string y.name, .int .i64 y.type, .int .i64 y.mode, .bool y.circ] 112)) := hA0 _ _ hBr
      have hzx := World.size_alloc wr (Obj.cells #[.string y.name, .int .i64 y.type, .int .i64 y.mode, .bool y.circ] 112)
      clear hx hcat hFk hbF hcl hk h0 h1 h2 h3
      have HCy := hide Cy
      have Hzx := hide hzx
      clear Cy hzx
      go_wp2_with fail
      generalize wr.alloc (Obj.cells #[.string y.name, .int .i64 y.type, .int .i64 y.mode, .bool y.circ] 112) = V1 at HCy Hzx hbx ⊢
      refine (i_IsValidAttribute y.name y.type y.mode y.circ Hky.out V1).mono ?_
      rintro e w2 ⟨rfl, hb2⟩
      have hB2 : Below (w.heap.size + 1) W0 w2 := below_step hbx hn0 hb2
      have HC2 : Hid (w2.cell? ⟨wr.heap.size, 0, none⟩ = some (.string y.name)) := hide ((hb2.cell (p := ⟨wr.heap.size, 0, none⟩) (by have := Hzx.out; simp only; omega)).trans (HCy.out 0 _ rfl))
      have Hs2 := hide (Hs.out.below (AtrR.good D) (Hw.out _ hB2) HF.out)
      clear hb2
      cases hq : validA y.name y.type y.mode y.circ
      · have Hbad := hide (all_range_bad (f := okA x.attrs) hlt (by rw [okA_at Hx.out, show vA y = false from hq]; rfl))
        clear hq
        go_wp2_with fail
        go_ret
        exact ⟨ret_bool (by rw [Hv.out, Hbad.out]; rfl), Hw.out _ hB2⟩
      · have Hq := hide hq
        clear hq
        have HCon := hide (con_name D x.attrs (some ⟨b, off, none⟩) cap j _ w2 Hs2.out hj wr.heap.size y.name HC2.out)
        cases hr : (x.attrs.take j).any (fun a => a.name.toList == y.name.toList)
        all_goals
          have Hr := hide hr
          clear hr
          go_wp2_with fail
          refine Calls.mono HCon.out ?_
          rintro en w3 ⟨rfl, hb3⟩
          have hB3 : Below (w.heap.size + 1) W0 w3 := below_step hB2 hn0 hb3
          clear hb3
          rw [Hr.out]
          go_wp2_with fail
        · have Hnx := hide (all_range_next (f := okA x.attrs) Hall.out (by rw [okA_at Hx.out, show vA y = true from Hq.out, Hr.out]; rfl))
          have HB3 := hide hB3
          clear hB3
          go_roundw
          case rel => exact ⟨j + 1, by omega, by go_num, Hnx, HB3⟩
          case measure => simp [intOf]; omega
        · have Hbad := hide (all_range_bad (f := okA x.attrs) hlt (by rw [okA_at Hx.out, Hr.out]; simp))
          go_ret
          exact ⟨ret_bool (by rw [Hv.out, Hbad.out]; rfl), Hw.out _ hB3⟩
    · have hjl : j = x.attrs.length := by omega
      have Hv2 : Hid (validY x = (validN x.name && decide (x.attrs.length ≤ 4))) := hide (by have := Hall.out; rw [hjl] at this; rw [Hv.out, this]; rfl)
      go_wp2_with fail
      refine (i_IsValidName x.name _ Hname.out).mono ?_
      rintro e w2 ⟨rfl, rfl⟩
      cases hq : validN x.name
      · go_wp2_with fail
        go_ret
        exact ⟨ret_bool (by rw [Hv2.out, hq]; rfl), Hw.out _ hBr⟩
      · have Hq := hide hq
        clear hq
        go_wp2_with fail
        go_ret
        exact ⟨ret_bool (by rw [Hv2.out, Hq.out, Bool.true_and]; first | done | rfl | (rw [Bool.eq_iff_iff]; simp only [decide_eq_true_eq]; omega)), Hw.out _ hBr⟩
end Go.Proofs.YtjddmboaaebbiaaGreatDoor

/- Symbols as text: what the text is, and how long. Plain: no program. -/
namespace Go.Proofs.YtjddmboaaebbiaaGreatDoor
set_option linter.unusedSimpArgs false
set_option linter.unusedVariables false
set_option maxRecDepth 100000
open Go.RowKit
set_option linter.unusedVariables false

def modeW (m : Int) : ByteArray := if m = 1 then ⟨#[105, 110, 104]⟩ else if m = 2 then ⟨#[115, 121, 110]⟩ else if m = 3 then ⟨#[99, 111, 108]⟩ else ⟨#[]⟩
def typeW (t : Int) : ByteArray := if t = 1 then ⟨#[110, 117, 109]⟩ else if t = 2 then ⟨#[115, 101, 116]⟩ else if t = 3 then ⟨#[98, 111, 111, 108]⟩ else if t = 4 then ⟨#[110, 111, 100, 101]⟩ else ⟨#[]⟩
theorem modeW_size (m : Int) : (modeW m).size ≤ 3 := by unfold modeW; (repeat' split) <;> decide
theorem typeW_size (t : Int) : (typeW t).size ≤ 4 := by unfold typeW; (repeat' split) <;> decide
def fmtA (a : Atr) : ByteArray := ⟨#[32]⟩ ++ a.name ++ ⟨#[58]⟩ ++ modeW a.mode ++ ⟨#[58]⟩ ++ typeW a.type ++ (if a.circ then ⟨#[33]⟩ else ⟨#[]⟩)
def symT (x : Sym) (j : Nat) : ByteArray := (x.attrs.take j).foldl (fun o a => o ++ fmtA a) (⟨#[115, 121, 109, 98, 111, 108, 32]⟩ ++ x.name)
theorem symT_next {x : Sym} {j : Nat} {y : Atr} (hx : x.attrs[j]? = some y) : symT x (j + 1) = symT x j ++ fmtA y := by
  unfold symT
  rw [take_snoc hx, List.foldl_append]
  rfl
def fmtSym (x : Sym) : ByteArray := if validY x then symT x x.attrs.length else ⟨#[]⟩
theorem nameV_size {s : ByteArray} (h : validN s = true) : s.size ≤ 8 := by
  unfold validN at h
  simp only [Bool.and_eq_true, decide_eq_true_eq] at h
  exact h.1.2
theorem vA_parts {a : Atr} (h : vA a = true) : a.name.size ≤ 8 ∧ 1 ≤ a.mode ∧ a.mode ≤ 3 ∧ 1 ≤ a.type ∧ a.type ≤ 4 := by
  unfold vA validA at h
  simp only [Bool.and_eq_true, decide_eq_true_eq] at h
  have hn : validN a.name = true := by simp_all
  have := nameV_size hn
  simp_all
theorem sz_l (l : List UInt8) : (⟨l.toArray⟩ : ByteArray).size = l.length := by simp [ByteArray.size]
theorem fmtA_size {a : Atr} (h : vA a = true) : (fmtA a).size ≤ 20 := by
  have h1 := (vA_parts h).1
  have h2 := modeW_size a.mode
  have h3 := typeW_size a.type
  unfold fmtA
  split
  all_goals try simp only [ByteArray.size_append, sz_l, List.length_cons, List.length_nil]
  all_goals omega
theorem fold_size {α : Type} {f : α → ByteArray} {k : Nat} : ∀ (l : List α) (o : ByteArray), (∀ x ∈ l, (f x).size ≤ k) → (l.foldl (fun o a => o ++ f a) o).size ≤ o.size + k * l.length
  | [], o, _ => by simp
  | a :: r, o, h => by
    have h1 := h a (by simp)
    have h2 := fold_size r (o ++ f a) fun x hx => h x (by simp [hx])
    rw [List.foldl_cons, List.length_cons, Nat.mul_add]
    rw [ByteArray.size_append] at h2
    omega
theorem symT_size {x : Sym} (hv : validY x = true) (j : Nat) : (symT x j).size ≤ 95 := by
  unfold validY at hv
  simp only [Bool.and_eq_true, decide_eq_true_eq] at hv
  have hn := nameV_size hv.2.1
  have h := fold_size (f := fmtA) (k := 20) (x.attrs.take j) (⟨#[115, 121, 109, 98, 111, 108, 32]⟩ ++ x.name) fun a ha => fmtA_size (List.all_eq_true.1 hv.1 a (List.mem_of_mem_take ha))
  have hl : (x.attrs.take j).length ≤ 4 := Nat.le_trans (List.length_take_le' _ _) hv.2.2.1
  have e : (⟨#[115, 121, 109, 98, 111, 108, 32]⟩ : ByteArray).size = 7 := rfl
  rw [ByteArray.size_append, e] at h
  unfold symT
  omega
theorem fmtSym_size (x : Sym) : (fmtSym x).size ≤ 95 := by
  unfold fmtSym
  split
  · exact symT_size (by assumption) _
  · decide
end Go.Proofs.YtjddmboaaebbiaaGreatDoor

/- Expressions, told as the other structs are: copies and comparisons. Conditions: a copy is asked of what has at most the size 2^20. -/
namespace Go.Proofs.YtjddmboaaebbiaaGreatDoor
set_option linter.unusedSimpArgs false
set_option linter.unusedVariables false
set_option maxRecDepth 100000
open Go.RowKit Go.WideShapes

theorem ExR.one {D : Nat} {w : World} {e : Ex} {cs : List Value} {F : List Nat} (h : ExR D w e cs F) : ∀ v ∈ cs, v.oneCell' = true := by
  match D, h with
  | d + 1, h =>
    obtain ⟨A, cap, rfl, _⟩ := ex_form h
    intro v hv
    simp only [ExH.cells, List.mem_cons, List.not_mem_nil, or_false] at hv
    rcases hv with rfl | rfl | rfl | rfl | rfl | rfl | rfl <;> rfl
theorem c_Ex (D : Nat) (x : Ex) (cs : List Value) (F : List Nat) (w : World) (h : ExR D w x cs F) (hbk : bulkE D x ≤ 1048576) :
    Calls Tryz.prog 85 #[.agg cs.toArray] w fun en w' => ∃ us F', en = .returned (.agg (List.toArray us)) ∧ ExR D w' x us F' ∧ Fresh w.heap.size w' F' ∧ Below w.heap.size w w' :=
  (l_toExpr D x cs F w h (slim_of_bulk hbk)).mono fun _ _ ⟨_, _, F', h1, h2, h3, h4⟩ => ⟨_, F', h1, h2, h3, h4⟩
theorem ee_Ex (D : Nat) (x : Ex) (cs cs' : List Value) (F F' : List Nat) (w : World) (h : ExR D w x cs F) (h' : ExR D w x cs' F') :
    Calls Tryz.prog 98 #[.agg cs.toArray, .agg cs'.toArray] w fun en w' => en = .returned (.bool true) ∧ Below w.heap.size w w' := by
  have := l_eqExpr D x x cs cs' F F' w h h'
  rwa [eqE_refl D x] at this
end Go.Proofs.YtjddmboaaebbiaaGreatDoor
