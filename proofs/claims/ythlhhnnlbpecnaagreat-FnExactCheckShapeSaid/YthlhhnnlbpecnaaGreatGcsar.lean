/- Several texts of one proof in one file: Tokens and attributes: structs by value, opened; the functions on one of them. Texts of a slice without some: contracts of both sides; how an owned row of texts is told as a slice. Valid symbols: both sides. The attributes that an expression uses: in ascending order, each once: what insertion gives is what sorting and compacting gives. Plain: no program. What the shape check of a grammar finds. Plain: no program. The first thing of a grammar that is not valid or has an earlier name: plain but for the readings. The shape check: plain. Conditions: each theorem names its own. -/
import Derived.Test.YthlhhnnlbpecnaaGreatGcsaa
import Derived.Test.YthlhhnnlbpecnaaGreatGcsah
import Derived.Test.YthlhhnnlbpecnaaGreatGcsac
import Derived.Test.YthlhhnnlbpecnaaGreatGcsai
import Derived.Laws.IdiomStrings
import Derived.Test.YthlhhnnlbpecnaaGreatGcsae
import Derived.Lib.SlicesCompact
import Derived.Sort.Walk0
import Derived.Test.YthlhhnnlbpecnaaGreatGcsal
import Derived.Test.YthlhhnnlbpecnaaGreatGcsaq
import Derived.Test.YthlhhnnlbpecnaaGreatGcsag

/- Tokens and attributes: structs by value, opened; the functions on one of them. Conditions: a text's length fits an int. -/
namespace Go.Proofs.YthlhhnnlbpecnaaGreat
set_option linter.unusedSimpArgs false
set_option linter.unusedVariables false
set_option maxRecDepth 100000
open Go.RowKit Go.WideShapes

structure Tok where
  kind : Int
  n : Int
  at_ : Int
  text : ByteArray
def Tok.cells (t : Tok) : List Value := [.int .i64 t.kind, .int .i64 t.n, .int .i64 t.at_, .string t.text]
structure Tok.ok (t : Tok) : Prop where
  kind : (Lit.int .i64 t.kind).wf = true
  n : (Lit.int .i64 t.n).wf = true
  at_ : (Lit.int .i64 t.at_).wf = true
  text : t.text.size ≤ maxLen
section
variable {H : Type} {enc : TypeId × Value → H} {w : World} {base fuel : Nat} {sp : Nat → Bool} {held : Bool} {cs : List Value} {x : DataW H × List MemPlace}
end
structure Attr where
  name : ByteArray
  type : Int
  mode : Int
  circ : Bool
def Attr.cells (a : Attr) : List Value := [.string a.name, .int .i64 a.type, .int .i64 a.mode, .bool a.circ]
structure Attr.ok (a : Attr) : Prop where
  name : a.name.size ≤ maxLen
  type : (Lit.int .i64 a.type).wf = true
  mode : (Lit.int .i64 a.mode).wf = true
section
variable {H : Type} {enc : TypeId × Value → H} {w : World} {base fuel : Nat} {sp : Nat → Bool} {held : Bool} {cs : List Value} {x : DataW H × List MemPlace}
theorem cells_Attr (h : DataW.trod enc Tryz.prog w base sp held fuel 132 cs = some x) : ∃ t : Attr, cs = t.cells ∧ t.ok := by
  have ht := Tryz.underlying132
  have hl := (trod_len ht h).trans (show Tryz.prog.cellsOf 132 = 4 by kernel_rfl)
  obtain ⟨c0, c1, c2, c3, rfl⟩ := list4 hl
  obtain ⟨z0, e0, w0⟩ := field_string 0 _ ht h rfl Tryz.underlying9 (by kernel_rfl)
  obtain ⟨z1, e1, w1⟩ := field_int 1 _ ht h rfl Tryz.underlying3 (by kernel_rfl)
  obtain ⟨z2, e2, w2⟩ := field_int 2 _ ht h rfl Tryz.underlying3 (by kernel_rfl)
  obtain ⟨z3, e3⟩ := field_bool 3 _ ht h rfl Tryz.underlying4 (by kernel_rfl)
  simp at e0 e1 e2 e3
  subst e0 e1 e2 e3
  exact ⟨⟨z0, z1, z2, z3⟩, rfl, ⟨w0, w1, w2⟩⟩
end
theorem open_Attr {H : Type} {enc : TypeId × Value → H} {w : World} {C base : Nat} {sp : Nat → Bool} {held : Bool} {v : Value} {d : DataW H} {p : List MemPlace} (hv : Value.okWide Tryz.prog w .any C 132 v)
    (h : DataW.Trod enc Tryz.prog w base sp held 132 v d p) : ∃ t : Attr, v = .agg t.cells.toArray ∧ t.ok := by
  obtain ⟨cs, fuel, x, rfl, hf⟩ := okWide_cells Tryz.underlying132 hv h
  obtain ⟨t, he, ht⟩ := cells_Attr hf
  exact ⟨t, by rw [← he], ht⟩

theorem l_toAttribute (s : ByteArray) (t m : Int) (c : Bool) (w : World) : Calls Tryz.prog 110 #[.agg #[.string s, .int .i64 t, .int .i64 m, .bool c]] w fun e w' => e = .returned (.agg #[.string s, .int .i64 t, .int .i64 m, .bool c]) ∧ Below w.heap.size w w' := by
  go_enter Tryz.func110, Tryz.ntmps110
  go_wp2
  exact bodyPost_ret (v := .agg #[.string s, .int .i64 t, .int .i64 m, .bool c]) (by simp [results, Tryz.results110, go_sem]) rfl ⟨rfl, (((Below.refl _ _).alloc (Nat.le_refl _) _).alloc (by simp) _).alloc (by simp; omega) _⟩
theorem l_szAttribute (s : ByteArray) (t m : Int) (c : Bool) (L : Int) (hs : s.size ≤ maxLen) (h0 : 0 ≤ L) (h1 : L ≤ 1048576) (w : World) : Calls Tryz.prog 99 #[.agg #[.string s, .int .i64 t, .int .i64 m, .bool c], .int .i64 L] w fun e w' => e = .returned (.int .i64 (if L < s.size then -1 else L - s.size)) ∧ Below w.heap.size w w' := by
  unfold maxLen at hs
  by_cases h : L < s.size
  all_goals
    go_enter Tryz.func99, Tryz.ntmps99
    go_wp2
    go_ret
    exact ⟨ret_int (by first | rfl | (split <;> first | rfl | omega)), (Below.refl _ _).alloc (Nat.le_refl _) _⟩

/-- A valid attribute. -/
def validA (s : ByteArray) (t m : Int) (c : Bool) : Bool := validN s && decide (1 ≤ t ∧ t ≤ 4) && decide (1 ≤ m ∧ m ≤ 3) && (if m = 3 then decide (t = 2) && !c else !c || decide (t = 2))
theorem validA_bad {s : ByteArray} {t m : Int} {c : Bool} (h : ¬ (validN s = true ∧ (1 ≤ t ∧ t ≤ 4) ∧ (1 ≤ m ∧ m ≤ 3))) : validA s t m c = false := by
  unfold validA
  rw [Bool.eq_false_iff]
  intro hh
  simp only [Bool.and_eq_true, decide_eq_true_eq] at hh
  exact h ⟨hh.1.1.1, hh.1.1.2, hh.1.2⟩
theorem validA_good {s : ByteArray} {t m : Int} {c : Bool} (hn : validN s = true) (ht : 1 ≤ t ∧ t ≤ 4) (hm : 1 ≤ m ∧ m ≤ 3) : validA s t m c = (if m = 3 then decide (t = 2) && !c else !c || decide (t = 2)) := by
  unfold validA
  rw [hn]
  simp [ht, hm]
set_option maxHeartbeats 800000 in
theorem s_IsValidAttribute (s : ByteArray) (t m : Int) (c : Bool) (hs : s.size ≤ maxLen) (w : World) : Calls Tryz.prog 65 #[.agg #[.string s, .int .i64 t, .int .i64 m, .bool c]] w fun e w' => e = .returned (.bool (validA s t m c)) ∧ Below w.heap.size w w' := by
  have HC := hide (CellsAt.new w [.string s, .int .i64 t, .int .i64 m, .bool c] 44)
  by_cases h1 : validN s = true ∧ (1 ≤ t ∧ t ≤ 4) ∧ (1 ≤ m ∧ m ≤ 3)
  · obtain ⟨hn, ht, hm⟩ := h1
    rw [validA_good hn ht hm]
    have ht' := inR_yes ht
    have hm' := inR_yes hm
    clear ht hm
    by_cases h3 : m = 3 <;> by_cases h2 : t = 2 <;> cases c
    all_goals
      first | rw [if_pos h3] | rw [if_neg h3]
      first | rw [decide_eq_true h2] | rw [decide_eq_false h2]
      first | (have e3 : (m == 3) = true := beq_iff_eq.2 h3) | (have e3 : (m == 3) = false := beq_eq_false_iff_ne.2 h3)
      first | (have e2 : (t == 2) = true := beq_iff_eq.2 h2) | (have e2 : (t == 2) = false := beq_eq_false_iff_ne.2 h2)
      first | (have e4 : (t != 2) = false := by rw [bne_eq_false_iff_eq]; exact h2) | (have e4 : (t != 2) = true := by rw [bne_iff_ne]; exact h2)
      clear h2 h3
      go_enter Tryz.func65, Tryz.ntmps65
      go_wp2_with (first
        | (go_at_call 66; refine (s_IsValidName _ _ hs).mono ?_; rintro e w' ⟨rfl, hb⟩; rw [World.size_alloc] at hb; obtain ⟨c0, c1, c2, c3⟩ := (HC.out.below hb (by omega)).four0)
        | (go_at_call 11; refine (s_l1In _ _ _ _).mono ?_; rintro e w' ⟨rfl, rfl⟩)
        | go_in)
      go_ret
      exact ⟨rfl, box_below hb⟩
  · have Hv := hide (validA_bad (c := c) h1)
    cases hn : validN s
    · go_enter Tryz.func65, Tryz.ntmps65
      go_wp2_with (first
        | (go_at_call 66; refine (s_IsValidName _ _ hs).mono ?_; rintro e w' ⟨rfl, hb⟩; rw [World.size_alloc] at hb; obtain ⟨c0, c1, c2, c3⟩ := (HC.out.below hb (by omega)).four0)
        | (go_at_call 11; refine (s_l1In _ _ _ _).mono ?_; rintro e w' ⟨rfl, rfl⟩)
        | go_in)
      go_ret
      exact ⟨ret_bool Hv.out.symm, box_below hb⟩
    · by_cases ht : 1 ≤ t ∧ t ≤ 4
      · have hm := inR_no (fun hm => h1 ⟨hn, ht, hm⟩ : ¬ (1 ≤ m ∧ m ≤ 3))
        have ht' := inR_yes ht
        clear h1 ht
        go_enter Tryz.func65, Tryz.ntmps65
        go_wp2_with (first
        | (go_at_call 66; refine (s_IsValidName _ _ hs).mono ?_; rintro e w' ⟨rfl, hb⟩; rw [World.size_alloc] at hb; obtain ⟨c0, c1, c2, c3⟩ := (HC.out.below hb (by omega)).four0)
        | (go_at_call 11; refine (s_l1In _ _ _ _).mono ?_; rintro e w' ⟨rfl, rfl⟩)
        | go_in)
        go_ret
        exact ⟨ret_bool Hv.out.symm, box_below hb⟩
      · have ht' := inR_no ht
        clear h1 ht
        go_enter Tryz.func65, Tryz.ntmps65
        go_wp2_with (first
        | (go_at_call 66; refine (s_IsValidName _ _ hs).mono ?_; rintro e w' ⟨rfl, hb⟩; rw [World.size_alloc] at hb; obtain ⟨c0, c1, c2, c3⟩ := (HC.out.below hb (by omega)).four0)
        | (go_at_call 11; refine (s_l1In _ _ _ _).mono ?_; rintro e w' ⟨rfl, rfl⟩)
        | go_in)
        go_ret
        exact ⟨ret_bool Hv.out.symm, box_below hb⟩
set_option maxHeartbeats 800000 in
theorem i_IsValidAttribute (s : ByteArray) (t m : Int) (c : Bool) (hs : s.size ≤ maxLen) (w : World) : Calls Tryz.prog 79 #[.agg #[.string s, .int .i64 t, .int .i64 m, .bool c]] w fun e w' => e = .returned (.bool (validA s t m c)) ∧ Below w.heap.size w w' := by
  by_cases h1 : validN s = true ∧ (1 ≤ t ∧ t ≤ 4) ∧ (1 ≤ m ∧ m ≤ 3)
  · obtain ⟨hn, ht, hm⟩ := h1
    rw [validA_good hn ht hm]
    have ht' := inR_yes ht
    have hm' := inR_yes hm
    clear ht hm
    by_cases h3 : m = 3 <;> by_cases h2 : t = 2 <;> cases c
    all_goals
      first | rw [if_pos h3] | rw [if_neg h3]
      first | rw [decide_eq_true h2] | rw [decide_eq_false h2]
      first | (have e3 : (m == 3) = true := beq_iff_eq.2 h3) | (have e3 : (m == 3) = false := beq_eq_false_iff_ne.2 h3)
      first | (have e2 : (t == 2) = true := beq_iff_eq.2 h2) | (have e2 : (t == 2) = false := beq_eq_false_iff_ne.2 h2)
      first | (have e4 : (t != 2) = false := by rw [bne_eq_false_iff_eq]; exact h2) | (have e4 : (t != 2) = true := by rw [bne_iff_ne]; exact h2)
      clear h2 h3
      go_enter Tryz.func79, Tryz.ntmps79
      go_wp2_with (first
        | (go_at_call 81; refine (i_IsValidName _ _ hs).mono ?_; rintro e w' ⟨rfl, rfl⟩)
        | (go_at_call 16; refine (i_within _ _ _ _).mono ?_; rintro e w' ⟨rfl, rfl⟩)
        | go_in)
      go_ret
      exact ⟨rfl, (Below.refl _ _).alloc (Nat.le_refl _) _⟩
  · have Hv := hide (validA_bad (c := c) h1)
    cases hn : validN s
    · go_enter Tryz.func79, Tryz.ntmps79
      go_wp2_with (first
        | (go_at_call 81; refine (i_IsValidName _ _ hs).mono ?_; rintro e w' ⟨rfl, rfl⟩)
        | (go_at_call 16; refine (i_within _ _ _ _).mono ?_; rintro e w' ⟨rfl, rfl⟩)
        | go_in)
      go_ret
      exact ⟨ret_bool Hv.out.symm, (Below.refl _ _).alloc (Nat.le_refl _) _⟩
    · by_cases ht : 1 ≤ t ∧ t ≤ 4
      · have hm := inR_no (fun hm => h1 ⟨hn, ht, hm⟩ : ¬ (1 ≤ m ∧ m ≤ 3))
        have ht' := inR_yes ht
        clear h1 ht
        go_enter Tryz.func79, Tryz.ntmps79
        go_wp2_with (first
        | (go_at_call 81; refine (i_IsValidName _ _ hs).mono ?_; rintro e w' ⟨rfl, rfl⟩)
        | (go_at_call 16; refine (i_within _ _ _ _).mono ?_; rintro e w' ⟨rfl, rfl⟩)
        | go_in)
        go_ret
        exact ⟨ret_bool Hv.out.symm, (Below.refl _ _).alloc (Nat.le_refl _) _⟩
      · have ht' := inR_no ht
        clear h1 ht
        go_enter Tryz.func79, Tryz.ntmps79
        go_wp2_with (first
        | (go_at_call 81; refine (i_IsValidName _ _ hs).mono ?_; rintro e w' ⟨rfl, rfl⟩)
        | (go_at_call 16; refine (i_within _ _ _ _).mono ?_; rintro e w' ⟨rfl, rfl⟩)
        | go_in)
        go_ret
        exact ⟨ret_bool Hv.out.symm, (Below.refl _ _).alloc (Nat.le_refl _) _⟩
end Go.Proofs.YthlhhnnlbpecnaaGreat

/- Texts of a slice without some: contracts of both sides; how an owned row of texts is told as a slice. Conditions: the slice has at most 2^20 texts. -/
namespace Go.Proofs.YthlhhnnlbpecnaaGreat
set_option linter.unusedSimpArgs false
set_option linter.unusedVariables false
set_option maxRecDepth 100000
open Go.RowKit Go.WideShapes
set_option linter.unusedVariables false

/-- An owned row of texts, told as a slice. -/
theorem own_strs {D : Nat} {w : World} {base e n : Nat} {v : Value} {xs : List ByteArray} (h : w.ownsRow base e 1 v n (xs.map Value.string)) (hx : ∀ x ∈ xs, x.size ≤ maxLen) :
    ∃ F, SlR 1 (StrR D) w xs v F ∧ Fresh base w F := by
  obtain ⟨h1, h2⟩ := h
  have hl : xs.length = n := by simpa using h1
  rcases h2 with ⟨rfl, h0⟩ | ⟨g, cap, cur, rfl, hg, hb, hn, hm, hc, ht⟩
  · have hx0 : xs = [] := List.length_eq_zero_iff.1 (by omega)
    subst hx0
    exact ⟨[], ⟨none, 0, rfl, Nat.le_refl _, by simp [maxLen], .inl ⟨rfl, rfl⟩⟩, Fresh.nil _ _⟩
  · subst hl
    have hcell : ∀ (j : Nat) (u : Value), (xs.map Value.string)[j]? = some u → w.cell? ⟨g, 0 + j, none⟩ = some u := fun j u hu => by
      rw [cell_of_row _ _ _ _ _ _ hb, Nat.zero_add]
      rw [← ht] at hu
      have hj := (List.getElem?_eq_some_iff.1 hu).1
      rw [List.getElem?_take] at hu
      split at hu
      · simpa using hu
      · cases hu
    exact ⟨[g], ⟨some ⟨g, 0, none⟩, cap, rfl, hn, hm, .inr ⟨g, 0, [], rfl, blk_lt hb, rfl, ElR.of_strs hx hcell⟩⟩, ⟨by simp, fun b hb' => by simp at hb'; omega, fun b hb' => by simp at hb'; subst hb'; exact ⟨cur, e, hb⟩⟩⟩
def without (xs rm : List ByteArray) : List ByteArray := xs.filter fun x => !hasS rm x
theorem without_keep {xs rm : List ByteArray} {j : Nat} {x : ByteArray} (hx : xs[j]? = some x) (h : hasS rm x = false) : without (xs.take (j + 1)) rm = without (xs.take j) rm ++ [x] := by
  unfold without
  rw [take_snoc hx, List.filter_append]
  simp [List.filter, h]
theorem without_drop {xs rm : List ByteArray} {j : Nat} {x : ByteArray} (hx : xs[j]? = some x) (h : hasS rm x = true) : without (xs.take (j + 1)) rm = without (xs.take j) rm := by
  unfold without
  rw [take_snoc hx, List.filter_append]
  simp [List.filter, h]
theorem without_len (xs rm : List ByteArray) (j : Nat) : (without (xs.take j) rm).length ≤ j := by
  unfold without
  exact Nat.le_trans (List.length_filter_le _ _) (List.length_take_le _ _)
theorem infoStr : (Tryz.prog.info? 9).map (fun i => (i.zero, i.size, i.bytes)) = some (some (.string ByteArray.empty), 1, 16) := by kernel_rfl
end Go.Proofs.YthlhhnnlbpecnaaGreat

/- Valid symbols: both sides. Conditions: a symbol has at most 2^20 attributes. -/
namespace Go.Proofs.YthlhhnnlbpecnaaGreat
set_option linter.unusedSimpArgs false
set_option linter.unusedVariables false
set_option maxRecDepth 100000
open Go.RowKit Go.WideShapes
set_option linter.unusedVariables false

theorem Rd.take {w : World} {B : Nat} {A : Option Addr} {n k : Nat} {xs : List ByteArray} (h : Rd w B A n (xs.map Value.string)) (hk : k ≤ n) : Rd w B A k ((xs.take k).map Value.string) := by
  refine ⟨by have := h.len; simp; omega, fun h0 => ?_⟩
  obtain ⟨b, off, hA, hb, hc⟩ := h.2 (by omega)
  refine ⟨b, off, hA, hb, fun j u hu => hc j u ?_⟩
  rw [List.map_take, List.getElem?_take] at hu
  split at hu
  · exact hu
  · cases hu
def disB (xs : List ByteArray) (j : Nat) : Bool := !hasS (xs.take j) (xs.getD j ⟨#[]⟩)
def distS (xs : List ByteArray) : Bool := (List.range xs.length).all (disB xs)
theorem dist_next {xs : List ByteArray} {j : Nat} (h : (List.range j).all (disB xs) = true) (hj : disB xs j = true) : (List.range (j + 1)).all (disB xs) = true := by
  rw [List.range_succ, List.all_append, h]
  simp [hj]
theorem dist_bad {xs : List ByteArray} {j : Nat} (hl : j < xs.length) (hj : disB xs j = false) : distS xs = false := by
  unfold distS
  rw [List.all_eq_false]
  exact ⟨j, by simp; exact hl, by simp [hj]⟩
theorem disB_at {xs : List ByteArray} {j : Nat} {x : ByteArray} (hx : xs[j]? = some x) : disB xs j = !hasS (xs.take j) x := by unfold disB; rw [List.getD, hx]; rfl
set_option maxRecDepth 100000 in
theorem s_AllDistinct (A : Option Addr) (n c : Nat) (xs : List ByteArray) (w : World) (hr : Rd w w.heap.size A n (xs.map Value.string)) (hn : n ≤ 1048576) (hc : n ≤ c) :
    Calls Tryz.prog 67 #[.slice A n c] w fun e w' => e = .returned (.bool (distS xs)) ∧ Below w.heap.size w w' := by
  have hl := hr.len
  have Hr := hide hr
  have hm : n ≤ 9223372036854775807 := by omega
  clear hr
  go_enter Tryz.func67, Tryz.ntmps67
  go_wp2_with fail
  go_loopw [3] (fun i wr => ∃ j : Nat, j ≤ n ∧ i = .int .i64 j ∧ Hid ((List.range j).all (disB xs) = true) ∧ Hid (Below w.heap.size w wr)) (fun i _ => n - (intOf i).toNat)
  case atStart => exact ⟨0, by omega, rfl, hide rfl, hide (Below.refl _ _)⟩
  case round =>
    obtain ⟨j, hj, rfl, Hall, Hb⟩ := hrel
    by_cases hlt : j < n
    · obtain ⟨b, off, x, hA, hb, hx, hcell⟩ := (Hr.out.below Hb.out).get hlt
      subst hA
      have hblt := Nat.lt_of_lt_of_le hb Hb.out.size
      have e0 : ∀ W : World, Below wr.heap.size wr W → W.cell? ⟨b, off + j, none⟩ = some (.string x) := fun W h => (h.cell (p := ⟨b, off + j, none⟩) hblt).trans hcell
      have HT : Hid (∀ W : World, Below wr.heap.size wr W → Rd W w.heap.size (some ⟨b, off, none⟩) j ((xs.take j).map Value.string)) := hide fun W h => ((Hr.out.below Hb.out).below (h.mono Hb.out.size)).take (by omega)
      have Hx := hide hx
      have hj0 : (0 : Int) ≤ (j : Int) := by omega
      have hj1 : (j : Int) < (n : Int) := by omega
      have hj2 : (j : Int) ≤ (c : Int) := by omega
      have hjm : j ≤ 9223372036854775807 := by omega
      clear hx hcell hb
      cases hq : hasS (xs.take j) x
      all_goals
        go_wp2_with fail
        go_region_held3 (fun W => Below wr.heap.size wr W)
          (first | assumption | exact Below.drew (by first | assumption | exact Below.refl _ _))
          ((go_at_call 29; refine Calls.mono (s_l1Has (some ⟨b, off, none⟩) j c x (xs.take j) w.heap.size _ (HT.out _ (by (repeat (first | assumption | apply Below.drew | exact Below.refl _ _)))) hjm) ?_; rintro en w2 ⟨rfl, rfl⟩; rw [hq]))
      · have Hj := hide (show disB xs j = true by rw [disB_at Hx.out, hq]; rfl)
        clear hq
        go_wp2_with fail
        go_roundw
        case rel => exact ⟨j + 1, by omega, by go_num, hide (dist_next Hall.out Hj.out), hide (by (repeat (first | exact Hb.out | apply Below.drew)))⟩
        case measure => simp [intOf]; omega
      · have Hj := hide (dist_bad (j := j) (by omega) (show disB xs j = false by rw [disB_at Hx.out, hq]; rfl))
        clear hq
        go_wp2_with fail
        go_ret
        exact ⟨ret_bool Hj.out.symm, by (repeat (first | exact Hb.out | apply Below.drew))⟩
    · have hjn : j = n := by omega
      have Hd : Hid (distS xs = true) := hide (by have := Hall.out; rw [hjn, ← hl] at this; exact this)
      go_wp2_with fail
      go_ret
      exact ⟨ret_bool Hd.out.symm, Hb.out⟩
def vA (a : Atr) : Bool := validA a.name a.type a.mode a.circ
def nms (x : Sym) : List ByteArray := x.attrs.map (·.name)
def validY (x : Sym) : Bool := x.attrs.all vA && (validN x.name && (decide (x.attrs.length ≤ 4) && distS (nms x)))
theorem nms_len (x : Sym) : (nms x).length = x.attrs.length := by simp [nms]
theorem nms_next {x : Sym} {j : Nat} {y : Atr} (h : x.attrs[j]? = some y) : (nms x).take (j + 1) = (nms x).take j ++ [y.name] := take_snoc (by simp [nms, h])
theorem all_take' {α : Type} {f : α → Bool} {xs : List α} {k : Nat} {x : α} (hx : xs[k]? = some x) (h : (xs.take k).all f = true) (hf : f x = true) : (xs.take (k + 1)).all f = true := by rw [take_snoc hx, List.all_append, h]; simp [hf]
theorem all_miss' {α : Type} {f : α → Bool} {xs : List α} {k : Nat} {x : α} (hx : xs[k]? = some x) (hf : f x = false) : xs.all f = false := by
  rw [List.all_eq_false]
  exact ⟨x, List.mem_of_getElem? hx, by simp [hf]⟩
end Go.Proofs.YthlhhnnlbpecnaaGreat

/- The attributes that an expression uses: in ascending order, each once: what insertion gives is what sorting and compacting gives. Plain: no program. -/
namespace Go.Proofs.YthlhhnnlbpecnaaGreat
set_option linter.unusedSimpArgs false
set_option linter.unusedVariables false
set_option maxRecDepth 100000
set_option linter.unusedVariables false

theorem Occ.ext' {a b : Occ} (h1 : a.pos = b.pos) (h2 : a.name.data.toList = b.name.data.toList) : a = b := by
  obtain ⟨p, n⟩ := a
  obtain ⟨p', n'⟩ := b
  simp only at h1 h2
  subst h1
  congr 1
  apply ByteArray.ext
  exact Array.toList_inj.1 h2
instance : Inhabited Occ := ⟨⟨0, ⟨#[]⟩⟩⟩
instance occDec : DecidableEq Occ := fun a b =>
  if h : a.pos = b.pos ∧ a.name.data.toList = b.name.data.toList then .isTrue (Occ.ext' h.1 h.2) else .isFalse fun e => h (by rw [e]; exact ⟨rfl, rfl⟩)
def occLt (a b : Occ) : Prop := a.pos < b.pos ∨ (a.pos = b.pos ∧ a.name.data.toList < b.name.data.toList)
instance occLtDec (a b : Occ) : Decidable (occLt a b) := inferInstanceAs (Decidable (a.pos < b.pos ∨ (a.pos = b.pos ∧ a.name.data.toList < b.name.data.toList)))
theorem occ_irrefl (a : Occ) : ¬ occLt a a := by
  rintro (h | ⟨_, h⟩)
  · omega
  · exact List.lt_irrefl _ h
theorem occ_trans {a b c : Occ} (h1 : occLt a b) (h2 : occLt b c) : occLt a c := by
  rcases h1 with h1 | ⟨e1, h1⟩ <;> rcases h2 with h2 | ⟨e2, h2⟩
  · exact .inl (by omega)
  · exact .inl (by omega)
  · exact .inl (by omega)
  · exact .inr ⟨by omega, List.lt_trans h1 h2⟩
theorem occ_tri (a b : Occ) (h1 : ¬ occLt a b) (h2 : a ≠ b) : occLt b a := by
  unfold occLt at h1 ⊢
  by_cases hp : a.pos = b.pos
  · right
    refine ⟨hp.symm, ?_⟩
    rcases Classical.em (b.name.data.toList < a.name.data.toList) with h | h
    · exact h
    · have h3 : ¬ a.name.data.toList < b.name.data.toList := fun q => h1 (.inr ⟨hp, q⟩)
      exact absurd (Occ.ext' hp (List.le_antisymm (List.not_lt.1 h) (List.not_lt.1 h3))) h2
  · left
    have : ¬ a.pos < b.pos := fun q => h1 (.inl q)
    omega
/-- Not behind: a ≤ b. -/
theorem occ_le_trans {a b c : Occ} (h1 : ¬ occLt b a) (h2 : ¬ occLt c b) : ¬ occLt c a := fun h => by
  by_cases e : a = b
  · subst e; exact h2 h
  · have hab : occLt a b := by
      by_cases q : occLt a b
      · exact q
      · exact absurd (occ_tri a b q e) h1
    exact h2 (occ_trans h hab)
theorem occ_le_lt {a b c : Occ} (h1 : ¬ occLt b a) (h2 : occLt b c) : occLt a c := by
  by_cases e : a = b
  · subst e; exact h2
  · have hab : occLt a b := by
      by_cases q : occLt a b
      · exact q
      · exact absurd (occ_tri a b q e) h1
    exact occ_trans hab h2
/-- x put at its place, once. -/
def insO : List Occ → Occ → List Occ
  | [], x => [x]
  | y :: r, x => if occLt y x then y :: insO r x else if y = x then y :: r else x :: y :: r
theorem mem_insO (x : Occ) : ∀ (l : List Occ) (z : Occ), z ∈ insO l x ↔ z = x ∨ z ∈ l
  | [], z => by simp [insO]
  | y :: r, z => by
    unfold insO
    split
    · simp only [List.mem_cons, mem_insO x r z]
      constructor
      · rintro (h | h | h)
        · exact .inr (.inl h)
        · exact .inl h
        · exact .inr (.inr h)
      · rintro (h | h | h)
        · exact .inr (.inl h)
        · exact .inl h
        · exact .inr (.inr h)
    · split
      · rename_i h
        subst h
        simp
      · simp
theorem strict_insO (x : Occ) : ∀ (l : List Occ), l.Pairwise occLt → (insO l x).Pairwise occLt
  | [], _ => by simp [insO]
  | y :: r, h => by
    rw [List.pairwise_cons] at h
    unfold insO
    split
    · rename_i hyx
      rw [List.pairwise_cons]
      refine ⟨fun z hz => ?_, strict_insO x r h.2⟩
      rcases (mem_insO x r z).1 hz with rfl | hz
      · exact hyx
      · exact h.1 z hz
    · rename_i hyx
      split
      · exact List.pairwise_cons.2 h
      · rename_i hne
        have hxy : occLt x y := occ_tri y x hyx hne
        rw [List.pairwise_cons]
        refine ⟨fun z hz => ?_, List.pairwise_cons.2 h⟩
        rcases List.mem_cons.1 hz with rfl | hz
        · exact hxy
        · exact occ_trans hxy (h.1 z hz)
/-- What the insertion does, told by the place. -/
theorem insO_at (x : Occ) : ∀ (l : List Occ) (a : Nat), a ≤ l.length → (∀ k y, k < a → l[k]? = some y → occLt y x) → (∀ y, l[a]? = some y → ¬ occLt y x) →
    insO l x = if l[a]? = some x then l else l.take a ++ x :: l.drop a
  | [], a, ha, _, _ => by
    obtain rfl : a = 0 := by simpa using ha
    simp [insO]
  | y :: r, 0, _, _, h2 => by
    have hy : ¬ occLt y x := h2 y rfl
    unfold insO
    rw [if_neg hy]
    by_cases h : y = x <;> simp [h]
  | y :: r, a + 1, ha, h1, h2 => by
    have hy : occLt y x := h1 0 y (by omega) rfl
    unfold insO
    rw [if_pos hy, insO_at x r a (by simpa using ha) (fun k z hk hz => h1 (k + 1) z (by omega) (by simpa using hz)) (fun z hz => h2 z (by simpa using hz))]
    by_cases h : r[a]? = some x <;> simp [h]
/-- All put in, one after the other. -/
def sortO (l : List Occ) : List Occ := l.foldl insO []
theorem foldO_both : ∀ (l a : List Occ), a.Pairwise occLt → (l.foldl insO a).Pairwise occLt ∧ ∀ z, z ∈ l.foldl insO a ↔ z ∈ l ∨ z ∈ a
  | [], a, h => ⟨h, fun z => by simp⟩
  | x :: r, a, h => by
    obtain ⟨h1, h2⟩ := foldO_both r (insO a x) (strict_insO x a h)
    refine ⟨h1, fun z => ?_⟩
    rw [List.foldl_cons, h2, mem_insO, List.mem_cons]
    constructor
    · rintro (h | h | h)
      · exact .inl (.inr h)
      · exact .inl (.inl h)
      · exact .inr h
    · rintro ((h | h) | h)
      · exact .inr (.inl h)
      · exact .inl h
      · exact .inr (.inr h)
theorem sortO_both (l : List Occ) : (sortO l).Pairwise occLt ∧ ∀ z, z ∈ sortO l ↔ z ∈ l := by
  obtain ⟨h1, h2⟩ := foldO_both l [] List.Pairwise.nil
  exact ⟨h1, fun z => by unfold sortO; rw [h2]; simp⟩
/-- Two strictly ascending lists of the same members are one. -/
theorem strict_eqO : ∀ (a b : List Occ), a.Pairwise occLt → b.Pairwise occLt → (∀ z, z ∈ a ↔ z ∈ b) → a = b
  | [], [], _, _, _ => rfl
  | [], y :: r, _, _, h => absurd ((h y).2 (by simp)) (by simp)
  | x :: a, [], _, _, h => absurd ((h x).1 (by simp)) (by simp)
  | x :: a, y :: b, ha, hb, h => by
    rw [List.pairwise_cons] at ha hb
    have hxy : x = y := by
      rcases List.mem_cons.1 ((h x).1 (by simp)) with e | e
      · exact e
      · rcases List.mem_cons.1 ((h y).2 (by simp)) with e' | e'
        · exact e'.symm
        · exact absurd (occ_trans (ha.1 y e') (hb.1 x e)) (occ_irrefl _)
    subst hxy
    congr 1
    refine strict_eqO a b ha.2 hb.2 fun z => ⟨fun hz => ?_, fun hz => ?_⟩
    · rcases List.mem_cons.1 ((h z).1 (by simp [hz])) with e | e
      · subst e; exact absurd (ha.1 z hz) (occ_irrefl _)
      · exact e
    · rcases List.mem_cons.1 ((h z).2 (by simp [hz])) with e | e
      · subst e; exact absurd (hb.1 z hz) (occ_irrefl _)
      · exact e
/-- An ascending row, neighbours that are equal taken once. -/
theorem compact_bothO (l : List Occ) (hs : l.Pairwise (fun a b => ¬ occLt b a)) : (Lib.compact l).Pairwise occLt ∧ ∀ z, z ∈ Lib.compact l ↔ z ∈ l := by
  have hg : ∀ i j, i ≤ j → j < l.length → ¬ occLt l.toArray[j]! l.toArray[i]! := by
    intro i j hij hj
    have hi : i < l.length := by omega
    simp only [List.getElem!_toArray]
    rw [getElem!_pos l i hi, getElem!_pos l j hj]
    rcases Nat.lt_or_eq_of_le hij with h | rfl
    · exact List.pairwise_iff_getElem.1 hs i j hi hj h
    · exact occ_irrefl _
  have key : ∀ m, m ≤ l.length → (Lib.compactUpTo l.toArray m).Pairwise occLt ∧ (∀ z ∈ Lib.compactUpTo l.toArray m, 0 < m ∧ ¬ occLt l.toArray[m - 1]! z) ∧ (∀ z, z ∈ Lib.compactUpTo l.toArray m ↔ ∃ i, i < m ∧ l.toArray[i]! = z) := by
    intro m
    induction m with
    | zero => intro _; simp [Lib.compactUpTo]
    | succ m ih =>
      intro hm
      obtain ⟨h1, h2, h3⟩ := ih (by omega)
      rw [Lib.compactUpTo_succ]
      by_cases hk : Lib.keeps l.toArray m = true
      · rw [if_pos hk]
        refine ⟨?_, ?_, ?_⟩
        · rw [List.pairwise_append]
          refine ⟨h1, by simp, fun z hz u hu => ?_⟩
          obtain rfl := List.mem_singleton.1 hu
          obtain ⟨h0, hz⟩ := h2 z hz
          have hne : l.toArray[m]! ≠ l.toArray[m - 1]! := by
            simp only [Lib.keeps, decide_eq_true_eq] at hk
            rcases hk with hk | hk
            · omega
            · exact hk
          have hle := hg (m - 1) m (by omega) (by omega)
          have hlt : occLt l.toArray[m - 1]! l.toArray[m]! := by
            rcases Classical.em (occLt l.toArray[m - 1]! l.toArray[m]!) with h | h
            · exact h
            · exact absurd (occ_tri _ _ h (fun e => hne e.symm)) hle
          exact occ_le_lt hz hlt
        · intro z hz
          refine ⟨by omega, ?_⟩
          rw [Nat.add_sub_cancel]
          rcases List.mem_append.1 hz with hz | hz
          · obtain ⟨h0, hz⟩ := h2 z hz
            exact occ_le_trans hz (hg (m - 1) m (by omega) (by omega))
          · obtain rfl := List.mem_singleton.1 hz
            exact occ_irrefl _
        · intro z
          rw [List.mem_append, h3, List.mem_singleton]
          constructor
          · rintro (⟨i, hi, h⟩ | h)
            · exact ⟨i, by omega, h⟩
            · exact ⟨m, by omega, h.symm⟩
          · rintro ⟨i, hi, h⟩
            rcases Nat.lt_or_ge i m with h' | h'
            · exact .inl ⟨i, h', h⟩
            · obtain rfl : i = m := by omega
              exact .inr h.symm
      · rw [if_neg hk, List.append_nil]
        have h0 : 0 < m := by
          rcases Nat.eq_zero_or_pos m with h | h
          · subst h; exact absurd (Lib.keeps_lt_one _ 0 (by omega)) hk
          · exact h
        have he : l.toArray[m]! = l.toArray[m - 1]! := by
          rcases Classical.em (l.toArray[m]! = l.toArray[m - 1]!) with h | h
          · exact h
          · exact absurd (Lib.keeps_pos h) hk
        refine ⟨h1, ?_, ?_⟩
        · intro z hz
          refine ⟨by omega, ?_⟩
          rw [Nat.add_sub_cancel, he]
          exact (h2 z hz).2
        · intro z
          rw [h3]
          constructor
          · rintro ⟨i, hi, h⟩
            exact ⟨i, by omega, h⟩
          · rintro ⟨i, hi, h⟩
            rcases Nat.lt_or_ge i m with h' | h'
            · exact ⟨i, h', h⟩
            · obtain rfl : i = m := by omega
              exact ⟨i - 1, by omega, he ▸ h⟩
  obtain ⟨h1, _, h3⟩ := key l.length (Nat.le_refl _)
  refine ⟨h1, fun z => ?_⟩
  rw [Lib.compact, h3]
  constructor
  · rintro ⟨i, hi, h⟩
    simp only [List.getElem!_toArray] at h
    rw [getElem!_pos l i hi] at h
    exact h ▸ List.getElem_mem hi
  · intro hz
    obtain ⟨i, hi, h⟩ := List.getElem_of_mem hz
    refine ⟨i, hi, ?_⟩
    simp only [List.getElem!_toArray]
    rw [getElem!_pos l i hi, h]
/-- What the program's comparison says. -/
def cmpB (a b : List UInt8) : Int := if a < b then -1 else if b < a then 1 else 0
def cmpI (a b : Int) : Int := if a < b then -1 else if a > b then 1 else 0
def cmpO (a b : Occ) : Int := if cmpI a.pos b.pos ≠ 0 then cmpI a.pos b.pos else cmpB a.name.data.toList b.name.data.toList
theorem cmpO_lt (a b : Occ) : cmpO a b < 0 ↔ occLt a b := by
  unfold cmpO cmpI cmpB occLt
  by_cases h1 : a.pos < b.pos
  · simp [h1]
  · by_cases h2 : b.pos < a.pos
    · have : ¬ a.pos = b.pos := by omega
      simp [h1, h2, this]
    · have h3 : a.pos = b.pos := by omega
      by_cases h4 : a.name.data.toList < b.name.data.toList
      · simp [h3, h4]
      · by_cases h5 : b.name.data.toList < a.name.data.toList <;> simp [h3, h4, h5]
/-- THE LAW. -/
theorem sorted_onceO (l : List Occ) (le : Occ → Occ → Bool) (hle : ∀ a b, le a b = !decide (occLt b a)) : Lib.compact (l.mergeSort le) = sortO l := by
  have hs : (l.mergeSort le).Pairwise (fun a b => ¬ occLt b a) := by
    have := List.pairwise_mergeSort (le := le) (fun a b c h1 h2 => by
      rw [hle] at *
      simp only [Bool.not_eq_true', decide_eq_false_iff_not] at *
      exact occ_le_trans h1 h2) (fun a b => by
      rw [hle, hle]
      by_cases h : occLt b a
      · have h2 : ¬ occLt a b := fun q => occ_irrefl _ (occ_trans h q)
        simp [h2]
      · simp [h]) l
    exact this.imp fun h => by rw [hle] at h; simpa using h
  obtain ⟨h1, h2⟩ := compact_bothO _ hs
  obtain ⟨h3, h4⟩ := sortO_both l
  exact strict_eqO _ _ h1 h3 fun z => by rw [h2, List.mem_mergeSort, h4]
/-- The attributes that an expression uses, as its nodes come. -/
def useH (h : ExH) : List Occ := if h.kind = 3 then [⟨h.pos, h.name⟩] else []
def usesE : Nat → Ex → List Occ
  | 0, _ => []
  | d + 1, e => useH e.h ++ (e.args.map (usesE d)).flatten
def putsE (d : Nat) (e : Ex) (l : List Occ) : List Occ := (usesE d e).foldl insO l
theorem usesE_len : ∀ d e, ((usesE d e).length : Int) ≤ cntE d e
  | 0, _ => Int.le_refl _
  | d + 1, e => by
    have h : ∀ l : List Ex, (((l.map (usesE d)).flatten).length : Int) ≤ sumBy (cntE d) l := by
      intro l
      induction l with
      | nil => simp [sumBy]
      | cons x r ih =>
        have := usesE_len d x
        simp only [List.map_cons, List.flatten_cons, List.length_append, sumBy]
        omega
    have h2 : ((useH e.h).length : Int) ≤ 1 := by unfold useH; split <;> simp
    have := h e.args
    simp only [usesE, cntE, List.length_append]
    omega
end Go.Proofs.YthlhhnnlbpecnaaGreat

/- What the shape check of a grammar finds. Plain: no program. -/
namespace Go.Proofs.YthlhhnnlbpecnaaGreat
set_option linter.unusedSimpArgs false
set_option linter.unusedVariables false
set_option maxRecDepth 100000
set_option linter.unusedVariables false

theorem any_none {α : Type} {p : α → Bool} {l : List α} : l.any p = false ↔ ∀ x ∈ l, p x = false := by
  rw [List.any_eq_false]
  exact ⟨fun h x hx => by simpa using h x hx, fun h x hx => by simp [h x hx]⟩
theorem any_at {α : Type} {p : α → Bool} {l : List α} {j : Nat} {x : α} (hx : l[j]? = some x) (h : p x = true) : l.any p = true := List.any_eq_true.2 ⟨x, List.mem_of_getElem? hx, h⟩
theorem any_next {α : Type} {p : α → Bool} {l : List α} {j : Nat} {x : α} (hx : l[j]? = some x) (h : (l.take j).any p = false) (hp : p x = false) : (l.take (j + 1)).any p = false := by
  rw [take_snoc hx, List.any_append, h]
  simp [hp]
theorem any_range {p : Nat → Bool} {n j : Nat} (hj : j < n) (h : p j = true) : (List.range n).any p = true := List.any_eq_true.2 ⟨j, by simpa using hj, h⟩
theorem any_range_next {p : Nat → Bool} {j : Nat} (h : (List.range j).any p = false) (hp : p j = false) : (List.range (j + 1)).any p = false := by
  rw [List.range_succ, List.any_append, h]
  simp [hp]
theorem eqOcc_comm (a b : Occ) : eqOcc a b = eqOcc b a := by
  unfold eqOcc
  rw [Bool.eq_iff_iff]
  simp only [Bool.and_eq_true, beq_iff_eq]
  exact ⟨fun h => ⟨h.1.symm, h.2.symm⟩, fun h => ⟨h.1.symm, h.2.symm⟩⟩
/-- Is an occurrence on a list. -/
def hasO (l : List Occ) (o : Occ) : Bool := l.any fun a => eqOcc a o
theorem hasO_snoc (l : List Occ) (a o : Occ) : hasO (l ++ [a]) o = (hasO l o || eqOcc a o) := by simp [hasO]
/-- Has the rule an equation at o. -/
def hasQ (l : List Eqn) (o : Occ) : Bool := l.any fun e => eqOcc e.at_ o
theorem hasQ_find (l : List Eqn) (o : Occ) : (findQ l o).isSome = hasQ l o := by
  unfold findQ hasQ
  rw [Option.isSome_map, List.isSome_find?]
theorem hasQ_map (l : List Eqn) (o : Occ) : hasO (l.map (·.at_)) o = hasQ l o := by
  unfold hasO hasQ
  rw [List.any_map]
  rfl
def noSym (g : Grm) (x : Rul) (n : Nat) : Bool := (findS g.symbols (symAt x n)).isNone
def symB (g : Grm) (x : Rul) : Bool := (List.range (x.right.length + 1)).any (noSym g x)
def misB (g : Grm) (x : Rul) : Bool := (reqO g x).any fun o => !hasQ x.eqs o
def extAt (g : Grm) (x : Rul) (j : Nat) (e : Eqn) : Bool := !hasO (reqO g x) e.at_ || hasQ (x.eqs.take j) e.at_
def extI (g : Grm) (x : Rul) (j : Nat) : Bool := match x.eqs[j]? with | some e => extAt g x j e | none => false
theorem extI_at {g : Grm} {x : Rul} {j : Nat} {e : Eqn} (h : x.eqs[j]? = some e) : extI g x j = extAt g x j e := by unfold extI; rw [h]
def extB (g : Grm) (x : Rul) : Bool := (List.range x.eqs.length).any (extI g x)
def useE (D : Nat) (g : Grm) (x : Rul) (e : Ex) : Bool := (sortO (usesE D e)).any fun o => !mayU g x o
def exprsC (l : List Con) : List Ex := l.flatMap fun c => [c.target, c.value]
def exprsR (x : Rul) : List Ex := x.eqs.map (·.expr) ++ exprsC x.cons
theorem exprsC_snoc {l : List Con} {j : Nat} {c : Con} (h : l[j]? = some c) : exprsC (l.take (j + 1)) = exprsC (l.take j) ++ [c.target, c.value] := by
  unfold exprsC
  rw [take_snoc h, List.flatMap_append]
  rfl
theorem exprsC_len (l : List Con) : (exprsC l).length = 2 * l.length := by
  unfold exprsC
  induction l with
  | nil => rfl
  | cons a r ih => rw [List.flatMap_cons, List.length_append, ih, List.length_cons]; simp; omega
def useB (D : Nat) (g : Grm) (x : Rul) : Bool := (exprsR x).any (useE D g x)
/-- Does a code apply to a rule. -/
def brk (D : Nat) (g : Grm) (c : Nat) (x : Rul) : Bool := if c = 3 then symB g x else if c = 4 then misB g x else if c = 5 then extB g x else useB D g x
theorem brk3 (D : Nat) (g : Grm) (x : Rul) : brk D g 3 x = symB g x := rfl
theorem brk4 (D : Nat) (g : Grm) (x : Rul) : brk D g 4 x = misB g x := rfl
theorem brk5 (D : Nat) (g : Grm) (x : Rul) : brk D g 5 x = extB g x := rfl
theorem brk6 (D : Nat) (g : Grm) (x : Rul) : brk D g 6 x = useB D g x := rfl
/-- The first symbol or rule that is not valid or has an earlier name. -/
def badS (g : Grm) : Option Nat := badAt validY (fun s => s.name.toList) g.symbols
def badR (D : Nat) (g : Grm) : Option Nat := badAt (validRul D) (fun s => s.name.toList) g.rules
def badG (D : Nat) (g : Grm) : Int := match badS g with
  | some i => i
  | none => match badR D g with
    | some i => i
    | none => -1
def startB (g : Grm) : Bool := match g.symbols with
  | [] => false
  | s :: _ => s.attrs.any fun a => a.mode == 1
def chk (D : Nat) (g : Grm) : Int × Int :=
  if inR g.symbols.length 1 4 = false ∨ inR g.rules.length 1 8 = false then (1, 0)
  else if 0 ≤ badG D g then (1, badG D g)
  else if startB g then (2, 0)
  else match firstAt (brk D g) g.rules 3 4 with
    | some (c, i) => (c, i)
    | none => (0, 0)
theorem badG_neg {D : Nat} {g : Grm} (h : ¬ 0 ≤ badG D g) : badS g = none ∧ badR D g = none := by
  unfold badG at h
  cases h1 : badS g with
  | some i => rw [h1] at h; exact absurd (by simp) h
  | none =>
    rw [h1] at h
    cases h2 : badR D g with
    | some i => rw [h2] at h; exact absurd (by simp) h
    | none => exact ⟨rfl, rfl⟩
theorem validRul_right {D : Nat} {x : Rul} (h : validRul D x = true) : x.right.length ≤ 3 := by
  unfold validRul at h
  simp only [Bool.and_eq_true, Bool.not_eq_true', decide_eq_false_iff_not] at h
  omega
theorem badG_good {D : Nat} {g : Grm} (h : ¬ 0 ≤ badG D g) {x : Rul} (hx : x ∈ g.rules) : x.right.length ≤ 3 := validRul_right (badAt_good (badG_neg h).2 hx)
end Go.Proofs.YthlhhnnlbpecnaaGreat

/- The first thing of a grammar that is not valid or has an earlier name: plain but for the readings. -/
namespace Go.Proofs.YthlhhnnlbpecnaaGreat
set_option linter.unusedSimpArgs false
set_option linter.unusedVariables false
set_option maxRecDepth 100000
open Go.RowKit Go.WideShapes
set_option linter.unusedVariables false

theorem grm_open {D : Nat} {w : World} {g : Grm} {gc0 gc1 : Value} {F : List Nat} (h : GrmR D w g [gc0, gc1] F) : ∃ A0 k0 A1 k1 F0 F1, gc0 = .slice A0 g.symbols.length k0 ∧ gc1 = .slice A1 g.rules.length k1 ∧ SlR 2 (SymR D) w g.symbols (.slice A0 g.symbols.length k0) F0 ∧ SlR 6 (RulR D) w g.rules (.slice A1 g.rules.length k1) F1 ∧ g.symbols.length ≤ k0 ∧ g.rules.length ≤ k1 := by
  obtain ⟨v0, F0, v1, F1, _, ⟨h0, g0⟩, ⟨h1, g1⟩, _⟩ := h
  obtain ⟨A0, k0, rfl, q0, _⟩ := g0.form
  obtain ⟨A1, k1, rfl, q1, _⟩ := g1.form
  exact ⟨A0, k0, A1, k1, F0, F1, Option.some.inj h0, Option.some.inj h1, g0, g1, q0, q1⟩
theorem badG_s {D : Nat} {g : Grm} {j : Nat} (h : badS g = some j) : badG D g = (j : Int) := by unfold badG; rw [h]
theorem badG_r {D : Nat} {g : Grm} {j : Nat} (h : badS g = none) (h2 : badR D g = some j) : badG D g = (j : Int) := by unfold badG; rw [h, h2]
theorem badG_n {D : Nat} {g : Grm} (h : badS g = none) (h2 : badR D g = none) : badG D g = -1 := by unfold badG; rw [h, h2]
theorem bad_next {α : Type} {ok : α → Bool} {nm : α → List UInt8} {l : List α} {j : Nat} {x : α} (h : ∀ k y, k < j → l[k]? = some y → isBad ok nm l k y = false) (hx : l[j]? = some x) (hb : isBad ok nm l j x = false) : ∀ k y, k < j + 1 → l[k]? = some y → isBad ok nm l k y = false := fun k y hk hy => by
  by_cases hkj : k < j
  · exact h k y hkj hy
  · obtain rfl : k = j := by omega
    rw [hx] at hy
    obtain rfl := Option.some.inj hy
    exact hb
theorem bad_all {α : Type} {ok : α → Bool} {nm : α → List UInt8} {l : List α} {j : Nat} (h : ∀ k y, k < j → l[k]? = some y → isBad ok nm l k y = false) (hj : j = l.length) : badAt ok nm l = none := badAt_none fun k y hy => h k y (by have := (List.getElem?_eq_some_iff.1 hy).1; omega) hy
end Go.Proofs.YthlhhnnlbpecnaaGreat

/- The shape check: plain. -/
namespace Go.Proofs.YthlhhnnlbpecnaaGreat
set_option linter.unusedSimpArgs false
set_option linter.unusedVariables false
set_option maxRecDepth 100000
open Go.RowKit Go.WideShapes
set_option linter.unusedVariables false

theorem chk_size {D : Nat} {g : Grm} (h : inR g.symbols.length 1 4 = false ∨ inR g.rules.length 1 8 = false) : chk D g = (1, 0) := by unfold chk; rw [if_pos h]
theorem chk_bad {D : Nat} {g : Grm} (h1 : inR g.symbols.length 1 4 = true) (h2 : inR g.rules.length 1 8 = true) (h : 0 ≤ badG D g) : chk D g = (1, badG D g) := by
  unfold chk
  rw [if_neg (by rw [h1, h2]; simp), if_pos h]
theorem chk_start {D : Nat} {g : Grm} (h1 : inR g.symbols.length 1 4 = true) (h2 : inR g.rules.length 1 8 = true) (h : badG D g < 0) (hs : startB g = true) : chk D g = (2, 0) := by
  unfold chk
  rw [if_neg (by rw [h1, h2]; simp), if_neg (Int.not_le.2 h), if_pos hs]
theorem chk_rest {D : Nat} {g : Grm} (h1 : inR g.symbols.length 1 4 = true) (h2 : inR g.rules.length 1 8 = true) (h : badG D g < 0) (hs : startB g = false) : chk D g = (match firstAt (brk D g) g.rules 3 4 with | some (c, i) => ((c : Int), (i : Int)) | none => (0, 0)) := by
  unfold chk
  rw [if_neg (by rw [h1, h2]; simp), if_neg (Int.not_le.2 h), hs]
  rfl
/-- No code below c applies to a rule. -/
def FromC (D : Nat) (g : Grm) (c : Nat) : Prop := firstAt (brk D g) g.rules 3 4 = firstAt (brk D g) g.rules c (7 - c)
theorem chk_hit {D : Nat} {g : Grm} {c j : Nat} {x : Rul} (h1 : inR g.symbols.length 1 4 = true) (h2 : inR g.rules.length 1 8 = true) (h : badG D g < 0) (hs : startB g = false) (hc : c ≤ 6) (hf : FromC D g c)
    (hn : ∀ k y, k < j → g.rules[k]? = some y → brk D g c y = false) (hx : g.rules[j]? = some x) (hb : brk D g c x = true) : chk D g = ((c : Int), (j : Int)) := by
  unfold FromC at hf
  rw [chk_rest h1 h2 h hs, hf, show 7 - c = (6 - c) + 1 by omega, firstAt_hit hn hx hb]
theorem chk_none {D : Nat} {g : Grm} (h1 : inR g.symbols.length 1 4 = true) (h2 : inR g.rules.length 1 8 = true) (h : badG D g < 0) (hs : startB g = false) {c : Nat} (hc : c = 7) (hf : FromC D g c) : chk D g = (0, 0) := by
  subst hc
  unfold FromC at hf
  rw [chk_rest h1 h2 h hs, hf]
  rfl
theorem code_next {D : Nat} {g : Grm} {c j : Nat} (hc : c ≤ 6) (hf : FromC D g c) (hn : ∀ k y, k < j → g.rules[k]? = some y → brk D g c y = false) (hj : j = g.rules.length) : FromC D g (c + 1) := by
  unfold FromC at hf ⊢
  rw [hf, show 7 - c = (6 - c) + 1 by omega, firstAt_next fun k y hy => hn k y (by have := (List.getElem?_eq_some_iff.1 hy).1; omega) hy, show 7 - (c + 1) = 6 - c by omega]
theorem brk_next {D : Nat} {g : Grm} {c j : Nat} {x : Rul} (hn : ∀ k y, k < j → g.rules[k]? = some y → brk D g c y = false) (hx : g.rules[j]? = some x) (hb : brk D g c x = false) : ∀ k y, k < j + 1 → g.rules[k]? = some y → brk D g c y = false := fun k y hk hy => by
  by_cases hkj : k < j
  · exact hn k y hkj hy
  · obtain rfl : k = j := by omega
    rw [hx] at hy
    obtain rfl := Option.some.inj hy
    exact hb
theorem ret_pair {a b a' b' : Int} {p : Int × Int} (h : p = (a', b')) (h1 : a = a') (h2 : b = b') : Ending.returned (.tuple #[.int .i64 a, .int .i64 b]) = .returned (.tuple #[.int .i64 p.1, .int .i64 p.2]) := by rw [h, h1, h2]
theorem start_at {g : Grm} {X : Sym} (h : g.symbols[0]? = some X) : startB g = X.attrs.any fun a => a.mode == 1 := by
  unfold startB
  cases hs : g.symbols with
  | nil => rw [hs] at h; cases h
  | cons a r =>
    rw [hs] at h
    obtain rfl : a = X := by simpa using h
    rfl
end Go.Proofs.YthlhhnnlbpecnaaGreat
