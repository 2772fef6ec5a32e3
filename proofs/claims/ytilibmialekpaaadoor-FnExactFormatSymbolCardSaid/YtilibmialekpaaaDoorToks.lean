/- Tokens and attributes: structs by value, opened; the functions on one of them. Conditions: a text's length fits an int. -/
import Derived.Test.YtilibmialekpaaaDoorNames
import Derived.Test.YtilibmialekpaaaDoorRange
namespace Go.Proofs.YtilibmialekpaaaDoor
set_option maxRecDepth 100000
open Go.RowKit Go.WideShapes

structure Tok where
  kind : Int
  n : Int
  at_ : Int
  text : ByteArray
def Tok.cells (t : Tok) : List Value := [.int .i64 t.kind, .int .i64 t.n, .int .i64 t.at_, .string t.text]
structure Tok.ok (t : Tok) : Prop where
  kind : (Lit.int .i64 t.kind).wf = true
  n : (Lit.int .i64 t.n).wf = true
  at_ : (Lit.int .i64 t.at_).wf = true
  text : t.text.size ≤ maxLen
section
variable {H : Type} {enc : TypeId × Value → H} {w : World} {base fuel : Nat} {sp : Nat → Bool} {held : Bool} {cs : List Value} {x : DataW H × List MemPlace}
theorem cells_Tok (h : DataW.trod enc Tryd.prog w base sp held fuel 95 cs = some x) : ∃ t : Tok, cs = t.cells ∧ t.ok := by
  have ht := Tryd.underlying95
  have hl := (trod_len ht h).trans (show Tryd.prog.cellsOf 95 = 4 by kernel_rfl)
  obtain ⟨c0, c1, c2, c3, rfl⟩ := list4 hl
  obtain ⟨z0, e0, w0⟩ := field_int 0 _ ht h rfl Tryd.underlying3 (by kernel_rfl)
  obtain ⟨z1, e1, w1⟩ := field_int 1 _ ht h rfl Tryd.underlying3 (by kernel_rfl)
  obtain ⟨z2, e2, w2⟩ := field_int 2 _ ht h rfl Tryd.underlying3 (by kernel_rfl)
  obtain ⟨z3, e3, w3⟩ := field_string 3 _ ht h rfl Tryd.underlying9 (by kernel_rfl)
  simp at e0 e1 e2 e3
  subst e0 e1 e2 e3
  exact ⟨⟨z0, z1, z2, z3⟩, rfl, ⟨w0, w1, w2, w3⟩⟩
end
theorem open_Tok {H : Type} {enc : TypeId × Value → H} {w : World} {C base : Nat} {sp : Nat → Bool} {held : Bool} {v : Value} {d : DataW H} {p : List MemPlace} (hv : Value.okWide Tryd.prog w .any C 95 v)
    (h : DataW.Trod enc Tryd.prog w base sp held 95 v d p) : ∃ t : Tok, v = .agg t.cells.toArray ∧ t.ok := by
  obtain ⟨cs, fuel, x, rfl, hf⟩ := okWide_cells Tryd.underlying95 hv h
  obtain ⟨t, he, ht⟩ := cells_Tok hf
  exact ⟨t, by rw [← he], ht⟩

theorem l_toToken (k n a : Int) (s : ByteArray) (w : World) : Calls Tryd.prog 69 #[.agg #[.int .i64 k, .int .i64 n, .int .i64 a, .string s]] w fun e w' => e = .returned (.agg #[.int .i64 k, .int .i64 n, .int .i64 a, .string s]) ∧ Below w.heap.size w w' := by
  go_enter Tryd.func69, Tryd.ntmps69
  go_wp2
  exact bodyPost_ret (v := .agg #[.int .i64 k, .int .i64 n, .int .i64 a, .string s]) (by simp [results, Tryd.results69, go_sem]) rfl ⟨rfl, (((Below.refl _ _).alloc (Nat.le_refl _) _).alloc (by simp) _).alloc (by simp; omega) _⟩
theorem l_szToken (k n a L : Int) (s : ByteArray) (hs : s.size ≤ maxLen) (h0 : 0 ≤ L) (h1 : L ≤ 1048576) (w : World) : Calls Tryd.prog 66 #[.agg #[.int .i64 k, .int .i64 n, .int .i64 a, .string s], .int .i64 L] w fun e w' => e = .returned (.int .i64 (if L < s.size then -1 else L - s.size)) ∧ Below w.heap.size w w' := by
  unfold maxLen at hs
  by_cases h : L < s.size
  all_goals
    go_enter Tryd.func66, Tryd.ntmps66
    go_wp2
    go_ret
    exact ⟨ret_int (by first | rfl | (split <;> first | rfl | omega)), (Below.refl _ _).alloc (Nat.le_refl _) _⟩
theorem i_IsWord (k n a : Int) (s r : ByteArray) (w : World) : Calls Tryd.prog 36 #[.agg #[.int .i64 k, .int .i64 n, .int .i64 a, .string s], .string r] w fun e w' => e = .returned (.bool (decide (k = 1 ∨ k = 3) && (s.toList == r.toList))) ∧ Below w.heap.size w w' := by
  go_enter Tryd.func36, Tryd.ntmps36
  go_wp2
  all_goals
    go_ret
    exact ⟨ret_bool (by simp_all), (Below.refl _ _).alloc (Nat.le_refl _) _⟩

structure Attr where
  name : ByteArray
  type : Int
  mode : Int
  circ : Bool
def Attr.cells (a : Attr) : List Value := [.string a.name, .int .i64 a.type, .int .i64 a.mode, .bool a.circ]
structure Attr.ok (a : Attr) : Prop where
  name : a.name.size ≤ maxLen
  type : (Lit.int .i64 a.type).wf = true
  mode : (Lit.int .i64 a.mode).wf = true
section
variable {H : Type} {enc : TypeId × Value → H} {w : World} {base fuel : Nat} {sp : Nat → Bool} {held : Bool} {cs : List Value} {x : DataW H × List MemPlace}
theorem cells_Attr (h : DataW.trod enc Tryd.prog w base sp held fuel 108 cs = some x) : ∃ t : Attr, cs = t.cells ∧ t.ok := by
  have ht := Tryd.underlying108
  have hl := (trod_len ht h).trans (show Tryd.prog.cellsOf 108 = 4 by kernel_rfl)
  obtain ⟨c0, c1, c2, c3, rfl⟩ := list4 hl
  obtain ⟨z0, e0, w0⟩ := field_string 0 _ ht h rfl Tryd.underlying9 (by kernel_rfl)
  obtain ⟨z1, e1, w1⟩ := field_int 1 _ ht h rfl Tryd.underlying3 (by kernel_rfl)
  obtain ⟨z2, e2, w2⟩ := field_int 2 _ ht h rfl Tryd.underlying3 (by kernel_rfl)
  obtain ⟨z3, e3⟩ := field_bool 3 _ ht h rfl Tryd.underlying4 (by kernel_rfl)
  simp at e0 e1 e2 e3
  subst e0 e1 e2 e3
  exact ⟨⟨z0, z1, z2, z3⟩, rfl, ⟨w0, w1, w2⟩⟩
end
theorem open_Attr {H : Type} {enc : TypeId × Value → H} {w : World} {C base : Nat} {sp : Nat → Bool} {held : Bool} {v : Value} {d : DataW H} {p : List MemPlace} (hv : Value.okWide Tryd.prog w .any C 108 v)
    (h : DataW.Trod enc Tryd.prog w base sp held 108 v d p) : ∃ t : Attr, v = .agg t.cells.toArray ∧ t.ok := by
  obtain ⟨cs, fuel, x, rfl, hf⟩ := okWide_cells Tryd.underlying108 hv h
  obtain ⟨t, he, ht⟩ := cells_Attr hf
  exact ⟨t, by rw [← he], ht⟩

theorem l_toAttribute (s : ByteArray) (t m : Int) (c : Bool) (w : World) : Calls Tryd.prog 85 #[.agg #[.string s, .int .i64 t, .int .i64 m, .bool c]] w fun e w' => e = .returned (.agg #[.string s, .int .i64 t, .int .i64 m, .bool c]) ∧ Below w.heap.size w w' := by
  go_enter Tryd.func85, Tryd.ntmps85
  go_wp2
  exact bodyPost_ret (v := .agg #[.string s, .int .i64 t, .int .i64 m, .bool c]) (by simp [results, Tryd.results85, go_sem]) rfl ⟨rfl, (((Below.refl _ _).alloc (Nat.le_refl _) _).alloc (by simp) _).alloc (by simp; omega) _⟩
theorem l_szAttribute (s : ByteArray) (t m : Int) (c : Bool) (L : Int) (hs : s.size ≤ maxLen) (h0 : 0 ≤ L) (h1 : L ≤ 1048576) (w : World) : Calls Tryd.prog 84 #[.agg #[.string s, .int .i64 t, .int .i64 m, .bool c], .int .i64 L] w fun e w' => e = .returned (.int .i64 (if L < s.size then -1 else L - s.size)) ∧ Below w.heap.size w w' := by
  unfold maxLen at hs
  by_cases h : L < s.size
  all_goals
    go_enter Tryd.func84, Tryd.ntmps84
    go_wp2
    go_ret
    exact ⟨ret_int (by first | rfl | (split <;> first | rfl | omega)), (Below.refl _ _).alloc (Nat.le_refl _) _⟩

/-- A valid attribute. -/
def validA (s : ByteArray) (t m : Int) (c : Bool) : Bool := validN s && decide (1 ≤ t ∧ t ≤ 4) && decide (1 ≤ m ∧ m ≤ 3) && (if m = 3 then decide (t = 2) && !c else !c || decide (t = 2))
theorem validA_bad {s : ByteArray} {t m : Int} {c : Bool} (h : ¬ (validN s = true ∧ (1 ≤ t ∧ t ≤ 4) ∧ (1 ≤ m ∧ m ≤ 3))) : validA s t m c = false := by
  unfold validA
  rw [Bool.eq_false_iff]
  intro hh
  simp only [Bool.and_eq_true, decide_eq_true_eq] at hh
  exact h ⟨hh.1.1.1, hh.1.1.2, hh.1.2⟩
theorem validA_good {s : ByteArray} {t m : Int} {c : Bool} (hn : validN s = true) (ht : 1 ≤ t ∧ t ≤ 4) (hm : 1 ≤ m ∧ m ≤ 3) : validA s t m c = (if m = 3 then decide (t = 2) && !c else !c || decide (t = 2)) := by
  unfold validA
  rw [hn]
  simp [ht, hm]
set_option maxHeartbeats 800000 in
theorem s_IsValidAttribute (s : ByteArray) (t m : Int) (c : Bool) (hs : s.size ≤ maxLen) (w : World) : Calls Tryd.prog 56 #[.agg #[.string s, .int .i64 t, .int .i64 m, .bool c]] w fun e w' => e = .returned (.bool (validA s t m c)) ∧ Below w.heap.size w w' := by
  have HC := hide (CellsAt.new w [.string s, .int .i64 t, .int .i64 m, .bool c] 42)
  by_cases h1 : validN s = true ∧ (1 ≤ t ∧ t ≤ 4) ∧ (1 ≤ m ∧ m ≤ 3)
  · obtain ⟨hn, ht, hm⟩ := h1
    rw [validA_good hn ht hm]
    have ht' := inR_yes ht
    have hm' := inR_yes hm
    clear ht hm
    by_cases h3 : m = 3 <;> by_cases h2 : t = 2 <;> cases c
    all_goals
      first | rw [if_pos h3] | rw [if_neg h3]
      first | rw [decide_eq_true h2] | rw [decide_eq_false h2]
      first | (have e3 : (m == 3) = true := beq_iff_eq.2 h3) | (have e3 : (m == 3) = false := beq_eq_false_iff_ne.2 h3)
      first | (have e2 : (t == 2) = true := beq_iff_eq.2 h2) | (have e2 : (t == 2) = false := beq_eq_false_iff_ne.2 h2)
      first | (have e4 : (t != 2) = false := by rw [bne_eq_false_iff_eq]; exact h2) | (have e4 : (t != 2) = true := by rw [bne_iff_ne]; exact h2)
      clear h2 h3
      go_enter Tryd.func56, Tryd.ntmps56
      go_wp2_with (first
        | (go_at_call 57; refine (s_IsValidName _ _ hs).mono ?_; rintro e w' ⟨rfl, hb⟩; rw [World.size_alloc] at hb; obtain ⟨c0, c1, c2, c3⟩ := (HC.out.below hb (by omega)).four0)
        | (go_at_call 92; refine (s_l1In _ _ _ _).mono ?_; rintro e w' ⟨rfl, rfl⟩)
        | go_in)
      go_ret
      exact ⟨rfl, box_below hb⟩
  · have Hv := hide (validA_bad (c := c) h1)
    cases hn : validN s
    · go_enter Tryd.func56, Tryd.ntmps56
      go_wp2_with (first
        | (go_at_call 57; refine (s_IsValidName _ _ hs).mono ?_; rintro e w' ⟨rfl, hb⟩; rw [World.size_alloc] at hb; obtain ⟨c0, c1, c2, c3⟩ := (HC.out.below hb (by omega)).four0)
        | (go_at_call 92; refine (s_l1In _ _ _ _).mono ?_; rintro e w' ⟨rfl, rfl⟩)
        | go_in)
      go_ret
      exact ⟨ret_bool Hv.out.symm, box_below hb⟩
    · by_cases ht : 1 ≤ t ∧ t ≤ 4
      · have hm := inR_no (fun hm => h1 ⟨hn, ht, hm⟩ : ¬ (1 ≤ m ∧ m ≤ 3))
        have ht' := inR_yes ht
        clear h1 ht
        go_enter Tryd.func56, Tryd.ntmps56
        go_wp2_with (first
        | (go_at_call 57; refine (s_IsValidName _ _ hs).mono ?_; rintro e w' ⟨rfl, hb⟩; rw [World.size_alloc] at hb; obtain ⟨c0, c1, c2, c3⟩ := (HC.out.below hb (by omega)).four0)
        | (go_at_call 92; refine (s_l1In _ _ _ _).mono ?_; rintro e w' ⟨rfl, rfl⟩)
        | go_in)
        go_ret
        exact ⟨ret_bool Hv.out.symm, box_below hb⟩
      · have ht' := inR_no ht
        clear h1 ht
        go_enter Tryd.func56, Tryd.ntmps56
        go_wp2_with (first
        | (go_at_call 57; refine (s_IsValidName _ _ hs).mono ?_; rintro e w' ⟨rfl, hb⟩; rw [World.size_alloc] at hb; obtain ⟨c0, c1, c2, c3⟩ := (HC.out.below hb (by omega)).four0)
        | (go_at_call 92; refine (s_l1In _ _ _ _).mono ?_; rintro e w' ⟨rfl, rfl⟩)
        | go_in)
        go_ret
        exact ⟨ret_bool Hv.out.symm, box_below hb⟩
set_option maxHeartbeats 800000 in
theorem i_IsValidAttribute (s : ByteArray) (t m : Int) (c : Bool) (hs : s.size ≤ maxLen) (w : World) : Calls Tryd.prog 23 #[.agg #[.string s, .int .i64 t, .int .i64 m, .bool c]] w fun e w' => e = .returned (.bool (validA s t m c)) ∧ Below w.heap.size w w' := by
  by_cases h1 : validN s = true ∧ (1 ≤ t ∧ t ≤ 4) ∧ (1 ≤ m ∧ m ≤ 3)
  · obtain ⟨hn, ht, hm⟩ := h1
    rw [validA_good hn ht hm]
    have ht' := inR_yes ht
    have hm' := inR_yes hm
    clear ht hm
    by_cases h3 : m = 3 <;> by_cases h2 : t = 2 <;> cases c
    all_goals
      first | rw [if_pos h3] | rw [if_neg h3]
      first | rw [decide_eq_true h2] | rw [decide_eq_false h2]
      first | (have e3 : (m == 3) = true := beq_iff_eq.2 h3) | (have e3 : (m == 3) = false := beq_eq_false_iff_ne.2 h3)
      first | (have e2 : (t == 2) = true := beq_iff_eq.2 h2) | (have e2 : (t == 2) = false := beq_eq_false_iff_ne.2 h2)
      first | (have e4 : (t != 2) = false := by rw [bne_eq_false_iff_eq]; exact h2) | (have e4 : (t != 2) = true := by rw [bne_iff_ne]; exact h2)
      clear h2 h3
      go_enter Tryd.func23, Tryd.ntmps23
      go_wp2_with (first
        | (go_at_call 59; refine (i_IsValidName _ _ hs).mono ?_; rintro e w' ⟨rfl, rfl⟩)
        | (go_at_call 61; refine (i_within _ _ _ _).mono ?_; rintro e w' ⟨rfl, rfl⟩)
        | go_in)
      go_ret
      exact ⟨rfl, (Below.refl _ _).alloc (Nat.le_refl _) _⟩
  · have Hv := hide (validA_bad (c := c) h1)
    cases hn : validN s
    · go_enter Tryd.func23, Tryd.ntmps23
      go_wp2_with (first
        | (go_at_call 59; refine (i_IsValidName _ _ hs).mono ?_; rintro e w' ⟨rfl, rfl⟩)
        | (go_at_call 61; refine (i_within _ _ _ _).mono ?_; rintro e w' ⟨rfl, rfl⟩)
        | go_in)
      go_ret
      exact ⟨ret_bool Hv.out.symm, (Below.refl _ _).alloc (Nat.le_refl _) _⟩
    · by_cases ht : 1 ≤ t ∧ t ≤ 4
      · have hm := inR_no (fun hm => h1 ⟨hn, ht, hm⟩ : ¬ (1 ≤ m ∧ m ≤ 3))
        have ht' := inR_yes ht
        clear h1 ht
        go_enter Tryd.func23, Tryd.ntmps23
        go_wp2_with (first
        | (go_at_call 59; refine (i_IsValidName _ _ hs).mono ?_; rintro e w' ⟨rfl, rfl⟩)
        | (go_at_call 61; refine (i_within _ _ _ _).mono ?_; rintro e w' ⟨rfl, rfl⟩)
        | go_in)
        go_ret
        exact ⟨ret_bool Hv.out.symm, (Below.refl _ _).alloc (Nat.le_refl _) _⟩
      · have ht' := inR_no ht
        clear h1 ht
        go_enter Tryd.func23, Tryd.ntmps23
        go_wp2_with (first
        | (go_at_call 59; refine (i_IsValidName _ _ hs).mono ?_; rintro e w' ⟨rfl, rfl⟩)
        | (go_at_call 61; refine (i_within _ _ _ _).mono ?_; rintro e w' ⟨rfl, rfl⟩)
        | go_in)
        go_ret
        exact ⟨ret_bool Hv.out.symm, (Below.refl _ _).alloc (Nat.le_refl _) _⟩
end Go.Proofs.YtilibmialekpaaaDoor
