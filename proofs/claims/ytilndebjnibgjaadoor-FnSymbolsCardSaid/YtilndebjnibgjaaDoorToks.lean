/- Tokens and attributes: structs by value, opened; the functions on one of them. Conditions: a text's length fits an int. -/
import Derived.Test.YtilndebjnibgjaaDoorNames
import Derived.Test.YtilndebjnibgjaaDoorRange
namespace Go.Proofs.YtilndebjnibgjaaDoor
set_option maxRecDepth 100000
open Go.RowKit Go.WideShapes

structure Tok where
  kind : Int
  n : Int
  at_ : Int
  text : ByteArray
def Tok.cells (t : Tok) : List Value := [.int .i64 t.kind, .int .i64 t.n, .int .i64 t.at_, .string t.text]
structure Tok.ok (t : Tok) : Prop where
  kind : (Lit.int .i64 t.kind).wf = true
  n : (Lit.int .i64 t.n).wf = true
  at_ : (Lit.int .i64 t.at_).wf = true
  text : t.text.size ≤ maxLen
section
variable {H : Type} {enc : TypeId × Value → H} {w : World} {base fuel : Nat} {sp : Nat → Bool} {held : Bool} {cs : List Value} {x : DataW H × List MemPlace}
end
structure Attr where
  name : ByteArray
  type : Int
  mode : Int
  circ : Bool
def Attr.cells (a : Attr) : List Value := [.string a.name, .int .i64 a.type, .int .i64 a.mode, .bool a.circ]
structure Attr.ok (a : Attr) : Prop where
  name : a.name.size ≤ maxLen
  type : (Lit.int .i64 a.type).wf = true
  mode : (Lit.int .i64 a.mode).wf = true
section
variable {H : Type} {enc : TypeId × Value → H} {w : World} {base fuel : Nat} {sp : Nat → Bool} {held : Bool} {cs : List Value} {x : DataW H × List MemPlace}
end
/-- A valid attribute. -/
def validA (s : ByteArray) (t m : Int) (c : Bool) : Bool := validN s && decide (1 ≤ t ∧ t ≤ 4) && decide (1 ≤ m ∧ m ≤ 3) && (if m = 3 then decide (t = 2) && !c else !c || decide (t = 2))
theorem validA_bad {s : ByteArray} {t m : Int} {c : Bool} (h : ¬ (validN s = true ∧ (1 ≤ t ∧ t ≤ 4) ∧ (1 ≤ m ∧ m ≤ 3))) : validA s t m c = false := by
  unfold validA
  rw [Bool.eq_false_iff]
  intro hh
  simp only [Bool.and_eq_true, decide_eq_true_eq] at hh
  exact h ⟨hh.1.1.1, hh.1.1.2, hh.1.2⟩
theorem validA_good {s : ByteArray} {t m : Int} {c : Bool} (hn : validN s = true) (ht : 1 ≤ t ∧ t ≤ 4) (hm : 1 ≤ m ∧ m ≤ 3) : validA s t m c = (if m = 3 then decide (t = 2) && !c else !c || decide (t = 2)) := by
  unfold validA
  rw [hn]
  simp [ht, hm]
set_option maxHeartbeats 800000 in
theorem s_IsValidAttribute (s : ByteArray) (t m : Int) (c : Bool) (hs : s.size ≤ maxLen) (w : World) : Calls Tryd.prog 22 #[.agg #[.string s, .int .i64 t, .int .i64 m, .bool c]] w fun e w' => e = .returned (.bool (validA s t m c)) ∧ Below w.heap.size w w' := by
  have HC := hide (CellsAt.new w [.string s, .int .i64 t, .int .i64 m, .bool c] 33)
  by_cases h1 : validN s = true ∧ (1 ≤ t ∧ t ≤ 4) ∧ (1 ≤ m ∧ m ≤ 3)
  · obtain ⟨hn, ht, hm⟩ := h1
    rw [validA_good hn ht hm]
    have ht' := inR_yes ht
    have hm' := inR_yes hm
    clear ht hm
    by_cases h3 : m = 3 <;> by_cases h2 : t = 2 <;> cases c
    all_goals
      first | rw [if_pos h3] | rw [if_neg h3]
      first | rw [decide_eq_true h2] | rw [decide_eq_false h2]
      first | (have e3 : (m == 3) = true := beq_iff_eq.2 h3) | (have e3 : (m == 3) = false := beq_eq_false_iff_ne.2 h3)
      first | (have e2 : (t == 2) = true := beq_iff_eq.2 h2) | (have e2 : (t == 2) = false := beq_eq_false_iff_ne.2 h2)
      first | (have e4 : (t != 2) = false := by rw [bne_eq_false_iff_eq]; exact h2) | (have e4 : (t != 2) = true := by rw [bne_iff_ne]; exact h2)
      clear h2 h3
      go_enter Tryd.func22, Tryd.ntmps22
      go_wp2_with (first
        | (go_at_call 23; refine (s_IsValidName _ _ hs).mono ?_; rintro e w' ⟨rfl, hb⟩; rw [World.size_alloc] at hb; obtain ⟨c0, c1, c2, c3⟩ := (HC.out.below hb (by omega)).four0)
        | (go_at_call 38; refine (s_l1In _ _ _ _).mono ?_; rintro e w' ⟨rfl, rfl⟩)
        | go_in)
      go_ret
      exact ⟨rfl, box_below hb⟩
  · have Hv := hide (validA_bad (c := c) h1)
    cases hn : validN s
    · go_enter Tryd.func22, Tryd.ntmps22
      go_wp2_with (first
        | (go_at_call 23; refine (s_IsValidName _ _ hs).mono ?_; rintro e w' ⟨rfl, hb⟩; rw [World.size_alloc] at hb; obtain ⟨c0, c1, c2, c3⟩ := (HC.out.below hb (by omega)).four0)
        | (go_at_call 38; refine (s_l1In _ _ _ _).mono ?_; rintro e w' ⟨rfl, rfl⟩)
        | go_in)
      go_ret
      exact ⟨ret_bool Hv.out.symm, box_below hb⟩
    · by_cases ht : 1 ≤ t ∧ t ≤ 4
      · have hm := inR_no (fun hm => h1 ⟨hn, ht, hm⟩ : ¬ (1 ≤ m ∧ m ≤ 3))
        have ht' := inR_yes ht
        clear h1 ht
        go_enter Tryd.func22, Tryd.ntmps22
        go_wp2_with (first
        | (go_at_call 23; refine (s_IsValidName _ _ hs).mono ?_; rintro e w' ⟨rfl, hb⟩; rw [World.size_alloc] at hb; obtain ⟨c0, c1, c2, c3⟩ := (HC.out.below hb (by omega)).four0)
        | (go_at_call 38; refine (s_l1In _ _ _ _).mono ?_; rintro e w' ⟨rfl, rfl⟩)
        | go_in)
        go_ret
        exact ⟨ret_bool Hv.out.symm, box_below hb⟩
      · have ht' := inR_no ht
        clear h1 ht
        go_enter Tryd.func22, Tryd.ntmps22
        go_wp2_with (first
        | (go_at_call 23; refine (s_IsValidName _ _ hs).mono ?_; rintro e w' ⟨rfl, hb⟩; rw [World.size_alloc] at hb; obtain ⟨c0, c1, c2, c3⟩ := (HC.out.below hb (by omega)).four0)
        | (go_at_call 38; refine (s_l1In _ _ _ _).mono ?_; rintro e w' ⟨rfl, rfl⟩)
        | go_in)
        go_ret
        exact ⟨ret_bool Hv.out.symm, box_below hb⟩
set_option maxHeartbeats 800000 in
theorem i_IsValidAttribute (s : ByteArray) (t m : Int) (c : Bool) (hs : s.size ≤ maxLen) (w : World) : Calls Tryd.prog 11 #[.agg #[.string s, .int .i64 t, .int .i64 m, .bool c]] w fun e w' => e = .returned (.bool (validA s t m c)) ∧ Below w.heap.size w w' := by
  by_cases h1 : validN s = true ∧ (1 ≤ t ∧ t ≤ 4) ∧ (1 ≤ m ∧ m ≤ 3)
  · obtain ⟨hn, ht, hm⟩ := h1
    rw [validA_good hn ht hm]
    have ht' := inR_yes ht
    have hm' := inR_yes hm
    clear ht hm
    by_cases h3 : m = 3 <;> by_cases h2 : t = 2 <;> cases c
    all_goals
      first | rw [if_pos h3] | rw [if_neg h3]
      first | rw [decide_eq_true h2] | rw [decide_eq_false h2]
      first | (have e3 : (m == 3) = true := beq_iff_eq.2 h3) | (have e3 : (m == 3) = false := beq_eq_false_iff_ne.2 h3)
      first | (have e2 : (t == 2) = true := beq_iff_eq.2 h2) | (have e2 : (t == 2) = false := beq_eq_false_iff_ne.2 h2)
      first | (have e4 : (t != 2) = false := by rw [bne_eq_false_iff_eq]; exact h2) | (have e4 : (t != 2) = true := by rw [bne_iff_ne]; exact h2)
      clear h2 h3
      go_enter Tryd.func11, Tryd.ntmps11
      go_wp2_with (first
        | (go_at_call 25; refine (i_IsValidName _ _ hs).mono ?_; rintro e w' ⟨rfl, rfl⟩)
        | (go_at_call 27; refine (i_within _ _ _ _).mono ?_; rintro e w' ⟨rfl, rfl⟩)
        | go_in)
      go_ret
      exact ⟨rfl, (Below.refl _ _).alloc (Nat.le_refl _) _⟩
  · have Hv := hide (validA_bad (c := c) h1)
    cases hn : validN s
    · go_enter Tryd.func11, Tryd.ntmps11
      go_wp2_with (first
        | (go_at_call 25; refine (i_IsValidName _ _ hs).mono ?_; rintro e w' ⟨rfl, rfl⟩)
        | (go_at_call 27; refine (i_within _ _ _ _).mono ?_; rintro e w' ⟨rfl, rfl⟩)
        | go_in)
      go_ret
      exact ⟨ret_bool Hv.out.symm, (Below.refl _ _).alloc (Nat.le_refl _) _⟩
    · by_cases ht : 1 ≤ t ∧ t ≤ 4
      · have hm := inR_no (fun hm => h1 ⟨hn, ht, hm⟩ : ¬ (1 ≤ m ∧ m ≤ 3))
        have ht' := inR_yes ht
        clear h1 ht
        go_enter Tryd.func11, Tryd.ntmps11
        go_wp2_with (first
        | (go_at_call 25; refine (i_IsValidName _ _ hs).mono ?_; rintro e w' ⟨rfl, rfl⟩)
        | (go_at_call 27; refine (i_within _ _ _ _).mono ?_; rintro e w' ⟨rfl, rfl⟩)
        | go_in)
        go_ret
        exact ⟨ret_bool Hv.out.symm, (Below.refl _ _).alloc (Nat.le_refl _) _⟩
      · have ht' := inR_no ht
        clear h1 ht
        go_enter Tryd.func11, Tryd.ntmps11
        go_wp2_with (first
        | (go_at_call 25; refine (i_IsValidName _ _ hs).mono ?_; rintro e w' ⟨rfl, rfl⟩)
        | (go_at_call 27; refine (i_within _ _ _ _).mono ?_; rintro e w' ⟨rfl, rfl⟩)
        | go_in)
        go_ret
        exact ⟨ret_bool Hv.out.symm, (Below.refl _ _).alloc (Nat.le_refl _) _⟩
end Go.Proofs.YtilndebjnibgjaaDoor
