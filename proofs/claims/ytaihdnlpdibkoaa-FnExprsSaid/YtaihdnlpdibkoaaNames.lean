/- Names: what the functions on names return, in the program and in the reference. Conditions: none on the text; a list's length fits an int. -/
import Derived.Test.YtaihdnlpdibkoaaRows
import Derived.Test.YtaihdnlpdibkoaaKit
import Derived.WalkLawsBesides
import Derived.WalkSpells
namespace Go.Proofs.Ytaihdnlpdibkoaa
set_option maxRecDepth 100000
open Go.RowKit
def resvL : List (List UInt8) := [[105, 102], [116, 104, 101, 110], [101, 108, 115, 101], [116, 114, 117, 101], [102, 97, 108, 115, 101], [108, 105, 116], [110, 111, 110, 101], [115, 101, 108, 102], [111, 102], [109, 97, 120], [109, 105, 110], [119, 105, 116, 104], [104, 97, 115]]
/-- A reserved word. -/
def resv (s : ByteArray) : Bool := resvL.any (fun t => s.toList == t)
/-- A text is among texts. -/
def hasS (xs : List ByteArray) (s : ByteArray) : Bool := xs.any (fun x => x.toList == s.toList)
theorem hasS_snoc (xs : List ByteArray) (x s : ByteArray) : hasS (xs ++ [x]) s = (hasS xs s || (x.toList == s.toList)) := by simp [hasS]
theorem hasS_mem {xs : List ByteArray} {x s : ByteArray} {k : Nat} (h : xs[k]? = some x) (he : (x.toList == s.toList) = true) : hasS xs s = true := by
  unfold hasS
  rw [List.any_eq_true]
  exact ⟨x, List.mem_of_getElem? h, he⟩
theorem hasS_resv (s : ByteArray) : hasS (resvL.map fun l => ⟨l.toArray⟩) s = resv s := by
  unfold hasS resv
  rw [List.any_map]
  congr 1
  funext t
  simp only [Function.comp_apply, ByteArray.toList_eq]
  rw [Bool.eq_iff_iff]
  simp only [beq_iff_eq]
  exact eq_comm

theorem i_IsReserved (s : ByteArray) (w : World) : Calls Try.prog 135 #[.string s] w fun e w' => e = .returned (.bool (resv s)) ∧ w = w' := by
  go_enter Try.func135, Try.ntmps135
  go_wp2
  all_goals (go_ret; refine ⟨ret_bool ?_, rfl⟩; unfold resv resvL)
  all_goals (simp_all; done)

theorem s_l1Has (A : Option Addr) (n c : Nat) (s : ByteArray) (xs : List ByteArray) (B : Nat) (w : World) (hr : Rd w B A n (xs.map Value.string)) (hm : n ≤ 9223372036854775807) :
    Calls Try.prog 166 #[.slice A n c, .string s] w fun e w' => e = .returned (.bool (hasS xs s)) ∧ w = w' := by
  go_enter Try.func166, Try.ntmps166
  go_wp2
  go_loop [5] (fun i => ∃ k : Nat, k ≤ n ∧ i = .int .i64 k ∧ hasS (xs.take k) s = false) (fun i => n - (intOf i).toNat)
  case atStart => exact ⟨0, by omega, rfl, rfl⟩
  case round =>
    obtain ⟨k, hk, rfl, hno⟩ := hrel
    have Hno := hide hno
    clear hno
    by_cases hlt : k < n
    · obtain ⟨b, off, x, hA, hb, hx, hc⟩ := hr.get hlt
      subst hA
      have Hx := hide hx
      clear hx
      cases he : (x.toList == s.toList)
      · go_wp2
        go_round
        case rel => exact ⟨k + 1, by omega, by go_num, by rw [take_snoc Hx.out, hasS_snoc, Hno.out, he]; rfl⟩
        case measure => simp [intOf]; omega
      · go_wp2
        go_ret
        exact ⟨ret_bool (hasS_mem Hx.out he).symm, rfl⟩
    · go_wp2
      go_ret
      exact ⟨ret_bool (by have h := Hno.out; rw [List.take_of_length_le (by have := hr.len; omega)] at h; exact h.symm), rfl⟩

theorem s_IsReserved (s : ByteArray) (w : World) : Calls Try.prog 159 #[.string s] w fun e w' => e = .returned (.bool (resv s)) ∧ Below w.heap.size w w' := by
  have hn : Rd _ _ _ _ _ := Rd.new w 9 ((resvL.map fun l => (⟨l.toArray⟩ : ByteArray)).map Value.string)
  simp only [resvL, List.map_cons, List.map_nil, List.length_cons, List.length_nil] at hn
  go_enter Try.func159, Try.ntmps159
  go_wp2_with (first
    | (go_at_call 166; refine (s_l1Has _ _ _ _ (resvL.map fun l => ⟨l.toArray⟩) _ _ hn (by omega)).mono ?_; rintro e w' ⟨rfl, rfl⟩)
    | go_in)
  go_ret
  exact ⟨ret_bool (hasS_resv s), (Below.refl _ _).alloc (Nat.le_refl _) _⟩

/-- A lower-case letter; a digit. -/
def low (c : UInt8) : Bool := decide (97 ≤ (c.toNat : Int) ∧ (c.toNat : Int) ≤ 122)
def dig (c : UInt8) : Bool := decide (48 ≤ (c.toNat : Int) ∧ (c.toNat : Int) ≤ 57)
def ldg (c : UInt8) : Bool := low c || dig c
def headLow (l : List UInt8) : Bool := match l with | [] => true | c :: _ => low c
def shT (l : List UInt8) : Bool := headLow l && l.all ldg
def validN (s : ByteArray) : Bool := shT s.data.toList && decide (0 < s.size) && decide (s.size ≤ 8) && !resv s
theorem shT_snoc (l : List UInt8) (c : UInt8) : shT (l ++ [c]) = (shT l && (low c || (!l.isEmpty && dig c))) := by
  cases l with
  | nil => simp [shT, headLow, ldg]; intro h; simp [h]
  | cons a r => simp [shT, headLow, ldg, Bool.and_assoc]
theorem shT_take_false {l : List UInt8} {k : Nat} (h : shT (l.take k) = false) : shT l = false := by
  rw [Bool.eq_false_iff] at h ⊢
  intro hl
  apply h
  unfold shT at hl ⊢
  rw [Bool.and_eq_true] at hl ⊢
  refine ⟨?_, List.all_eq_true.2 fun x hx => List.all_eq_true.1 hl.2 x (List.mem_of_mem_take hx)⟩
  cases k with
  | zero => rfl
  | succ k =>
    cases l with
    | nil => rfl
    | cons a r => exact hl.1

theorem i_isLower (c : UInt8) (w : World) : Calls Try.prog 133 #[.int .u8 (c.toNat : Int)] w fun e w' => e = .returned (.bool (low c)) ∧ w = w' := by
  by_cases h1 : 97 ≤ (c.toNat : Int)
  all_goals
    go_enter Try.func133, Try.ntmps133
    go_wp2
    go_ret
    exact ⟨ret_bool (by unfold low; rw [Bool.eq_iff_iff]; simp; omega), rfl⟩
theorem i_isDigit (c : UInt8) (w : World) : Calls Try.prog 134 #[.int .u8 (c.toNat : Int)] w fun e w' => e = .returned (.bool (dig c)) ∧ w = w' := by
  by_cases h1 : 48 ≤ (c.toNat : Int)
  all_goals
    go_enter Try.func134, Try.ntmps134
    go_wp2
    go_ret
    exact ⟨ret_bool (by unfold dig; rw [Bool.eq_iff_iff]; simp; omega), rfl⟩

theorem s_l2Shape (s : ByteArray) (w : World) (hs : s.size ≤ maxLen) : Calls Try.prog 158 #[.string s] w fun e w' => e = .returned (.bool (shT s.data.toList && decide (0 < s.size))) ∧ w = w' := by
  unfold maxLen at hs
  go_enter Try.func158, Try.ntmps158
  go_wp2
  go_loop [3] (fun i => ∃ k : Nat, k ≤ s.size ∧ i = .int .i64 k ∧ shT (s.data.toList.take k) = true) (fun i => s.size - (intOf i).toNat)
  case atStart => exact ⟨0, by omega, rfl, rfl⟩
  case round =>
    obtain ⟨k, hk, rfl, hno⟩ := hrel
    have Hno := hide hno
    clear hno
    by_cases hlt : k < s.size
    · have hsn := shT_snoc (s.data.toList.take k) s[k]
      have hem : (!(s.data.toList.take k).isEmpty) = decide (0 < k) := by
        cases k with
        | zero => rfl
        | succ k =>
          have h1 := bytes_len s
          cases hl : s.data.toList with
          | nil => rw [hl] at h1; simp at h1; omega
          | cons a r => simp
      have Hsn := hide hsn
      have Hem := hide hem
      clear hsn hem
      by_cases h1 : 97 ≤ (s[k].toNat : Int) <;> by_cases h2 : (s[k].toNat : Int) ≤ 122 <;> by_cases h3 : 48 ≤ (s[k].toNat : Int) <;> by_cases h4 : (s[k].toNat : Int) ≤ 57 <;> by_cases h5 : 0 < k
      all_goals (try (exfalso; omega))
      all_goals go_wp2
      all_goals first
        | (go_round
           case rel => exact ⟨k + 1, by omega, by go_num, by rw [take_snoc (bytes_at hlt), Hsn.out, Hno.out, Hem.out]; simp [low, dig]; omega⟩
           case measure => simp [intOf]; omega)
        | (go_ret
           refine ⟨ret_bool ?_, rfl⟩
           rw [shT_take_false (k := k + 1) (by rw [take_snoc (bytes_at hlt), Hsn.out, Hno.out, Hem.out]; simp [low, dig]; omega)]
           rfl)
    · go_wp2
      go_ret
      exact ⟨ret_bool (by have h := Hno.out; rw [List.take_of_length_le (by have := bytes_len s; omega)] at h; rw [h]; simp), rfl⟩

theorem s_IsValidName (s : ByteArray) (w : World) (hs : s.size ≤ maxLen) : Calls Try.prog 139 #[.string s] w fun e w' => e = .returned (.bool (validN s)) ∧ Below w.heap.size w w' := by
  cases h1 : (shT s.data.toList && decide (0 < s.size))
  · have hv : validN s = false := by unfold validN; rw [h1]; rfl
    have Hv := hide hv
    clear hv
    go_enter Try.func139, Try.ntmps139
    go_wp2_with (go_at_call 158; refine (s_l2Shape _ _ hs).mono ?_; rintro e w' ⟨rfl, rfl⟩)
    go_ret
    exact ⟨ret_bool Hv.out.symm, Below.refl _ _⟩
  · by_cases h2 : s.size ≤ 8
    · have hv : validN s = !resv s := by unfold validN; rw [h1]; simp [h2]
      have Hv := hide hv
      clear hv
      go_enter Try.func139, Try.ntmps139
      go_wp2_with (first
        | (go_at_call 158; refine (s_l2Shape _ _ hs).mono ?_; rintro e w' ⟨rfl, rfl⟩)
        | (go_at_call 159; refine (s_IsReserved _ _).mono ?_; rintro e w' ⟨rfl, hb⟩))
      go_ret
      exact ⟨ret_bool Hv.out.symm, hb⟩
    · have hv : validN s = false := by unfold validN; simp [h2]
      have Hv := hide hv
      clear hv
      go_enter Try.func139, Try.ntmps139
      go_wp2_with (go_at_call 158; refine (s_l2Shape _ _ hs).mono ?_; rintro e w' ⟨rfl, rfl⟩)
      go_ret
      exact ⟨ret_bool Hv.out.symm, Below.refl _ _⟩

theorem validN_false {s : ByteArray} {k : Nat} (hk : k < s.size) (h1 : low s[k] = false) (h2 : dig s[k] = false) : validN s = false := by
  have : shT s.data.toList = false := shT_take_false (k := k + 1) (by rw [take_snoc (bytes_at hk), shT_snoc, h1, h2]; simp)
  unfold validN
  rw [this]
  rfl
theorem validN_of {s : ByteArray} (h : (s.data.toList.take s.size).all ldg = true) (hp : 0 < s.size) (h8 : s.size ≤ 8) : validN s = (low (s[0]'hp) && !resv s) := by
  rw [List.take_of_length_le (by simp)] at h
  have hh : headLow s.data.toList = low (s[0]'hp) := by
    have h0 := bytes_at hp
    cases hl : s.data.toList with
    | nil => rw [hl] at h0; cases h0
    | cons a r => rw [hl] at h0; injection h0 with h0; rw [← h0]; rfl
  unfold validN shT
  rw [h, hh]
  simp [hp, h8]
theorem i_IsValidName (s : ByteArray) (w : World) (hs : s.size ≤ maxLen) : Calls Try.prog 102 #[.string s] w fun e w' => e = .returned (.bool (validN s)) ∧ w = w' := by
  unfold maxLen at hs
  go_enter Try.func102, Try.ntmps102
  go_wp2
  go_loop [6] (fun i => ∃ k : Nat, k ≤ s.size ∧ i = .int .i64 k ∧ (s.data.toList.take k).all ldg = true) (fun i => s.size - (intOf i).toNat)
  case atStart => exact ⟨0, by omega, rfl, rfl⟩
  case round =>
    obtain ⟨k, hk, rfl, hno⟩ := hrel
    have Hno := hide hno
    clear hno
    by_cases hlt : k < s.size
    · cases hL : low s[k] <;> cases hD : dig s[k]
      all_goals go_wp2_with (first
        | (go_at_call 133; refine (i_isLower _ _).mono ?_; rintro e w' ⟨rfl, rfl⟩)
        | (go_at_call 134; refine (i_isDigit _ _).mono ?_; rintro e w' ⟨rfl, rfl⟩))
      all_goals first
        | (go_round
           case rel => exact ⟨k + 1, by omega, by go_num, by rw [take_snoc (bytes_at hlt), List.all_append, Hno.out]; simp [ldg, hL, hD]⟩
           case measure => simp [intOf]; omega)
        | (go_ret
           exact ⟨ret_bool (validN_false hlt hL hD).symm, rfl⟩)
    · have hks : k = s.size := by omega
      have Hks := hide hks
      clear hks
      by_cases hp : 0 < s.size
      · by_cases h8 : s.size ≤ 8
        · cases hL : low (s[0]'hp) <;> cases hR : resv s
          all_goals
            go_wp2_with (first
              | (go_at_call 133; refine (i_isLower _ _).mono ?_; rintro e w' ⟨rfl, rfl⟩)
              | (go_at_call 135; refine (i_IsReserved _ _).mono ?_; rintro e w' ⟨rfl, rfl⟩)
              | go_in)
            go_ret
            exact ⟨ret_bool (by rw [validN_of (by rw [← Hks.out]; exact Hno.out) hp h8, hL, hR]; rfl), rfl⟩
        · go_wp2
          go_ret
          exact ⟨ret_bool (by unfold validN; simp [h8]), rfl⟩
      · go_wp2
        go_ret
        exact ⟨ret_bool (by unfold validN; simp [hp]), rfl⟩
end Go.Proofs.Ytaihdnlpdibkoaa
