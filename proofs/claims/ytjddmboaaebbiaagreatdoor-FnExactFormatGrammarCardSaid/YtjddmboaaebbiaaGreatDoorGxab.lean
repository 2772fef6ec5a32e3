/- Several texts of one proof in one file: Values: what the functions on numbers, types and operators return, in the program and in the reference. What the memory of a text is. Plain facts of the program. Values as text by their types: both sides. Expressions: how one lies in memory; the functions that only read one. Expressions: sizes, copies into new memory, comparisons. Expressions: copies into new memory. Conditions: each theorem names its own. -/
import Derived.Test.YtjddmboaaebbiaaGreatDoorRows
import Derived.Test.YtjddmboaaebbiaaGreatDoorGxaa
import Derived.Laws.Bits64
import Derived.Laws.BitsAllLaws
import Derived.WalkLawsBesides
import Derived.WalkSpells
import Derived.Deep.OwnRows
import Derived.Deep.QuietTactic
import Derived.BigQuiet
import Derived.Deep.RegionHeld3
import Derived.Laws.MakeOwn

/- Values: what the functions on numbers, types and operators return, in the program and in the reference. Conditions: an argument is an int64. -/
namespace Go.Proofs.YtjddmboaaebbiaaGreatDoor
set_option linter.unusedSimpArgs false
set_option linter.unusedVariables false
set_option maxRecDepth 100000
open Go.RowKit

def ot (op : Int) : Int × Int × Int :=
  if 1 ≤ op ∧ op ≤ 5 then (1, 1, 1) else if 6 ≤ op ∧ op ≤ 8 then (2, 2, 2) else if op = 9 ∨ op = 10 then (1, 1, 3) else if op = 11 then (2, 1, 3) else if op = 12 then (2, 1, 2) else (0, 0, 0)
def sat (n : Int) : Int := if 1000000 < n then 1000000 else if n < -1000000 then -1000000 else n
def co (v k : Int) : Int := if k = 1 then sat v else if k = 2 then bits .and .i64 v 4095 else if k = 3 then (if v = 0 then 0 else 1) else if k = 4 ∧ 0 ≤ v ∧ v ≤ 999 then v else 0
def ofT (v k : Int) : Bool := decide (1 ≤ k ∧ k ≤ 4 ∧ co v k = v)

theorem s_Saturate (n : Int) (w : World) : Calls Tryz.prog 145 #[.int .i64 n] w fun e w' => e = .returned (.int .i64 (sat n)) ∧ w = w' := by
  go_enter Tryz.func145, Tryz.ntmps145
  go_wp2
  all_goals go_ret
  all_goals refine ⟨ret_int ?_, rfl⟩
  all_goals (unfold sat; (repeat' split) <;> first | rfl | omega)
theorem i_Saturate (n : Int) (w : World) : Calls Tryz.prog 141 #[.int .i64 n] w fun e w' => e = .returned (.int .i64 (sat n)) ∧ w = w' := by
  go_enter Tryz.func141, Tryz.ntmps141
  go_wp2
  all_goals go_ret
  all_goals refine ⟨ret_int ?_, rfl⟩
  all_goals (unfold sat; (repeat' split) <;> first | rfl | omega)

theorem s_Coerce (v k : Int) (w : World) : Calls Tryz.prog 134 #[.int .i64 v, .int .i64 k] w fun e w' => e = .returned (.int .i64 (co v k)) ∧ w = w' := by
  go_enter Tryz.func134, Tryz.ntmps134
  go_wp2
  all_goals go_ret
  all_goals refine ⟨ret_int ?_, rfl⟩
  all_goals (try simp only [beq_iff_eq, beq_eq_false_iff_ne, ne_eq, bne_iff_ne, bne_eq_false_iff_eq] at *)
  all_goals (unfold co; (repeat' split) <;> first | rfl | omega | (unfold sat; (repeat' split) <;> omega))
theorem i_Coerce (v k : Int) (w : World) : Calls Tryz.prog 125 #[.int .i64 v, .int .i64 k] w fun e w' => e = .returned (.int .i64 (co v k)) ∧ w = w' := by
  go_enter Tryz.func125, Tryz.ntmps125
  go_wp2
  all_goals go_ret
  all_goals refine ⟨ret_int ?_, rfl⟩
  all_goals (try simp only [beq_iff_eq, beq_eq_false_iff_ne, ne_eq, bne_iff_ne, bne_eq_false_iff_eq] at *)
  all_goals (unfold co; (repeat' split) <;> first | rfl | omega | (unfold sat; (repeat' split) <;> omega))
theorem bits_4095 (v : Int) : bits .and .i64 v 4095 = v % 4096 := by
  show IntKind.i64.wrap ((BitVec.ofInt 64 v &&& BitVec.ofInt 64 4095).toNat : Int) = _
  rw [BitVec.toNat_and, BitVec.toNat_ofInt, BitVec.toNat_ofInt, IntKind.wrap_i64]
  rw [show ((4095 : Int) % ((2 : Nat) ^ 64 : Nat)).toNat = 2 ^ 12 - 1 from rfl, Nat.and_two_pow_sub_one_eq_mod]
  omega
theorem co_bd (v k : Int) : -1000000 ≤ co v k ∧ co v k ≤ 1000000 := by
  unfold co sat
  rw [bits_4095]
  (repeat' split) <;> omega
theorem s_IsOfType (v k : Int) (w : World) : Calls Tryz.prog 115 #[.int .i64 v, .int .i64 k] w fun e w' => e = .returned (.bool (ofT v k)) ∧ w = w' := by
  by_cases h1 : 1 ≤ k
  · by_cases h2 : k ≤ 4
    · go_enter Tryz.func115, Tryz.ntmps115
      go_wp2_with (first | (go_at_call 134; refine (s_Coerce _ _ _).mono ?_; rintro e w' ⟨rfl, rfl⟩) | go_in)
      go_ret
      exact ⟨ret_bool (by unfold ofT; rw [Bool.eq_iff_iff]; simp; omega), rfl⟩
    · go_enter Tryz.func115, Tryz.ntmps115
      go_wp2
      go_ret
      exact ⟨ret_bool (by unfold ofT; rw [Bool.eq_iff_iff]; simp; omega), rfl⟩
  · go_enter Tryz.func115, Tryz.ntmps115
    go_wp2
    go_ret
    exact ⟨ret_bool (by unfold ofT; rw [Bool.eq_iff_iff]; simp; omega), rfl⟩
theorem i_IsOfType (v k : Int) (w : World) : Calls Tryz.prog 93 #[.int .i64 v, .int .i64 k] w fun e w' => e = .returned (.bool (ofT v k)) ∧ w = w' := by
  by_cases h1 : 1 ≤ k
  · by_cases h2 : k ≤ 4
    · go_enter Tryz.func93, Tryz.ntmps93
      go_wp2_with (first | (go_at_call 125; refine (i_Coerce _ _ _).mono ?_; rintro e w' ⟨rfl, rfl⟩) | go_in)
      go_ret
      exact ⟨ret_bool (by unfold ofT; rw [Bool.eq_iff_iff]; simp; omega), rfl⟩
    · go_enter Tryz.func93, Tryz.ntmps93
      go_wp2
      go_ret
      exact ⟨ret_bool (by unfold ofT; rw [Bool.eq_iff_iff]; simp; omega), rfl⟩
  · go_enter Tryz.func93, Tryz.ntmps93
    go_wp2
    go_ret
    exact ⟨ret_bool (by unfold ofT; rw [Bool.eq_iff_iff]; simp; omega), rfl⟩
/-- An operator on values that have its types. -/
def apC (op x y : Int) : Int :=
  if op = 1 then sat (x + y) else if op = 2 then sat (x - y) else if op = 3 then sat (x * y) else if op = 4 then (if y < x then x else y) else if op = 5 then (if x < y then x else y)
  else if op = 6 then bits .or .i64 x y else if op = 7 then bits .and .i64 x y else if op = 8 then bits .andNot .i64 x y else if op = 9 then (if x < y then 1 else 0) else if op = 10 then (if x = y then 1 else 0)
  else if op = 11 then (if 0 ≤ y ∧ y ≤ 11 ∧ bits .and .i64 (x / 2 ^ y.toNat) 1 = 1 then 1 else 0) else if op = 12 then (if 0 ≤ y ∧ y ≤ 11 then bits .or .i64 x (2 ^ y.toNat) else x) else 0
def ap (op a b : Int) : Int := apC op (co a (ot op).1) (co b (ot op).2.1)
theorem mul_bd {x y : Int} (hx : -1000000 ≤ x ∧ x ≤ 1000000) (hy : -1000000 ≤ y ∧ y ≤ 1000000) : -1000000000000 ≤ x * y ∧ x * y ≤ 1000000000000 := by
  have h : (x * y).natAbs ≤ 1000000 * 1000000 := by
    rw [Int.natAbs_mul]
    exact Nat.mul_le_mul (by omega) (by omega)
  omega
theorem pow_bd {y : Int} (h0 : 0 ≤ y) (h1 : y ≤ 11) : 1 ≤ (2 : Int) ^ y.toNat ∧ (2 : Int) ^ y.toNat ≤ 2048 := by
  obtain ⟨n, rfl⟩ := Int.eq_ofNat_of_zero_le h0
  have hn : n ≤ 11 := by omega
  rw [Int.toNat_natCast]
  have e : ((2 : Int) ^ n) = ((2 ^ n : Nat) : Int) := by simp
  rw [e]
  have h2 : 2 ^ n ≤ 2 ^ 11 := Nat.pow_le_pow_right (by omega) hn
  have h3 : 0 < 2 ^ n := Nat.two_pow_pos n
  omega
end Go.Proofs.YtjddmboaaebbiaaGreatDoor

/- What the memory of a text is. Plain facts of the program. -/
namespace Go.Proofs.YtjddmboaaebbiaaGreatDoor
set_option linter.unusedSimpArgs false
set_option linter.unusedVariables false
set_option maxRecDepth 100000
theorem infoStr2 : (Tryz.prog.info? 9).map (fun i => (i.zero, i.size, i.bytes)) = some (some (.string ByteArray.empty), 1, 16) := by kernel_rfl
end Go.Proofs.YtjddmboaaebbiaaGreatDoor

/- Values as text by their types: both sides. Conditions: the value fits an int; the program's: the library's table of powers is laid. -/
namespace Go.Proofs.YtjddmboaaebbiaaGreatDoor
set_option linter.unusedSimpArgs false
set_option linter.unusedVariables false
set_option maxRecDepth 100000
open Go.RowKit Go.Lib
set_option linter.unusedVariables false

def num (n : Int) : ByteArray := ⟨(itoa n).toArray⟩
def bitV (v : Int) (k : Nat) : Bool := bits .and .i64 (v / 2 ^ k) 1 == 1
def wordsT (v : Int) (j : Nat) : List ByteArray := ((List.range j).filter (bitV v)).map fun k : Nat => num (k : Int)
def sp1 : ByteArray := ⟨#[32]⟩
def fmtTyped (v k : Int) : ByteArray :=
  if ofT v k = false then ⟨#[]⟩ else if k = 1 then num v else if k = 3 then (if v = 1 then ⟨#[116, 114, 117, 101]⟩ else ⟨#[102, 97, 108, 115, 101]⟩)
  else if k = 4 then (if v = 0 then ⟨#[110, 111, 110, 101]⟩ else ⟨#[35]⟩ ++ num v) else ⟨#[123]⟩ ++ ⟨(joinL (wordsT v 12) sp1).toArray⟩ ++ ⟨#[125]⟩
theorem wordsT_keep {v : Int} {j : Nat} (h : bitV v j = true) : wordsT v (j + 1) = wordsT v j ++ [num (j : Int)] := by
  unfold wordsT
  rw [List.range_succ, List.filter_append]
  simp [List.filter, h]
theorem wordsT_drop {v : Int} {j : Nat} (h : bitV v j = false) : wordsT v (j + 1) = wordsT v j := by
  unfold wordsT
  rw [List.range_succ, List.filter_append]
  simp [List.filter, h]
theorem wordsT_len (v : Int) (j : Nat) : (wordsT v j).length ≤ j := by
  unfold wordsT
  rw [List.length_map]
  exact Nat.le_trans (List.length_filter_le _ _) (by simp)
theorem num_size {n : Int} (h0 : -9223372036854775808 ≤ n) (h1 : n ≤ 9223372036854775807) : (num n).size ≤ 21 := by
  have := itoa_length_le n h0 h1
  simpa [num, ByteArray.size] using this
theorem words_bulk (v : Int) : bulkS (wordsT v 12) ≤ 252 := by
  have h : ∀ l : List ByteArray, (∀ x ∈ l, x.size ≤ 21) → bulkS l ≤ 21 * l.length := by
    intro l
    induction l with
    | nil => intro _; simp [bulkS]
    | cons a r ih =>
      intro ha
      have := ih (fun x hx => ha x (by simp [hx]))
      have := ha a (by simp)
      simp only [List.length_cons]
      show (a.size : Int) + bulkS r ≤ _
      omega
  have h1 := h (wordsT v 12) (fun x hx => by
    obtain ⟨k, hk, rfl⟩ := List.mem_map.1 hx
    have := List.mem_range.1 (List.mem_filter.1 hk).1
    exact num_size (by omega) (by omega))
  have := wordsT_len v 12
  omega
theorem ofT_kinds {v k : Int} (h : ofT v k = true) : 1 ≤ k ∧ k ≤ 4 := by
  unfold ofT at h
  simp at h
  omega
theorem set_bounds {v : Int} (h : ofT v 2 = true) : 0 ≤ v ∧ v ≤ 4095 := by
  unfold ofT at h
  simp at h
  have h2 : co v 2 = v % 4096 := bits_4095 v
  rw [h2] at h
  omega
set_option maxRecDepth 100000 in
set_option maxHeartbeats 2000000 in
theorem s_FormatTyped (v k : Int) (h0 : -9223372036854775808 ≤ v) (h1 : v ≤ 9223372036854775807) (w : World) :
    Calls Tryz.prog 81 #[.int .i64 v, .int .i64 k] w fun e w' => e = .returned (.string (fmtTyped v k)) ∧ Below w.heap.size w w' := by
  have hBw : Below w.heap.size w w := Below.refl _ _
  cases t : ofT v k
  case false =>
    have Hr : Hid (fmtTyped v k = ⟨#[]⟩) := hide (by unfold fmtTyped; rw [if_pos t])
    go_enter Tryz.func81, Tryz.ntmps81
    go_wp2_with (go_at_call 115; refine (s_IsOfType _ _ _).mono ?_; rintro e w' ⟨rfl, rfl⟩; rw [t])
    go_ret
    exact ⟨ret_string Hr.out.symm, Below.refl _ _⟩
  obtain ⟨k0, k1⟩ := ofT_kinds t
  have hk : k = 1 ∨ k = 2 ∨ k = 3 ∨ k = 4 := by omega
  rcases hk with rfl | rfl | rfl | rfl
  · have Hr : Hid (fmtTyped v 1 = num v) := hide (by unfold fmtTyped; rw [if_neg (by rw [t]; decide), if_pos rfl])
    go_enter Tryz.func81, Tryz.ntmps81
    go_wp2_with (go_at_call 115; refine (s_IsOfType _ _ _).mono ?_; rintro e w' ⟨rfl, rfl⟩; rw [t])
    refine Calls.mono (s_FormatInt v (by omega) (by omega) w) ?_
    rintro en w1 ⟨rfl, hb⟩
    have Hb := hide hb
    clear hb
    go_wp2_with fail
    go_ret
    exact ⟨ret_string (by rw [Hr.out]; rfl), Hb.out⟩
  rotate_left
  · by_cases hv : v = 1
    · subst hv
      have Hr : Hid (fmtTyped 1 3 = ⟨#[116, 114, 117, 101]⟩) := hide (by unfold fmtTyped; rw [if_neg (by rw [t]; decide)]; rfl)
      go_enter Tryz.func81, Tryz.ntmps81
      go_wp2_with (go_at_call 115; refine (s_IsOfType _ _ _).mono ?_; rintro e w' ⟨rfl, rfl⟩; rw [t])
      go_ret
      exact ⟨ret_string Hr.out.symm, Below.refl _ _⟩
    · have hv1 : (v == 1) = false := by simpa using hv
      have Hr : Hid (fmtTyped v 3 = ⟨#[102, 97, 108, 115, 101]⟩) := hide (by unfold fmtTyped; rw [if_neg (by rw [t]; decide), if_neg (by decide), if_pos rfl, if_neg hv])
      clear hv
      go_enter Tryz.func81, Tryz.ntmps81
      go_wp2_with (go_at_call 115; refine (s_IsOfType _ _ _).mono ?_; rintro e w' ⟨rfl, rfl⟩; rw [t])
      go_ret
      exact ⟨ret_string Hr.out.symm, Below.refl _ _⟩
  · by_cases hv : v = 0
    · subst hv
      have Hr : Hid (fmtTyped 0 4 = ⟨#[110, 111, 110, 101]⟩) := hide (by unfold fmtTyped; rw [if_neg (by rw [t]; decide)]; rfl)
      go_enter Tryz.func81, Tryz.ntmps81
      go_wp2_with (go_at_call 115; refine (s_IsOfType _ _ _).mono ?_; rintro e w' ⟨rfl, rfl⟩; rw [t])
      go_ret
      exact ⟨ret_string Hr.out.symm, Below.refl _ _⟩
    · have hv1 : (v == 0) = false := by simpa using hv
      have Hr : Hid (fmtTyped v 4 = ⟨#[35]⟩ ++ num v) := hide (by unfold fmtTyped; rw [if_neg (by rw [t]; decide), if_neg (by decide), if_neg (by decide), if_pos rfl, if_neg hv])
      have Hns := hide (num_size h0 h1)
      clear hv
      go_enter Tryz.func81, Tryz.ntmps81
      go_wp2_with (go_at_call 115; refine (s_IsOfType _ _ _).mono ?_; rintro e w' ⟨rfl, rfl⟩; rw [t])
      refine Calls.mono (s_FormatInt v (by omega) (by omega) w) ?_
      rintro en w1 ⟨rfl, hb⟩
      have Hb := hide hb
      clear hb
      change Hid ((num v).size ≤ 21) at Hns
      have hns := Hns.out
      rw [show (⟨(itoa v).toArray⟩ : ByteArray) = num v from rfl]
      generalize num v = N at Hr hns ⊢
      go_wp2_with fail
      go_ret
      exact ⟨ret_string Hr.out.symm, Hb.out⟩
  obtain ⟨b0, b1⟩ := set_bounds t
  have Hr : Hid (fmtTyped v 2 = ⟨#[123]⟩ ++ ⟨(joinL (wordsT v 12) sp1).toArray⟩ ++ ⟨#[125]⟩) := hide (by unfold fmtTyped; rw [if_neg (by rw [t]; decide), if_neg (by decide), if_neg (by decide), if_neg (by decide)])
  go_enter Tryz.func81, Tryz.ntmps81
  go_wp2_with (go_at_call 115; refine (s_IsOfType _ _ _).mono ?_; rintro e w' ⟨rfl, rfl⟩; rw [t])
  go_loopw [5, 6] (fun o i wr => ∃ j : Nat, j ≤ 12 ∧ i = .int .i64 j ∧ Hid (OwnS 1 (StrR 0) w.heap.size 9 wr (wordsT v j) o []) ∧ Hid (Below w.heap.size w wr)) (fun _ i _ => 12 - (RowKit.intOf i).toNat)
  case atStart => exact ⟨0, by omega, rfl, hide (show OwnS 1 (StrR 0) w.heap.size _ _ [] _ [] from OwnS.made w (Nat.le_refl _)), hide (hBw.alloc (Nat.le_refl _) _)⟩
  case round =>
    obtain ⟨j, hj, rfl, Ho, Hb⟩ := hrel
    by_cases hlt : j < 12
    · have hbase := Hb.out.size
      have hlen := wordsT_len v j
      cases hq : bitV v j
      · have Hk := hide (wordsT_drop hq)
        unfold bitV at hq
        go_wp2_with fail
        exact ⟨⟨j + 1, by omega, by go_num, hide (by rw [Hk.out]; exact Ho.out), Hb⟩, by simp [RowKit.intOf]; omega⟩
      · have Hk := hide (wordsT_keep hq)
        have Hns := hide (num_size (n := (j : Int)) (by omega) (by omega))
        unfold bitV at hq
        go_wp2_with fail
        refine Calls.mono (s_FormatInt j (by omega) (by omega) wr) ?_
        rintro en w1 ⟨rfl, hb⟩
        have Hb1 := hide hb
        clear hb
        rw [show (⟨(itoa (j : Int)).toArray⟩ : ByteArray) = num j from rfl]
        go_wp2_with (at_builtin; refine app_ownS rfl (.tmp 38) (.tmp 41) 22 9 rfl Tryz.underlying22 infoStr2 rfl (by decide) (StrR.good 0) wr w1 w.heap.size _ (wordsT v j) [] Ho.out rfl Hb1.out (num j) [.string (num j)] [] ⟨rfl, by have := Hns.out; unfold maxLen; omega, rfl⟩ (Fresh.nil _ _) (by simp [Value.oneCell']) rfl (by omega) (by omega) hbase ?_; intro v1 w2 hown hbl)
        have Hown := hide hown
        have Hbl := hide hbl
        clear hown hbl
        go_wp2_with fail
        exact ⟨⟨j + 1, by omega, by go_num, hide (by rw [Hk.out]; exact Hown.out), hide (Hb.out.trans Hbl.out)⟩, by simp [RowKit.intOf]; omega⟩
    · have hjl : j = 12 := by omega
      subst hjl
      obtain ⟨G, hG, _⟩ := Ho.out.slr (StrR.good 0)
      have Hc := hide (s_Join 0 (wordsT v 12) _ G wr hG sp1 (by decide) (by have := wordsT_len v 12; omega) (Int.le_trans (words_bulk v) (by decide)))
      have Hjl := hide (joinL_len (xs := wordsT v 12) (s := sp1) (by decide) (by have := wordsT_len v 12; omega) (Int.le_trans (words_bulk v) (by decide)) 12)
      clear hG
      go_wp2_with fail
      refine Calls.mono Hc.out ?_
      rintro en w1 ⟨rfl, hb⟩
      have Hb1 := hide (Hb.out.trans (hb.mono Hb.out.size))
      clear hb
      have hjs : (⟨(joinL (wordsT v 12) sp1).toArray⟩ : ByteArray).size ≤ 2199023255552 := by
        have := Hjl.out
        rw [List.take_of_length_le (wordsT_len v 12)] at this
        simpa [ByteArray.size] using this
      generalize (⟨(joinL (wordsT v 12) sp1).toArray⟩ : ByteArray) = N at Hr hjs ⊢
      go_wp2_with fail
      go_ret
      exact ⟨ret_string Hr.out.symm, Hb1.out⟩
set_option maxRecDepth 100000 in
set_option maxHeartbeats 2000000 in
theorem i_FormatTyped (v k : Int) (h0 : -9223372036854775808 ≤ v) (h1 : v ≤ 9223372036854775807) (w : World) (htab : TabIs Tryz.prog w "internal/strconv.uint64pow10" .u64 pow10Tab) :
    Calls Tryz.prog 59 #[.int .i64 v, .int .i64 k] w fun e w' => e = .returned (.string (fmtTyped v k)) ∧ Below w.heap.size w w' := by
  have HT : Hid (∀ W : World, Below w.heap.size w W → TabIs Tryz.prog W "internal/strconv.uint64pow10" .u64 pow10Tab) := hide (tabBelow_of_tabIs htab)
  clear htab
  have hBw : Below w.heap.size w w := Below.refl _ _
  cases t : ofT v k
  case false =>
    have Hr : Hid (fmtTyped v k = ⟨#[]⟩) := hide (by unfold fmtTyped; rw [if_pos t])
    go_enter Tryz.func59, Tryz.ntmps59
    go_wp2_with (go_at_call 93; refine (i_IsOfType _ _ _).mono ?_; rintro e w' ⟨rfl, rfl⟩; rw [t])
    go_ret
    exact ⟨ret_string Hr.out.symm, Below.refl _ _⟩
  obtain ⟨k0, k1⟩ := ofT_kinds t
  have hk : k = 1 ∨ k = 2 ∨ k = 3 ∨ k = 4 := by omega
  rcases hk with rfl | rfl | rfl | rfl
  · have Hr : Hid (fmtTyped v 1 = num v) := hide (by unfold fmtTyped; rw [if_neg (by rw [t]; decide), if_pos rfl])
    go_enter Tryz.func59, Tryz.ntmps59
    go_wp2_with (go_at_call 93; refine (i_IsOfType _ _ _).mono ?_; rintro e w' ⟨rfl, rfl⟩; rw [t])
    refine Calls.mono (i_FormatInt v (by omega) (by omega) w (HT.out w hBw)) ?_
    rintro en w1 ⟨rfl, hb⟩
    have Hb := hide hb
    clear hb
    go_wp2_with fail
    go_ret
    exact ⟨ret_string (by rw [Hr.out]; rfl), Hb.out⟩
  rotate_left
  · by_cases hv : v = 1
    · subst hv
      have Hr : Hid (fmtTyped 1 3 = ⟨#[116, 114, 117, 101]⟩) := hide (by unfold fmtTyped; rw [if_neg (by rw [t]; decide)]; rfl)
      go_enter Tryz.func59, Tryz.ntmps59
      go_wp2_with (go_at_call 93; refine (i_IsOfType _ _ _).mono ?_; rintro e w' ⟨rfl, rfl⟩; rw [t])
      go_ret
      exact ⟨ret_string Hr.out.symm, Below.refl _ _⟩
    · have hv1 : (v == 1) = false := by simpa using hv
      have Hr : Hid (fmtTyped v 3 = ⟨#[102, 97, 108, 115, 101]⟩) := hide (by unfold fmtTyped; rw [if_neg (by rw [t]; decide), if_neg (by decide), if_pos rfl, if_neg hv])
      clear hv
      go_enter Tryz.func59, Tryz.ntmps59
      go_wp2_with (go_at_call 93; refine (i_IsOfType _ _ _).mono ?_; rintro e w' ⟨rfl, rfl⟩; rw [t])
      go_ret
      exact ⟨ret_string Hr.out.symm, Below.refl _ _⟩
  · by_cases hv : v = 0
    · subst hv
      have Hr : Hid (fmtTyped 0 4 = ⟨#[110, 111, 110, 101]⟩) := hide (by unfold fmtTyped; rw [if_neg (by rw [t]; decide)]; rfl)
      go_enter Tryz.func59, Tryz.ntmps59
      go_wp2_with (go_at_call 93; refine (i_IsOfType _ _ _).mono ?_; rintro e w' ⟨rfl, rfl⟩; rw [t])
      go_ret
      exact ⟨ret_string Hr.out.symm, Below.refl _ _⟩
    · have hv1 : (v == 0) = false := by simpa using hv
      have Hr : Hid (fmtTyped v 4 = ⟨#[35]⟩ ++ num v) := hide (by unfold fmtTyped; rw [if_neg (by rw [t]; decide), if_neg (by decide), if_neg (by decide), if_pos rfl, if_neg hv])
      have Hns := hide (num_size h0 h1)
      clear hv
      go_enter Tryz.func59, Tryz.ntmps59
      go_wp2_with (go_at_call 93; refine (i_IsOfType _ _ _).mono ?_; rintro e w' ⟨rfl, rfl⟩; rw [t])
      refine Calls.mono (i_FormatInt v (by omega) (by omega) w (HT.out w hBw)) ?_
      rintro en w1 ⟨rfl, hb⟩
      have Hb := hide hb
      clear hb
      change Hid ((num v).size ≤ 21) at Hns
      have hns := Hns.out
      rw [show (⟨(itoa v).toArray⟩ : ByteArray) = num v from rfl]
      generalize num v = N at Hr hns ⊢
      go_wp2_with fail
      go_ret
      exact ⟨ret_string Hr.out.symm, Hb.out⟩
  obtain ⟨b0, b1⟩ := set_bounds t
  have Hr : Hid (fmtTyped v 2 = ⟨#[123]⟩ ++ ⟨(joinL (wordsT v 12) sp1).toArray⟩ ++ ⟨#[125]⟩) := hide (by unfold fmtTyped; rw [if_neg (by rw [t]; decide), if_neg (by decide), if_neg (by decide), if_neg (by decide)])
  go_enter Tryz.func59, Tryz.ntmps59
  go_wp2_with (go_at_call 93; refine (i_IsOfType _ _ _).mono ?_; rintro e w' ⟨rfl, rfl⟩; rw [t])
  go_loopw [5, 6, 41] (fun o k6 i wr => ∃ j : Nat, j ≤ 12 ∧ i = .int .i64 j ∧ Hid (OwnS 1 (StrR 0) w.heap.size 9 wr (wordsT v j) o []) ∧ Hid (Below w.heap.size w wr)) (fun _ _ i _ => 12 - (RowKit.intOf i).toNat)
  case atStart => exact ⟨0, by omega, rfl, hide (show OwnS 1 (StrR 0) w.heap.size _ _ [] _ [] from OwnS.made w (Nat.le_refl _)), hide (hBw.alloc (Nat.le_refl _) _)⟩
  case round =>
    obtain ⟨j, hj, rfl, Ho, Hb⟩ := hrel
    by_cases hlt : j < 12
    · have hbase := Hb.out.size
      have hlen := wordsT_len v j
      cases hq : bitV v j
      · have Hk := hide (wordsT_drop hq)
        unfold bitV at hq
        go_wp2_with fail
        exact ⟨⟨j + 1, by omega, by go_num, hide (by rw [Hk.out]; exact Ho.out), Hb⟩, by simp [RowKit.intOf]; omega⟩
      · have Hk := hide (wordsT_keep hq)
        have Hns := hide (num_size (n := (j : Int)) (by omega) (by omega))
        unfold bitV at hq
        go_wp2_with fail
        refine Calls.mono (i_FormatInt j (by omega) (by omega) wr (HT.out wr Hb.out)) ?_
        rintro en w1 ⟨rfl, hb⟩
        have Hb1 := hide hb
        clear hb
        rw [show (⟨(itoa (j : Int)).toArray⟩ : ByteArray) = num j from rfl]
        go_wp2_with (at_builtin; refine app_ownS rfl (.tmp 50) (.tmp 53) 22 9 rfl Tryz.underlying22 infoStr2 rfl (by decide) (StrR.good 0) wr w1 w.heap.size _ (wordsT v j) [] Ho.out rfl Hb1.out (num j) [.string (num j)] [] ⟨rfl, by have := Hns.out; unfold maxLen; omega, rfl⟩ (Fresh.nil _ _) (by simp [Value.oneCell']) rfl (by omega) (by omega) hbase ?_; intro v1 w2 hown hbl)
        have Hown := hide hown
        have Hbl := hide hbl
        clear hown hbl
        go_wp2_with fail
        exact ⟨⟨j + 1, by omega, by go_num, hide (by rw [Hk.out]; exact Hown.out), hide (Hb.out.trans Hbl.out)⟩, by simp [RowKit.intOf]; omega⟩
    · have hjl : j = 12 := by omega
      subst hjl
      obtain ⟨G, hG, _⟩ := Ho.out.slr (StrR.good 0)
      have Hc := hide (i_Join 0 (wordsT v 12) _ G wr hG sp1 (by decide) (by have := wordsT_len v 12; omega) (Int.le_trans (words_bulk v) (by decide)))
      have Hjl := hide (joinL_len (xs := wordsT v 12) (s := sp1) (by decide) (by have := wordsT_len v 12; omega) (Int.le_trans (words_bulk v) (by decide)) 12)
      clear hG
      go_wp2_with fail
      refine Calls.mono Hc.out ?_
      rintro en w1 ⟨rfl, hb⟩
      have Hb1 := hide (Hb.out.trans (hb.mono Hb.out.size))
      clear hb
      have hjs : (⟨(joinL (wordsT v 12) sp1).toArray⟩ : ByteArray).size ≤ 2199023255552 := by
        have := Hjl.out
        rw [List.take_of_length_le (wordsT_len v 12)] at this
        simpa [ByteArray.size] using this
      generalize (⟨(joinL (wordsT v 12) sp1).toArray⟩ : ByteArray) = N at Hr hjs ⊢
      go_wp2_with fail
      go_ret
      exact ⟨ret_string Hr.out.symm, Hb1.out⟩
end Go.Proofs.YtjddmboaaebbiaaGreatDoor

/- Expressions: how one lies in memory; the functions that only read one. Conditions: none beyond that it can be read. -/
namespace Go.Proofs.YtjddmboaaebbiaaGreatDoor
set_option linter.unusedSimpArgs false
set_option linter.unusedVariables false
set_option maxRecDepth 100000
open Go.RowKit Go.WideShapes

structure ExH where
  kind : Int
  n : Int
  pos : Int
  type : Int
  symbol : ByteArray
  name : ByteArray
inductive Ex where
  | mk (h : ExH) (args : List Ex)
def Ex.h : Ex → ExH
  | .mk h _ => h
def Ex.args : Ex → List Ex
  | .mk _ l => l
structure ExH.ok (h : ExH) : Prop where
  kind : (Lit.int .i64 h.kind).wf = true
  n : (Lit.int .i64 h.n).wf = true
  pos : (Lit.int .i64 h.pos).wf = true
  type : (Lit.int .i64 h.type).wf = true
  symbol : h.symbol.size ≤ maxLen
  name : h.name.size ≤ maxLen
def ExH.cells (h : ExH) (v : Value) : List Value := [.int .i64 h.kind, .int .i64 h.n, .int .i64 h.pos, .int .i64 h.type, .string h.symbol, .string h.name, v]
/-- An expression of depth at most d. -/
def ExR : Nat → CR Ex
  | 0, _, _, _, _ => False
  | d + 1, w, e, cs, F => ∃ v, cs = e.h.cells v ∧ e.h.ok ∧ SlR 7 (ExR d) w e.args v F
theorem ExR.good : ∀ d, Good 7 (ExR d)
  | 0 => ⟨fun h => h.elim, fun h => h.elim, fun h => h.elim⟩
  | d + 1 => by
    exact ⟨fun ⟨v, h, _⟩ => by rw [h]; rfl, fun ⟨v, h1, h2, h3⟩ hk hz => ⟨v, h1, h2, h3.frame (ExR.good d) hk hz⟩, fun ⟨v, h1, h2, h3⟩ => h3.lt (ExR.good d)⟩
theorem ExR.up : ∀ {d : Nat} {w : World} {e : Ex} {cs : List Value} {F : List Nat}, ExR d w e cs F → ∀ d', d ≤ d' → ExR d' w e cs F
  | 0, _, _, _, _, h, _, _ => h.elim
  | d + 1, w, e, cs, F, ⟨v, h1, h2, h3⟩, 0, hd => by omega
  | d + 1, w, e, cs, F, ⟨v, h1, h2, h3⟩, d' + 1, hd => ⟨v, h1, h2, h3.mono fun x cs F h => ExR.up h d' (by omega)⟩
theorem cells_Expr {H : Type} {enc : TypeId × Value → H} {w : World} {base : Nat} {sp : Nat → Bool} {held : Bool} : ∀ (fuel : Nat) {cs : List Value} {x : DataW H × List MemPlace},
    DataW.trod enc Tryz.prog w base sp held fuel 88 cs = some x → ∃ e F, ExR fuel w e cs F := by
  intro fuel
  induction fuel using Nat.strongRecOn with
  | _ fuel ih =>
    intro cs x h
    have ht := Tryz.underlying88
    have hl := (trod_len ht h).trans (show Tryz.prog.cellsOf 88 = 7 by kernel_rfl)
    obtain ⟨c0, c1, c2, c3, c4, c5, c6, rfl⟩ := list7 hl
    obtain ⟨z0, e0, w0⟩ := field_int 0 _ ht h rfl Tryz.underlying3 (by kernel_rfl)
    obtain ⟨z1, e1, w1⟩ := field_int 1 _ ht h rfl Tryz.underlying3 (by kernel_rfl)
    obtain ⟨z2, e2, w2⟩ := field_int 2 _ ht h rfl Tryz.underlying3 (by kernel_rfl)
    obtain ⟨z3, e3, w3⟩ := field_int 3 _ ht h rfl Tryz.underlying3 (by kernel_rfl)
    obtain ⟨z4, e4, w4⟩ := field_string 4 _ ht h rfl Tryz.underlying9 (by kernel_rfl)
    obtain ⟨z5, e5, w5⟩ := field_string 5 _ ht h rfl Tryz.underlying9 (by kernel_rfl)
    obtain ⟨n, y, hn, h6⟩ := trod_field 6 _ ht h rfl
    simp at e0 e1 e2 e3 e4 e5
    subst e0 e1 e2 e3 e4 e5
    obtain ⟨xs, v, F, hv, hs⟩ := open_SlR (n := 7) Tryz.underlying86 (by kernel_rfl) (by omega) (ExR n) h6 (fun m cs y hm hy => by
      obtain ⟨e, F, he⟩ := ih m (by omega) hy
      exact ⟨e, F, he.up n (by omega)⟩)
    have hc : (Tryz.prog.cellsOf 86) = 1 := by kernel_rfl
    simp [hc] at hv
    subst hv
    obtain ⟨f', rfl⟩ : ∃ f', fuel = f' + 1 := ⟨fuel - 1, by omega⟩
    exact ⟨.mk ⟨z0, z1, z2, z3, z4, z5⟩ xs, F, _, rfl, ⟨w0, w1, w2, w3, w4, w5⟩, hs.mono fun x cs F (hx : ExR n w x cs F) => hx.up f' (by omega)⟩
set_option maxRecDepth 100000 in
theorem open_Expr {H : Type} {enc : TypeId × Value → H} {w : World} {C base : Nat} {sp : Nat → Bool} {held : Bool} {v : Value} {d : DataW H} {p : List MemPlace} (hv : Value.okWide Tryz.prog w .any C 88 v)
    (h : DataW.Trod enc Tryz.prog w base sp held 88 v d p) : ∃ (D : Nat) (e : Ex) (cs : List Value) (F : List Nat), v = .agg cs.toArray ∧ ExR D w e cs F := by
  obtain ⟨cs, fuel, x, rfl, hf⟩ := okWide_cells Tryz.underlying88 hv h
  obtain ⟨e, F, he⟩ := cells_Expr fuel hf
  exact ⟨fuel, e, _, F, rfl, he⟩

/-- How many nodes. -/
def cntE : Nat → Ex → Int
  | 0, _ => 0
  | d + 1, e => 1 + sumBy (cntE d) e.args
theorem cntE_nonneg : ∀ d e, 0 ≤ cntE d e
  | 0, _ => Int.le_refl _
  | d + 1, e => by have := sumBy_nonneg (cntE_nonneg d) e.args; simp only [cntE]; omega

/-- Argument k of an expression: its seven cells, and how it lies. -/
theorem ex_get {d : Nat} {w : World} {l : List Ex} {A : Option Addr} {len cap : Nat} {F : List Nat} {k : Nat} {x : Ex} (h : SlR 7 (ExR d) w l (.slice A len cap) F) (hx : l[k]? = some x) :
    ∃ b off A' cap' Fk, A = some ⟨b, off, none⟩ ∧ b ∈ F ∧ (∀ j ∈ Fk, j ∈ F) ∧ x.h.ok ∧ x.args.length ≤ cap' ∧ cap' ≤ maxLen ∧
      CellsAt w b (off + k * 7) (x.h.cells (.slice A' x.args.length cap')) ∧ ExR d w x (x.h.cells (.slice A' x.args.length cap')) Fk := by
  obtain ⟨b, off, cs, Fk, hA, _, hbF, hFk, _, hc, hR⟩ := h.get (ExR.good d) hx
  match d, hR with
  | d + 1, hR =>
    obtain ⟨v, rfl, hok, hs⟩ := id hR
    obtain ⟨A', cap', rfl, hl, hm⟩ := hs.form
    exact ⟨b, off, A', cap', Fk, hA, hbF, hFk, hok, hl, hm, hc, hR⟩
/-- An expression by value: its form. -/
theorem ex_form {d : Nat} {w : World} {e : Ex} {cs : List Value} {F : List Nat} (h : ExR (d + 1) w e cs F) :
    ∃ A cap, cs = e.h.cells (.slice A e.args.length cap) ∧ e.h.ok ∧ e.args.length ≤ cap ∧ cap ≤ maxLen ∧ SlR 7 (ExR d) w e.args (.slice A e.args.length cap) F := by
  obtain ⟨v, rfl, hok, hs⟩ := h
  obtain ⟨A, cap, rfl, hl, hm⟩ := hs.form
  exact ⟨A, cap, rfl, hok, hl, hm, hs⟩

theorem i_CountExpr : ∀ (d : Nat) (e : Ex) (cs : List Value) (F : List Nat) (w : World), ExR d w e cs F → cntE d e ≤ 2097152 →
    Calls Tryz.prog 118 #[.agg cs.toArray] w fun en w' => en = .returned (.int .i64 (cntE d e)) ∧ Below w.heap.size w w'
  | 0, _, _, _, _, h, _ => h.elim
  | d + 1, e, cs, F, w, h, hcnt => by
    obtain ⟨A, cap, rfl, hok, hl, hm, hs⟩ := ex_form h
    have HF := hide (hs.lt (ExR.good d))
    obtain ⟨⟨k, n, p, t, s, m⟩, l⟩ := e
    unfold maxLen at hm
    simp only [Ex.args] at hs hl hm HF
    have hcnt : 1 + sumBy (cntE d) l ≤ 2097152 := hcnt
    show Calls _ _ #[.agg #[.int .i64 k, .int .i64 n, .int .i64 p, .int .i64 t, .string s, .string m, .slice A l.length cap]] w _
    generalize hbx : Obj.cells #[.int .i64 k, .int .i64 n, .int .i64 p, .int .i64 t, .string s, .string m, .slice A l.length cap] 59 = bx
    have HC := hide (CellsAt.new w [.int .i64 k, .int .i64 n, .int .i64 p, .int .i64 t, .string s, .string m, .slice A l.length cap] 59)
    rw [hbx] at HC
    obtain ⟨_, _, _, _, _, _, c6⟩ := HC.out.seven0
    have Hs := hide hs
    have Hnn := hide (cntE_nonneg d)
    clear hs hok h
    go_enter Tryz.func118, Tryz.ntmps118
    go_wp2_with fail
    go_loopw [3, 9] (fun c i wr => ∃ j : Nat, j ≤ l.length ∧ i = .int .i64 j ∧ c = .int .i64 (1 + sumBy (cntE d) (l.take j)) ∧ Hid (Below (w.heap.size + 1) (w.alloc bx) wr)) (fun _ i _ => l.length - (intOf i).toNat)
    case atStart => exact ⟨0, by omega, rfl, by simp [sumBy], hide (by rw [← hbx]; exact Below.refl _ _)⟩
    case round =>
      obtain ⟨j, hj, rfl, rfl, Hb⟩ := hrel
      obtain ⟨_, _, _, _, _, _, c6⟩ := (HC.out.below Hb.out (by omega)).seven0
      have hle := sumBy_take_le Hnn.out l j
      have hpos := sumBy_nonneg Hnn.out (l.take j)
      have Hb1 : Hid (Below w.heap.size w wr) := hide (box_below Hb.out)
      by_cases hlt : j < l.length
      · have hx : l[j]? = some l[j] := List.getElem?_eq_getElem hlt
        generalize l[j] = x at hx
        have hsum := sumBy_take_succ (f := cntE d) hx
        have hle2 := sumBy_take_le Hnn.out l (j + 1)
        have hcx := Hnn.out x
        rw [hsum] at hle2
        have Hsum := hide hsum
        obtain ⟨b, off, A', cap', Fk, hA, hbF, hFk, _, hl', hm', hcat, hR⟩ := ex_get (Hs.out.below (ExR.good d) Hb1.out HF.out) hx
        subst hA
        obtain ⟨e0, e1, e2, e3, e4, e5, e6⟩ := hcat.seven
        have hblt := Nat.lt_of_lt_of_le (HF.out b hbF) Hb1.out.size
        have HR := hide hR
        have HFk : Hid (∀ i ∈ Fk, i < wr.heap.size) := hide fun i hi => Nat.lt_of_lt_of_le (HF.out i (hFk i hi)) Hb1.out.size
        have hbz := Hb.out.size
        rw [World.size_alloc] at hbz
        clear hsum hx hR hcat hFk hbF hl' hm'
        go_wp2_with fail
        refine Calls.mono (i_CountExpr d x _ Fk _ ((ExR.good d).below HR.out ((Below.refl wr.heap.size wr).alloc (Nat.le_refl _) _) HFk.out) (by omega)) ?_
        rintro en w2 ⟨rfl, hb2⟩
        have HB2 : Hid (Below (w.heap.size + 1) (w.alloc bx) w2) := hide (Hb.out.trans (((Below.refl wr.heap.size wr).alloc (Nat.le_refl _) _ |>.mono (by omega)).trans (hb2.mono (by simp; omega))))
        clear hb2
        go_wp2_with fail
        go_roundw
        case rel => exact ⟨j + 1, by omega, by go_num, by rw [Hsum.out, Int.add_assoc], HB2⟩
        case measure => simp [intOf]; omega
      · have hjl : j = l.length := by omega
        rw [hjl, List.take_length] at *
        have HB := hide Hb1.out
        go_wp2_with fail
        go_ret
        exact ⟨rfl, HB.out⟩

theorem s_l1Max (a b : Int) (w : World) : Calls Tryz.prog 113 #[.int .i64 a, .int .i64 b] w fun e w' => e = .returned (.int .i64 (max a b)) ∧ w = w' := by
  by_cases h : b < a
  all_goals
    go_enter Tryz.func113, Tryz.ntmps113
    go_wp2
    go_ret
    exact ⟨ret_int (by omega), rfl⟩

/-- How deep. -/
def maxBy {α : Type} (f : α → Int) : List α → Int
  | [] => 0
  | x :: r => max (f x) (maxBy f r)
theorem maxBy_snoc {α : Type} (f : α → Int) (hf : ∀ x, 0 ≤ f x) (xs : List α) (x : α) : maxBy f (xs ++ [x]) = max (maxBy f xs) (f x) := by
  induction xs with
  | nil => have := hf x; simp only [List.nil_append, maxBy]; omega
  | cons y r ih => simp only [List.cons_append, maxBy, ih]; omega
theorem maxBy_take_succ {α : Type} {f : α → Int} (hf : ∀ x, 0 ≤ f x) {xs : List α} {k : Nat} {x : α} (hx : xs[k]? = some x) : maxBy f (xs.take (k + 1)) = max (maxBy f (xs.take k)) (f x) := by rw [take_snoc hx, maxBy_snoc f hf]
theorem maxBy_le_sum {α : Type} {f g : α → Int} (hf : ∀ x, 0 ≤ f x) (h : ∀ x, f x ≤ g x) : ∀ xs : List α, 0 ≤ maxBy f xs ∧ maxBy f xs ≤ sumBy g xs
  | [] => ⟨Int.le_refl _, Int.le_refl _⟩
  | x :: r => by
    have h1 := maxBy_le_sum hf h r
    have h2 := hf x
    have h3 := h x
    have h4 := sumBy_nonneg (f := g) (fun y => by have := hf y; have := h y; omega) r
    simp only [maxBy, sumBy]
    omega
def depE : Nat → Ex → Int
  | 0, _ => 0
  | d + 1, e => maxBy (depE d) e.args + 1
theorem depE_le : ∀ d e, 0 ≤ depE d e ∧ depE d e ≤ cntE d e
  | 0, _ => ⟨Int.le_refl _, Int.le_refl _⟩
  | d + 1, e => by
    have := maxBy_le_sum (fun x => (depE_le d x).1) (fun x => (depE_le d x).2) e.args
    simp only [depE, cntE]
    omega

theorem s_DepthOfExpr : ∀ (d : Nat) (e : Ex) (cs : List Value) (F : List Nat) (w : World), ExR d w e cs F → cntE d e ≤ 2097152 →
    Calls Tryz.prog 79 #[.agg cs.toArray] w fun en w' => en = .returned (.int .i64 (depE d e)) ∧ Below w.heap.size w w'
  | 0, _, _, _, _, h, _ => h.elim
  | d + 1, e, cs, F, w, h, hcnt => by
    obtain ⟨A, cap, rfl, hok, hl, hm, hs⟩ := ex_form h
    have HF := hide (hs.lt (ExR.good d))
    obtain ⟨⟨k, n, p, t, s, m⟩, l⟩ := e
    unfold maxLen at hm
    simp only [Ex.args] at hs hl hm HF
    have hcnt : 1 + sumBy (cntE d) l ≤ 2097152 := hcnt
    show Calls _ _ #[.agg #[.int .i64 k, .int .i64 n, .int .i64 p, .int .i64 t, .string s, .string m, .slice A l.length cap]] w _
    generalize hbx : Obj.cells #[.int .i64 k, .int .i64 n, .int .i64 p, .int .i64 t, .string s, .string m, .slice A l.length cap] 59 = bx
    have HC := hide (CellsAt.new w [.int .i64 k, .int .i64 n, .int .i64 p, .int .i64 t, .string s, .string m, .slice A l.length cap] 59)
    rw [hbx] at HC
    obtain ⟨_, _, _, _, _, _, c6⟩ := HC.out.seven0
    have Hs := hide hs
    have Hnn := hide (cntE_nonneg d)
    clear hs hok h
    go_enter Tryz.func79, Tryz.ntmps79
    go_wp2_with fail
    go_loopw [3, 4] (fun c i wr => ∃ j : Nat, j ≤ l.length ∧ i = .int .i64 j ∧ c = .int .i64 (maxBy (depE d) (l.take j)) ∧ Hid (Below (w.heap.size + 1) (w.alloc bx) wr)) (fun _ i _ => l.length - (intOf i).toNat)
    case atStart => exact ⟨0, by omega, rfl, rfl, hide (by rw [← hbx]; exact Below.refl _ _)⟩
    case round =>
      obtain ⟨j, hj, rfl, rfl, Hb⟩ := hrel
      obtain ⟨_, _, _, _, _, _, c6⟩ := (HC.out.below Hb.out (by omega)).seven0
      have hle := sumBy_take_le Hnn.out l j
      have hpos := sumBy_nonneg Hnn.out (l.take j)
      have Hb1 : Hid (Below w.heap.size w wr) := hide (box_below Hb.out)
      by_cases hlt : j < l.length
      · have hx : l[j]? = some l[j] := List.getElem?_eq_getElem hlt
        generalize l[j] = x at hx
        have hsum := sumBy_take_succ (f := cntE d) hx
        have hle2 := sumBy_take_le Hnn.out l (j + 1)
        have hcx := Hnn.out x
        have hdx := depE_le d x
        have hdm := maxBy_le_sum (fun x => (depE_le d x).1) (fun x => (depE_le d x).2) (l.take j)
        have Hmax := hide (maxBy_take_succ (f := depE d) (fun x => (depE_le d x).1) hx)
        rw [hsum] at hle2
        obtain ⟨b, off, A', cap', Fk, hA, hbF, hFk, _, hl', hm', hcat, hR⟩ := ex_get (Hs.out.below (ExR.good d) Hb1.out HF.out) hx
        subst hA
        obtain ⟨e0, e1, e2, e3, e4, e5, e6⟩ := hcat.seven
        have hblt := Nat.lt_of_lt_of_le (HF.out b hbF) Hb1.out.size
        have HR := hide hR
        have HFk : Hid (∀ i ∈ Fk, i < wr.heap.size) := hide fun i hi => Nat.lt_of_lt_of_le (HF.out i (hFk i hi)) Hb1.out.size
        have hbz := Hb.out.size
        rw [World.size_alloc] at hbz
        clear hsum hx hR hcat hFk hbF hl' hm'
        go_wp2_with fail
        refine Calls.mono (s_DepthOfExpr d x _ Fk _ HR.out (by omega)) ?_
        rintro en w2 ⟨rfl, hb2⟩
        have HB2 : Hid (Below (w.heap.size + 1) (w.alloc bx) w2) := hide (Hb.out.trans (hb2.mono (by omega)))
        clear hb2
        go_wp2_with (go_at_call 113; refine (s_l1Max _ _ _).mono ?_; rintro e w' ⟨rfl, rfl⟩)
        go_roundw
        case rel => exact ⟨j + 1, by omega, by go_num, by rw [Hmax.out], HB2⟩
        case measure => simp [intOf]; omega
      · have hjl : j = l.length := by omega
        rw [hjl, List.take_length] at *
        have hdm := maxBy_le_sum (fun x => (depE_le d x).1) (fun x => (depE_le d x).2) l
        have HB := hide Hb1.out
        go_wp2_with fail
        go_ret
        exact ⟨rfl, HB.out⟩

theorem i_DepthOfExpr : ∀ (d : Nat) (e : Ex) (cs : List Value) (F : List Nat) (w : World), ExR d w e cs F → cntE d e ≤ 2097152 →
    Calls Tryz.prog 119 #[.agg cs.toArray] w fun en w' => en = .returned (.int .i64 (depE d e)) ∧ Below w.heap.size w w'
  | 0, _, _, _, _, h, _ => h.elim
  | d + 1, e, cs, F, w, h, hcnt => by
    obtain ⟨A, cap, rfl, hok, hl, hm, hs⟩ := ex_form h
    have HF := hide (hs.lt (ExR.good d))
    obtain ⟨⟨k, n, p, t, s, m⟩, l⟩ := e
    unfold maxLen at hm
    simp only [Ex.args] at hs hl hm HF
    have hcnt : 1 + sumBy (cntE d) l ≤ 2097152 := hcnt
    show Calls _ _ #[.agg #[.int .i64 k, .int .i64 n, .int .i64 p, .int .i64 t, .string s, .string m, .slice A l.length cap]] w _
    generalize hbx : Obj.cells #[.int .i64 k, .int .i64 n, .int .i64 p, .int .i64 t, .string s, .string m, .slice A l.length cap] 59 = bx
    have HC := hide (CellsAt.new w [.int .i64 k, .int .i64 n, .int .i64 p, .int .i64 t, .string s, .string m, .slice A l.length cap] 59)
    rw [hbx] at HC
    obtain ⟨_, _, _, _, _, _, c6⟩ := HC.out.seven0
    have Hs := hide hs
    have Hnn := hide (cntE_nonneg d)
    clear hs hok h
    go_enter Tryz.func119, Tryz.ntmps119
    go_wp2_with fail
    go_loopw [3, 9] (fun c i wr => ∃ j : Nat, j ≤ l.length ∧ i = .int .i64 j ∧ c = .int .i64 (maxBy (depE d) (l.take j)) ∧ Hid (Below (w.heap.size + 1) (w.alloc bx) wr)) (fun _ i _ => l.length - (intOf i).toNat)
    case atStart => exact ⟨0, by omega, rfl, rfl, hide (by rw [← hbx]; exact Below.refl _ _)⟩
    case round =>
      obtain ⟨j, hj, rfl, rfl, Hb⟩ := hrel
      obtain ⟨_, _, _, _, _, _, c6⟩ := (HC.out.below Hb.out (by omega)).seven0
      have hle := sumBy_take_le Hnn.out l j
      have hpos := sumBy_nonneg Hnn.out (l.take j)
      have Hb1 : Hid (Below w.heap.size w wr) := hide (box_below Hb.out)
      by_cases hlt : j < l.length
      · have hx : l[j]? = some l[j] := List.getElem?_eq_getElem hlt
        generalize l[j] = x at hx
        have hsum := sumBy_take_succ (f := cntE d) hx
        have hle2 := sumBy_take_le Hnn.out l (j + 1)
        have hcx := Hnn.out x
        have hdx := depE_le d x
        have hdm := maxBy_le_sum (fun x => (depE_le d x).1) (fun x => (depE_le d x).2) (l.take j)
        have Hmax := hide (maxBy_take_succ (f := depE d) (fun x => (depE_le d x).1) hx)
        rw [hsum] at hle2
        obtain ⟨b, off, A', cap', Fk, hA, hbF, hFk, _, hl', hm', hcat, hR⟩ := ex_get (Hs.out.below (ExR.good d) Hb1.out HF.out) hx
        subst hA
        obtain ⟨e0, e1, e2, e3, e4, e5, e6⟩ := hcat.seven
        have hblt := Nat.lt_of_lt_of_le (HF.out b hbF) Hb1.out.size
        have HR := hide hR
        have HFk : Hid (∀ i ∈ Fk, i < wr.heap.size) := hide fun i hi => Nat.lt_of_lt_of_le (HF.out i (hFk i hi)) Hb1.out.size
        have hbz := Hb.out.size
        rw [World.size_alloc] at hbz
        clear hsum hx hR hcat hFk hbF hl' hm'
        go_wp2_with fail
        refine Calls.mono (i_DepthOfExpr d x _ Fk _ ((ExR.good d).below HR.out ((Below.refl wr.heap.size wr).alloc (Nat.le_refl _) _) HFk.out) (by omega)) ?_
        rintro en w2 ⟨rfl, hb2⟩
        have HB2 : Hid (Below (w.heap.size + 1) (w.alloc bx) w2) := hide (Hb.out.trans (((Below.refl wr.heap.size wr).alloc (Nat.le_refl _) _ |>.mono (by omega)).trans (hb2.mono (by simp; omega))))
        clear hb2
        by_cases hlm : maxBy (depE d) (l.take j) < depE d x
        all_goals
          go_wp2_with fail
          go_roundw
          case rel => exact ⟨j + 1, by omega, by go_num, by rw [Hmax.out]; try (first | rfl | (congr 1; omega)), HB2⟩
          case measure => simp [intOf]; omega
      · have hjl : j = l.length := by omega
        rw [hjl, List.take_length] at *
        have hdm := maxBy_le_sum (fun x => (depE_le d x).1) (fun x => (depE_le d x).2) l
        have HB := hide Hb1.out
        go_wp2_with fail
        go_ret
        exact ⟨rfl, HB.out⟩
end Go.Proofs.YtjddmboaaebbiaaGreatDoor

/- Expressions: sizes, copies into new memory, comparisons. Conditions: a size is asked with at most 2^20; a copy is asked of at most 2^20 arguments a node. -/
namespace Go.Proofs.YtjddmboaaebbiaaGreatDoor
set_option linter.unusedSimpArgs false
set_option linter.unusedVariables false
set_option maxRecDepth 100000
open Go.RowKit Go.WideShapes

/-- Lengths of texts and of argument lists, together. -/
def bulkE : Nat → Ex → Int
  | 0, _ => 0
  | d + 1, e => e.h.symbol.size + e.h.name.size + (e.args.length + sumBy (bulkE d) e.args)
theorem bulkE_nonneg : ∀ d e, 0 ≤ bulkE d e
  | 0, _ => Int.le_refl _
  | d + 1, e => by have := sumBy_nonneg (bulkE_nonneg d) e.args; simp only [bulkE]; omega
/-- A node more than its arguments' lists hold. -/
theorem cnt_le_bulk : ∀ d e, cntE d e ≤ 1 + bulkE d e
  | 0, _ => by simp [cntE, bulkE]
  | d + 1, e => by
    have h : ∀ l : List Ex, sumBy (cntE d) l ≤ l.length + sumBy (bulkE d) l := by
      intro l
      induction l with
      | nil => simp [sumBy]
      | cons x r ih => have := cnt_le_bulk d x; simp only [sumBy, List.length_cons]; omega
    have := h e.args
    simp only [cntE, bulkE]
    omega

def SzE (d : Nat) : Prop := ∀ (e : Ex) (cs : List Value) (F : List Nat) (w : World) (L : Int), ExR d w e cs F → 0 ≤ L → L ≤ 1048576 →
  Calls Tryz.prog 74 #[.agg cs.toArray, .int .i64 L] w fun en w' => Sized (bulkE d e) L en ∧ Below w.heap.size w w'
set_option maxRecDepth 100000 in
theorem l_szExprS {d : Nat} (hE : SzE d) (l : List Ex) (A : Option Addr) (cap : Nat) (F : List Nat) (w : World) (L : Int) (hs : SlR 7 (ExR d) w l (.slice A l.length cap) F) (h0 : 0 ≤ L) (h1 : L ≤ 1048576) :
    Calls Tryz.prog 110 #[.slice A l.length cap, .int .i64 L] w fun en w' => Sized (l.length + sumBy (bulkE d) l) L en ∧ Below w.heap.size w w' := by
  have HF := hide (hs.lt (ExR.good d))
  obtain ⟨_, hlc, hm⟩ := hs.bnd
  unfold maxLen at hm
  have Hs := hide hs
  have HE := hide hE
  have Hnn := hide (bulkE_nonneg d)
  clear hs hE
  by_cases hn : L < l.length
  · go_enter Tryz.func110, Tryz.ntmps110
    go_wp2_with fail
    go_ret
    exact ⟨⟨-1, rfl, .inl rfl⟩, Below.refl _ _⟩
  go_enter Tryz.func110, Tryz.ntmps110
  go_wp2_with fail
  go_loopw [1, 5] (fun c i wr => ∃ j : Nat, j ≤ l.length ∧ i = .int .i64 j ∧ c = .int .i64 (L - l.length - sumBy (bulkE d) (l.take j)) ∧ 0 ≤ L - l.length - sumBy (bulkE d) (l.take j) ∧ Hid (Below w.heap.size w wr)) (fun _ i _ => l.length - (intOf i).toNat)
  case atStart => exact ⟨0, by omega, rfl, by simp [sumBy], by simp [sumBy]; omega, hide (Below.refl _ _)⟩
  case round =>
    obtain ⟨j, hj, rfl, rfl, hge, Hb⟩ := hrel
    have hpos := sumBy_nonneg Hnn.out (l.take j)
    by_cases hlt : j < l.length
    · have hx : l[j]? = some l[j] := List.getElem?_eq_getElem hlt
      generalize l[j] = x at hx
      have Hsum := hide (sumBy_take_succ (f := bulkE d) hx)
      have hcx := Hnn.out x
      obtain ⟨b, off, A', cap', Fk, hA, hbF, hFk, _, hl', hm', hcat, hR⟩ := ex_get (Hs.out.below (ExR.good d) Hb.out HF.out) hx
      subst hA
      obtain ⟨e0, e1, e2, e3, e4, e5, e6⟩ := hcat.seven
      have hblt := Nat.lt_of_lt_of_le (HF.out b hbF) Hb.out.size
      have HR := hide hR
      clear hx hR hcat hFk hbF hl' hm'
      go_wp2_with fail
      refine Calls.mono (HE.out x _ Fk _ (L - l.length - sumBy (bulkE d) (l.take j)) HR.out (by omega) (by omega)) ?_
      rintro en w2 ⟨⟨r, rfl, hr⟩, hb2⟩
      have HB2 : Hid (Below w.heap.size w w2) := hide (Hb.out.trans (hb2.mono Hb.out.size))
      clear hb2
      rcases hr with rfl | ⟨hr0, hr1⟩
      · go_wp2_with fail
        go_ret
        exact ⟨⟨-1, rfl, .inl rfl⟩, HB2.out⟩
      · have Hr1 := hide hr1
        clear hr1
        go_wp2_with fail
        go_roundw
        case rel => exact ⟨j + 1, by omega, by go_num, by rw [Hsum.out, Hr1.out]; go_num, by rw [Hsum.out]; have := Hr1.out; omega, HB2⟩
        case measure => simp [intOf]; omega
    · have hjl : j = l.length := by omega
      rw [hjl, List.take_length] at hge
      rw [hjl, List.take_length]
      go_wp2_with fail
      go_ret
      exact ⟨⟨_, rfl, .inr ⟨hge, by omega⟩⟩, Hb.out⟩
set_option maxRecDepth 100000 in
theorem l_szExpr : ∀ d, SzE d
  | 0 => fun _ _ _ _ _ h _ _ => h.elim
  | d + 1 => fun e cs F w L h h0 h1 => by
    obtain ⟨A, cap, rfl, hok, hl, hm, hs⟩ := ex_form h
    have HF := hide (hs.lt (ExR.good d))
    obtain ⟨⟨k, n, p, t, s, m⟩, l⟩ := e
    unfold maxLen at hm
    simp only [Ex.args] at hs hl hm HF
    have hss := hok.symbol
    have hsm := hok.name
    simp only [Ex.h] at hss hsm
    unfold maxLen at hss hsm
    generalize hbx : Obj.cells #[.int .i64 k, .int .i64 n, .int .i64 p, .int .i64 t, .string s, .string m, .slice A l.length cap] 88 = bx
    have HC := hide (CellsAt.new w [.int .i64 k, .int .i64 n, .int .i64 p, .int .i64 t, .string s, .string m, .slice A l.length cap] 88)
    rw [hbx] at HC
    obtain ⟨_, _, _, _, _, _, c6⟩ := HC.out.seven0
    have Hs := hide hs
    have hnn := sumBy_nonneg (bulkE_nonneg d) l
    have Hbk : Hid (bulkE (d + 1) (.mk ⟨k, n, p, t, s, m⟩ l) = s.size + m.size + (l.length + sumBy (bulkE d) l)) := hide rfl
    generalize bulkE (d + 1) (.mk ⟨k, n, p, t, s, m⟩ l) = bk at Hbk
    have HS : Hid (∀ (L : Int), 0 ≤ L → L ≤ 1048576 → Calls Tryz.prog 110 #[.slice A l.length cap, .int .i64 L] (w.alloc bx) fun en w' => Sized (l.length + sumBy (bulkE d) l) L en ∧ Below (w.heap.size + 1) (w.alloc bx) w') := hide fun L h0 h1 => by
      have := l_szExprS (l_szExpr d) l A cap F (w.alloc bx) L (Hs.out.below (ExR.good d) ((Below.refl w.heap.size w).alloc (Nat.le_refl _) bx) HF.out) h0 h1
      rw [World.size_alloc] at this
      exact this
    show Calls _ _ #[.agg #[.int .i64 k, .int .i64 n, .int .i64 p, .int .i64 t, .string s, .string m, .slice A l.length cap], .int .i64 L] w _
    obtain ⟨c0, c1, c2, c3, c4, c5, c6'⟩ := HC.out.seven0
    clear hs hok h c6'
    by_cases hq1 : L < s.size
    · go_enter Tryz.func74, Tryz.ntmps74
      go_wp2_with fail
      go_ret
      exact ⟨⟨-1, rfl, .inl rfl⟩, by rw [← hbx]; exact (Below.refl _ _).alloc (Nat.le_refl _) _⟩
    by_cases hq2 : L - s.size < m.size
    · go_enter Tryz.func74, Tryz.ntmps74
      go_wp2_with fail
      go_ret
      exact ⟨⟨-1, rfl, .inl rfl⟩, by rw [← hbx]; exact (Below.refl _ _).alloc (Nat.le_refl _) _⟩
    go_enter Tryz.func74, Tryz.ntmps74
    go_wp2_with fail
    refine Calls.mono (HS.out (L - s.size - m.size) (by omega) (by omega)) ?_
    rintro en w2 ⟨⟨r, rfl, hr⟩, hb2⟩
    have HB2 := hide hb2
    clear hb2
    rcases hr with rfl | ⟨hr0, hr1⟩
    · go_wp2_with fail
      go_ret
      exact ⟨⟨-1, rfl, .inl rfl⟩, box_below HB2.out⟩
    · have Hr1 := hide hr1
      clear hr1
      go_wp2_with fail
      go_ret
      exact ⟨⟨_, rfl, .inr ⟨hr0, by rw [Hr1.out, Hbk.out]; omega⟩⟩, box_below HB2.out⟩

/-! ### Comparing -/
def eqHead (a b : ExH) : Bool := (a.kind == b.kind) && ((a.n == b.n) && ((a.pos == b.pos) && ((a.type == b.type) && ((a.symbol.toList == b.symbol.toList) && (a.name.toList == b.name.toList)))))
def eqL {α : Type} (f : α → α → Bool) : List α → List α → Bool
  | [], [] => true
  | x :: r, y :: r' => f x y && eqL f r r'
  | _, _ => false
theorem eqL_len {α : Type} {f : α → α → Bool} : ∀ {xs ys : List α}, xs.length ≠ ys.length → eqL f xs ys = false
  | [], [], h => absurd rfl h
  | [], _ :: _, _ => rfl
  | _ :: _, [], _ => rfl
  | _ :: _, _ :: _, h => by simp only [eqL]; rw [eqL_len (fun e => h (by simp [e]))]; simp
theorem eqL_bad {α : Type} {f : α → α → Bool} : ∀ {xs ys : List α} {k : Nat} {x y : α}, xs[k]? = some x → ys[k]? = some y → f x y = false → eqL f xs ys = false
  | [], _, _, _, _, h, _, _ => by cases h
  | _ :: _, [], _, _, _, _, h, _ => by cases h
  | a :: r, b :: r', 0, x, y, hx, hy, h => by
    simp at hx hy
    subst hx hy
    simp [eqL, h]
  | a :: r, b :: r', k + 1, x, y, hx, hy, h => by
    simp only [eqL]
    rw [eqL_bad (xs := r) (ys := r') (k := k) (by simpa using hx) (by simpa using hy) h]
    simp
theorem eqL_all {α : Type} {f : α → α → Bool} : ∀ {xs ys : List α}, xs.length = ys.length → (∀ (k : Nat) (x y : α), xs[k]? = some x → ys[k]? = some y → f x y = true) → eqL f xs ys = true
  | [], [], _, _ => rfl
  | [], _ :: _, h, _ => by cases h
  | _ :: _, [], h, _ => by cases h
  | a :: r, b :: r', h, hk => by
    simp only [eqL]
    rw [hk 0 a b rfl rfl, eqL_all (by simpa using h) (fun k x y hx hy => hk (k + 1) x y (by simpa using hx) (by simpa using hy))]
    rfl
def eqE : Nat → Ex → Ex → Bool
  | 0, _, _ => true
  | d + 1, a, b => eqHead a.h b.h && eqL (eqE d) a.args b.args
theorem eqE_refl : ∀ d e, eqE d e e = true
  | 0, _ => rfl
  | d + 1, e => by
    simp only [eqE]
    rw [eqL_all rfl (fun k x y hx hy => by rw [hx] at hy; injection hy with hy; rw [hy]; exact eqE_refl d y)]
    simp [eqHead]

def EqE (d : Nat) : Prop := ∀ (a b : Ex) (ca cb : List Value) (Fa Fb : List Nat) (w : World), ExR d w a ca Fa → ExR d w b cb Fb →
  Calls Tryz.prog 98 #[.agg ca.toArray, .agg cb.toArray] w fun en w' => en = .returned (.bool (eqE d a b)) ∧ Below w.heap.size w w'
theorem l_eqExprS {d : Nat} (hE : EqE d) (l l' : List Ex) (A A' : Option Addr) (cap cap' : Nat) (F F' : List Nat) (w : World) (hs : SlR 7 (ExR d) w l (.slice A l.length cap) F) (hs' : SlR 7 (ExR d) w l' (.slice A' l'.length cap') F') :
    Calls Tryz.prog 126 #[.slice A l.length cap, .slice A' l'.length cap'] w fun en w' => en = .returned (.bool (eqL (eqE d) l l')) ∧ Below w.heap.size w w' := by
  have HF := hide (hs.lt (ExR.good d))
  have HF' := hide (hs'.lt (ExR.good d))
  obtain ⟨_, hlc, hm⟩ := hs.bnd
  obtain ⟨_, hlc', hm'⟩ := hs'.bnd
  unfold maxLen at hm hm'
  have Hs := hide hs
  have Hs' := hide hs'
  have HE := hide hE
  clear hs hs' hE
  by_cases hll : l.length = l'.length
  · have Hll := hide hll
    generalize hq : l'.length = q at *
    have Hq := hide hq
    clear hq
    subst hll
    go_enter Tryz.func126, Tryz.ntmps126
    go_wp2_with fail
    go_loopw [5] (fun i wr => ∃ j : Nat, j ≤ l.length ∧ i = .int .i64 j ∧ Hid (∀ k x y, k < j → l[k]? = some x → l'[k]? = some y → eqE d x y = true) ∧ Hid (Below w.heap.size w wr)) (fun i _ => l.length - (intOf i).toNat)
    case atStart => exact ⟨0, by omega, rfl, hide (fun k x y h => absurd h (by omega)), hide (Below.refl _ _)⟩
    case round =>
      obtain ⟨j, hj, rfl, Hall, Hb⟩ := hrel
      by_cases hlt : j < l.length
      · have hx : l[j]? = some l[j] := List.getElem?_eq_getElem hlt
        have hlt' : j < l'.length := by rw [Hq.out]; exact hlt
        have hy : l'[j]? = some l'[j] := List.getElem?_eq_getElem hlt'
        generalize l[j] = x at hx
        generalize l'[j] = y at hy
        clear hlt'
        have Hx := hide hx
        have Hy := hide hy
        obtain ⟨b, off, A1, cap1, Fk, hA, hbF, hFk, _, hl1, hm1, hcat, hR⟩ := ex_get (Hs.out.below (ExR.good d) Hb.out HF.out) hx
        subst hA
        obtain ⟨b', off', A2, cap2, Fk', hA, hbF', hFk', _, hl2, hm2, hcat', hR'⟩ := ex_get (Hs'.out.below (ExR.good d) Hb.out HF'.out) hy
        subst hA
        obtain ⟨e0, e1, e2, e3, e4, e5, e6⟩ := hcat.seven
        obtain ⟨g0, g1, g2, g3, g4, g5, g6⟩ := hcat'.seven
        have hblt := Nat.lt_of_lt_of_le (HF.out b hbF) Hb.out.size
        have hblt' := Nat.lt_of_lt_of_le (HF'.out b' hbF') Hb.out.size
        have HR := hide hR
        have HR' := hide hR'
        clear hx hy hR hR' hcat hcat' hFk hFk' hbF hbF' hl1 hm1 hl2 hm2
        cases hxy : eqE d x y
        · have Hbad := hide (eqL_bad (f := eqE d) Hx.out Hy.out hxy)
          go_wp2_with fail
          go_region_held3 (fun w' => w'.cell? ⟨b, off + j * 7, none⟩ = some (.int .i64 x.h.kind) ∧ w'.cell? ⟨b, off + j * 7 + 1, none⟩ = some (.int .i64 x.h.n) ∧ w'.cell? ⟨b, off + j * 7 + 2, none⟩ = some (.int .i64 x.h.pos) ∧ w'.cell? ⟨b, off + j * 7 + 3, none⟩ = some (.int .i64 x.h.type) ∧ w'.cell? ⟨b, off + j * 7 + 4, none⟩ = some (.string x.h.symbol) ∧ w'.cell? ⟨b, off + j * 7 + 5, none⟩ = some (.string x.h.name) ∧ w'.cell? ⟨b, off + j * 7 + 6, none⟩ = some (.slice A1 x.args.length cap1) ∧ w'.cell? ⟨b', off' + j * 7, none⟩ = some (.int .i64 y.h.kind) ∧ w'.cell? ⟨b', off' + j * 7 + 1, none⟩ = some (.int .i64 y.h.n) ∧ w'.cell? ⟨b', off' + j * 7 + 2, none⟩ = some (.int .i64 y.h.pos) ∧ w'.cell? ⟨b', off' + j * 7 + 3, none⟩ = some (.int .i64 y.h.type) ∧ w'.cell? ⟨b', off' + j * 7 + 4, none⟩ = some (.string y.h.symbol) ∧ w'.cell? ⟨b', off' + j * 7 + 5, none⟩ = some (.string y.h.name) ∧ w'.cell? ⟨b', off' + j * 7 + 6, none⟩ = some (.slice A2 y.args.length cap2))
            (first | go_keep | ((repeat' apply And.intro) <;> first | exact (hb2.cell (p := ⟨b, _, none⟩) hblt).trans (by assumption) | exact (hb2.cell (p := ⟨b', _, none⟩) hblt').trans (by assumption)))
            ((go_at_call 98; refine Calls.mono (HE.out x y _ _ Fk Fk' _ ((ExR.good d).heap HR.out rfl) ((ExR.good d).heap HR'.out rfl)) ?_; rintro en w2 ⟨rfl, hb2⟩))
          go_wp2_with fail
          go_ret
          exact ⟨ret_bool Hbad.out.symm, Hb.out.drew.trans (hb2.mono Hb.out.size)⟩
        · have Hxy := hide hxy
          go_wp2_with fail
          go_region_held3 (fun w' => w'.cell? ⟨b, off + j * 7, none⟩ = some (.int .i64 x.h.kind) ∧ w'.cell? ⟨b, off + j * 7 + 1, none⟩ = some (.int .i64 x.h.n) ∧ w'.cell? ⟨b, off + j * 7 + 2, none⟩ = some (.int .i64 x.h.pos) ∧ w'.cell? ⟨b, off + j * 7 + 3, none⟩ = some (.int .i64 x.h.type) ∧ w'.cell? ⟨b, off + j * 7 + 4, none⟩ = some (.string x.h.symbol) ∧ w'.cell? ⟨b, off + j * 7 + 5, none⟩ = some (.string x.h.name) ∧ w'.cell? ⟨b, off + j * 7 + 6, none⟩ = some (.slice A1 x.args.length cap1) ∧ w'.cell? ⟨b', off' + j * 7, none⟩ = some (.int .i64 y.h.kind) ∧ w'.cell? ⟨b', off' + j * 7 + 1, none⟩ = some (.int .i64 y.h.n) ∧ w'.cell? ⟨b', off' + j * 7 + 2, none⟩ = some (.int .i64 y.h.pos) ∧ w'.cell? ⟨b', off' + j * 7 + 3, none⟩ = some (.int .i64 y.h.type) ∧ w'.cell? ⟨b', off' + j * 7 + 4, none⟩ = some (.string y.h.symbol) ∧ w'.cell? ⟨b', off' + j * 7 + 5, none⟩ = some (.string y.h.name) ∧ w'.cell? ⟨b', off' + j * 7 + 6, none⟩ = some (.slice A2 y.args.length cap2))
            (first | go_keep | ((repeat' apply And.intro) <;> first | exact (hb2.cell (p := ⟨b, _, none⟩) hblt).trans (by assumption) | exact (hb2.cell (p := ⟨b', _, none⟩) hblt').trans (by assumption)))
            ((go_at_call 98; refine Calls.mono (HE.out x y _ _ Fk Fk' _ ((ExR.good d).heap HR.out rfl) ((ExR.good d).heap HR'.out rfl)) ?_; rintro en w2 ⟨rfl, hb2⟩))
          have HB2 : Hid (Below w.heap.size w w2) := hide (Hb.out.drew.trans (hb2.mono Hb.out.size))
          clear hb2
          go_wp2_with fail
          go_roundw
          case rel =>
            refine ⟨j + 1, by omega, by go_num, hide (fun k x' y' hk hx' hy' => ?_), HB2⟩
            by_cases hkj : k < j
            · exact Hall.out k x' y' hkj hx' hy'
            · have hkj' : k = j := by omega
              subst hkj'
              rw [Hx.out] at hx'
              rw [Hy.out] at hy'
              injection hx' with hx'
              injection hy' with hy'
              rw [← hx', ← hy']
              exact Hxy.out
          case measure => simp [intOf]; omega
      · have Hyes : Hid (eqL (eqE d) l l' = true) := hide (eqL_all Hq.out.symm (fun k x y hx hy => Hall.out k x y (by have := (List.getElem?_eq_some_iff.1 hx).1; omega) hx hy))
        go_wp2_with fail
        go_ret
        exact ⟨ret_bool Hyes.out.symm, Hb.out⟩
  · have hne : ((l.length : Int) != (l'.length : Int)) = true := by rw [bne_iff_ne]; omega
    have Hno := hide (eqL_len (f := eqE d) hll)
    clear hll
    go_enter Tryz.func126, Tryz.ntmps126
    go_wp2_with fail
    go_ret
    exact ⟨ret_bool Hno.out.symm, Below.refl _ _⟩

theorem eqE_head {d : Nat} {a b : Ex} (h : eqHead a.h b.h = false) : eqE (d + 1) a b = false := by simp only [eqE]; rw [h]; rfl
theorem eqE_args {d : Nat} {a b : Ex} (h : eqHead a.h b.h = true) : eqE (d + 1) a b = eqL (eqE d) a.args b.args := by simp only [eqE]; rw [h]; rfl
set_option maxRecDepth 100000 in
set_option maxHeartbeats 1000000 in
theorem l_eqExpr : ∀ d, EqE d
  | 0 => fun _ _ _ _ _ _ _ h _ => h.elim
  | d + 1 => fun a b ca cb Fa Fb w h h' => by
    obtain ⟨A, cap, rfl, _, hl, hm, hs⟩ := ex_form h
    obtain ⟨A', cap', rfl, _, hl', hm', hs'⟩ := ex_form h'
    have HF := hide (hs.lt (ExR.good d))
    have HF' := hide (hs'.lt (ExR.good d))
    generalize hqa : eqE (d + 1) a b = q
    have Hq := hide hqa
    clear hqa h h'
    obtain ⟨⟨k, n, p, t, s, m⟩, l⟩ := a
    obtain ⟨⟨k', n', p', t', s', m'⟩, l'⟩ := b
    simp only [Ex.args] at hs hs' hl hl' HF HF'
    show Calls _ _ #[.agg #[.int .i64 k, .int .i64 n, .int .i64 p, .int .i64 t, .string s, .string m, .slice A l.length cap], .agg #[.int .i64 k', .int .i64 n', .int .i64 p', .int .i64 t', .string s', .string m', .slice A' l'.length cap']] w _
    have Hq0 : Hid (eqHead ⟨k, n, p, t, s, m⟩ ⟨k', n', p', t', s', m'⟩ = false → q = false) := hide (fun hh => by rw [← Hq.out]; exact eqE_head hh)
    have Hq1 : Hid (eqHead ⟨k, n, p, t, s, m⟩ ⟨k', n', p', t', s', m'⟩ = true → q = eqL (eqE d) l l') := hide (fun hh => by rw [← Hq.out]; exact eqE_args hh)
    clear Hq
    have HS : Hid (∀ W : World, Below w.heap.size w W → Calls Tryz.prog 126 #[.slice A l.length cap, .slice A' l'.length cap'] W fun en w' => en = .returned (.bool (eqL (eqE d) l l')) ∧ Below W.heap.size W w') := hide fun W hW =>
      l_eqExprS (l_eqExpr d) l l' A A' cap cap' Fa Fb W (hs.below (ExR.good d) hW HF.out) (hs'.below (ExR.good d) hW HF'.out)
    clear hs hs' HF HF' hm hm'
    by_cases h1 : k = k'
    · by_cases h2 : n = n'
      · by_cases h3 : p = p'
        · by_cases h4 : t = t'
          · by_cases h5 : s = s'
            · by_cases h6 : m = m'
              · subst h1 h2 h3 h4 h5 h6
                have hqq := Hq1.out (by simp [eqHead])
                rw [hqq]
                cases hr : eqL (eqE d) l l'
                all_goals
                  rw [hr] at HS
                  go_enter Tryz.func98, Tryz.ntmps98
                  go_wp2_with fail
                  refine Calls.mono (HS.out _ (((Below.refl _ _).alloc (Nat.le_refl _) _).alloc (by simp) _)) ?_
                  rintro en w2 ⟨rfl, hb2⟩
                  have hB2 : Below w.heap.size w w2 := (((Below.refl _ _).alloc (Nat.le_refl _) _).alloc (by simp) _).trans (hb2.mono (by simp; omega))
                  go_wp2_with fail
                  go_ret
                  exact ⟨rfl, hB2⟩
              · have e1 : (m.toList != m'.toList) = true := by rw [bne_iff_ne]; intro e; exact h6 (by simpa [bytes_beq] using beq_iff_eq.2 e)
                have e2 : (m.toList == m'.toList) = false := by rw [bytes_beq]; simpa using h6
                subst h1 h2 h3 h4 h5
                have hqq := Hq0.out (by simp [eqHead, e2])
                rw [hqq]
                go_enter Tryz.func98, Tryz.ntmps98
                go_wp2_with fail
                go_ret
                exact ⟨rfl, ((Below.refl _ _).alloc (Nat.le_refl _) _).alloc (by simp) _⟩
            · have e1 : (s.toList != s'.toList) = true := by rw [bne_iff_ne]; intro e; exact h5 (by simpa [bytes_beq] using beq_iff_eq.2 e)
              have e2 : (s.toList == s'.toList) = false := by rw [bytes_beq]; simpa using h5
              subst h1 h2 h3 h4
              have hqq := Hq0.out (by simp [eqHead, e2])
              rw [hqq]
              go_enter Tryz.func98, Tryz.ntmps98
              go_wp2_with fail
              go_ret
              exact ⟨rfl, ((Below.refl _ _).alloc (Nat.le_refl _) _).alloc (by simp) _⟩
          · have e1 : (t != t') = true := by rw [bne_iff_ne]; exact h4
            have e2 : (t == t') = false := by rw [beq_eq_false_iff_ne]; exact h4
            subst h1 h2 h3
            have hqq := Hq0.out (by simp [eqHead, e2])
            rw [hqq]
            go_enter Tryz.func98, Tryz.ntmps98
            go_wp2_with fail
            go_ret
            exact ⟨rfl, ((Below.refl _ _).alloc (Nat.le_refl _) _).alloc (by simp) _⟩
        · have e1 : (p != p') = true := by rw [bne_iff_ne]; exact h3
          have e2 : (p == p') = false := by rw [beq_eq_false_iff_ne]; exact h3
          subst h1 h2
          have hqq := Hq0.out (by simp [eqHead, e2])
          rw [hqq]
          go_enter Tryz.func98, Tryz.ntmps98
          go_wp2_with fail
          go_ret
          exact ⟨rfl, ((Below.refl _ _).alloc (Nat.le_refl _) _).alloc (by simp) _⟩
      · have e1 : (n != n') = true := by rw [bne_iff_ne]; exact h2
        have e2 : (n == n') = false := by rw [beq_eq_false_iff_ne]; exact h2
        subst h1
        have hqq := Hq0.out (by simp [eqHead, e2])
        rw [hqq]
        go_enter Tryz.func98, Tryz.ntmps98
        go_wp2_with fail
        go_ret
        exact ⟨rfl, ((Below.refl _ _).alloc (Nat.le_refl _) _).alloc (by simp) _⟩
    · have e1 : (k != k') = true := by rw [bne_iff_ne]; exact h1
      have e2 : (k == k') = false := by rw [beq_eq_false_iff_ne]; exact h1
      have hqq := Hq0.out (by simp [eqHead, e2])
      rw [hqq]
      go_enter Tryz.func98, Tryz.ntmps98
      go_wp2_with fail
      go_ret
      exact ⟨rfl, ((Below.refl _ _).alloc (Nat.le_refl _) _).alloc (by simp) _⟩
end Go.Proofs.YtjddmboaaebbiaaGreatDoor

/- Expressions: copies into new memory. Conditions: no argument list is longer than 2^20. -/
namespace Go.Proofs.YtjddmboaaebbiaaGreatDoor
set_option linter.unusedSimpArgs false
set_option linter.unusedVariables false
set_option maxRecDepth 100000
open Go.RowKit Go.WideShapes

/-- Argument lists that are not too long. -/
def slim : Nat → Ex → Prop
  | 0, _ => True
  | d + 1, e => e.args.length ≤ 1048576 ∧ ∀ x ∈ e.args, slim d x
def ToE (d : Nat) : Prop := ∀ (e : Ex) (cs : List Value) (F : List Nat) (w : World), ExR d w e cs F → slim d e →
  Calls Tryz.prog 85 #[.agg cs.toArray] w fun en w' => ∃ A cap F', en = .returned (.agg #[.int .i64 e.h.kind, .int .i64 e.h.n, .int .i64 e.h.pos, .int .i64 e.h.type, .string e.h.symbol, .string e.h.name, .slice A e.args.length cap]) ∧ ExR d w' e (e.h.cells (.slice A e.args.length cap)) F' ∧ Fresh w.heap.size w' F' ∧ Below w.heap.size w w'
theorem l_toExprS {d : Nat} (hE : ToE d) (l : List Ex) (A : Option Addr) (cap : Nat) (F : List Nat) (w : World) (hs : SlR 7 (ExR d) w l (.slice A l.length cap) F) (hl : l.length ≤ 1048576) (hsl : ∀ x ∈ l, slim d x) :
    Calls Tryz.prog 117 #[.slice A l.length cap] w fun en w' => ∃ A' cap' F', en = .returned (.slice A' l.length cap') ∧ SlR 7 (ExR d) w' l (.slice A' l.length cap') F' ∧ Fresh w.heap.size w' F' ∧ Below w.heap.size w w' := by
  have HF := hide (hs.lt (ExR.good d))
  have Hs := hide hs
  have HE := hide hE
  have Hsl := hide hsl
  clear hs hE hsl
  have hmk := fun W => run_make_rowN' (P := Tryz.prog) 57 59 (.agg #[.int .i64 0, .int .i64 0, .int .i64 0, .int .i64 0, .string ByteArray.empty, .string ByteArray.empty, .slice none 0 0]) 7 88 Tryz.underlying57 (by kernel_rfl) .i64 .i64 l.length (by omega) (by omega) W
  go_enter Tryz.func117, Tryz.ntmps117
  go_wp2_with fail
  go_loopw [4] (fun i wr => ∃ (j : Nat) (F' : List Nat), j ≤ l.length ∧ i = .int .i64 j ∧ Hid (ElR 7 (ExR d) wr w.heap.size 0 (l.take j) F') ∧ Hid (Fresh (w.heap.size + 1) wr F') ∧ Hid (∃ cs, wr.heap[w.heap.size]? = some (.cells cs 59 (0, 0)) ∧ cs.size = l.length * 7) ∧ Hid (Below w.heap.size w wr)) (fun i _ => l.length - (intOf i).toNat)
  case atStart => exact ⟨0, [], by omega, rfl, hide rfl, hide (Fresh.nil _ _), hide ⟨_, heap_alloc_new w _, by simp [madeCells]⟩, hide ((Below.refl _ _).alloc (Nat.le_refl _) _)⟩
  case round =>
    obtain ⟨j, F', hj, rfl, Hel, Hfr, Hbk, Hb⟩ := hrel
    by_cases hlt : j < l.length
    · have hx : l[j]? = some l[j] := List.getElem?_eq_getElem hlt
      generalize l[j] = x at hx
      have Hx := hide hx
      obtain ⟨b, off, A', cap', Fk, hA, hbF, hFk, _, hl', hm', hcat, hR⟩ := ex_get (Hs.out.below (ExR.good d) Hb.out HF.out) hx
      subst hA
      obtain ⟨e0, e1, e2, e3, e4, e5, e6⟩ := hcat.seven
      have hblt := Nat.lt_of_lt_of_le (HF.out b hbF) Hb.out.size
      have HR := hide hR
      have hbz := Hb.out.size
      clear hx hR hcat hFk hbF hl' hm'
      go_wp2_with fail
      refine Calls.mono (HE.out x _ Fk _ HR.out (Hsl.out x (List.mem_of_getElem? Hx.out))) ?_
      rintro en w2 ⟨A2, cap2, F2, rfl, hR2, hf2, hb2⟩
      obtain ⟨cs, hcs, hcz⟩ := Hbk.out
      have hcs2 : w2.heap[w.heap.size]? = some (.cells cs 59 (0, 0)) := blk_below hcs hb2 (blk_lt hcs)
      obtain ⟨v0, v1, v2, v3, v4, v5, v6, ⟨q0, q1, q2, q3, q4, q5, q6⟩, g0, g1, g2, g3, g4, g5, g6⟩ := cells7_of (o := j * 7) hcs2 (by omega)
      have HB2 := hide hb2
      have HR2 := hide hR2
      have Hf2 := hide hf2
      have Hcs0 := hide hcs
      clear hb2 hR2 hf2 hcs hcs2
      go_wp2_with fail
      have hst := copy_step (w := w) (ExR.good d) Hx.out Hel.out Hfr.out Hcs0.out hcz Hb.out HB2.out HR2.out Hf2.out rfl
      exact ⟨⟨j + 1, F' ++ F2, by omega, by go_num, hide hst.1, hide hst.2.1, hide hst.2.2.1, hide hst.2.2.2⟩, by simp [intOf]; omega⟩
    · have hjl : j = l.length := by omega
      subst hjl
      have Hel' : Hid (ElR 7 (ExR d) wr w.heap.size 0 l F') := by have := Hel.out; rw [List.take_length] at this; exact hide this
      go_wp2_with fail
      go_ret
      obtain ⟨cs, hcs, _⟩ := Hbk.out
      obtain ⟨G, hG, hGf⟩ := copy_done (w := w) (by unfold maxLen; omega) Hel'.out Hfr.out hcs
      exact ⟨_, _, G, rfl, hG, hGf, Hb.out⟩

set_option maxRecDepth 100000 in
theorem l_toExpr : ∀ d, ToE d
  | 0 => fun _ _ _ _ h _ => h.elim
  | d + 1 => fun e cs F w h hslim => by
    obtain ⟨A, cap, rfl, hok, hl, hm, hs⟩ := ex_form h
    have HF := hide (hs.lt (ExR.good d))
    obtain ⟨⟨k, n, p, t, s, m⟩, l⟩ := e
    simp only [Ex.args] at hs hl HF
    have hsl1 : l.length ≤ 1048576 := hslim.1
    have Hsl2 : Hid (∀ x ∈ l, slim d x) := hide hslim.2
    have HC := hide (CellsAt.new w [.int .i64 k, .int .i64 n, .int .i64 p, .int .i64 t, .string s, .string m, .slice A l.length cap] 88)
    have HS : Hid (∀ W : World, Below w.heap.size w W → Calls Tryz.prog 117 #[.slice A l.length cap] W fun en w' => ∃ A' cap' F', en = .returned (.slice A' l.length cap') ∧ SlR 7 (ExR d) w' l (.slice A' l.length cap') F' ∧ Fresh W.heap.size w' F' ∧ Below W.heap.size W w') := hide fun W hW =>
      l_toExprS (l_toExpr d) l A cap F W (hs.below (ExR.good d) hW HF.out) hsl1 Hsl2.out
    have Hok := hide hok
    show Calls _ _ #[.agg #[.int .i64 k, .int .i64 n, .int .i64 p, .int .i64 t, .string s, .string m, .slice A l.length cap]] w _
    clear hs h hok hslim
    go_enter Tryz.func85, Tryz.ntmps85
    go_wp2_with fail
    have hW : Below w.heap.size w (((w.alloc (.cells #[.int .i64 k, .int .i64 n, .int .i64 p, .int .i64 t, .string s, .string m, .slice A l.length cap] 88)).alloc (.cells #[.int .i64 0, .int .i64 0, .int .i64 0, .int .i64 0, .string ⟨#[]⟩, .string ⟨#[]⟩, .slice none 0 0] 59)).alloc (.cells #[.int .i64 k, .int .i64 n, .int .i64 p, .int .i64 t, .string s, .string m, .slice none 0 0] 59)) := (((Below.refl _ _).alloc (Nat.le_refl _) _).alloc (by simp) _).alloc (by simp; omega) _
    refine Calls.mono (HS.out _ hW) ?_
    rintro en w2 ⟨A2, cap2, F2, rfl, hs2, hf2, hb2⟩
    have hz2 := hb2.size
    simp only [World.size_alloc] at hb2 hf2 hz2
    have hB1 : w2.heap[w.heap.size + 1]? = some (.cells #[.int .i64 0, .int .i64 0, .int .i64 0, .int .i64 0, .string ⟨#[]⟩, .string ⟨#[]⟩, .slice none 0 0] 59 (0, 0)) := (hb2.block _ (by omega)).trans ((Below.heap_alloc _ _ (w.heap.size + 1) (by simp)).trans (by have := heap_alloc_new (w.alloc (.cells #[.int .i64 k, .int .i64 n, .int .i64 p, .int .i64 t, .string s, .string m, .slice A l.length cap] 88)) (.cells #[.int .i64 0, .int .i64 0, .int .i64 0, .int .i64 0, .string ⟨#[]⟩, .string ⟨#[]⟩, .slice none 0 0] 59); simpa using this))
    have hB2 : w2.heap[w.heap.size + 1 + 1]? = some (.cells #[.int .i64 k, .int .i64 n, .int .i64 p, .int .i64 t, .string s, .string m, .slice none 0 0] 59 (0, 0)) := (hb2.block _ (by omega)).trans (by have := heap_alloc_new ((w.alloc (.cells #[.int .i64 k, .int .i64 n, .int .i64 p, .int .i64 t, .string s, .string m, .slice A l.length cap] 88)).alloc (.cells #[.int .i64 0, .int .i64 0, .int .i64 0, .int .i64 0, .string ⟨#[]⟩, .string ⟨#[]⟩, .slice none 0 0] 59)) (.cells #[.int .i64 k, .int .i64 n, .int .i64 p, .int .i64 t, .string s, .string m, .slice none 0 0] 59); simpa using this)
    obtain ⟨_, _, _, _, _, _, _, ⟨q0, q1, q2, q3, q4, q5, q6⟩, g0, g1, g2, g3, g4, g5, g6⟩ := cells7_of (o := 0) hB1 (by simp)
    obtain ⟨r0, r1, r2, r3, r4, r5, r6⟩ := (show CellsAt w2 (w.heap.size + 1 + 1) 0 [.int .i64 k, .int .i64 n, .int .i64 p, .int .i64 t, .string s, .string m, .slice none 0 0] from fun j u hu => by rw [cell_of_row _ _ _ _ _ _ hB2]; simpa using hu).seven0
    have gg := frozen_of_row w2 (w.heap.size + 1 + 1) 6 _ _ hB2
    simp only [Nat.zero_add] at q0 q1 q2 q3 q4 q5 q6 g0 g1 g2 g3 g4 g5 g6
    have Hput := hide (put_spec [.int .i64 k, .int .i64 n, .int .i64 p, .int .i64 t, .string s, .string m, .slice A2 l.length cap2] 0 (w2.setCell ⟨w.heap.size + 1 + 1, 6, none⟩ (.slice A2 l.length cap2)) _ ((heap_setCell_other _ _ _ _ (by simp)).trans hB1) (by simp))
    have Hs2 := hide hs2
    have Hf2 := hide hf2
    have Hb2 := hide hb2
    have HW := hide hW
    clear hs2 hf2 hb2 hW hB1 hB2
    go_wp2_with fail
    have hP := Hput.out
    change bodyPost _ _ _ _ _ (putCells (w2.setCell ⟨w.heap.size + 1 + 1, 6, none⟩ (.slice A2 l.length cap2)) (w.heap.size + 1) 0 [.int .i64 k, .int .i64 n, .int .i64 p, .int .i64 t, .string s, .string m, .slice A2 l.length cap2])
    generalize putCells (w2.setCell ⟨w.heap.size + 1 + 1, 6, none⟩ (.slice A2 l.length cap2)) (w.heap.size + 1) 0 [.int .i64 k, .int .i64 n, .int .i64 p, .int .i64 t, .string s, .string m, .slice A2 l.length cap2] = WF at hP
    obtain ⟨x0, x1, x2, x3, x4, x5, x6⟩ := hP.cellsAt.seven0
    have hfar : ∀ b ∈ F2, WF.heap[b]? = w2.heap[b]? := fun b hb => by
      have := Hf2.out.from_ b hb
      exact (hP.far b (by omega)).trans (heap_setCell_other _ _ _ _ (by simp; omega))
    have hB : Below w.heap.size w w2 := HW.out.trans (Hb2.out.mono (by omega))
    have hB3 : Below w.heap.size w WF := (hB.setCell (p := ⟨w.heap.size + 1 + 1, 6, none⟩) (by simp; omega) _).trans (hP.below (by omega))
    exact bodyPost_ret (v := .agg #[.int .i64 k, .int .i64 n, .int .i64 p, .int .i64 t, .string s, .string m, .slice A2 l.length cap2]) (by simp [results, Tryz.results85, go_sem, x0, x1, x2, x3, x4, x5, x6]) rfl ⟨A2, cap2, F2, rfl, ⟨_, rfl, Hok.out, Hs2.out.frame (ExR.good d) hfar (by rw [hP.size]; simp [World.setCell])⟩, (Hf2.out.keep hfar).mono (by omega), hB3⟩

theorem slim_of_bulk : ∀ {d : Nat} {e : Ex}, bulkE d e ≤ 1048576 → slim d e
  | 0, _, _ => trivial
  | d + 1, e, h => by
    have hs := sumBy_nonneg (bulkE_nonneg d) e.args
    simp only [bulkE] at h
    refine ⟨by omega, fun x hx => slim_of_bulk ?_⟩
    have := sumBy_mem (bulkE_nonneg d) hx
    omega

theorem below_drew_of {α : Type} {n : Nat} {R : CR α} (hR : Good n R) {w w1 w' : World} {x : α} {cs : List Value} {F : List Nat} {B : Nat} (h : R w x cs F) (hb : Below B w1 w') (hF : ∀ k ∈ F, k < B) (he : w1.heap = w.heap) : R w' x cs F :=
  hR.below (hR.heap h he) hb hF
end Go.Proofs.YtjddmboaaebbiaaGreatDoor
