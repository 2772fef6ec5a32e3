/- Values: what the functions on numbers, types and operators return, in the program and in the reference. Conditions: an argument is an int64. -/
import Derived.Test.YtaihdnlpdibkoaaRows
import Derived.Test.YtaihdnlpdibkoaaKit
import Derived.Laws.Bits64
import Derived.Laws.BitsAllLaws
namespace Go.Proofs.Ytaihdnlpdibkoaa
set_option maxRecDepth 100000
open Go.RowKit

def ot (op : Int) : Int × Int × Int :=
  if 1 ≤ op ∧ op ≤ 5 then (1, 1, 1) else if 6 ≤ op ∧ op ≤ 8 then (2, 2, 2) else if op = 9 ∨ op = 10 then (1, 1, 3) else if op = 11 then (2, 1, 3) else if op = 12 then (2, 1, 2) else (0, 0, 0)
def sat (n : Int) : Int := if 1000000 < n then 1000000 else if n < -1000000 then -1000000 else n
def co (v k : Int) : Int := if k = 1 then sat v else if k = 2 then bits .and .i64 v 4095 else if k = 3 then (if v = 0 then 0 else 1) else if k = 4 ∧ 0 ≤ v ∧ v ≤ 999 then v else 0
def ofT (v k : Int) : Bool := decide (1 ≤ k ∧ k ≤ 4 ∧ co v k = v)

theorem s_Saturate (n : Int) (w : World) : Calls Try.prog 164 #[.int .i64 n] w fun e w' => e = .returned (.int .i64 (sat n)) ∧ w = w' := by
  go_enter Try.func164, Try.ntmps164
  go_wp2
  all_goals go_ret
  all_goals refine ⟨ret_int ?_, rfl⟩
  all_goals (unfold sat; (repeat' split) <;> first | rfl | omega)
theorem i_Saturate (n : Int) (w : World) : Calls Try.prog 155 #[.int .i64 n] w fun e w' => e = .returned (.int .i64 (sat n)) ∧ w = w' := by
  go_enter Try.func155, Try.ntmps155
  go_wp2
  all_goals go_ret
  all_goals refine ⟨ret_int ?_, rfl⟩
  all_goals (unfold sat; (repeat' split) <;> first | rfl | omega)

theorem s_Coerce (v k : Int) (w : World) : Calls Try.prog 157 #[.int .i64 v, .int .i64 k] w fun e w' => e = .returned (.int .i64 (co v k)) ∧ w = w' := by
  go_enter Try.func157, Try.ntmps157
  go_wp2
  all_goals go_ret
  all_goals refine ⟨ret_int ?_, rfl⟩
  all_goals (try simp only [beq_iff_eq, beq_eq_false_iff_ne, ne_eq, bne_iff_ne, bne_eq_false_iff_eq] at *)
  all_goals (unfold co; (repeat' split) <;> first | rfl | omega | (unfold sat; (repeat' split) <;> omega))
theorem i_Coerce (v k : Int) (w : World) : Calls Try.prog 132 #[.int .i64 v, .int .i64 k] w fun e w' => e = .returned (.int .i64 (co v k)) ∧ w = w' := by
  go_enter Try.func132, Try.ntmps132
  go_wp2
  all_goals go_ret
  all_goals refine ⟨ret_int ?_, rfl⟩
  all_goals (try simp only [beq_iff_eq, beq_eq_false_iff_ne, ne_eq, bne_iff_ne, bne_eq_false_iff_eq] at *)
  all_goals (unfold co; (repeat' split) <;> first | rfl | omega | (unfold sat; (repeat' split) <;> omega))
theorem bits_4095 (v : Int) : bits .and .i64 v 4095 = v % 4096 := by
  show IntKind.i64.wrap ((BitVec.ofInt 64 v &&& BitVec.ofInt 64 4095).toNat : Int) = _
  rw [BitVec.toNat_and, BitVec.toNat_ofInt, BitVec.toNat_ofInt, IntKind.wrap_i64]
  rw [show ((4095 : Int) % ((2 : Nat) ^ 64 : Nat)).toNat = 2 ^ 12 - 1 from rfl, Nat.and_two_pow_sub_one_eq_mod]
  omega
theorem co_bd (v k : Int) : -1000000 ≤ co v k ∧ co v k ≤ 1000000 := by
  unfold co sat
  rw [bits_4095]
  (repeat' split) <;> omega
theorem s_IsOfType (v k : Int) (w : World) : Calls Try.prog 138 #[.int .i64 v, .int .i64 k] w fun e w' => e = .returned (.bool (ofT v k)) ∧ w = w' := by
  by_cases h1 : 1 ≤ k
  · by_cases h2 : k ≤ 4
    · go_enter Try.func138, Try.ntmps138
      go_wp2_with (first | (go_at_call 157; refine (s_Coerce _ _ _).mono ?_; rintro e w' ⟨rfl, rfl⟩) | go_in)
      go_ret
      exact ⟨ret_bool (by unfold ofT; rw [Bool.eq_iff_iff]; simp; omega), rfl⟩
    · go_enter Try.func138, Try.ntmps138
      go_wp2
      go_ret
      exact ⟨ret_bool (by unfold ofT; rw [Bool.eq_iff_iff]; simp; omega), rfl⟩
  · go_enter Try.func138, Try.ntmps138
    go_wp2
    go_ret
    exact ⟨ret_bool (by unfold ofT; rw [Bool.eq_iff_iff]; simp; omega), rfl⟩
theorem i_IsOfType (v k : Int) (w : World) : Calls Try.prog 101 #[.int .i64 v, .int .i64 k] w fun e w' => e = .returned (.bool (ofT v k)) ∧ w = w' := by
  by_cases h1 : 1 ≤ k
  · by_cases h2 : k ≤ 4
    · go_enter Try.func101, Try.ntmps101
      go_wp2_with (first | (go_at_call 132; refine (i_Coerce _ _ _).mono ?_; rintro e w' ⟨rfl, rfl⟩) | go_in)
      go_ret
      exact ⟨ret_bool (by unfold ofT; rw [Bool.eq_iff_iff]; simp; omega), rfl⟩
    · go_enter Try.func101, Try.ntmps101
      go_wp2
      go_ret
      exact ⟨ret_bool (by unfold ofT; rw [Bool.eq_iff_iff]; simp; omega), rfl⟩
  · go_enter Try.func101, Try.ntmps101
    go_wp2
    go_ret
    exact ⟨ret_bool (by unfold ofT; rw [Bool.eq_iff_iff]; simp; omega), rfl⟩
/-- An operator on values that have its types. -/
def apC (op x y : Int) : Int :=
  if op = 1 then sat (x + y) else if op = 2 then sat (x - y) else if op = 3 then sat (x * y) else if op = 4 then (if y < x then x else y) else if op = 5 then (if x < y then x else y)
  else if op = 6 then bits .or .i64 x y else if op = 7 then bits .and .i64 x y else if op = 8 then bits .andNot .i64 x y else if op = 9 then (if x < y then 1 else 0) else if op = 10 then (if x = y then 1 else 0)
  else if op = 11 then (if 0 ≤ y ∧ y ≤ 11 ∧ bits .and .i64 (x / 2 ^ y.toNat) 1 = 1 then 1 else 0) else if op = 12 then (if 0 ≤ y ∧ y ≤ 11 then bits .or .i64 x (2 ^ y.toNat) else x) else 0
def ap (op a b : Int) : Int := apC op (co a (ot op).1) (co b (ot op).2.1)
theorem mul_bd {x y : Int} (hx : -1000000 ≤ x ∧ x ≤ 1000000) (hy : -1000000 ≤ y ∧ y ≤ 1000000) : -1000000000000 ≤ x * y ∧ x * y ≤ 1000000000000 := by
  have h : (x * y).natAbs ≤ 1000000 * 1000000 := by
    rw [Int.natAbs_mul]
    exact Nat.mul_le_mul (by omega) (by omega)
  omega
theorem pow_bd {y : Int} (h0 : 0 ≤ y) (h1 : y ≤ 11) : 1 ≤ (2 : Int) ^ y.toNat ∧ (2 : Int) ^ y.toNat ≤ 2048 := by
  obtain ⟨n, rfl⟩ := Int.eq_ofNat_of_zero_le h0
  have hn : n ≤ 11 := by omega
  rw [Int.toNat_natCast]
  have e : ((2 : Int) ^ n) = ((2 ^ n : Nat) : Int) := by simp
  rw [e]
  have h2 : 2 ^ n ≤ 2 ^ 11 := Nat.pow_le_pow_right (by omega) hn
  have h3 : 0 < 2 ^ n := Nat.two_pow_pos n
  omega
end Go.Proofs.Ytaihdnlpdibkoaa
