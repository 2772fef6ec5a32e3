/- Operators and sets: what an operator returns is of its result type, some operators are symmetric, difference and intersection split a set; the draw of an operator with two values. Conditions: an argument is an int64. -/
import Derived.Test.YtglmmmhfomjdjaaVLaws
import Derived.Laws.BitsAllLaws
namespace Go.Proofs.Ytglmmmhfomjdjaa
open Go.RowKit

/-! ### Bits of small numbers -/
theorem i64_and_nat (a b : Nat) (ha : a < 4096) (hb : b < 4096) : bits .and .i64 (a : Int) (b : Int) = ((a &&& b : Nat) : Int) := by
  have hx : a &&& b < 2 ^ 12 := Nat.and_lt_two_pow _ (by omega)
  show IntKind.i64.wrap ((BitVec.ofInt 64 (a : Int) &&& BitVec.ofInt 64 (b : Int)).toNat : Int) = _
  rw [BitVec.toNat_and, ofInt_u64 a (by omega), ofInt_u64 b (by omega), IntKind.wrap_i64]
  omega
theorem i64_or_nat (a b : Nat) (ha : a < 4096) (hb : b < 4096) : bits .or .i64 (a : Int) (b : Int) = ((a ||| b : Nat) : Int) := by
  have hx : a ||| b < 2 ^ 12 := Nat.or_lt_two_pow (by omega) (by omega)
  show IntKind.i64.wrap ((BitVec.ofInt 64 (a : Int) ||| BitVec.ofInt 64 (b : Int)).toNat : Int) = _
  rw [BitVec.toNat_or, ofInt_u64 a (by omega), ofInt_u64 b (by omega), IntKind.wrap_i64]
  omega
theorem bit_high {a i : Nat} (ha : a < 4096) (hi : 12 ≤ i) : a.testBit i = false :=
  Nat.testBit_lt_two_pow (Nat.lt_of_lt_of_le (show a < 2 ^ 12 by omega) (Nat.pow_le_pow_right (by omega) hi))
theorem bit_less {b i : Nat} (hb : b < 4096) : (4095 - b).testBit i = (decide (i < 12) && !b.testBit i) := by
  rw [show 4095 - b = 2 ^ 12 - (b + 1) by omega]
  exact Nat.testBit_two_pow_sub_succ (by omega) i
theorem i64_andNot_nat (a b : Nat) (ha : a < 4096) (hb : b < 4096) : bits .andNot .i64 (a : Int) (b : Int) = ((a &&& (4095 - b) : Nat) : Int) := by
  have he : a &&& (2 ^ 64 - 1 - b) = a &&& (4095 - b) := by
    apply Nat.eq_of_testBit_eq
    intro i
    rw [Nat.testBit_and, Nat.testBit_and, bit_less hb, show 2 ^ 64 - 1 - b = 2 ^ 64 - (b + 1) by omega, Nat.testBit_two_pow_sub_succ (by omega)]
    by_cases hi : i < 12
    · simp [hi, show i < 64 by omega]
    · simp [bit_high ha (by omega : 12 ≤ i)]
  have hx : a &&& (4095 - b) < 2 ^ 12 := Nat.and_lt_two_pow _ (by omega)
  show IntKind.i64.wrap ((BitVec.ofInt 64 (a : Int) &&& ~~~BitVec.ofInt 64 (b : Int)).toNat : Int) = _
  rw [BitVec.toNat_and, BitVec.toNat_not, ofInt_u64 a (by omega), ofInt_u64 b (by omega), he, IntKind.wrap_i64]
  omega
theorem set_union {a b : Nat} (ha : a < 4096) (hb : b < 4096) : (a &&& (4095 - b)) ||| (a &&& b) = a := by
  apply Nat.eq_of_testBit_eq
  intro i
  rw [Nat.testBit_or, Nat.testBit_and, Nat.testBit_and, bit_less hb]
  by_cases hi : i < 12
  · simp only [hi, decide_true, Bool.true_and]
    cases a.testBit i <;> cases b.testBit i <;> rfl
  · simp [bit_high ha (by omega : 12 ≤ i)]
theorem set_meet {a b : Nat} (hb : b < 4096) : (a &&& (4095 - b)) &&& (a &&& b) = 0 := by
  apply Nat.eq_of_testBit_eq
  intro i
  rw [Nat.testBit_and, Nat.testBit_and, Nat.testBit_and, bit_less hb, Nat.zero_testBit]
  cases a.testBit i <;> cases b.testBit i <;> simp

/-- The set of a value. -/
def sn (v : Int) : Nat := (v % 4096).toNat
theorem sn_lt (v : Int) : sn v < 4096 := by unfold sn; omega
theorem sn_nat {n : Nat} (h : n < 4096) : sn (n : Int) = n := by unfold sn; omega
theorem co_set (v : Int) : co v 2 = (sn v : Int) := by
  have e : co v 2 = bits .and .i64 v 4095 := rfl
  rw [e, bits_4095]
  unfold sn
  omega
theorem ap_union (a b : Int) : ap 6 a b = ((sn a ||| sn b : Nat) : Int) := by
  show bits .or .i64 (co a 2) (co b 2) = _
  rw [co_set, co_set]
  exact i64_or_nat _ _ (sn_lt a) (sn_lt b)
theorem ap_meet (a b : Int) : ap 7 a b = ((sn a &&& sn b : Nat) : Int) := by
  show bits .and .i64 (co a 2) (co b 2) = _
  rw [co_set, co_set]
  exact i64_and_nat _ _ (sn_lt a) (sn_lt b)
theorem ap_minus (a b : Int) : ap 8 a b = ((sn a &&& (4095 - sn b) : Nat) : Int) := by
  show bits .andNot .i64 (co a 2) (co b 2) = _
  rw [co_set, co_set]
  exact i64_andNot_nat _ _ (sn_lt a) (sn_lt b)
theorem split_union (a b : Int) : ap 6 (ap 8 a b) (ap 7 a b) = co a 2 := by
  have h1 : sn a &&& (4095 - sn b) < 4096 := Nat.and_lt_two_pow (n := 12) _ (by omega)
  have h2 : sn a &&& sn b < 4096 := Nat.and_lt_two_pow (n := 12) _ (sn_lt b)
  rw [ap_union, ap_minus, ap_meet, sn_nat h1, sn_nat h2, set_union (sn_lt a) (sn_lt b), co_set]
theorem split_meet (a b : Int) : ap 7 (ap 8 a b) (ap 7 a b) = 0 := by
  have h1 : sn a &&& (4095 - sn b) < 4096 := Nat.and_lt_two_pow (n := 12) _ (by omega)
  have h2 : sn a &&& sn b < 4096 := Nat.and_lt_two_pow (n := 12) _ (sn_lt b)
  rw [ap_meet (ap 8 a b), ap_minus, ap_meet, sn_nat h1, sn_nat h2, set_meet (sn_lt b)]
  rfl
theorem co_small {k : Nat} (hk : k ≤ 13) : co (k : Int) 1 = (k : Int) := by
  show sat (k : Int) = _
  unfold sat
  rw [if_neg (by omega), if_neg (by omega)]
theorem ap_with {a : Int} {k : Nat} (hk : k ≤ 11) : ap 12 a (k : Int) = ((sn a ||| 2 ^ k : Nat) : Int) := by
  show (if 0 ≤ co (k : Int) 1 ∧ co (k : Int) 1 ≤ 11 then bits .or .i64 (co a 2) (2 ^ (co (k : Int) 1).toNat) else co a 2) = _
  have hp : 2 ^ k ≤ 2 ^ 11 := Nat.pow_le_pow_right (by omega) hk
  rw [co_small (by omega), if_pos (by omega), co_set, Int.toNat_natCast, show ((2 : Int) ^ k) = ((2 ^ k : Nat) : Int) by simp]
  exact i64_or_nat _ _ (sn_lt a) (by omega)
theorem ap_has {a : Int} {k : Nat} (hk : k ≤ 11) (hb : (sn a).testBit k = true) : ap 11 a (k : Int) = 1 := by
  show (if 0 ≤ co (k : Int) 1 ∧ co (k : Int) 1 ≤ 11 ∧ bits .and .i64 (co a 2 / 2 ^ (co (k : Int) 1).toNat) 1 = 1 then (1 : Int) else 0) = _
  have hl := sn_lt a
  have hd : sn a / 2 ^ k ≤ sn a := Nat.div_le_self _ _
  have hm : sn a / 2 ^ k % 2 = 1 := by
    rw [Nat.testBit_eq_decide_div_mod_eq] at hb
    simpa using hb
  rw [co_small (by omega), co_set, Int.toNat_natCast, show ((2 : Int) ^ k) = ((2 ^ k : Nat) : Int) by simp, ← Int.natCast_ediv,
    show bits .and .i64 ((sn a / 2 ^ k : Nat) : Int) 1 = ((sn a / 2 ^ k &&& 1 : Nat) : Int) from i64_and_nat _ 1 (by omega) (by omega), nat_mask1, hm]
  rw [if_pos (by omega)]
theorem with_has {a : Int} {k : Nat} (hk : k ≤ 11) : ap 11 (ap 12 a (k : Int)) (k : Int) = 1 := by
  have hp : 2 ^ k ≤ 2 ^ 11 := Nat.pow_le_pow_right (by omega) hk
  have h1 : sn a ||| 2 ^ k < 4096 := Nat.or_lt_two_pow (n := 12) (sn_lt a) (by omega)
  refine ap_has hk ?_
  rw [ap_with hk, sn_nat h1, Nat.testBit_or, Nat.testBit_two_pow_self]
  simp

/-! ### Operators -/
theorem ap_co (op a b : Int) : ap op (co a (ot op).1) (co b (ot op).2.1) = ap op a b := by unfold ap; rw [co_idem, co_idem]
theorem ot_out {op : Int} (h : op < 1 ∨ 12 < op) : ot op = (0, 0, 0) := by
  unfold ot
  rw [if_neg (by omega), if_neg (by omega), if_neg (by omega), if_neg (by omega), if_neg (by omega)]
theorem ap_out {op : Int} (a b : Int) (h : op < 1 ∨ 12 < op) : ap op a b = 0 := by
  unfold ap apC
  rw [if_neg (by omega), if_neg (by omega), if_neg (by omega), if_neg (by omega), if_neg (by omega), if_neg (by omega), if_neg (by omega), if_neg (by omega), if_neg (by omega), if_neg (by omega), if_neg (by omega), if_neg (by omega)]
theorem ofT_sat (v : Int) : ofT (sat v) 1 = true := ofT_co (v := v) (k := 1) (by omega)
theorem ofT_in {v : Int} (h0 : -1000000 ≤ v) (h1 : v ≤ 1000000) : ofT v 1 = true := by
  have e : sat v = v := by unfold sat; rw [if_neg (by omega), if_neg (by omega)]
  have := ofT_sat v
  rwa [e] at this
theorem ofT_set {n : Nat} (h : n < 4096) : ofT (n : Int) 2 = true := by
  have e : co (n : Int) 2 = (n : Int) := by rw [co_set, sn_nat h]
  have := ofT_co (v := (n : Int)) (k := 2) (by omega)
  rwa [e] at this
theorem ofT_flag (c : Prop) [Decidable c] : ofT (if c then 1 else 0) 3 = true := by split <;> decide
theorem ap_2 (a b : Int) : ap 2 a b = sat (co a 1 - co b 1) := by simp [ap, apC, ot]
theorem ap_3 (a b : Int) : ap 3 a b = sat (co a 1 * co b 1) := by simp [ap, apC, ot]
theorem sym_1 (a b : Int) : ap 1 b a = ap 1 a b := by show sat (co b 1 + co a 1) = sat (co a 1 + co b 1); rw [Int.add_comm]
theorem sym_3 (a b : Int) : ap 3 b a = ap 3 a b := by rw [ap_3, ap_3, Int.mul_comm]
theorem sym_4 (a b : Int) : ap 4 b a = ap 4 a b := by show (if co a 1 < co b 1 then co b 1 else co a 1) = (if co b 1 < co a 1 then co a 1 else co b 1); split <;> split <;> omega
theorem sym_5 (a b : Int) : ap 5 b a = ap 5 a b := by show (if co b 1 < co a 1 then co b 1 else co a 1) = (if co a 1 < co b 1 then co a 1 else co b 1); split <;> split <;> omega
theorem sym_6 (a b : Int) : ap 6 b a = ap 6 a b := by rw [ap_union, ap_union, Nat.or_comm]
theorem sym_7 (a b : Int) : ap 7 b a = ap 7 a b := by rw [ap_meet, ap_meet, Nat.and_comm]
theorem sym_10 (a b : Int) : ap 10 b a = ap 10 a b := by show (if co b 1 = co a 1 then (1 : Int) else 0) = (if co a 1 = co b 1 then 1 else 0); split <;> split <;> omega
theorem typ_1 (a b : Int) : ofT (ap 1 a b) 1 = true := ofT_sat _
theorem typ_2 (a b : Int) : ofT (ap 2 a b) 1 = true := by rw [ap_2]; exact ofT_sat _
theorem typ_3 (a b : Int) : ofT (ap 3 a b) 1 = true := by rw [ap_3]; exact ofT_sat _
theorem typ_4 (a b : Int) : ofT (ap 4 a b) 1 = true := by show ofT (if co b 1 < co a 1 then co a 1 else co b 1) 1 = true; split <;> exact ofT_sat _
theorem typ_5 (a b : Int) : ofT (ap 5 a b) 1 = true := by show ofT (if co a 1 < co b 1 then co a 1 else co b 1) 1 = true; split <;> exact ofT_sat _
theorem typ_6 (a b : Int) : ofT (ap 6 a b) 2 = true := by rw [ap_union]; exact ofT_set (Nat.or_lt_two_pow (n := 12) (sn_lt a) (sn_lt b))
theorem typ_7 (a b : Int) : ofT (ap 7 a b) 2 = true := by rw [ap_meet]; exact ofT_set (Nat.and_lt_two_pow (n := 12) _ (sn_lt b))
theorem typ_8 (a b : Int) : ofT (ap 8 a b) 2 = true := by rw [ap_minus]; exact ofT_set (Nat.and_lt_two_pow (n := 12) _ (by have := sn_lt b; omega))
theorem typ_9 (a b : Int) : ofT (ap 9 a b) 3 = true := ofT_flag _
theorem typ_10 (a b : Int) : ofT (ap 10 a b) 3 = true := ofT_flag _
theorem typ_11 (a b : Int) : ofT (ap 11 a b) 3 = true := ofT_flag _
theorem typ_12 (a b : Int) : ofT (ap 12 a b) 2 = true := by
  show ofT (if 0 ≤ co b 1 ∧ co b 1 ≤ 11 then bits .or .i64 (co a 2) (2 ^ (co b 1).toNat) else co a 2) 2 = true
  split
  · rename_i h
    obtain ⟨k, hk⟩ := Int.eq_ofNat_of_zero_le h.1
    rw [hk] at h ⊢
    have hk' : k ≤ 11 := by omega
    have hp : 2 ^ k ≤ 2 ^ 11 := Nat.pow_le_pow_right (by omega) hk'
    rw [co_set, Int.toNat_natCast, show ((2 : Int) ^ k) = ((2 ^ k : Nat) : Int) by simp, i64_or_nat _ _ (sn_lt a) (by omega)]
    exact ofT_set (Nat.or_lt_two_pow (n := 12) (sn_lt a) (by omega))
  · exact ofT_co (by omega)

/-! ### The draw of an operator with two values -/
theorem s_DrawApplyOp (A : Option Addr) (n c : Nat) (zs : List Int) (w : World) (hr : Rd w w.heap.size A n (zs.map (Value.int .u8))) (hz : ∀ z ∈ zs, (Lit.int .u8 z).wf = true) (hn : n ≤ 1048576) :
    Calls Try.prog 6 #[.slice A n c] w (Drawn3 w.heap.size w) := by
  go_enter Try.func6, Try.ntmps6
  go_wp2_with fail
  refine (s_l1New A n c zs w hr hz hn).mono ?_
  rintro e w1 ⟨rfl, hc1, hb1, hl1⟩
  go_wp2_with fail
  refine (s_l1Below hc1 15 (by omega) (by omega)).mono ?_
  rintro e w2 ⟨x, rfl, hx0, hx1, hc2, hg2⟩
  go_wp2_with fail
  refine (s_OperandTypes _ _).mono ?_
  rintro e w2' ⟨rfl, rfl⟩
  go_wp2_with fail
  refine (s_l1Once hc2 6 (by omega) (by omega)).mono ?_
  rintro e w3 ⟨y, rfl, hc3, hg3⟩
  cases y
  · go_wp2_with fail
    refine (s_l3Value hc3 _).mono ?_
    rintro e w4 ⟨v, rfl, _, _, hc4, hg4⟩
    go_wp2_with fail
    refine (s_l3Value hc4 _).mono ?_
    rintro e w5 ⟨u, rfl, _, _, hc5, hg5⟩
    go_wp2_with fail
    go_ret3
    exact ⟨_, v, u, rfl, hb1.trans (below_grown (grown_trans2 (grown_trans2 (grown_trans2 hg2 hg3) hg4) hg5) hl1)⟩
  · go_wp2_with fail
    refine (s_l3Any hc3).mono ?_
    rintro e w4 ⟨v, rfl, _, _, hc4, hg4⟩
    go_wp2_with fail
    refine (s_l3Any hc4).mono ?_
    rintro e w5 ⟨u, rfl, _, _, hc5, hg5⟩
    go_wp2_with fail
    go_ret3
    exact ⟨_, v, u, rfl, hb1.trans (below_grown (grown_trans2 (grown_trans2 (grown_trans2 hg2 hg3) hg4) hg5) hl1)⟩
end Go.Proofs.Ytglmmmhfomjdjaa
