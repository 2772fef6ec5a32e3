/- Several texts of one proof in one file: Nodes of expressions: what makes one valid, in the program and in the reference. Conditions: each theorem names its own. -/
import Derived.Test.YthlhhnnlbpecnaaGreatGcsah
import Derived.Test.YthlhhnnlbpecnaaGreatGcsal
import Derived.Test.YthlhhnnlbpecnaaGreatGcsaa

/- Nodes of expressions: what makes one valid, in the program and in the reference. Conditions: none beyond that the node can be read. -/
namespace Go.Proofs.YthlhhnnlbpecnaaGreat
set_option linter.unusedSimpArgs false
set_option linter.unusedVariables false
set_option maxRecDepth 100000
open Go.RowKit Go.WideShapes
set_option linter.unusedVariables false

def emp (s : ByteArray) : Bool := s.toList.isEmpty
/-- The fields that a kind does not use are as they must be. -/
def bareB (k n p t : Int) (s m : ByteArray) (a : Nat) : Bool :=
  decide ((a : Int) = if k = 4 then 2 else if k = 5 then 3 else if k = 8 then 1 else 0) && (decide (k = 3 ∨ k = 6) || decide (p = 0)) && (decide (k = 3 ∨ k = 8) || emp m) && (decide (k = 1 ∨ k = 4) || decide (n = 0)) && (decide (k = 1) || decide (t = 0)) && (decide (k = 8) || emp s)
/-- A valid node. -/
def nodeB (k n p t : Int) (s m : ByteArray) (a : Nat) : Bool :=
  if k = 1 then bareB k n p t s m a && inR t 1 3 && ofT n t && decide (0 ≤ n)
  else if k = 3 then bareB k n p t s m a && inR p 0 3 && validN m
  else if k = 6 then bareB k n p t s m a && inR p 0 3
  else if k = 4 then bareB k n p t s m a && inR n 1 12
  else if k = 8 then bareB k n p t s m a && validN s && validN m
  else if k = 2 ∨ k = 5 ∨ k = 7 then bareB k n p t s m a
  else false
theorem nodeB_out {k n p t : Int} {s m : ByteArray} {a : Nat} (h : ¬ (1 ≤ k ∧ k ≤ 8)) : nodeB k n p t s m a = false := by
  unfold nodeB
  rw [if_neg (by omega), if_neg (by omega), if_neg (by omega), if_neg (by omega), if_neg (by omega), if_neg (by omega)]
theorem nodeB_bare {k n p t : Int} {s m : ByteArray} {a : Nat} (h : bareB k n p t s m a = false) : nodeB k n p t s m a = false := by
  unfold nodeB
  rw [h]
  (repeat' split) <;> rfl
set_option maxHeartbeats 4000000 in
theorem s_bare_1 (n p t : Int) (s m : ByteArray) (A : Option Addr) (a cap : Nat) (w : World) :
    Calls Tryz.prog 169 #[.agg #[.int .i64 1, .int .i64 n, .int .i64 p, .int .i64 t, .string s, .string m, .slice A a cap]] w fun en w' => en = .returned (.bool (bareB 1 n p t s m a)) ∧ Below w.heap.size w w' := by
  go_enter Tryz.func169, Tryz.ntmps169
  go_wp2_with fail
  all_goals
    go_ret
    exact ⟨ret_bool (by simp_all [bareB, emp]), (Below.refl _ _).alloc (Nat.le_refl _) _⟩
set_option maxHeartbeats 4000000 in
theorem s_bare_2 (n p t : Int) (s m : ByteArray) (A : Option Addr) (a cap : Nat) (w : World) :
    Calls Tryz.prog 169 #[.agg #[.int .i64 2, .int .i64 n, .int .i64 p, .int .i64 t, .string s, .string m, .slice A a cap]] w fun en w' => en = .returned (.bool (bareB 2 n p t s m a)) ∧ Below w.heap.size w w' := by
  go_enter Tryz.func169, Tryz.ntmps169
  go_wp2_with fail
  all_goals
    go_ret
    exact ⟨ret_bool (by simp_all [bareB, emp]), (Below.refl _ _).alloc (Nat.le_refl _) _⟩
set_option maxHeartbeats 4000000 in
theorem s_bare_3 (n p t : Int) (s m : ByteArray) (A : Option Addr) (a cap : Nat) (w : World) :
    Calls Tryz.prog 169 #[.agg #[.int .i64 3, .int .i64 n, .int .i64 p, .int .i64 t, .string s, .string m, .slice A a cap]] w fun en w' => en = .returned (.bool (bareB 3 n p t s m a)) ∧ Below w.heap.size w w' := by
  go_enter Tryz.func169, Tryz.ntmps169
  go_wp2_with fail
  all_goals
    go_ret
    exact ⟨ret_bool (by simp_all [bareB, emp]), (Below.refl _ _).alloc (Nat.le_refl _) _⟩
set_option maxHeartbeats 4000000 in
theorem s_bare_4 (n p t : Int) (s m : ByteArray) (A : Option Addr) (a cap : Nat) (w : World) :
    Calls Tryz.prog 169 #[.agg #[.int .i64 4, .int .i64 n, .int .i64 p, .int .i64 t, .string s, .string m, .slice A a cap]] w fun en w' => en = .returned (.bool (bareB 4 n p t s m a)) ∧ Below w.heap.size w w' := by
  go_enter Tryz.func169, Tryz.ntmps169
  go_wp2_with fail
  all_goals
    go_ret
    exact ⟨ret_bool (by simp_all [bareB, emp]), (Below.refl _ _).alloc (Nat.le_refl _) _⟩
set_option maxHeartbeats 4000000 in
theorem s_bare_5 (n p t : Int) (s m : ByteArray) (A : Option Addr) (a cap : Nat) (w : World) :
    Calls Tryz.prog 169 #[.agg #[.int .i64 5, .int .i64 n, .int .i64 p, .int .i64 t, .string s, .string m, .slice A a cap]] w fun en w' => en = .returned (.bool (bareB 5 n p t s m a)) ∧ Below w.heap.size w w' := by
  go_enter Tryz.func169, Tryz.ntmps169
  go_wp2_with fail
  all_goals
    go_ret
    exact ⟨ret_bool (by simp_all [bareB, emp]), (Below.refl _ _).alloc (Nat.le_refl _) _⟩
set_option maxHeartbeats 4000000 in
theorem s_bare_6 (n p t : Int) (s m : ByteArray) (A : Option Addr) (a cap : Nat) (w : World) :
    Calls Tryz.prog 169 #[.agg #[.int .i64 6, .int .i64 n, .int .i64 p, .int .i64 t, .string s, .string m, .slice A a cap]] w fun en w' => en = .returned (.bool (bareB 6 n p t s m a)) ∧ Below w.heap.size w w' := by
  go_enter Tryz.func169, Tryz.ntmps169
  go_wp2_with fail
  all_goals
    go_ret
    exact ⟨ret_bool (by simp_all [bareB, emp]), (Below.refl _ _).alloc (Nat.le_refl _) _⟩
set_option maxHeartbeats 4000000 in
theorem s_bare_7 (n p t : Int) (s m : ByteArray) (A : Option Addr) (a cap : Nat) (w : World) :
    Calls Tryz.prog 169 #[.agg #[.int .i64 7, .int .i64 n, .int .i64 p, .int .i64 t, .string s, .string m, .slice A a cap]] w fun en w' => en = .returned (.bool (bareB 7 n p t s m a)) ∧ Below w.heap.size w w' := by
  go_enter Tryz.func169, Tryz.ntmps169
  go_wp2_with fail
  all_goals
    go_ret
    exact ⟨ret_bool (by simp_all [bareB, emp]), (Below.refl _ _).alloc (Nat.le_refl _) _⟩
set_option maxHeartbeats 4000000 in
theorem s_bare_8 (n p t : Int) (s m : ByteArray) (A : Option Addr) (a cap : Nat) (w : World) :
    Calls Tryz.prog 169 #[.agg #[.int .i64 8, .int .i64 n, .int .i64 p, .int .i64 t, .string s, .string m, .slice A a cap]] w fun en w' => en = .returned (.bool (bareB 8 n p t s m a)) ∧ Below w.heap.size w w' := by
  go_enter Tryz.func169, Tryz.ntmps169
  go_wp2_with fail
  all_goals
    go_ret
    exact ⟨ret_bool (by simp_all [bareB, emp]), (Below.refl _ _).alloc (Nat.le_refl _) _⟩
theorem s_node_out (k n p t : Int) (s m : ByteArray) (A : Option Addr) (a cap : Nat) (w : World) (h : ¬ (1 ≤ k ∧ k ≤ 8)) :
    Calls Tryz.prog 158 #[.agg #[.int .i64 k, .int .i64 n, .int .i64 p, .int .i64 t, .string s, .string m, .slice A a cap]] w fun en w' => en = .returned (.bool false) ∧ Below w.heap.size w w' := by
  have h1 := inR_no h
  clear h
  go_enter Tryz.func158, Tryz.ntmps158
  go_wp2_with (go_at_call 11; refine (s_l1In _ _ _ _).mono ?_; rintro e w' ⟨rfl, rfl⟩)
  go_ret
  exact ⟨rfl, (Below.refl _ _).alloc (Nat.le_refl _) _⟩
set_option maxHeartbeats 4000000 in
theorem s_node_1 (n p t : Int) (s m : ByteArray) (hs : s.size ≤ maxLen) (hm : m.size ≤ maxLen) (A : Option Addr) (a cap : Nat) (w : World) :
    Calls Tryz.prog 158 #[.agg #[.int .i64 1, .int .i64 n, .int .i64 p, .int .i64 t, .string s, .string m, .slice A a cap]] w fun en w' => en = .returned (.bool (nodeB 1 n p t s m a)) ∧ Below w.heap.size w w' := by
  have Hs := hide hs
  have Hm := hide hm
  clear hs hm
  have hin : inR 1 1 8 = true := inR_yes (by omega)
  obtain ⟨C, hz0, hw0⟩ := boxes1 w [.int .i64 1, .int .i64 n, .int .i64 p, .int .i64 t, .string s, .string m, .slice A a cap] 86
  go_enter Tryz.func158, Tryz.ntmps158
  go_wp2_with (go_at_call 11; refine (s_l1In _ _ _ _).mono ?_; rintro e w' ⟨rfl, rfl⟩)
  generalize w.alloc (Obj.cells #[.int .i64 1, .int .i64 n, .int .i64 p, .int .i64 t, .string s, .string m, .slice A a cap] 86) = W0 at C hz0 hw0 ⊢
  have hn0 : w.heap.size + 1 ≤ W0.heap.size := by omega
  have Hw : Hid (∀ W : World, Below (w.heap.size + 1) W0 W → Below w.heap.size w W) := hide fun W h => hw0.trans (h.mono (by omega))
  have hB0 : Below (w.heap.size + 1) W0 W0 := Below.refl _ _
  have e0 := cell_rule C (n := w.heap.size + 1) (by omega) 0 (v := .int .i64 1) rfl
  have e1 := cell_rule C (n := w.heap.size + 1) (by omega) 1 (v := .int .i64 n) rfl
  have e2 := cell_rule C (n := w.heap.size + 1) (by omega) 2 (v := .int .i64 p) rfl
  have e3 := cell_rule C (n := w.heap.size + 1) (by omega) 3 (v := .int .i64 t) rfl
  have e4 := cell_rule C (n := w.heap.size + 1) (by omega) 4 (v := .string s) rfl
  have e5 := cell_rule C (n := w.heap.size + 1) (by omega) 5 (v := .string m) rfl
  have e6 := cell_rule C (n := w.heap.size + 1) (by omega) 6 (v := .slice A a cap) rfl
  clear C hz0 hw0
  refine (s_bare_1 n p t s m A a cap W0).mono ?_
  rintro e W1 ⟨rfl, hb⟩
  have hB1 : Below (w.heap.size + 1) W0 W1 := below_step hB0 hn0 hb
  clear hb hB0
  cases hb : bareB 1 n p t s m a
  · have Hb := hide hb
    clear hb
    go_wp2_with fail
    go_ret
    exact ⟨ret_bool (nodeB_bare Hb.out).symm, Hw.out _ hB1⟩
  · have Hb := hide hb
    clear hb
    go_wp2_with (first
    | (go_at_call 11; refine (s_l1In _ _ _ _).mono ?_; rintro e w' ⟨rfl, rfl⟩)
    | (go_at_call 170; refine (s_IsOfType _ _ _).mono ?_; rintro e w' ⟨rfl, rfl⟩)
    | (go_at_call_has 66 s; refine (s_IsValidName s _ Hs.out).mono ?_; rintro e W2 ⟨rfl, hb⟩; have hB2 : Below (w.heap.size + 1) W0 W2 := below_step (by assumption) hn0 hb; clear hb)
    | (go_at_call_has 66 m; refine (s_IsValidName m _ Hm.out).mono ?_; rintro e W3 ⟨rfl, hb⟩; have hB3 : Below (w.heap.size + 1) W0 W3 := below_step (by assumption) hn0 hb; clear hb))
    all_goals
      go_ret
      exact ⟨ret_bool (by have := Hb.out; simp_all [nodeB]), Hw.out _ (by assumption)⟩
set_option maxHeartbeats 4000000 in
theorem s_node_2 (n p t : Int) (s m : ByteArray) (hs : s.size ≤ maxLen) (hm : m.size ≤ maxLen) (A : Option Addr) (a cap : Nat) (w : World) :
    Calls Tryz.prog 158 #[.agg #[.int .i64 2, .int .i64 n, .int .i64 p, .int .i64 t, .string s, .string m, .slice A a cap]] w fun en w' => en = .returned (.bool (nodeB 2 n p t s m a)) ∧ Below w.heap.size w w' := by
  have Hs := hide hs
  have Hm := hide hm
  clear hs hm
  have hin : inR 2 1 8 = true := inR_yes (by omega)
  obtain ⟨C, hz0, hw0⟩ := boxes1 w [.int .i64 2, .int .i64 n, .int .i64 p, .int .i64 t, .string s, .string m, .slice A a cap] 86
  go_enter Tryz.func158, Tryz.ntmps158
  go_wp2_with (go_at_call 11; refine (s_l1In _ _ _ _).mono ?_; rintro e w' ⟨rfl, rfl⟩)
  generalize w.alloc (Obj.cells #[.int .i64 2, .int .i64 n, .int .i64 p, .int .i64 t, .string s, .string m, .slice A a cap] 86) = W0 at C hz0 hw0 ⊢
  have hn0 : w.heap.size + 1 ≤ W0.heap.size := by omega
  have Hw : Hid (∀ W : World, Below (w.heap.size + 1) W0 W → Below w.heap.size w W) := hide fun W h => hw0.trans (h.mono (by omega))
  have hB0 : Below (w.heap.size + 1) W0 W0 := Below.refl _ _
  have e0 := cell_rule C (n := w.heap.size + 1) (by omega) 0 (v := .int .i64 2) rfl
  have e1 := cell_rule C (n := w.heap.size + 1) (by omega) 1 (v := .int .i64 n) rfl
  have e2 := cell_rule C (n := w.heap.size + 1) (by omega) 2 (v := .int .i64 p) rfl
  have e3 := cell_rule C (n := w.heap.size + 1) (by omega) 3 (v := .int .i64 t) rfl
  have e4 := cell_rule C (n := w.heap.size + 1) (by omega) 4 (v := .string s) rfl
  have e5 := cell_rule C (n := w.heap.size + 1) (by omega) 5 (v := .string m) rfl
  have e6 := cell_rule C (n := w.heap.size + 1) (by omega) 6 (v := .slice A a cap) rfl
  clear C hz0 hw0
  refine (s_bare_2 n p t s m A a cap W0).mono ?_
  rintro e W1 ⟨rfl, hb⟩
  have hB1 : Below (w.heap.size + 1) W0 W1 := below_step hB0 hn0 hb
  clear hb hB0
  cases hb : bareB 2 n p t s m a
  · have Hb := hide hb
    clear hb
    go_wp2_with fail
    go_ret
    exact ⟨ret_bool (nodeB_bare Hb.out).symm, Hw.out _ hB1⟩
  · have Hb := hide hb
    clear hb
    go_wp2_with (first
    | (go_at_call 11; refine (s_l1In _ _ _ _).mono ?_; rintro e w' ⟨rfl, rfl⟩)
    | (go_at_call 170; refine (s_IsOfType _ _ _).mono ?_; rintro e w' ⟨rfl, rfl⟩)
    | (go_at_call_has 66 s; refine (s_IsValidName s _ Hs.out).mono ?_; rintro e W2 ⟨rfl, hb⟩; have hB2 : Below (w.heap.size + 1) W0 W2 := below_step (by assumption) hn0 hb; clear hb)
    | (go_at_call_has 66 m; refine (s_IsValidName m _ Hm.out).mono ?_; rintro e W3 ⟨rfl, hb⟩; have hB3 : Below (w.heap.size + 1) W0 W3 := below_step (by assumption) hn0 hb; clear hb))
    all_goals
      go_ret
      exact ⟨ret_bool (by have := Hb.out; simp_all [nodeB]), Hw.out _ (by assumption)⟩
set_option maxHeartbeats 4000000 in
theorem s_node_3 (n p t : Int) (s m : ByteArray) (hs : s.size ≤ maxLen) (hm : m.size ≤ maxLen) (A : Option Addr) (a cap : Nat) (w : World) :
    Calls Tryz.prog 158 #[.agg #[.int .i64 3, .int .i64 n, .int .i64 p, .int .i64 t, .string s, .string m, .slice A a cap]] w fun en w' => en = .returned (.bool (nodeB 3 n p t s m a)) ∧ Below w.heap.size w w' := by
  have Hs := hide hs
  have Hm := hide hm
  clear hs hm
  have hin : inR 3 1 8 = true := inR_yes (by omega)
  obtain ⟨C, hz0, hw0⟩ := boxes1 w [.int .i64 3, .int .i64 n, .int .i64 p, .int .i64 t, .string s, .string m, .slice A a cap] 86
  go_enter Tryz.func158, Tryz.ntmps158
  go_wp2_with (go_at_call 11; refine (s_l1In _ _ _ _).mono ?_; rintro e w' ⟨rfl, rfl⟩)
  generalize w.alloc (Obj.cells #[.int .i64 3, .int .i64 n, .int .i64 p, .int .i64 t, .string s, .string m, .slice A a cap] 86) = W0 at C hz0 hw0 ⊢
  have hn0 : w.heap.size + 1 ≤ W0.heap.size := by omega
  have Hw : Hid (∀ W : World, Below (w.heap.size + 1) W0 W → Below w.heap.size w W) := hide fun W h => hw0.trans (h.mono (by omega))
  have hB0 : Below (w.heap.size + 1) W0 W0 := Below.refl _ _
  have e0 := cell_rule C (n := w.heap.size + 1) (by omega) 0 (v := .int .i64 3) rfl
  have e1 := cell_rule C (n := w.heap.size + 1) (by omega) 1 (v := .int .i64 n) rfl
  have e2 := cell_rule C (n := w.heap.size + 1) (by omega) 2 (v := .int .i64 p) rfl
  have e3 := cell_rule C (n := w.heap.size + 1) (by omega) 3 (v := .int .i64 t) rfl
  have e4 := cell_rule C (n := w.heap.size + 1) (by omega) 4 (v := .string s) rfl
  have e5 := cell_rule C (n := w.heap.size + 1) (by omega) 5 (v := .string m) rfl
  have e6 := cell_rule C (n := w.heap.size + 1) (by omega) 6 (v := .slice A a cap) rfl
  clear C hz0 hw0
  refine (s_bare_3 n p t s m A a cap W0).mono ?_
  rintro e W1 ⟨rfl, hb⟩
  have hB1 : Below (w.heap.size + 1) W0 W1 := below_step hB0 hn0 hb
  clear hb hB0
  cases hb : bareB 3 n p t s m a
  · have Hb := hide hb
    clear hb
    go_wp2_with fail
    go_ret
    exact ⟨ret_bool (nodeB_bare Hb.out).symm, Hw.out _ hB1⟩
  · have Hb := hide hb
    clear hb
    go_wp2_with (first
    | (go_at_call 11; refine (s_l1In _ _ _ _).mono ?_; rintro e w' ⟨rfl, rfl⟩)
    | (go_at_call 170; refine (s_IsOfType _ _ _).mono ?_; rintro e w' ⟨rfl, rfl⟩)
    | (go_at_call_has 66 s; refine (s_IsValidName s _ Hs.out).mono ?_; rintro e W2 ⟨rfl, hb⟩; have hB2 : Below (w.heap.size + 1) W0 W2 := below_step (by assumption) hn0 hb; clear hb)
    | (go_at_call_has 66 m; refine (s_IsValidName m _ Hm.out).mono ?_; rintro e W3 ⟨rfl, hb⟩; have hB3 : Below (w.heap.size + 1) W0 W3 := below_step (by assumption) hn0 hb; clear hb))
    all_goals
      go_ret
      exact ⟨ret_bool (by have := Hb.out; simp_all [nodeB]), Hw.out _ (by assumption)⟩
set_option maxHeartbeats 4000000 in
theorem s_node_4 (n p t : Int) (s m : ByteArray) (hs : s.size ≤ maxLen) (hm : m.size ≤ maxLen) (A : Option Addr) (a cap : Nat) (w : World) :
    Calls Tryz.prog 158 #[.agg #[.int .i64 4, .int .i64 n, .int .i64 p, .int .i64 t, .string s, .string m, .slice A a cap]] w fun en w' => en = .returned (.bool (nodeB 4 n p t s m a)) ∧ Below w.heap.size w w' := by
  have Hs := hide hs
  have Hm := hide hm
  clear hs hm
  have hin : inR 4 1 8 = true := inR_yes (by omega)
  obtain ⟨C, hz0, hw0⟩ := boxes1 w [.int .i64 4, .int .i64 n, .int .i64 p, .int .i64 t, .string s, .string m, .slice A a cap] 86
  go_enter Tryz.func158, Tryz.ntmps158
  go_wp2_with (go_at_call 11; refine (s_l1In _ _ _ _).mono ?_; rintro e w' ⟨rfl, rfl⟩)
  generalize w.alloc (Obj.cells #[.int .i64 4, .int .i64 n, .int .i64 p, .int .i64 t, .string s, .string m, .slice A a cap] 86) = W0 at C hz0 hw0 ⊢
  have hn0 : w.heap.size + 1 ≤ W0.heap.size := by omega
  have Hw : Hid (∀ W : World, Below (w.heap.size + 1) W0 W → Below w.heap.size w W) := hide fun W h => hw0.trans (h.mono (by omega))
  have hB0 : Below (w.heap.size + 1) W0 W0 := Below.refl _ _
  have e0 := cell_rule C (n := w.heap.size + 1) (by omega) 0 (v := .int .i64 4) rfl
  have e1 := cell_rule C (n := w.heap.size + 1) (by omega) 1 (v := .int .i64 n) rfl
  have e2 := cell_rule C (n := w.heap.size + 1) (by omega) 2 (v := .int .i64 p) rfl
  have e3 := cell_rule C (n := w.heap.size + 1) (by omega) 3 (v := .int .i64 t) rfl
  have e4 := cell_rule C (n := w.heap.size + 1) (by omega) 4 (v := .string s) rfl
  have e5 := cell_rule C (n := w.heap.size + 1) (by omega) 5 (v := .string m) rfl
  have e6 := cell_rule C (n := w.heap.size + 1) (by omega) 6 (v := .slice A a cap) rfl
  clear C hz0 hw0
  refine (s_bare_4 n p t s m A a cap W0).mono ?_
  rintro e W1 ⟨rfl, hb⟩
  have hB1 : Below (w.heap.size + 1) W0 W1 := below_step hB0 hn0 hb
  clear hb hB0
  cases hb : bareB 4 n p t s m a
  · have Hb := hide hb
    clear hb
    go_wp2_with fail
    go_ret
    exact ⟨ret_bool (nodeB_bare Hb.out).symm, Hw.out _ hB1⟩
  · have Hb := hide hb
    clear hb
    go_wp2_with (first
    | (go_at_call 11; refine (s_l1In _ _ _ _).mono ?_; rintro e w' ⟨rfl, rfl⟩)
    | (go_at_call 170; refine (s_IsOfType _ _ _).mono ?_; rintro e w' ⟨rfl, rfl⟩)
    | (go_at_call_has 66 s; refine (s_IsValidName s _ Hs.out).mono ?_; rintro e W2 ⟨rfl, hb⟩; have hB2 : Below (w.heap.size + 1) W0 W2 := below_step (by assumption) hn0 hb; clear hb)
    | (go_at_call_has 66 m; refine (s_IsValidName m _ Hm.out).mono ?_; rintro e W3 ⟨rfl, hb⟩; have hB3 : Below (w.heap.size + 1) W0 W3 := below_step (by assumption) hn0 hb; clear hb))
    all_goals
      go_ret
      exact ⟨ret_bool (by have := Hb.out; simp_all [nodeB]), Hw.out _ (by assumption)⟩
set_option maxHeartbeats 4000000 in
theorem s_node_5 (n p t : Int) (s m : ByteArray) (hs : s.size ≤ maxLen) (hm : m.size ≤ maxLen) (A : Option Addr) (a cap : Nat) (w : World) :
    Calls Tryz.prog 158 #[.agg #[.int .i64 5, .int .i64 n, .int .i64 p, .int .i64 t, .string s, .string m, .slice A a cap]] w fun en w' => en = .returned (.bool (nodeB 5 n p t s m a)) ∧ Below w.heap.size w w' := by
  have Hs := hide hs
  have Hm := hide hm
  clear hs hm
  have hin : inR 5 1 8 = true := inR_yes (by omega)
  obtain ⟨C, hz0, hw0⟩ := boxes1 w [.int .i64 5, .int .i64 n, .int .i64 p, .int .i64 t, .string s, .string m, .slice A a cap] 86
  go_enter Tryz.func158, Tryz.ntmps158
  go_wp2_with (go_at_call 11; refine (s_l1In _ _ _ _).mono ?_; rintro e w' ⟨rfl, rfl⟩)
  generalize w.alloc (Obj.cells #[.int .i64 5, .int .i64 n, .int .i64 p, .int .i64 t, .string s, .string m, .slice A a cap] 86) = W0 at C hz0 hw0 ⊢
  have hn0 : w.heap.size + 1 ≤ W0.heap.size := by omega
  have Hw : Hid (∀ W : World, Below (w.heap.size + 1) W0 W → Below w.heap.size w W) := hide fun W h => hw0.trans (h.mono (by omega))
  have hB0 : Below (w.heap.size + 1) W0 W0 := Below.refl _ _
  have e0 := cell_rule C (n := w.heap.size + 1) (by omega) 0 (v := .int .i64 5) rfl
  have e1 := cell_rule C (n := w.heap.size + 1) (by omega) 1 (v := .int .i64 n) rfl
  have e2 := cell_rule C (n := w.heap.size + 1) (by omega) 2 (v := .int .i64 p) rfl
  have e3 := cell_rule C (n := w.heap.size + 1) (by omega) 3 (v := .int .i64 t) rfl
  have e4 := cell_rule C (n := w.heap.size + 1) (by omega) 4 (v := .string s) rfl
  have e5 := cell_rule C (n := w.heap.size + 1) (by omega) 5 (v := .string m) rfl
  have e6 := cell_rule C (n := w.heap.size + 1) (by omega) 6 (v := .slice A a cap) rfl
  clear C hz0 hw0
  refine (s_bare_5 n p t s m A a cap W0).mono ?_
  rintro e W1 ⟨rfl, hb⟩
  have hB1 : Below (w.heap.size + 1) W0 W1 := below_step hB0 hn0 hb
  clear hb hB0
  cases hb : bareB 5 n p t s m a
  · have Hb := hide hb
    clear hb
    go_wp2_with fail
    go_ret
    exact ⟨ret_bool (nodeB_bare Hb.out).symm, Hw.out _ hB1⟩
  · have Hb := hide hb
    clear hb
    go_wp2_with (first
    | (go_at_call 11; refine (s_l1In _ _ _ _).mono ?_; rintro e w' ⟨rfl, rfl⟩)
    | (go_at_call 170; refine (s_IsOfType _ _ _).mono ?_; rintro e w' ⟨rfl, rfl⟩)
    | (go_at_call_has 66 s; refine (s_IsValidName s _ Hs.out).mono ?_; rintro e W2 ⟨rfl, hb⟩; have hB2 : Below (w.heap.size + 1) W0 W2 := below_step (by assumption) hn0 hb; clear hb)
    | (go_at_call_has 66 m; refine (s_IsValidName m _ Hm.out).mono ?_; rintro e W3 ⟨rfl, hb⟩; have hB3 : Below (w.heap.size + 1) W0 W3 := below_step (by assumption) hn0 hb; clear hb))
    all_goals
      go_ret
      exact ⟨ret_bool (by have := Hb.out; simp_all [nodeB]), Hw.out _ (by assumption)⟩
set_option maxHeartbeats 4000000 in
theorem s_node_6 (n p t : Int) (s m : ByteArray) (hs : s.size ≤ maxLen) (hm : m.size ≤ maxLen) (A : Option Addr) (a cap : Nat) (w : World) :
    Calls Tryz.prog 158 #[.agg #[.int .i64 6, .int .i64 n, .int .i64 p, .int .i64 t, .string s, .string m, .slice A a cap]] w fun en w' => en = .returned (.bool (nodeB 6 n p t s m a)) ∧ Below w.heap.size w w' := by
  have Hs := hide hs
  have Hm := hide hm
  clear hs hm
  have hin : inR 6 1 8 = true := inR_yes (by omega)
  obtain ⟨C, hz0, hw0⟩ := boxes1 w [.int .i64 6, .int .i64 n, .int .i64 p, .int .i64 t, .string s, .string m, .slice A a cap] 86
  go_enter Tryz.func158, Tryz.ntmps158
  go_wp2_with (go_at_call 11; refine (s_l1In _ _ _ _).mono ?_; rintro e w' ⟨rfl, rfl⟩)
  generalize w.alloc (Obj.cells #[.int .i64 6, .int .i64 n, .int .i64 p, .int .i64 t, .string s, .string m, .slice A a cap] 86) = W0 at C hz0 hw0 ⊢
  have hn0 : w.heap.size + 1 ≤ W0.heap.size := by omega
  have Hw : Hid (∀ W : World, Below (w.heap.size + 1) W0 W → Below w.heap.size w W) := hide fun W h => hw0.trans (h.mono (by omega))
  have hB0 : Below (w.heap.size + 1) W0 W0 := Below.refl _ _
  have e0 := cell_rule C (n := w.heap.size + 1) (by omega) 0 (v := .int .i64 6) rfl
  have e1 := cell_rule C (n := w.heap.size + 1) (by omega) 1 (v := .int .i64 n) rfl
  have e2 := cell_rule C (n := w.heap.size + 1) (by omega) 2 (v := .int .i64 p) rfl
  have e3 := cell_rule C (n := w.heap.size + 1) (by omega) 3 (v := .int .i64 t) rfl
  have e4 := cell_rule C (n := w.heap.size + 1) (by omega) 4 (v := .string s) rfl
  have e5 := cell_rule C (n := w.heap.size + 1) (by omega) 5 (v := .string m) rfl
  have e6 := cell_rule C (n := w.heap.size + 1) (by omega) 6 (v := .slice A a cap) rfl
  clear C hz0 hw0
  refine (s_bare_6 n p t s m A a cap W0).mono ?_
  rintro e W1 ⟨rfl, hb⟩
  have hB1 : Below (w.heap.size + 1) W0 W1 := below_step hB0 hn0 hb
  clear hb hB0
  cases hb : bareB 6 n p t s m a
  · have Hb := hide hb
    clear hb
    go_wp2_with fail
    go_ret
    exact ⟨ret_bool (nodeB_bare Hb.out).symm, Hw.out _ hB1⟩
  · have Hb := hide hb
    clear hb
    go_wp2_with (first
    | (go_at_call 11; refine (s_l1In _ _ _ _).mono ?_; rintro e w' ⟨rfl, rfl⟩)
    | (go_at_call 170; refine (s_IsOfType _ _ _).mono ?_; rintro e w' ⟨rfl, rfl⟩)
    | (go_at_call_has 66 s; refine (s_IsValidName s _ Hs.out).mono ?_; rintro e W2 ⟨rfl, hb⟩; have hB2 : Below (w.heap.size + 1) W0 W2 := below_step (by assumption) hn0 hb; clear hb)
    | (go_at_call_has 66 m; refine (s_IsValidName m _ Hm.out).mono ?_; rintro e W3 ⟨rfl, hb⟩; have hB3 : Below (w.heap.size + 1) W0 W3 := below_step (by assumption) hn0 hb; clear hb))
    all_goals
      go_ret
      exact ⟨ret_bool (by have := Hb.out; simp_all [nodeB]), Hw.out _ (by assumption)⟩
set_option maxHeartbeats 4000000 in
theorem s_node_7 (n p t : Int) (s m : ByteArray) (hs : s.size ≤ maxLen) (hm : m.size ≤ maxLen) (A : Option Addr) (a cap : Nat) (w : World) :
    Calls Tryz.prog 158 #[.agg #[.int .i64 7, .int .i64 n, .int .i64 p, .int .i64 t, .string s, .string m, .slice A a cap]] w fun en w' => en = .returned (.bool (nodeB 7 n p t s m a)) ∧ Below w.heap.size w w' := by
  have Hs := hide hs
  have Hm := hide hm
  clear hs hm
  have hin : inR 7 1 8 = true := inR_yes (by omega)
  obtain ⟨C, hz0, hw0⟩ := boxes1 w [.int .i64 7, .int .i64 n, .int .i64 p, .int .i64 t, .string s, .string m, .slice A a cap] 86
  go_enter Tryz.func158, Tryz.ntmps158
  go_wp2_with (go_at_call 11; refine (s_l1In _ _ _ _).mono ?_; rintro e w' ⟨rfl, rfl⟩)
  generalize w.alloc (Obj.cells #[.int .i64 7, .int .i64 n, .int .i64 p, .int .i64 t, .string s, .string m, .slice A a cap] 86) = W0 at C hz0 hw0 ⊢
  have hn0 : w.heap.size + 1 ≤ W0.heap.size := by omega
  have Hw : Hid (∀ W : World, Below (w.heap.size + 1) W0 W → Below w.heap.size w W) := hide fun W h => hw0.trans (h.mono (by omega))
  have hB0 : Below (w.heap.size + 1) W0 W0 := Below.refl _ _
  have e0 := cell_rule C (n := w.heap.size + 1) (by omega) 0 (v := .int .i64 7) rfl
  have e1 := cell_rule C (n := w.heap.size + 1) (by omega) 1 (v := .int .i64 n) rfl
  have e2 := cell_rule C (n := w.heap.size + 1) (by omega) 2 (v := .int .i64 p) rfl
  have e3 := cell_rule C (n := w.heap.size + 1) (by omega) 3 (v := .int .i64 t) rfl
  have e4 := cell_rule C (n := w.heap.size + 1) (by omega) 4 (v := .string s) rfl
  have e5 := cell_rule C (n := w.heap.size + 1) (by omega) 5 (v := .string m) rfl
  have e6 := cell_rule C (n := w.heap.size + 1) (by omega) 6 (v := .slice A a cap) rfl
  clear C hz0 hw0
  refine (s_bare_7 n p t s m A a cap W0).mono ?_
  rintro e W1 ⟨rfl, hb⟩
  have hB1 : Below (w.heap.size + 1) W0 W1 := below_step hB0 hn0 hb
  clear hb hB0
  cases hb : bareB 7 n p t s m a
  · have Hb := hide hb
    clear hb
    go_wp2_with fail
    go_ret
    exact ⟨ret_bool (nodeB_bare Hb.out).symm, Hw.out _ hB1⟩
  · have Hb := hide hb
    clear hb
    go_wp2_with (first
    | (go_at_call 11; refine (s_l1In _ _ _ _).mono ?_; rintro e w' ⟨rfl, rfl⟩)
    | (go_at_call 170; refine (s_IsOfType _ _ _).mono ?_; rintro e w' ⟨rfl, rfl⟩)
    | (go_at_call_has 66 s; refine (s_IsValidName s _ Hs.out).mono ?_; rintro e W2 ⟨rfl, hb⟩; have hB2 : Below (w.heap.size + 1) W0 W2 := below_step (by assumption) hn0 hb; clear hb)
    | (go_at_call_has 66 m; refine (s_IsValidName m _ Hm.out).mono ?_; rintro e W3 ⟨rfl, hb⟩; have hB3 : Below (w.heap.size + 1) W0 W3 := below_step (by assumption) hn0 hb; clear hb))
    all_goals
      go_ret
      exact ⟨ret_bool (by have := Hb.out; simp_all [nodeB]), Hw.out _ (by assumption)⟩
set_option maxHeartbeats 4000000 in
theorem s_node_8 (n p t : Int) (s m : ByteArray) (hs : s.size ≤ maxLen) (hm : m.size ≤ maxLen) (A : Option Addr) (a cap : Nat) (w : World) :
    Calls Tryz.prog 158 #[.agg #[.int .i64 8, .int .i64 n, .int .i64 p, .int .i64 t, .string s, .string m, .slice A a cap]] w fun en w' => en = .returned (.bool (nodeB 8 n p t s m a)) ∧ Below w.heap.size w w' := by
  have Hs := hide hs
  have Hm := hide hm
  clear hs hm
  have hin : inR 8 1 8 = true := inR_yes (by omega)
  obtain ⟨C, hz0, hw0⟩ := boxes1 w [.int .i64 8, .int .i64 n, .int .i64 p, .int .i64 t, .string s, .string m, .slice A a cap] 86
  go_enter Tryz.func158, Tryz.ntmps158
  go_wp2_with (go_at_call 11; refine (s_l1In _ _ _ _).mono ?_; rintro e w' ⟨rfl, rfl⟩)
  generalize w.alloc (Obj.cells #[.int .i64 8, .int .i64 n, .int .i64 p, .int .i64 t, .string s, .string m, .slice A a cap] 86) = W0 at C hz0 hw0 ⊢
  have hn0 : w.heap.size + 1 ≤ W0.heap.size := by omega
  have Hw : Hid (∀ W : World, Below (w.heap.size + 1) W0 W → Below w.heap.size w W) := hide fun W h => hw0.trans (h.mono (by omega))
  have hB0 : Below (w.heap.size + 1) W0 W0 := Below.refl _ _
  have e0 := cell_rule C (n := w.heap.size + 1) (by omega) 0 (v := .int .i64 8) rfl
  have e1 := cell_rule C (n := w.heap.size + 1) (by omega) 1 (v := .int .i64 n) rfl
  have e2 := cell_rule C (n := w.heap.size + 1) (by omega) 2 (v := .int .i64 p) rfl
  have e3 := cell_rule C (n := w.heap.size + 1) (by omega) 3 (v := .int .i64 t) rfl
  have e4 := cell_rule C (n := w.heap.size + 1) (by omega) 4 (v := .string s) rfl
  have e5 := cell_rule C (n := w.heap.size + 1) (by omega) 5 (v := .string m) rfl
  have e6 := cell_rule C (n := w.heap.size + 1) (by omega) 6 (v := .slice A a cap) rfl
  clear C hz0 hw0
  refine (s_bare_8 n p t s m A a cap W0).mono ?_
  rintro e W1 ⟨rfl, hb⟩
  have hB1 : Below (w.heap.size + 1) W0 W1 := below_step hB0 hn0 hb
  clear hb hB0
  cases hb : bareB 8 n p t s m a
  · have Hb := hide hb
    clear hb
    go_wp2_with fail
    go_ret
    exact ⟨ret_bool (nodeB_bare Hb.out).symm, Hw.out _ hB1⟩
  · have Hb := hide hb
    clear hb
    go_wp2_with (first
    | (go_at_call 11; refine (s_l1In _ _ _ _).mono ?_; rintro e w' ⟨rfl, rfl⟩)
    | (go_at_call 170; refine (s_IsOfType _ _ _).mono ?_; rintro e w' ⟨rfl, rfl⟩)
    | (go_at_call_has 66 s; refine (s_IsValidName s _ Hs.out).mono ?_; rintro e W2 ⟨rfl, hb⟩; have hB2 : Below (w.heap.size + 1) W0 W2 := below_step (by assumption) hn0 hb; clear hb)
    | (go_at_call_has 66 m; refine (s_IsValidName m _ Hm.out).mono ?_; rintro e W3 ⟨rfl, hb⟩; have hB3 : Below (w.heap.size + 1) W0 W3 := below_step (by assumption) hn0 hb; clear hb))
    all_goals
      go_ret
      exact ⟨ret_bool (by have := Hb.out; simp_all [nodeB]), Hw.out _ (by assumption)⟩
end Go.Proofs.YthlhhnnlbpecnaaGreat
