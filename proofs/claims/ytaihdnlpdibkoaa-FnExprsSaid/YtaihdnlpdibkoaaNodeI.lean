/- Nodes of expressions: what makes one valid in the program. Conditions: none beyond that the node can be read. -/
import Derived.Test.YtaihdnlpdibkoaaNode
import Derived.RegionTactic
import Derived.ChangeAlike
namespace Go.Proofs.Ytaihdnlpdibkoaa
set_option maxRecDepth 100000
open Go.RowKit Go.WideShapes
set_option linter.unusedVariables false

theorem s_l4Node (k n p t : Int) (s m : ByteArray) (hs : s.size ≤ maxLen) (hm : m.size ≤ maxLen) (A : Option Addr) (a cap : Nat) (w : World) :
    Calls Try.prog 105 #[.agg #[.int .i64 k, .int .i64 n, .int .i64 p, .int .i64 t, .string s, .string m, .slice A a cap]] w fun en w' => en = .returned (.bool (nodeB k n p t s m a)) ∧ Below w.heap.size w w' := by
  by_cases h : 1 ≤ k ∧ k ≤ 8
  · have h' : k = 1 ∨ k = 2 ∨ k = 3 ∨ k = 4 ∨ k = 5 ∨ k = 6 ∨ k = 7 ∨ k = 8 := by omega
    rcases h' with rfl | rfl | rfl | rfl | rfl | rfl | rfl | rfl
    · exact s_node_1 n p t s m hs hm A a cap w
    · exact s_node_2 n p t s m hs hm A a cap w
    · exact s_node_3 n p t s m hs hm A a cap w
    · exact s_node_4 n p t s m hs hm A a cap w
    · exact s_node_5 n p t s m hs hm A a cap w
    · exact s_node_6 n p t s m hs hm A a cap w
    · exact s_node_7 n p t s m hs hm A a cap w
    · exact s_node_8 n p t s m hs hm A a cap w
  · rw [nodeB_out h]
    exact s_node_out k n p t s m A a cap w h
theorem ofT_range {n t : Int} (h : ofT n t = true) : 1 ≤ t ∧ t ≤ 4 := by unfold ofT at h; simp at h; omega
set_option maxRecDepth 100000 in
set_option maxHeartbeats 8000000 in
theorem i_node_1 (n p t : Int) (s m : ByteArray) (hs : s.size ≤ maxLen) (hm : m.size ≤ maxLen) (A : Option Addr) (a cap : Nat) (w : World) :
    Calls Try.prog 69 #[.agg #[.int .i64 1, .int .i64 n, .int .i64 p, .int .i64 t, .string s, .string m, .slice A a cap]] w fun en w' => en = .returned (.bool (nodeB 1 n p t s m a)) ∧ Below w.heap.size w w' := by
  have Hs := hide hs
  have Hm := hide hm
  clear hs hm
  go_enter Try.func69, Try.ntmps69
  go_wp2_with (first
    | (go_at_call 103; refine (i_within _ _ _ _).mono ?_; rintro e w' ⟨rfl, rfl⟩)
    | (go_at_call 101; refine (i_IsOfType _ _ _).mono ?_; rintro e w' ⟨rfl, rfl⟩)
    | (go_at_call_has 102 s; refine (i_IsValidName s _ Hs.out).mono ?_; rintro e W2 ⟨rfl, rfl⟩)
    | (go_at_call_has 102 m; refine (i_IsValidName m _ Hm.out).mono ?_; rintro e W3 ⟨rfl, rfl⟩)
    | (go_at_call 73; go_in))
  go_region
  all_goals go_wp2_with (first
    | (go_at_call 103; refine (i_within _ _ _ _).mono ?_; rintro e w' ⟨rfl, rfl⟩)
    | (go_at_call 101; refine (i_IsOfType _ _ _).mono ?_; rintro e w' ⟨rfl, rfl⟩)
    | (go_at_call_has 102 s; refine (i_IsValidName s _ Hs.out).mono ?_; rintro e W2 ⟨rfl, rfl⟩)
    | (go_at_call_has 102 m; refine (i_IsValidName m _ Hm.out).mono ?_; rintro e W3 ⟨rfl, rfl⟩)
    | (go_at_call 73; go_in))
  all_goals go_ret
  all_goals refine ⟨ret_bool ?_, by (repeat (first | exact Below.refl _ _ | apply Below.drew | (refine Below.alloc ?_ (by first | (simp; done) | (simp; omega)) _) | (refine Below.setCell ?_ (by first | (simp; done) | (simp; omega)) _)))⟩
  all_goals clear Hs Hm
  all_goals (try simp only [Int.not_lt, Int.not_le, beq_iff_eq, bne_iff_ne, ne_eq, beq_eq_false_iff_ne, bne_eq_false_iff_eq, Bool.not_eq_true', Bool.not_eq_false', Bool.not_eq_true, Bool.not_eq_false] at *)
  all_goals first
    | (simp_all [nodeB, bareB, emp, inR]; done)
    | (simp_all [nodeB, bareB, emp, inR]; omega)
    | (have hr := ofT_range (n := n) (t := t) (by assumption); simp_all [nodeB, bareB, emp, inR]; omega)
    | (have hr := ofT_range (n := n) (t := t) (by assumption); simp_all [nodeB, bareB, emp, inR]; done)
    | (intros; simp_all [nodeB, bareB, emp, inR]; intros; omega)
set_option maxRecDepth 100000 in
set_option maxHeartbeats 8000000 in
theorem i_node_2 (n p t : Int) (s m : ByteArray) (hs : s.size ≤ maxLen) (hm : m.size ≤ maxLen) (A : Option Addr) (a cap : Nat) (w : World) :
    Calls Try.prog 69 #[.agg #[.int .i64 2, .int .i64 n, .int .i64 p, .int .i64 t, .string s, .string m, .slice A a cap]] w fun en w' => en = .returned (.bool (nodeB 2 n p t s m a)) ∧ Below w.heap.size w w' := by
  have Hs := hide hs
  have Hm := hide hm
  clear hs hm
  go_enter Try.func69, Try.ntmps69
  go_wp2_with (first
    | (go_at_call 103; refine (i_within _ _ _ _).mono ?_; rintro e w' ⟨rfl, rfl⟩)
    | (go_at_call 101; refine (i_IsOfType _ _ _).mono ?_; rintro e w' ⟨rfl, rfl⟩)
    | (go_at_call_has 102 s; refine (i_IsValidName s _ Hs.out).mono ?_; rintro e W2 ⟨rfl, rfl⟩)
    | (go_at_call_has 102 m; refine (i_IsValidName m _ Hm.out).mono ?_; rintro e W3 ⟨rfl, rfl⟩)
    | (go_at_call 73; go_in))
  all_goals go_ret
  all_goals refine ⟨ret_bool ?_, by (repeat (first | exact Below.refl _ _ | apply Below.drew | (refine Below.alloc ?_ (by first | (simp; done) | (simp; omega)) _) | (refine Below.setCell ?_ (by first | (simp; done) | (simp; omega)) _)))⟩
  all_goals clear Hs Hm
  all_goals (try simp only [Int.not_lt, Int.not_le, beq_iff_eq, bne_iff_ne, ne_eq, beq_eq_false_iff_ne, bne_eq_false_iff_eq, Bool.not_eq_true', Bool.not_eq_false', Bool.not_eq_true, Bool.not_eq_false] at *)
  all_goals first
    | (simp_all [nodeB, bareB, emp, inR]; done)
    | (simp_all [nodeB, bareB, emp, inR]; omega)
    | (have hr := ofT_range (n := n) (t := t) (by assumption); simp_all [nodeB, bareB, emp, inR]; omega)
    | (have hr := ofT_range (n := n) (t := t) (by assumption); simp_all [nodeB, bareB, emp, inR]; done)
    | (intros; simp_all [nodeB, bareB, emp, inR]; intros; omega)
set_option maxRecDepth 100000 in
set_option maxHeartbeats 8000000 in
theorem i_node_3 (n p t : Int) (s m : ByteArray) (hs : s.size ≤ maxLen) (hm : m.size ≤ maxLen) (A : Option Addr) (a cap : Nat) (w : World) :
    Calls Try.prog 69 #[.agg #[.int .i64 3, .int .i64 n, .int .i64 p, .int .i64 t, .string s, .string m, .slice A a cap]] w fun en w' => en = .returned (.bool (nodeB 3 n p t s m a)) ∧ Below w.heap.size w w' := by
  have Hs := hide hs
  have Hm := hide hm
  clear hs hm
  go_enter Try.func69, Try.ntmps69
  go_wp2_with (first
    | (go_at_call 103; refine (i_within _ _ _ _).mono ?_; rintro e w' ⟨rfl, rfl⟩)
    | (go_at_call 101; refine (i_IsOfType _ _ _).mono ?_; rintro e w' ⟨rfl, rfl⟩)
    | (go_at_call_has 102 s; refine (i_IsValidName s _ Hs.out).mono ?_; rintro e W2 ⟨rfl, rfl⟩)
    | (go_at_call_has 102 m; refine (i_IsValidName m _ Hm.out).mono ?_; rintro e W3 ⟨rfl, rfl⟩)
    | (go_at_call 73; go_in))
  go_region
  all_goals go_wp2_with (first
    | (go_at_call 103; refine (i_within _ _ _ _).mono ?_; rintro e w' ⟨rfl, rfl⟩)
    | (go_at_call 101; refine (i_IsOfType _ _ _).mono ?_; rintro e w' ⟨rfl, rfl⟩)
    | (go_at_call_has 102 s; refine (i_IsValidName s _ Hs.out).mono ?_; rintro e W2 ⟨rfl, rfl⟩)
    | (go_at_call_has 102 m; refine (i_IsValidName m _ Hm.out).mono ?_; rintro e W3 ⟨rfl, rfl⟩)
    | (go_at_call 73; go_in))
  all_goals go_ret
  all_goals refine ⟨ret_bool ?_, by (repeat (first | exact Below.refl _ _ | apply Below.drew | (refine Below.alloc ?_ (by first | (simp; done) | (simp; omega)) _) | (refine Below.setCell ?_ (by first | (simp; done) | (simp; omega)) _)))⟩
  all_goals clear Hs Hm
  all_goals (try simp only [Int.not_lt, Int.not_le, beq_iff_eq, bne_iff_ne, ne_eq, beq_eq_false_iff_ne, bne_eq_false_iff_eq, Bool.not_eq_true', Bool.not_eq_false', Bool.not_eq_true, Bool.not_eq_false] at *)
  all_goals first
    | (simp_all [nodeB, bareB, emp, inR]; done)
    | (simp_all [nodeB, bareB, emp, inR]; omega)
    | (have hr := ofT_range (n := n) (t := t) (by assumption); simp_all [nodeB, bareB, emp, inR]; omega)
    | (have hr := ofT_range (n := n) (t := t) (by assumption); simp_all [nodeB, bareB, emp, inR]; done)
    | (intros; simp_all [nodeB, bareB, emp, inR]; intros; omega)
set_option maxRecDepth 100000 in
set_option maxHeartbeats 8000000 in
theorem i_node_4 (n p t : Int) (s m : ByteArray) (hs : s.size ≤ maxLen) (hm : m.size ≤ maxLen) (A : Option Addr) (a cap : Nat) (w : World) :
    Calls Try.prog 69 #[.agg #[.int .i64 4, .int .i64 n, .int .i64 p, .int .i64 t, .string s, .string m, .slice A a cap]] w fun en w' => en = .returned (.bool (nodeB 4 n p t s m a)) ∧ Below w.heap.size w w' := by
  have Hs := hide hs
  have Hm := hide hm
  clear hs hm
  go_enter Try.func69, Try.ntmps69
  go_wp2_with (first
    | (go_at_call 103; refine (i_within _ _ _ _).mono ?_; rintro e w' ⟨rfl, rfl⟩)
    | (go_at_call 101; refine (i_IsOfType _ _ _).mono ?_; rintro e w' ⟨rfl, rfl⟩)
    | (go_at_call_has 102 s; refine (i_IsValidName s _ Hs.out).mono ?_; rintro e W2 ⟨rfl, rfl⟩)
    | (go_at_call_has 102 m; refine (i_IsValidName m _ Hm.out).mono ?_; rintro e W3 ⟨rfl, rfl⟩)
    | (go_at_call 73; go_in))
  all_goals go_ret
  all_goals refine ⟨ret_bool ?_, by (repeat (first | exact Below.refl _ _ | apply Below.drew | (refine Below.alloc ?_ (by first | (simp; done) | (simp; omega)) _) | (refine Below.setCell ?_ (by first | (simp; done) | (simp; omega)) _)))⟩
  all_goals clear Hs Hm
  all_goals (try simp only [Int.not_lt, Int.not_le, beq_iff_eq, bne_iff_ne, ne_eq, beq_eq_false_iff_ne, bne_eq_false_iff_eq, Bool.not_eq_true', Bool.not_eq_false', Bool.not_eq_true, Bool.not_eq_false] at *)
  all_goals first
    | (simp_all [nodeB, bareB, emp, inR]; done)
    | (simp_all [nodeB, bareB, emp, inR]; omega)
    | (have hr := ofT_range (n := n) (t := t) (by assumption); simp_all [nodeB, bareB, emp, inR]; omega)
    | (have hr := ofT_range (n := n) (t := t) (by assumption); simp_all [nodeB, bareB, emp, inR]; done)
    | (intros; simp_all [nodeB, bareB, emp, inR]; intros; omega)
set_option maxRecDepth 100000 in
set_option maxHeartbeats 8000000 in
theorem i_node_5 (n p t : Int) (s m : ByteArray) (hs : s.size ≤ maxLen) (hm : m.size ≤ maxLen) (A : Option Addr) (a cap : Nat) (w : World) :
    Calls Try.prog 69 #[.agg #[.int .i64 5, .int .i64 n, .int .i64 p, .int .i64 t, .string s, .string m, .slice A a cap]] w fun en w' => en = .returned (.bool (nodeB 5 n p t s m a)) ∧ Below w.heap.size w w' := by
  have Hs := hide hs
  have Hm := hide hm
  clear hs hm
  go_enter Try.func69, Try.ntmps69
  go_wp2_with (first
    | (go_at_call 103; refine (i_within _ _ _ _).mono ?_; rintro e w' ⟨rfl, rfl⟩)
    | (go_at_call 101; refine (i_IsOfType _ _ _).mono ?_; rintro e w' ⟨rfl, rfl⟩)
    | (go_at_call_has 102 s; refine (i_IsValidName s _ Hs.out).mono ?_; rintro e W2 ⟨rfl, rfl⟩)
    | (go_at_call_has 102 m; refine (i_IsValidName m _ Hm.out).mono ?_; rintro e W3 ⟨rfl, rfl⟩)
    | (go_at_call 73; go_in))
  all_goals go_ret
  all_goals refine ⟨ret_bool ?_, by (repeat (first | exact Below.refl _ _ | apply Below.drew | (refine Below.alloc ?_ (by first | (simp; done) | (simp; omega)) _) | (refine Below.setCell ?_ (by first | (simp; done) | (simp; omega)) _)))⟩
  all_goals clear Hs Hm
  all_goals (try simp only [Int.not_lt, Int.not_le, beq_iff_eq, bne_iff_ne, ne_eq, beq_eq_false_iff_ne, bne_eq_false_iff_eq, Bool.not_eq_true', Bool.not_eq_false', Bool.not_eq_true, Bool.not_eq_false] at *)
  all_goals first
    | (simp_all [nodeB, bareB, emp, inR]; done)
    | (simp_all [nodeB, bareB, emp, inR]; omega)
    | (have hr := ofT_range (n := n) (t := t) (by assumption); simp_all [nodeB, bareB, emp, inR]; omega)
    | (have hr := ofT_range (n := n) (t := t) (by assumption); simp_all [nodeB, bareB, emp, inR]; done)
    | (intros; simp_all [nodeB, bareB, emp, inR]; intros; omega)
set_option maxRecDepth 100000 in
set_option maxHeartbeats 8000000 in
theorem i_node_6 (n p t : Int) (s m : ByteArray) (hs : s.size ≤ maxLen) (hm : m.size ≤ maxLen) (A : Option Addr) (a cap : Nat) (w : World) :
    Calls Try.prog 69 #[.agg #[.int .i64 6, .int .i64 n, .int .i64 p, .int .i64 t, .string s, .string m, .slice A a cap]] w fun en w' => en = .returned (.bool (nodeB 6 n p t s m a)) ∧ Below w.heap.size w w' := by
  have Hs := hide hs
  have Hm := hide hm
  clear hs hm
  go_enter Try.func69, Try.ntmps69
  go_wp2_with (first
    | (go_at_call 103; refine (i_within _ _ _ _).mono ?_; rintro e w' ⟨rfl, rfl⟩)
    | (go_at_call 101; refine (i_IsOfType _ _ _).mono ?_; rintro e w' ⟨rfl, rfl⟩)
    | (go_at_call_has 102 s; refine (i_IsValidName s _ Hs.out).mono ?_; rintro e W2 ⟨rfl, rfl⟩)
    | (go_at_call_has 102 m; refine (i_IsValidName m _ Hm.out).mono ?_; rintro e W3 ⟨rfl, rfl⟩)
    | (go_at_call 73; go_in))
  all_goals go_ret
  all_goals refine ⟨ret_bool ?_, by (repeat (first | exact Below.refl _ _ | apply Below.drew | (refine Below.alloc ?_ (by first | (simp; done) | (simp; omega)) _) | (refine Below.setCell ?_ (by first | (simp; done) | (simp; omega)) _)))⟩
  all_goals clear Hs Hm
  all_goals (try simp only [Int.not_lt, Int.not_le, beq_iff_eq, bne_iff_ne, ne_eq, beq_eq_false_iff_ne, bne_eq_false_iff_eq, Bool.not_eq_true', Bool.not_eq_false', Bool.not_eq_true, Bool.not_eq_false] at *)
  all_goals first
    | (simp_all [nodeB, bareB, emp, inR]; done)
    | (simp_all [nodeB, bareB, emp, inR]; omega)
    | (have hr := ofT_range (n := n) (t := t) (by assumption); simp_all [nodeB, bareB, emp, inR]; omega)
    | (have hr := ofT_range (n := n) (t := t) (by assumption); simp_all [nodeB, bareB, emp, inR]; done)
    | (intros; simp_all [nodeB, bareB, emp, inR]; intros; omega)
set_option maxRecDepth 100000 in
set_option maxHeartbeats 8000000 in
theorem i_node_7 (n p t : Int) (s m : ByteArray) (hs : s.size ≤ maxLen) (hm : m.size ≤ maxLen) (A : Option Addr) (a cap : Nat) (w : World) :
    Calls Try.prog 69 #[.agg #[.int .i64 7, .int .i64 n, .int .i64 p, .int .i64 t, .string s, .string m, .slice A a cap]] w fun en w' => en = .returned (.bool (nodeB 7 n p t s m a)) ∧ Below w.heap.size w w' := by
  have Hs := hide hs
  have Hm := hide hm
  clear hs hm
  go_enter Try.func69, Try.ntmps69
  go_wp2_with (first
    | (go_at_call 103; refine (i_within _ _ _ _).mono ?_; rintro e w' ⟨rfl, rfl⟩)
    | (go_at_call 101; refine (i_IsOfType _ _ _).mono ?_; rintro e w' ⟨rfl, rfl⟩)
    | (go_at_call_has 102 s; refine (i_IsValidName s _ Hs.out).mono ?_; rintro e W2 ⟨rfl, rfl⟩)
    | (go_at_call_has 102 m; refine (i_IsValidName m _ Hm.out).mono ?_; rintro e W3 ⟨rfl, rfl⟩)
    | (go_at_call 73; go_in))
  all_goals go_ret
  all_goals refine ⟨ret_bool ?_, by (repeat (first | exact Below.refl _ _ | apply Below.drew | (refine Below.alloc ?_ (by first | (simp; done) | (simp; omega)) _) | (refine Below.setCell ?_ (by first | (simp; done) | (simp; omega)) _)))⟩
  all_goals clear Hs Hm
  all_goals (try simp only [Int.not_lt, Int.not_le, beq_iff_eq, bne_iff_ne, ne_eq, beq_eq_false_iff_ne, bne_eq_false_iff_eq, Bool.not_eq_true', Bool.not_eq_false', Bool.not_eq_true, Bool.not_eq_false] at *)
  all_goals first
    | (simp_all [nodeB, bareB, emp, inR]; done)
    | (simp_all [nodeB, bareB, emp, inR]; omega)
    | (have hr := ofT_range (n := n) (t := t) (by assumption); simp_all [nodeB, bareB, emp, inR]; omega)
    | (have hr := ofT_range (n := n) (t := t) (by assumption); simp_all [nodeB, bareB, emp, inR]; done)
    | (intros; simp_all [nodeB, bareB, emp, inR]; intros; omega)
set_option maxRecDepth 100000 in
set_option maxHeartbeats 8000000 in
theorem i_node_8 (n p t : Int) (s m : ByteArray) (hs : s.size ≤ maxLen) (hm : m.size ≤ maxLen) (A : Option Addr) (a cap : Nat) (w : World) :
    Calls Try.prog 69 #[.agg #[.int .i64 8, .int .i64 n, .int .i64 p, .int .i64 t, .string s, .string m, .slice A a cap]] w fun en w' => en = .returned (.bool (nodeB 8 n p t s m a)) ∧ Below w.heap.size w w' := by
  have Hs := hide hs
  have Hm := hide hm
  clear hs hm
  go_enter Try.func69, Try.ntmps69
  go_wp2_with (first
    | (go_at_call 103; refine (i_within _ _ _ _).mono ?_; rintro e w' ⟨rfl, rfl⟩)
    | (go_at_call 101; refine (i_IsOfType _ _ _).mono ?_; rintro e w' ⟨rfl, rfl⟩)
    | (go_at_call_has 102 s; refine (i_IsValidName s _ Hs.out).mono ?_; rintro e W2 ⟨rfl, rfl⟩)
    | (go_at_call_has 102 m; refine (i_IsValidName m _ Hm.out).mono ?_; rintro e W3 ⟨rfl, rfl⟩)
    | (go_at_call 73; go_in))
  go_region
  all_goals go_wp2_with (first
    | (go_at_call 103; refine (i_within _ _ _ _).mono ?_; rintro e w' ⟨rfl, rfl⟩)
    | (go_at_call 101; refine (i_IsOfType _ _ _).mono ?_; rintro e w' ⟨rfl, rfl⟩)
    | (go_at_call_has 102 s; refine (i_IsValidName s _ Hs.out).mono ?_; rintro e W2 ⟨rfl, rfl⟩)
    | (go_at_call_has 102 m; refine (i_IsValidName m _ Hm.out).mono ?_; rintro e W3 ⟨rfl, rfl⟩)
    | (go_at_call 73; go_in))
  all_goals go_ret
  all_goals refine ⟨ret_bool ?_, by (repeat (first | exact Below.refl _ _ | apply Below.drew | (refine Below.alloc ?_ (by first | (simp; done) | (simp; omega)) _) | (refine Below.setCell ?_ (by first | (simp; done) | (simp; omega)) _)))⟩
  all_goals clear Hs Hm
  all_goals (try simp only [Int.not_lt, Int.not_le, beq_iff_eq, bne_iff_ne, ne_eq, beq_eq_false_iff_ne, bne_eq_false_iff_eq, Bool.not_eq_true', Bool.not_eq_false', Bool.not_eq_true, Bool.not_eq_false] at *)
  all_goals first
    | (simp_all [nodeB, bareB, emp, inR]; done)
    | (simp_all [nodeB, bareB, emp, inR]; omega)
    | (have hr := ofT_range (n := n) (t := t) (by assumption); simp_all [nodeB, bareB, emp, inR]; omega)
    | (have hr := ofT_range (n := n) (t := t) (by assumption); simp_all [nodeB, bareB, emp, inR]; done)
    | (intros; simp_all [nodeB, bareB, emp, inR]; intros; omega)
set_option maxRecDepth 100000 in
theorem i_node_out (k n p t : Int) (s m : ByteArray) (A : Option Addr) (a cap : Nat) (w : World) (h : ¬ (1 ≤ k ∧ k ≤ 8)) :
    Calls Try.prog 69 #[.agg #[.int .i64 k, .int .i64 n, .int .i64 p, .int .i64 t, .string s, .string m, .slice A a cap]] w fun en w' => en = .returned (.bool false) ∧ Below w.heap.size w w' := by
  have h1 : (k == 1) = false := by rw [beq_eq_false_iff_ne]; omega
  have h2 : (k == 2) = false := by rw [beq_eq_false_iff_ne]; omega
  have h3 : (k == 3) = false := by rw [beq_eq_false_iff_ne]; omega
  have h4 : (k == 4) = false := by rw [beq_eq_false_iff_ne]; omega
  have h5 : (k == 5) = false := by rw [beq_eq_false_iff_ne]; omega
  have h6 : (k == 6) = false := by rw [beq_eq_false_iff_ne]; omega
  have h7 : (k == 7) = false := by rw [beq_eq_false_iff_ne]; omega
  have h8 : (k == 8) = false := by rw [beq_eq_false_iff_ne]; omega
  clear h
  go_enter Try.func69, Try.ntmps69
  go_wp2_with fail
  go_ret
  exact ⟨rfl, ((Below.refl _ _).alloc (Nat.le_refl _) _).alloc (by simp) _⟩
def okN (e : Ex) : Bool := nodeB e.h.kind e.h.n e.h.pos e.h.type e.h.symbol e.h.name e.args.length
theorem i_okN {d : Nat} (e : Ex) (cs : List Value) (F : List Nat) (w : World) (h : ExR d w e cs F) : Calls Try.prog 69 #[.agg cs.toArray] w fun en w' => en = .returned (.bool (okN e)) ∧ Below w.heap.size w w' := by
  match d, h with
  | d + 1, h =>
  obtain ⟨A, cap, rfl, hok, _, _, _⟩ := ex_form h
  obtain ⟨⟨k, n, p, t, s, m⟩, l⟩ := e
  have hs := hok.symbol
  have hm := hok.name
  show Calls _ _ #[.agg #[.int .i64 k, .int .i64 n, .int .i64 p, .int .i64 t, .string s, .string m, .slice A l.length cap]] w fun en w' => en = .returned (.bool (nodeB k n p t s m l.length)) ∧ Below w.heap.size w w'
  by_cases hk : 1 ≤ k ∧ k ≤ 8
  · have h' : k = 1 ∨ k = 2 ∨ k = 3 ∨ k = 4 ∨ k = 5 ∨ k = 6 ∨ k = 7 ∨ k = 8 := by omega
    rcases h' with rfl | rfl | rfl | rfl | rfl | rfl | rfl | rfl
    · exact i_node_1 n p t s m hs hm A l.length cap w
    · exact i_node_2 n p t s m hs hm A l.length cap w
    · exact i_node_3 n p t s m hs hm A l.length cap w
    · exact i_node_4 n p t s m hs hm A l.length cap w
    · exact i_node_5 n p t s m hs hm A l.length cap w
    · exact i_node_6 n p t s m hs hm A l.length cap w
    · exact i_node_7 n p t s m hs hm A l.length cap w
    · exact i_node_8 n p t s m hs hm A l.length cap w
  · rw [nodeB_out hk]
    exact i_node_out k n p t s m A l.length cap w hk
theorem s_okN {d : Nat} (e : Ex) (cs : List Value) (F : List Nat) (w : World) (h : ExR d w e cs F) : Calls Try.prog 105 #[.agg cs.toArray] w fun en w' => en = .returned (.bool (okN e)) ∧ Below w.heap.size w w' := by
  match d, h with
  | d + 1, h =>
  obtain ⟨A, cap, rfl, hok, _, _, _⟩ := ex_form h
  obtain ⟨⟨k, n, p, t, s, m⟩, l⟩ := e
  exact s_l4Node k n p t s m hok.symbol hok.name A l.length cap w
end Go.Proofs.Ytaihdnlpdibkoaa
