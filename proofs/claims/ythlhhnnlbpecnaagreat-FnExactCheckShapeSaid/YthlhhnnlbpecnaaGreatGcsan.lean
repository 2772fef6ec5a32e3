/- Several texts of one proof in one file: Nodes of expressions: what makes one valid in the program. Expressions: levels, remote attributes. Conditions: each theorem names its own. -/
import Derived.Test.YthlhhnnlbpecnaaGreatGcsam
import Derived.RegionTactic
import Derived.ChangeAlike
import Derived.Test.YthlhhnnlbpecnaaGreatGcsad

/- Nodes of expressions: what makes one valid in the program. Conditions: none beyond that the node can be read. -/
namespace Go.Proofs.YthlhhnnlbpecnaaGreat
set_option linter.unusedSimpArgs false
set_option linter.unusedVariables false
set_option maxRecDepth 100000
open Go.RowKit Go.WideShapes
set_option linter.unusedVariables false

theorem s_l4Node (k n p t : Int) (s m : ByteArray) (hs : s.size ≤ maxLen) (hm : m.size ≤ maxLen) (A : Option Addr) (a cap : Nat) (w : World) :
    Calls Tryz.prog 158 #[.agg #[.int .i64 k, .int .i64 n, .int .i64 p, .int .i64 t, .string s, .string m, .slice A a cap]] w fun en w' => en = .returned (.bool (nodeB k n p t s m a)) ∧ Below w.heap.size w w' := by
  by_cases h : 1 ≤ k ∧ k ≤ 8
  · have h' : k = 1 ∨ k = 2 ∨ k = 3 ∨ k = 4 ∨ k = 5 ∨ k = 6 ∨ k = 7 ∨ k = 8 := by omega
    rcases h' with rfl | rfl | rfl | rfl | rfl | rfl | rfl | rfl
    · exact s_node_1 n p t s m hs hm A a cap w
    · exact s_node_2 n p t s m hs hm A a cap w
    · exact s_node_3 n p t s m hs hm A a cap w
    · exact s_node_4 n p t s m hs hm A a cap w
    · exact s_node_5 n p t s m hs hm A a cap w
    · exact s_node_6 n p t s m hs hm A a cap w
    · exact s_node_7 n p t s m hs hm A a cap w
    · exact s_node_8 n p t s m hs hm A a cap w
  · rw [nodeB_out h]
    exact s_node_out k n p t s m A a cap w h
theorem ofT_range {n t : Int} (h : ofT n t = true) : 1 ≤ t ∧ t ≤ 4 := by unfold ofT at h; simp at h; omega
set_option maxRecDepth 100000 in
set_option maxHeartbeats 8000000 in
theorem i_node_1 (n p t : Int) (s m : ByteArray) (hs : s.size ≤ maxLen) (hm : m.size ≤ maxLen) (A : Option Addr) (a cap : Nat) (w : World) :
    Calls Tryz.prog 141 #[.agg #[.int .i64 1, .int .i64 n, .int .i64 p, .int .i64 t, .string s, .string m, .slice A a cap]] w fun en w' => en = .returned (.bool (nodeB 1 n p t s m a)) ∧ Below w.heap.size w w' := by
  have Hs := hide hs
  have Hm := hide hm
  clear hs hm
  go_enter Tryz.func141, Tryz.ntmps141
  go_wp2_with (first
    | (go_at_call 16; refine (i_within _ _ _ _).mono ?_; rintro e w' ⟨rfl, rfl⟩)
    | (go_at_call 161; refine (i_IsOfType _ _ _).mono ?_; rintro e w' ⟨rfl, rfl⟩)
    | (go_at_call_has 81 s; refine (i_IsValidName s _ Hs.out).mono ?_; rintro e W2 ⟨rfl, rfl⟩)
    | (go_at_call_has 81 m; refine (i_IsValidName m _ Hm.out).mono ?_; rintro e W3 ⟨rfl, rfl⟩)
    | (go_at_call 162; go_in))
  go_region
  all_goals go_wp2_with (first
    | (go_at_call 16; refine (i_within _ _ _ _).mono ?_; rintro e w' ⟨rfl, rfl⟩)
    | (go_at_call 161; refine (i_IsOfType _ _ _).mono ?_; rintro e w' ⟨rfl, rfl⟩)
    | (go_at_call_has 81 s; refine (i_IsValidName s _ Hs.out).mono ?_; rintro e W2 ⟨rfl, rfl⟩)
    | (go_at_call_has 81 m; refine (i_IsValidName m _ Hm.out).mono ?_; rintro e W3 ⟨rfl, rfl⟩)
    | (go_at_call 162; go_in))
  all_goals go_ret
  all_goals refine ⟨ret_bool ?_, by (repeat (first | exact Below.refl _ _ | apply Below.drew | (refine Below.alloc ?_ (by first | (simp; done) | (simp; omega)) _) | (refine Below.setCell ?_ (by first | (simp; done) | (simp; omega)) _)))⟩
  all_goals clear Hs Hm
  all_goals (try simp only [Int.not_lt, Int.not_le, beq_iff_eq, bne_iff_ne, ne_eq, beq_eq_false_iff_ne, bne_eq_false_iff_eq, Bool.not_eq_true', Bool.not_eq_false', Bool.not_eq_true, Bool.not_eq_false] at *)
  all_goals first
    | (simp_all [nodeB, bareB, emp, inR]; done)
    | (simp_all [nodeB, bareB, emp, inR]; omega)
    | (have hr := ofT_range (n := n) (t := t) (by assumption); simp_all [nodeB, bareB, emp, inR]; omega)
    | (have hr := ofT_range (n := n) (t := t) (by assumption); simp_all [nodeB, bareB, emp, inR]; done)
    | (intros; simp_all [nodeB, bareB, emp, inR]; intros; omega)
set_option maxRecDepth 100000 in
set_option maxHeartbeats 8000000 in
theorem i_node_2 (n p t : Int) (s m : ByteArray) (hs : s.size ≤ maxLen) (hm : m.size ≤ maxLen) (A : Option Addr) (a cap : Nat) (w : World) :
    Calls Tryz.prog 141 #[.agg #[.int .i64 2, .int .i64 n, .int .i64 p, .int .i64 t, .string s, .string m, .slice A a cap]] w fun en w' => en = .returned (.bool (nodeB 2 n p t s m a)) ∧ Below w.heap.size w w' := by
  have Hs := hide hs
  have Hm := hide hm
  clear hs hm
  go_enter Tryz.func141, Tryz.ntmps141
  go_wp2_with (first
    | (go_at_call 16; refine (i_within _ _ _ _).mono ?_; rintro e w' ⟨rfl, rfl⟩)
    | (go_at_call 161; refine (i_IsOfType _ _ _).mono ?_; rintro e w' ⟨rfl, rfl⟩)
    | (go_at_call_has 81 s; refine (i_IsValidName s _ Hs.out).mono ?_; rintro e W2 ⟨rfl, rfl⟩)
    | (go_at_call_has 81 m; refine (i_IsValidName m _ Hm.out).mono ?_; rintro e W3 ⟨rfl, rfl⟩)
    | (go_at_call 162; go_in))
  all_goals go_ret
  all_goals refine ⟨ret_bool ?_, by (repeat (first | exact Below.refl _ _ | apply Below.drew | (refine Below.alloc ?_ (by first | (simp; done) | (simp; omega)) _) | (refine Below.setCell ?_ (by first | (simp; done) | (simp; omega)) _)))⟩
  all_goals clear Hs Hm
  all_goals (try simp only [Int.not_lt, Int.not_le, beq_iff_eq, bne_iff_ne, ne_eq, beq_eq_false_iff_ne, bne_eq_false_iff_eq, Bool.not_eq_true', Bool.not_eq_false', Bool.not_eq_true, Bool.not_eq_false] at *)
  all_goals first
    | (simp_all [nodeB, bareB, emp, inR]; done)
    | (simp_all [nodeB, bareB, emp, inR]; omega)
    | (have hr := ofT_range (n := n) (t := t) (by assumption); simp_all [nodeB, bareB, emp, inR]; omega)
    | (have hr := ofT_range (n := n) (t := t) (by assumption); simp_all [nodeB, bareB, emp, inR]; done)
    | (intros; simp_all [nodeB, bareB, emp, inR]; intros; omega)
set_option maxRecDepth 100000 in
set_option maxHeartbeats 8000000 in
theorem i_node_3 (n p t : Int) (s m : ByteArray) (hs : s.size ≤ maxLen) (hm : m.size ≤ maxLen) (A : Option Addr) (a cap : Nat) (w : World) :
    Calls Tryz.prog 141 #[.agg #[.int .i64 3, .int .i64 n, .int .i64 p, .int .i64 t, .string s, .string m, .slice A a cap]] w fun en w' => en = .returned (.bool (nodeB 3 n p t s m a)) ∧ Below w.heap.size w w' := by
  have Hs := hide hs
  have Hm := hide hm
  clear hs hm
  go_enter Tryz.func141, Tryz.ntmps141
  go_wp2_with (first
    | (go_at_call 16; refine (i_within _ _ _ _).mono ?_; rintro e w' ⟨rfl, rfl⟩)
    | (go_at_call 161; refine (i_IsOfType _ _ _).mono ?_; rintro e w' ⟨rfl, rfl⟩)
    | (go_at_call_has 81 s; refine (i_IsValidName s _ Hs.out).mono ?_; rintro e W2 ⟨rfl, rfl⟩)
    | (go_at_call_has 81 m; refine (i_IsValidName m _ Hm.out).mono ?_; rintro e W3 ⟨rfl, rfl⟩)
    | (go_at_call 162; go_in))
  go_region
  all_goals go_wp2_with (first
    | (go_at_call 16; refine (i_within _ _ _ _).mono ?_; rintro e w' ⟨rfl, rfl⟩)
    | (go_at_call 161; refine (i_IsOfType _ _ _).mono ?_; rintro e w' ⟨rfl, rfl⟩)
    | (go_at_call_has 81 s; refine (i_IsValidName s _ Hs.out).mono ?_; rintro e W2 ⟨rfl, rfl⟩)
    | (go_at_call_has 81 m; refine (i_IsValidName m _ Hm.out).mono ?_; rintro e W3 ⟨rfl, rfl⟩)
    | (go_at_call 162; go_in))
  all_goals go_ret
  all_goals refine ⟨ret_bool ?_, by (repeat (first | exact Below.refl _ _ | apply Below.drew | (refine Below.alloc ?_ (by first | (simp; done) | (simp; omega)) _) | (refine Below.setCell ?_ (by first | (simp; done) | (simp; omega)) _)))⟩
  all_goals clear Hs Hm
  all_goals (try simp only [Int.not_lt, Int.not_le, beq_iff_eq, bne_iff_ne, ne_eq, beq_eq_false_iff_ne, bne_eq_false_iff_eq, Bool.not_eq_true', Bool.not_eq_false', Bool.not_eq_true, Bool.not_eq_false] at *)
  all_goals first
    | (simp_all [nodeB, bareB, emp, inR]; done)
    | (simp_all [nodeB, bareB, emp, inR]; omega)
    | (have hr := ofT_range (n := n) (t := t) (by assumption); simp_all [nodeB, bareB, emp, inR]; omega)
    | (have hr := ofT_range (n := n) (t := t) (by assumption); simp_all [nodeB, bareB, emp, inR]; done)
    | (intros; simp_all [nodeB, bareB, emp, inR]; intros; omega)
set_option maxRecDepth 100000 in
set_option maxHeartbeats 8000000 in
theorem i_node_4 (n p t : Int) (s m : ByteArray) (hs : s.size ≤ maxLen) (hm : m.size ≤ maxLen) (A : Option Addr) (a cap : Nat) (w : World) :
    Calls Tryz.prog 141 #[.agg #[.int .i64 4, .int .i64 n, .int .i64 p, .int .i64 t, .string s, .string m, .slice A a cap]] w fun en w' => en = .returned (.bool (nodeB 4 n p t s m a)) ∧ Below w.heap.size w w' := by
  have Hs := hide hs
  have Hm := hide hm
  clear hs hm
  go_enter Tryz.func141, Tryz.ntmps141
  go_wp2_with (first
    | (go_at_call 16; refine (i_within _ _ _ _).mono ?_; rintro e w' ⟨rfl, rfl⟩)
    | (go_at_call 161; refine (i_IsOfType _ _ _).mono ?_; rintro e w' ⟨rfl, rfl⟩)
    | (go_at_call_has 81 s; refine (i_IsValidName s _ Hs.out).mono ?_; rintro e W2 ⟨rfl, rfl⟩)
    | (go_at_call_has 81 m; refine (i_IsValidName m _ Hm.out).mono ?_; rintro e W3 ⟨rfl, rfl⟩)
    | (go_at_call 162; go_in))
  all_goals go_ret
  all_goals refine ⟨ret_bool ?_, by (repeat (first | exact Below.refl _ _ | apply Below.drew | (refine Below.alloc ?_ (by first | (simp; done) | (simp; omega)) _) | (refine Below.setCell ?_ (by first | (simp; done) | (simp; omega)) _)))⟩
  all_goals clear Hs Hm
  all_goals (try simp only [Int.not_lt, Int.not_le, beq_iff_eq, bne_iff_ne, ne_eq, beq_eq_false_iff_ne, bne_eq_false_iff_eq, Bool.not_eq_true', Bool.not_eq_false', Bool.not_eq_true, Bool.not_eq_false] at *)
  all_goals first
    | (simp_all [nodeB, bareB, emp, inR]; done)
    | (simp_all [nodeB, bareB, emp, inR]; omega)
    | (have hr := ofT_range (n := n) (t := t) (by assumption); simp_all [nodeB, bareB, emp, inR]; omega)
    | (have hr := ofT_range (n := n) (t := t) (by assumption); simp_all [nodeB, bareB, emp, inR]; done)
    | (intros; simp_all [nodeB, bareB, emp, inR]; intros; omega)
set_option maxRecDepth 100000 in
set_option maxHeartbeats 8000000 in
theorem i_node_5 (n p t : Int) (s m : ByteArray) (hs : s.size ≤ maxLen) (hm : m.size ≤ maxLen) (A : Option Addr) (a cap : Nat) (w : World) :
    Calls Tryz.prog 141 #[.agg #[.int .i64 5, .int .i64 n, .int .i64 p, .int .i64 t, .string s, .string m, .slice A a cap]] w fun en w' => en = .returned (.bool (nodeB 5 n p t s m a)) ∧ Below w.heap.size w w' := by
  have Hs := hide hs
  have Hm := hide hm
  clear hs hm
  go_enter Tryz.func141, Tryz.ntmps141
  go_wp2_with (first
    | (go_at_call 16; refine (i_within _ _ _ _).mono ?_; rintro e w' ⟨rfl, rfl⟩)
    | (go_at_call 161; refine (i_IsOfType _ _ _).mono ?_; rintro e w' ⟨rfl, rfl⟩)
    | (go_at_call_has 81 s; refine (i_IsValidName s _ Hs.out).mono ?_; rintro e W2 ⟨rfl, rfl⟩)
    | (go_at_call_has 81 m; refine (i_IsValidName m _ Hm.out).mono ?_; rintro e W3 ⟨rfl, rfl⟩)
    | (go_at_call 162; go_in))
  all_goals go_ret
  all_goals refine ⟨ret_bool ?_, by (repeat (first | exact Below.refl _ _ | apply Below.drew | (refine Below.alloc ?_ (by first | (simp; done) | (simp; omega)) _) | (refine Below.setCell ?_ (by first | (simp; done) | (simp; omega)) _)))⟩
  all_goals clear Hs Hm
  all_goals (try simp only [Int.not_lt, Int.not_le, beq_iff_eq, bne_iff_ne, ne_eq, beq_eq_false_iff_ne, bne_eq_false_iff_eq, Bool.not_eq_true', Bool.not_eq_false', Bool.not_eq_true, Bool.not_eq_false] at *)
  all_goals first
    | (simp_all [nodeB, bareB, emp, inR]; done)
    | (simp_all [nodeB, bareB, emp, inR]; omega)
    | (have hr := ofT_range (n := n) (t := t) (by assumption); simp_all [nodeB, bareB, emp, inR]; omega)
    | (have hr := ofT_range (n := n) (t := t) (by assumption); simp_all [nodeB, bareB, emp, inR]; done)
    | (intros; simp_all [nodeB, bareB, emp, inR]; intros; omega)
set_option maxRecDepth 100000 in
set_option maxHeartbeats 8000000 in
theorem i_node_6 (n p t : Int) (s m : ByteArray) (hs : s.size ≤ maxLen) (hm : m.size ≤ maxLen) (A : Option Addr) (a cap : Nat) (w : World) :
    Calls Tryz.prog 141 #[.agg #[.int .i64 6, .int .i64 n, .int .i64 p, .int .i64 t, .string s, .string m, .slice A a cap]] w fun en w' => en = .returned (.bool (nodeB 6 n p t s m a)) ∧ Below w.heap.size w w' := by
  have Hs := hide hs
  have Hm := hide hm
  clear hs hm
  go_enter Tryz.func141, Tryz.ntmps141
  go_wp2_with (first
    | (go_at_call 16; refine (i_within _ _ _ _).mono ?_; rintro e w' ⟨rfl, rfl⟩)
    | (go_at_call 161; refine (i_IsOfType _ _ _).mono ?_; rintro e w' ⟨rfl, rfl⟩)
    | (go_at_call_has 81 s; refine (i_IsValidName s _ Hs.out).mono ?_; rintro e W2 ⟨rfl, rfl⟩)
    | (go_at_call_has 81 m; refine (i_IsValidName m _ Hm.out).mono ?_; rintro e W3 ⟨rfl, rfl⟩)
    | (go_at_call 162; go_in))
  all_goals go_ret
  all_goals refine ⟨ret_bool ?_, by (repeat (first | exact Below.refl _ _ | apply Below.drew | (refine Below.alloc ?_ (by first | (simp; done) | (simp; omega)) _) | (refine Below.setCell ?_ (by first | (simp; done) | (simp; omega)) _)))⟩
  all_goals clear Hs Hm
  all_goals (try simp only [Int.not_lt, Int.not_le, beq_iff_eq, bne_iff_ne, ne_eq, beq_eq_false_iff_ne, bne_eq_false_iff_eq, Bool.not_eq_true', Bool.not_eq_false', Bool.not_eq_true, Bool.not_eq_false] at *)
  all_goals first
    | (simp_all [nodeB, bareB, emp, inR]; done)
    | (simp_all [nodeB, bareB, emp, inR]; omega)
    | (have hr := ofT_range (n := n) (t := t) (by assumption); simp_all [nodeB, bareB, emp, inR]; omega)
    | (have hr := ofT_range (n := n) (t := t) (by assumption); simp_all [nodeB, bareB, emp, inR]; done)
    | (intros; simp_all [nodeB, bareB, emp, inR]; intros; omega)
set_option maxRecDepth 100000 in
set_option maxHeartbeats 8000000 in
theorem i_node_7 (n p t : Int) (s m : ByteArray) (hs : s.size ≤ maxLen) (hm : m.size ≤ maxLen) (A : Option Addr) (a cap : Nat) (w : World) :
    Calls Tryz.prog 141 #[.agg #[.int .i64 7, .int .i64 n, .int .i64 p, .int .i64 t, .string s, .string m, .slice A a cap]] w fun en w' => en = .returned (.bool (nodeB 7 n p t s m a)) ∧ Below w.heap.size w w' := by
  have Hs := hide hs
  have Hm := hide hm
  clear hs hm
  go_enter Tryz.func141, Tryz.ntmps141
  go_wp2_with (first
    | (go_at_call 16; refine (i_within _ _ _ _).mono ?_; rintro e w' ⟨rfl, rfl⟩)
    | (go_at_call 161; refine (i_IsOfType _ _ _).mono ?_; rintro e w' ⟨rfl, rfl⟩)
    | (go_at_call_has 81 s; refine (i_IsValidName s _ Hs.out).mono ?_; rintro e W2 ⟨rfl, rfl⟩)
    | (go_at_call_has 81 m; refine (i_IsValidName m _ Hm.out).mono ?_; rintro e W3 ⟨rfl, rfl⟩)
    | (go_at_call 162; go_in))
  all_goals go_ret
  all_goals refine ⟨ret_bool ?_, by (repeat (first | exact Below.refl _ _ | apply Below.drew | (refine Below.alloc ?_ (by first | (simp; done) | (simp; omega)) _) | (refine Below.setCell ?_ (by first | (simp; done) | (simp; omega)) _)))⟩
  all_goals clear Hs Hm
  all_goals (try simp only [Int.not_lt, Int.not_le, beq_iff_eq, bne_iff_ne, ne_eq, beq_eq_false_iff_ne, bne_eq_false_iff_eq, Bool.not_eq_true', Bool.not_eq_false', Bool.not_eq_true, Bool.not_eq_false] at *)
  all_goals first
    | (simp_all [nodeB, bareB, emp, inR]; done)
    | (simp_all [nodeB, bareB, emp, inR]; omega)
    | (have hr := ofT_range (n := n) (t := t) (by assumption); simp_all [nodeB, bareB, emp, inR]; omega)
    | (have hr := ofT_range (n := n) (t := t) (by assumption); simp_all [nodeB, bareB, emp, inR]; done)
    | (intros; simp_all [nodeB, bareB, emp, inR]; intros; omega)
set_option maxRecDepth 100000 in
set_option maxHeartbeats 8000000 in
theorem i_node_8 (n p t : Int) (s m : ByteArray) (hs : s.size ≤ maxLen) (hm : m.size ≤ maxLen) (A : Option Addr) (a cap : Nat) (w : World) :
    Calls Tryz.prog 141 #[.agg #[.int .i64 8, .int .i64 n, .int .i64 p, .int .i64 t, .string s, .string m, .slice A a cap]] w fun en w' => en = .returned (.bool (nodeB 8 n p t s m a)) ∧ Below w.heap.size w w' := by
  have Hs := hide hs
  have Hm := hide hm
  clear hs hm
  go_enter Tryz.func141, Tryz.ntmps141
  go_wp2_with (first
    | (go_at_call 16; refine (i_within _ _ _ _).mono ?_; rintro e w' ⟨rfl, rfl⟩)
    | (go_at_call 161; refine (i_IsOfType _ _ _).mono ?_; rintro e w' ⟨rfl, rfl⟩)
    | (go_at_call_has 81 s; refine (i_IsValidName s _ Hs.out).mono ?_; rintro e W2 ⟨rfl, rfl⟩)
    | (go_at_call_has 81 m; refine (i_IsValidName m _ Hm.out).mono ?_; rintro e W3 ⟨rfl, rfl⟩)
    | (go_at_call 162; go_in))
  go_region
  all_goals go_wp2_with (first
    | (go_at_call 16; refine (i_within _ _ _ _).mono ?_; rintro e w' ⟨rfl, rfl⟩)
    | (go_at_call 161; refine (i_IsOfType _ _ _).mono ?_; rintro e w' ⟨rfl, rfl⟩)
    | (go_at_call_has 81 s; refine (i_IsValidName s _ Hs.out).mono ?_; rintro e W2 ⟨rfl, rfl⟩)
    | (go_at_call_has 81 m; refine (i_IsValidName m _ Hm.out).mono ?_; rintro e W3 ⟨rfl, rfl⟩)
    | (go_at_call 162; go_in))
  all_goals go_ret
  all_goals refine ⟨ret_bool ?_, by (repeat (first | exact Below.refl _ _ | apply Below.drew | (refine Below.alloc ?_ (by first | (simp; done) | (simp; omega)) _) | (refine Below.setCell ?_ (by first | (simp; done) | (simp; omega)) _)))⟩
  all_goals clear Hs Hm
  all_goals (try simp only [Int.not_lt, Int.not_le, beq_iff_eq, bne_iff_ne, ne_eq, beq_eq_false_iff_ne, bne_eq_false_iff_eq, Bool.not_eq_true', Bool.not_eq_false', Bool.not_eq_true, Bool.not_eq_false] at *)
  all_goals first
    | (simp_all [nodeB, bareB, emp, inR]; done)
    | (simp_all [nodeB, bareB, emp, inR]; omega)
    | (have hr := ofT_range (n := n) (t := t) (by assumption); simp_all [nodeB, bareB, emp, inR]; omega)
    | (have hr := ofT_range (n := n) (t := t) (by assumption); simp_all [nodeB, bareB, emp, inR]; done)
    | (intros; simp_all [nodeB, bareB, emp, inR]; intros; omega)
set_option maxRecDepth 100000 in
theorem i_node_out (k n p t : Int) (s m : ByteArray) (A : Option Addr) (a cap : Nat) (w : World) (h : ¬ (1 ≤ k ∧ k ≤ 8)) :
    Calls Tryz.prog 141 #[.agg #[.int .i64 k, .int .i64 n, .int .i64 p, .int .i64 t, .string s, .string m, .slice A a cap]] w fun en w' => en = .returned (.bool false) ∧ Below w.heap.size w w' := by
  have h1 : (k == 1) = false := by rw [beq_eq_false_iff_ne]; omega
  have h2 : (k == 2) = false := by rw [beq_eq_false_iff_ne]; omega
  have h3 : (k == 3) = false := by rw [beq_eq_false_iff_ne]; omega
  have h4 : (k == 4) = false := by rw [beq_eq_false_iff_ne]; omega
  have h5 : (k == 5) = false := by rw [beq_eq_false_iff_ne]; omega
  have h6 : (k == 6) = false := by rw [beq_eq_false_iff_ne]; omega
  have h7 : (k == 7) = false := by rw [beq_eq_false_iff_ne]; omega
  have h8 : (k == 8) = false := by rw [beq_eq_false_iff_ne]; omega
  clear h
  go_enter Tryz.func141, Tryz.ntmps141
  go_wp2_with fail
  go_ret
  exact ⟨rfl, ((Below.refl _ _).alloc (Nat.le_refl _) _).alloc (by simp) _⟩
def okN (e : Ex) : Bool := nodeB e.h.kind e.h.n e.h.pos e.h.type e.h.symbol e.h.name e.args.length
theorem i_okN {d : Nat} (e : Ex) (cs : List Value) (F : List Nat) (w : World) (h : ExR d w e cs F) : Calls Tryz.prog 141 #[.agg cs.toArray] w fun en w' => en = .returned (.bool (okN e)) ∧ Below w.heap.size w w' := by
  match d, h with
  | d + 1, h =>
  obtain ⟨A, cap, rfl, hok, _, _, _⟩ := ex_form h
  obtain ⟨⟨k, n, p, t, s, m⟩, l⟩ := e
  have hs := hok.symbol
  have hm := hok.name
  show Calls _ _ #[.agg #[.int .i64 k, .int .i64 n, .int .i64 p, .int .i64 t, .string s, .string m, .slice A l.length cap]] w fun en w' => en = .returned (.bool (nodeB k n p t s m l.length)) ∧ Below w.heap.size w w'
  by_cases hk : 1 ≤ k ∧ k ≤ 8
  · have h' : k = 1 ∨ k = 2 ∨ k = 3 ∨ k = 4 ∨ k = 5 ∨ k = 6 ∨ k = 7 ∨ k = 8 := by omega
    rcases h' with rfl | rfl | rfl | rfl | rfl | rfl | rfl | rfl
    · exact i_node_1 n p t s m hs hm A l.length cap w
    · exact i_node_2 n p t s m hs hm A l.length cap w
    · exact i_node_3 n p t s m hs hm A l.length cap w
    · exact i_node_4 n p t s m hs hm A l.length cap w
    · exact i_node_5 n p t s m hs hm A l.length cap w
    · exact i_node_6 n p t s m hs hm A l.length cap w
    · exact i_node_7 n p t s m hs hm A l.length cap w
    · exact i_node_8 n p t s m hs hm A l.length cap w
  · rw [nodeB_out hk]
    exact i_node_out k n p t s m A l.length cap w hk
theorem s_okN {d : Nat} (e : Ex) (cs : List Value) (F : List Nat) (w : World) (h : ExR d w e cs F) : Calls Tryz.prog 158 #[.agg cs.toArray] w fun en w' => en = .returned (.bool (okN e)) ∧ Below w.heap.size w w' := by
  match d, h with
  | d + 1, h =>
  obtain ⟨A, cap, rfl, hok, _, _, _⟩ := ex_form h
  obtain ⟨⟨k, n, p, t, s, m⟩, l⟩ := e
  exact s_l4Node k n p t s m hok.symbol hok.name A l.length cap w
end Go.Proofs.YthlhhnnlbpecnaaGreat

/- Expressions: levels, remote attributes. Conditions: none beyond that the expression can be read. -/
namespace Go.Proofs.YthlhhnnlbpecnaaGreat
set_option linter.unusedSimpArgs false
set_option linter.unusedVariables false
set_option maxRecDepth 100000
open Go.RowKit Go.WideShapes

def lvN (n : Int) : Int := if n = 9 ∨ n = 10 then 1 else if n = 1 ∨ n = 2 ∨ n = 6 ∨ n = 8 then 2 else if n = 3 ∨ n = 7 then 3 else 4
def levH (h : ExH) : Int := if h.kind = 5 then 0 else if h.kind = 4 then lvN h.n else 4
/-- A node that fulfils something. -/
def anyE (P : Ex → Bool) : Nat → Ex → Bool
  | 0, _ => false
  | d + 1, e => e.args.any (anyE P d) || P e
theorem any_take_false {α : Type} {f : α → Bool} {xs : List α} {k : Nat} {x : α} (hx : xs[k]? = some x) (h : (xs.take k).any f = false) (hf : f x = false) : (xs.take (k + 1)).any f = false := by rw [take_snoc hx, List.any_append, h]; simp [hf]
theorem any_hit {α : Type} {f : α → Bool} {xs : List α} {k : Nat} {x : α} (hx : xs[k]? = some x) (hf : f x = true) : xs.any f = true := List.any_eq_true.2 ⟨x, List.mem_of_getElem? hx, hf⟩
def isRem (e : Ex) : Bool := e.h.kind == 8
/-- All nodes fulfil something. -/
def allE (P : Ex → Bool) : Nat → Ex → Bool
  | 0, _ => true
  | d + 1, e => P e && e.args.all (allE P d)
def notRem (e : Ex) : Bool := e.h.kind != 8
/-- Does every argument fulfil it? -1, or the index of one that does not. -/
def IdxOf_rem (l : List Ex) (d : Nat) (en : Ending) : Prop := (en = .returned (.int .i64 (-1)) ∧ l.all (allE notRem d) = true) ∨ ∃ r : Nat, en = .returned (.int .i64 r) ∧ l.all (allE notRem d) = false
theorem all_any (P Q : Ex → Bool) (hPQ : ∀ e, P e = !(Q e)) : ∀ d e, allE P d e = !(anyE Q d e)
  | 0, _ => rfl
  | d + 1, e => by
    simp only [allE, anyE]
    rw [hPQ e]
    have : e.args.all (allE P d) = !(e.args.any (anyE Q d)) := by
      rw [show allE P d = fun x => !(anyE Q d x) from funext (all_any P Q hPQ d)]
      simp [List.all_eq_not_any_not]
    rw [this]
    cases e.args.any (anyE Q d) <;> cases Q e <;> rfl
end Go.Proofs.YthlhhnnlbpecnaaGreat
