/- The walk of the law FnExactMayUse: every call returns true and leaves old memory as it was. Conditions: none. -/
import Derived.Test.YthifibjkgiggfaaRows
import Derived.Test.YthifibjkgiggfaaKit
import Derived.Test.YthifibjkgiggfaaMayS
import Derived.Test.YthifibjkgiggfaaGrmEqG
import Derived.Test.YthifibjkgiggfaaRulEqR
import Derived.Test.YthifibjkgiggfaaLawKit
namespace Go.Proofs.Ythifibjkgiggfaa.fnExactMayUse
set_option maxRecDepth 100000
open Go.ChangeShapes Go.WideShapes Go.ChangeAt Go.RowKit
set_option linter.unusedVariables false

set_option maxRecDepth 100000 in
set_option maxHeartbeats 8000000 in
theorem walk (w : World) (D0 : Nat) (x0 : Grm) (cs0 : List Value) (F0 : List Nat) (h0 : GrmR D0 w x0 cs0 F0) (D1 : Nat) (x1 : Rul) (cs1 : List Value) (F1 : List Nat) (h1 : RulR D1 w x1 cs1 F1) (D2 : Nat) (x2 : Occ) (cs2 : List Value) (F2 : List Nat) (h2 : OccR D2 w x2 cs2 F2) : Calls Try.prog 10 #[.agg cs0.toArray, .agg cs1.toArray, .agg cs2.toArray] w fun en w' => en = .returned (.bool true) ∧ Below w.heap.size w w' := by
  have h0 := h0.up (D0 + D1 + D2) (by omega)
  have h1 := h1.up (D0 + D1 + D2) (by omega)
  have h2 := h2.up (D0 + D1 + D2) (by omega)
  generalize D0 + D1 + D2 = D at h0 h1 h2
  have HF0 := hide ((GrmR.good D).lt h0)
  obtain ⟨av0, av1, rfl⟩ := list2 ((GrmR.good D).len h0)
  have HX0 : Hid (∀ W : World, Below w.heap.size w W → GrmR D W x0 [av0, av1] F0) := hide fun W hW => (GrmR.good D).below h0 hW HF0.out
  clear h0
  have HF1 := hide ((RulR.good D).lt h1)
  obtain ⟨bv0, bv1, bv2, bv3, bv4, bv5, rfl⟩ := list_6 ((RulR.good D).len h1)
  have HX1 : Hid (∀ W : World, Below w.heap.size w W → RulR D W x1 [bv0, bv1, bv2, bv3, bv4, bv5] F1) := hide fun W hW => (RulR.good D).below h1 hW HF1.out
  clear h1
  have HF2 := hide ((OccR.good D).lt h2)
  obtain ⟨cv0, cv1, rfl⟩ := list2 ((OccR.good D).len h2)
  have HX2 : Hid (∀ W : World, Below w.heap.size w W → OccR D W x2 [cv0, cv1] F2) := hide fun W hW => (OccR.good D).below h2 hW HF2.out
  clear h2
  obtain ⟨C0, C1, C2, hz0, hw0⟩ := boxes3 w [av0, av1] [bv0, bv1, bv2, bv3, bv4, bv5] [cv0, cv1] 63 26 28
  show Calls _ _ #[.agg #[av0, av1], .agg #[bv0, bv1, bv2, bv3, bv4, bv5], .agg #[cv0, cv1]] w _
  go_enter Try.func10, Try.ntmps10
  go_wp2_with fail
  generalize ((w.alloc (Obj.cells #[av0, av1] 63)).alloc (Obj.cells #[bv0, bv1, bv2, bv3, bv4, bv5] 26)).alloc (Obj.cells #[cv0, cv1] 28) = V0 at C0 C1 C2 hz0 hw0 ⊢
  have zV0 : w.heap.size + 3 ≤ V0.heap.size := Nat.le_of_eq hz0.symm
  have Hw_0 : Hid (∀ X : World, Below V0.heap.size V0 X → Below w.heap.size w X) := hide fun X h => hw0.trans (h.mono (by omega))
  have ca0_0_0 := cell_rule C0 (n := V0.heap.size) (by omega) 0 (v := av0) rfl
  have ca0_1_0 := cell_rule C0 (n := V0.heap.size) (by omega) 1 (v := av1) rfl
  have ca1_0_0 := cell_rule C1 (n := V0.heap.size) (by omega) 0 (v := bv0) rfl
  have ca1_1_0 := cell_rule C1 (n := V0.heap.size) (by omega) 1 (v := bv1) rfl
  have ca1_2_0 := cell_rule C1 (n := V0.heap.size) (by omega) 2 (v := bv2) rfl
  have ca1_3_0 := cell_rule C1 (n := V0.heap.size) (by omega) 3 (v := bv3) rfl
  have ca1_4_0 := cell_rule C1 (n := V0.heap.size) (by omega) 4 (v := bv4) rfl
  have ca1_5_0 := cell_rule C1 (n := V0.heap.size) (by omega) 5 (v := bv5) rfl
  have ca2_0_0 := cell_rule C2 (n := V0.heap.size) (by omega) 0 (v := cv0) rfl
  have ca2_1_0 := cell_rule C2 (n := V0.heap.size) (by omega) 1 (v := cv1) rfl
  clear C0 C1 C2 hz0 hw0
  have hV0 : Below V0.heap.size V0 V0 := Below.refl _ _
  have hD0 : ∀ X : World, Below V0.heap.size V0 X → Below V0.heap.size V0 X.drew := fun _ h => h.drew
  have hA0 : ∀ (X : World) (o : Obj), Below V0.heap.size V0 X → Below V0.heap.size V0 (X.alloc o) := fun _ o h => below_alloc (Nat.le_refl _) o h
  refine Calls.mono (z_Grm D x0 _ F0 _ 1048576 (HX0.out _ (Hw_0.out _ (by (repeat (first | assumption | exact Below.refl _ _ | apply Below.drew | refine below_alloc (Nat.le_refl _) _ ?_))))) (by omega) (by omega)) ?_
  rintro en W1 ⟨⟨r0, rfl, hr⟩, hb⟩
  have hW1 : Below V0.heap.size V0 W1 := below_step (by (repeat (first | assumption | exact Below.refl _ _ | apply Below.drew | refine below_alloc (Nat.le_refl _) _ ?_))) (Nat.le_refl _) hb
  have zW1 : V0.heap.size ≤ W1.heap.size := hW1.size
  clear hb
  rcases hr with rfl | ⟨hr0, hq⟩
  · go_wp2_with fail
    go_ret
    exact ⟨rfl, Hw_0.out _ hW1⟩
  have hnn := bulkGrm_nonneg D x0
  have Hbk0 : Hid (bulkGrm D x0 ≤ 1048576) := hide (by omega)
  have hl0 : r0 ≤ 1048576 := by omega
  clear hq hnn
  have HT0 : Hid (∀ W : World, Below w.heap.size w W → Calls Try.prog 36 #[.agg #[av0, av1]] W fun en w' => ∃ us F', en = .returned (.agg (List.toArray us)) ∧ GrmR D w' x0 us F' ∧ Fresh W.heap.size w' F' ∧ Below W.heap.size W w') := hide fun W hW =>
    c_Grm D x0 _ F0 W (HX0.out W hW) Hbk0.out
  go_wp2_with fail
  refine Calls.mono (z_Rul D x1 _ F1 _ r0 (HX1.out _ (Hw_0.out _ (by (repeat (first | assumption | exact Below.refl _ _ | apply Below.drew | refine below_alloc (Nat.le_refl _) _ ?_))))) (by omega) (by omega)) ?_
  rintro en W2 ⟨⟨r1, rfl, hr⟩, hb⟩
  have hW2 : Below V0.heap.size V0 W2 := below_step (by (repeat (first | assumption | exact Below.refl _ _ | apply Below.drew | refine below_alloc (Nat.le_refl _) _ ?_))) (Nat.le_refl _) hb
  have zW2 : V0.heap.size ≤ W2.heap.size := hW2.size
  clear hb
  rcases hr with rfl | ⟨hr1, hq⟩
  · go_wp2_with fail
    go_ret
    exact ⟨rfl, Hw_0.out _ hW2⟩
  have hnn := bulkRul_nonneg D x1
  have Hbk1 : Hid (bulkRul D x1 ≤ 1048576) := hide (by omega)
  have hl1 : r1 ≤ 1048576 := by omega
  clear hq hnn
  have HT1 : Hid (∀ W : World, Below w.heap.size w W → Calls Try.prog 17 #[.agg #[bv0, bv1, bv2, bv3, bv4, bv5]] W fun en w' => ∃ us F', en = .returned (.agg (List.toArray us)) ∧ RulR D w' x1 us F' ∧ Fresh W.heap.size w' F' ∧ Below W.heap.size W w') := hide fun W hW =>
    c_Rul D x1 _ F1 W (HX1.out W hW) Hbk1.out
  go_wp2_with fail
  refine Calls.mono (z_Occ D x2 _ F2 _ r1 (HX2.out _ (Hw_0.out _ (by (repeat (first | assumption | exact Below.refl _ _ | apply Below.drew | refine below_alloc (Nat.le_refl _) _ ?_))))) (by omega) (by omega)) ?_
  rintro en W3 ⟨⟨r2, rfl, hr⟩, hb⟩
  have hW3 : Below V0.heap.size V0 W3 := below_step (by (repeat (first | assumption | exact Below.refl _ _ | apply Below.drew | refine below_alloc (Nat.le_refl _) _ ?_))) (Nat.le_refl _) hb
  have zW3 : V0.heap.size ≤ W3.heap.size := hW3.size
  clear hb
  rcases hr with rfl | ⟨hr2, hq⟩
  · go_wp2_with fail
    go_ret
    exact ⟨rfl, Hw_0.out _ hW3⟩
  have hnn := bulkOcc_nonneg D x2
  have Hbk2 : Hid (bulkOcc D x2 ≤ 1048576) := hide (by omega)
  have hl2 : r2 ≤ 1048576 := by omega
  clear hq hnn
  have HT2 : Hid (∀ W : World, Below w.heap.size w W → Calls Try.prog 18 #[.agg #[cv0, cv1]] W fun en w' => ∃ us F', en = .returned (.agg (List.toArray us)) ∧ OccR D w' x2 us F' ∧ Fresh W.heap.size w' F' ∧ Below W.heap.size W w') := hide fun W hW =>
    c_Occ D x2 _ F2 W (HX2.out W hW)
  go_wp2_with fail
  clear hr0 hl0 hr1 hl1 hr2 hl2
  have hst := fun (w : World) (a : Addr) (v : Value) (m : Mode) (hv : v.oneCell' = true) => run_store Try.prog w a v m hv
  -- the reference
  go_region_held3 (fun W => Below V0.heap.size V0 W)
    (first | assumption | exact Below.drew (by assumption))
    (first
      | (go_at_call_has 36 av0; refine Calls.mono (HT0.out _ ?hw) ?_; (case hw => exact Hw_0.out _ (by (repeat (first | assumption | exact Below.refl _ _ | apply Below.drew | refine below_alloc (Nat.le_refl _) _ ?_)))); rintro en W4 ⟨us, Ftz0, rfl, hR, hf, hb⟩; obtain ⟨tz0_0, tz0_1, rfl⟩ := list2 ((GrmR.good D).len hR); have hW4 : Below V0.heap.size V0 W4 := below_step (by (repeat (first | assumption | exact Below.refl _ _ | apply Below.drew | refine below_alloc (Nat.le_refl _) _ ?_))) (Nat.le_refl _) hb; have hbtz0 := hb; have HLtz0 := hide hf.lt; have HRtz0 := hide hR; clear hR hf hb)
      | (go_at_call_has 17 bv0; refine Calls.mono (HT1.out _ ?hw) ?_; (case hw => exact Hw_0.out _ (by (repeat (first | assumption | exact Below.refl _ _ | apply Below.drew | refine below_alloc (Nat.le_refl _) _ ?_)))); rintro en W5 ⟨us, Ftz1, rfl, hR, hf, hb⟩; obtain ⟨tz1_0, tz1_1, tz1_2, tz1_3, tz1_4, tz1_5, rfl⟩ := list_6 ((RulR.good D).len hR); have hW5 : Below V0.heap.size V0 W5 := below_step (by (repeat (first | assumption | exact Below.refl _ _ | apply Below.drew | refine below_alloc (Nat.le_refl _) _ ?_))) (Nat.le_refl _) hb; have hbtz1 := hb; have HLtz1 := hide hf.lt; have HRtz1 := hide hR; clear hR hf hb)
      | (go_at_call_has 18 cv0; refine Calls.mono (HT2.out _ ?hw) ?_; (case hw => exact Hw_0.out _ (by (repeat (first | assumption | exact Below.refl _ _ | apply Below.drew | refine below_alloc (Nat.le_refl _) _ ?_)))); rintro en W6 ⟨us, Ftz2, rfl, hR, hf, hb⟩; obtain ⟨tz2_0, tz2_1, rfl⟩ := list2 ((OccR.good D).len hR); have hW6 : Below V0.heap.size V0 W6 := below_step (by (repeat (first | assumption | exact Below.refl _ _ | apply Below.drew | refine below_alloc (Nat.le_refl _) _ ?_))) (Nat.le_refl _) hb; have hbtz2 := hb; have HLtz2 := hide hf.lt; have HRtz2 := hide hR; clear hR hf hb)
      | (go_at_call 53; refine Calls.mono (s_MayUse D x0 x1 x2 _ _ _ Ftz0 Ftz1 Ftz2 _ ((GrmR.good D).below ((GrmR.good D).below HRtz0.out hbtz1 (fun b hb => Nat.lt_of_lt_of_le (HLtz0.out b hb) (Nat.le_refl _))) hbtz2 (fun b hb => Nat.lt_of_lt_of_le (HLtz0.out b hb) (hbtz1.size))) ((RulR.good D).below HRtz1.out hbtz2 (fun b hb => Nat.lt_of_lt_of_le (HLtz1.out b hb) (Nat.le_refl _))) HRtz2.out Hbk0.out) ?_; rintro en W7 ⟨rfl, hb⟩; have hW7 : Below V0.heap.size V0 W7 := below_step (by (repeat (first | assumption | exact Below.refl _ _ | apply Below.drew | refine below_alloc (Nat.le_refl _) _ ?_))) (Nat.le_refl _) hb; clear hb))
  clear HRtz0 HLtz0 hbtz0 HRtz1 HLtz1 hbtz1 HRtz2 HLtz2 hbtz2
  go_wp2_with fail
  refine Calls.mono (HT0.out _ (Hw_0.out _ (by (repeat (first | assumption | exact Below.refl _ _ | apply Below.drew | refine below_alloc (Nat.le_refl _) _ ?_))))) ?_
  rintro en W8 ⟨us, Fx0, rfl, hR, hf, hb⟩
  obtain ⟨x0_0, x0_1, rfl⟩ := list2 ((GrmR.good D).len hR)
  have ho := GrmR.one hR
  have ox0_0 := ho x0_0 (by simp)
  have ox0_1 := ho x0_1 (by simp)
  have hRk := hide hR
  have hfk := hide hf
  have Hlo_x0 : Hid (∀ b ∈ Fx0, W7.heap.size ≤ b) := hide hf.from_
  have Hhi_x0 : Hid (∀ b ∈ Fx0, b < W8.heap.size) := hide hf.lt
  have hW8 : Below V0.heap.size V0 W8 := below_step (by (repeat (first | assumption | exact Below.refl _ _ | apply Below.drew | refine below_alloc (Nat.le_refl _) _ ?_))) (Nat.le_refl _) hb
  have zW8 : V0.heap.size ≤ W8.heap.size := hW8.size
  clear hb
  clear ho hR hf
  go_wp2_with fail
  have Cx := CellsAt.new W8 [x0_0, x0_1] 69
  have hz := World.size_alloc W8 (Obj.cells #[x0_0, x0_1] 69)
  have hst0 : Below W8.heap.size W8 (W8.alloc (Obj.cells #[x0_0, x0_1] 69)) := (Below.refl _ _).alloc (Nat.le_refl _) _
  generalize W8.alloc (Obj.cells #[x0_0, x0_1] 69) = V1 at Cx hz hst0 ⊢
  have zV1 : W8.heap.size + 1 ≤ V1.heap.size := Nat.le_of_eq hz.symm
  have hbW : ∀ X : World, Below V1.heap.size V1 X → Below W8.heap.size W8 X := fun X hX => hst0.trans (hX.mono (by omega))
  have hbb : ∀ X : World, Below V1.heap.size V1 X → Below V0.heap.size V0 X := fun X hX => hW8.trans ((hbW X hX).mono hW8.size)
  have ca0_0_1 := fun (X : World) (hX : Below V1.heap.size V1 X) => ca0_0_0 X (hbb X hX)
  have ca0_1_1 := fun (X : World) (hX : Below V1.heap.size V1 X) => ca0_1_0 X (hbb X hX)
  have ca1_0_1 := fun (X : World) (hX : Below V1.heap.size V1 X) => ca1_0_0 X (hbb X hX)
  have ca1_1_1 := fun (X : World) (hX : Below V1.heap.size V1 X) => ca1_1_0 X (hbb X hX)
  have ca1_2_1 := fun (X : World) (hX : Below V1.heap.size V1 X) => ca1_2_0 X (hbb X hX)
  have ca1_3_1 := fun (X : World) (hX : Below V1.heap.size V1 X) => ca1_3_0 X (hbb X hX)
  have ca1_4_1 := fun (X : World) (hX : Below V1.heap.size V1 X) => ca1_4_0 X (hbb X hX)
  have ca1_5_1 := fun (X : World) (hX : Below V1.heap.size V1 X) => ca1_5_0 X (hbb X hX)
  have ca2_0_1 := fun (X : World) (hX : Below V1.heap.size V1 X) => ca2_0_0 X (hbb X hX)
  have ca2_1_1 := fun (X : World) (hX : Below V1.heap.size V1 X) => ca2_1_0 X (hbb X hX)
  have Hw_1 : Hid (∀ X : World, Below V1.heap.size V1 X → Below w.heap.size w X) := hide fun X hX => Hw_0.out X (hbb X hX)
  clear ca0_0_0 ca0_1_0 ca1_0_0 ca1_1_0 ca1_2_0 ca1_3_0 ca1_4_0 ca1_5_0 ca2_0_0 ca2_1_0 Hw_0
  have cx0_0_1 := cell_rule Cx (n := V1.heap.size) (by omega) 0 (v := x0_0) rfl
  have cx0_1_1 := cell_rule Cx (n := V1.heap.size) (by omega) 1 (v := x0_1) rfl
  have hV1 : Below V1.heap.size V1 V1 := Below.refl _ _
  have hD1 : ∀ X : World, Below V1.heap.size V1 X → Below V1.heap.size V1 X.drew := fun _ h => h.drew
  have hA1 : ∀ (X : World) (o : Obj), Below V1.heap.size V1 X → Below V1.heap.size V1 (X.alloc o) := fun _ o h => below_alloc (Nat.le_refl _) o h
  clear Cx hz hst0
  have hRv := fun (X : World) (hX : Below V1.heap.size V1 X) => (GrmR.good D).below hRk.out (hbW X hX) Hhi_x0.out
  have Hx0_1 : Hid (∀ X : World, Below V1.heap.size V1 X → GrmR D X x0 [x0_0, x0_1] Fx0) := hide hRv
  have Rx0_1 : Hid (∀ X : World, Below V1.heap.size V1 X → Fresh (W7.heap.size) X Fx0) := hide fun X hX => hfk.out.below (hbW X hX)
  clear hRk hfk hRv ox0_0 ox0_1
  clear hbW hbb hW8 hV0 hD0 hA0
  go_wp2_with fail
  refine Calls.mono (HT1.out _ (Hw_1.out _ (by (repeat (first | assumption | exact Below.refl _ _ | apply Below.drew | refine below_alloc (Nat.le_refl _) _ ?_))))) ?_
  rintro en W9 ⟨us, Fx1, rfl, hR, hf, hb⟩
  obtain ⟨x1_0, x1_1, x1_2, x1_3, x1_4, x1_5, rfl⟩ := list_6 ((RulR.good D).len hR)
  have ho := RulR.one hR
  have ox1_0 := ho x1_0 (by simp)
  have ox1_1 := ho x1_1 (by simp)
  have ox1_2 := ho x1_2 (by simp)
  have ox1_3 := ho x1_3 (by simp)
  have ox1_4 := ho x1_4 (by simp)
  have ox1_5 := ho x1_5 (by simp)
  have hRk := hide hR
  have hfk := hide hf
  have Hlo_x1 : Hid (∀ b ∈ Fx1, V1.heap.size ≤ b) := hide hf.from_
  have Hhi_x1 : Hid (∀ b ∈ Fx1, b < W9.heap.size) := hide hf.lt
  have hW9 : Below V1.heap.size V1 W9 := below_step (by (repeat (first | assumption | exact Below.refl _ _ | apply Below.drew | refine below_alloc (Nat.le_refl _) _ ?_))) (Nat.le_refl _) hb
  have zW9 : V1.heap.size ≤ W9.heap.size := hW9.size
  clear hb
  clear ho hR hf
  go_wp2_with fail
  have Cx := CellsAt.new W9 [x1_0, x1_1, x1_2, x1_3, x1_4, x1_5] 39
  have hz := World.size_alloc W9 (Obj.cells #[x1_0, x1_1, x1_2, x1_3, x1_4, x1_5] 39)
  have hst0 : Below W9.heap.size W9 (W9.alloc (Obj.cells #[x1_0, x1_1, x1_2, x1_3, x1_4, x1_5] 39)) := (Below.refl _ _).alloc (Nat.le_refl _) _
  generalize W9.alloc (Obj.cells #[x1_0, x1_1, x1_2, x1_3, x1_4, x1_5] 39) = V2 at Cx hz hst0 ⊢
  have zV2 : W9.heap.size + 1 ≤ V2.heap.size := Nat.le_of_eq hz.symm
  have hbW : ∀ X : World, Below V2.heap.size V2 X → Below W9.heap.size W9 X := fun X hX => hst0.trans (hX.mono (by omega))
  have hbb : ∀ X : World, Below V2.heap.size V2 X → Below V1.heap.size V1 X := fun X hX => hW9.trans ((hbW X hX).mono hW9.size)
  have ca0_0_2 := fun (X : World) (hX : Below V2.heap.size V2 X) => ca0_0_1 X (hbb X hX)
  have ca0_1_2 := fun (X : World) (hX : Below V2.heap.size V2 X) => ca0_1_1 X (hbb X hX)
  have ca1_0_2 := fun (X : World) (hX : Below V2.heap.size V2 X) => ca1_0_1 X (hbb X hX)
  have ca1_1_2 := fun (X : World) (hX : Below V2.heap.size V2 X) => ca1_1_1 X (hbb X hX)
  have ca1_2_2 := fun (X : World) (hX : Below V2.heap.size V2 X) => ca1_2_1 X (hbb X hX)
  have ca1_3_2 := fun (X : World) (hX : Below V2.heap.size V2 X) => ca1_3_1 X (hbb X hX)
  have ca1_4_2 := fun (X : World) (hX : Below V2.heap.size V2 X) => ca1_4_1 X (hbb X hX)
  have ca1_5_2 := fun (X : World) (hX : Below V2.heap.size V2 X) => ca1_5_1 X (hbb X hX)
  have ca2_0_2 := fun (X : World) (hX : Below V2.heap.size V2 X) => ca2_0_1 X (hbb X hX)
  have ca2_1_2 := fun (X : World) (hX : Below V2.heap.size V2 X) => ca2_1_1 X (hbb X hX)
  have cx0_0_2 := fun (X : World) (hX : Below V2.heap.size V2 X) => cx0_0_1 X (hbb X hX)
  have cx0_1_2 := fun (X : World) (hX : Below V2.heap.size V2 X) => cx0_1_1 X (hbb X hX)
  have Hx0_2 := hide (fun (X : World) (hX : Below V2.heap.size V2 X) => Hx0_1.out X (hbb X hX))
  have Rx0_2 := hide (fun (X : World) (hX : Below V2.heap.size V2 X) => Rx0_1.out X (hbb X hX))
  have Hw_2 : Hid (∀ X : World, Below V2.heap.size V2 X → Below w.heap.size w X) := hide fun X hX => Hw_1.out X (hbb X hX)
  clear ca0_0_1 ca0_1_1 ca1_0_1 ca1_1_1 ca1_2_1 ca1_3_1 ca1_4_1 ca1_5_1 ca2_0_1 ca2_1_1 cx0_0_1 cx0_1_1 Hx0_1 Rx0_1 Hw_1
  have cx1_0_2 := cell_rule Cx (n := V2.heap.size) (by omega) 0 (v := x1_0) rfl
  have cx1_1_2 := cell_rule Cx (n := V2.heap.size) (by omega) 1 (v := x1_1) rfl
  have cx1_2_2 := cell_rule Cx (n := V2.heap.size) (by omega) 2 (v := x1_2) rfl
  have cx1_3_2 := cell_rule Cx (n := V2.heap.size) (by omega) 3 (v := x1_3) rfl
  have cx1_4_2 := cell_rule Cx (n := V2.heap.size) (by omega) 4 (v := x1_4) rfl
  have cx1_5_2 := cell_rule Cx (n := V2.heap.size) (by omega) 5 (v := x1_5) rfl
  have hV2 : Below V2.heap.size V2 V2 := Below.refl _ _
  have hD2 : ∀ X : World, Below V2.heap.size V2 X → Below V2.heap.size V2 X.drew := fun _ h => h.drew
  have hA2 : ∀ (X : World) (o : Obj), Below V2.heap.size V2 X → Below V2.heap.size V2 (X.alloc o) := fun _ o h => below_alloc (Nat.le_refl _) o h
  clear Cx hz hst0
  have hRv := fun (X : World) (hX : Below V2.heap.size V2 X) => (RulR.good D).below hRk.out (hbW X hX) Hhi_x1.out
  have Hx1_2 : Hid (∀ X : World, Below V2.heap.size V2 X → RulR D X x1 [x1_0, x1_1, x1_2, x1_3, x1_4, x1_5] Fx1) := hide hRv
  have Rx1_2 : Hid (∀ X : World, Below V2.heap.size V2 X → Fresh (V1.heap.size) X Fx1) := hide fun X hX => hfk.out.below (hbW X hX)
  clear hRk hfk hRv ox1_0 ox1_1 ox1_2 ox1_3 ox1_4 ox1_5
  clear hbW hbb hW9 hV1 hD1 hA1
  go_wp2_with fail
  -- the program
  go_region_held3 (fun W => Below V2.heap.size V2 W)
    (first | assumption | exact Below.drew (by assumption))
    (first
      | (go_at_call_has 18 cv0; refine Calls.mono (HT2.out _ ?hw) ?_; (case hw => exact Hw_2.out _ (by (repeat (first | assumption | exact Below.refl _ _ | apply Below.drew | refine below_alloc (Nat.le_refl _) _ ?_)))); rintro en W10 ⟨us, Ftg2, rfl, hR, hf, hb⟩; obtain ⟨tg2_0, tg2_1, rfl⟩ := list2 ((OccR.good D).len hR); have hW10 : Below V2.heap.size V2 W10 := below_step (by (repeat (first | assumption | exact Below.refl _ _ | apply Below.drew | refine below_alloc (Nat.le_refl _) _ ?_))) (Nat.le_refl _) hb; have hbtg2 := hb; have HLtg2 := hide hf.lt; have HRtg2 := hide hR; clear hR hf hb)
      | (go_at_call 54; refine Calls.mono (i_MayUse D x0 x1 x2 _ _ _ Fx0 Fx1 Ftg2 _ (Hx0_2.out _ (by (repeat (first | assumption | exact Below.refl _ _ | apply Below.drew | refine below_alloc (Nat.le_refl _) _ ?_)))) (Hx1_2.out _ (by (repeat (first | assumption | exact Below.refl _ _ | apply Below.drew | refine below_alloc (Nat.le_refl _) _ ?_)))) HRtg2.out) ?_; rintro en W11 ⟨rfl, hb⟩; have hW11 : Below V2.heap.size V2 W11 := below_step (by (repeat (first | assumption | exact Below.refl _ _ | apply Below.drew | refine below_alloc (Nat.le_refl _) _ ?_))) (Nat.le_refl _) hb; clear hb))
  clear HRtg2 HLtg2 hbtg2
  go_wp2_with fail
  go_region_held3 (fun W => Below V2.heap.size V2 W)
    (first | assumption | exact Below.drew (by assumption))
    (first
      | (go_at_call_has 36 av0; refine Calls.mono (HT0.out _ ?hw) ?_; (case hw => exact Hw_2.out _ (by (repeat (first | assumption | exact Below.refl _ _ | apply Below.drew | refine below_alloc (Nat.le_refl _) _ ?_)))); rintro en W12 ⟨us, Fe0, rfl, hR, hf, hb⟩; obtain ⟨e0_0, e0_1, rfl⟩ := list2 ((GrmR.good D).len hR); have hW12 : Below V2.heap.size V2 W12 := below_step (by (repeat (first | assumption | exact Below.refl _ _ | apply Below.drew | refine below_alloc (Nat.le_refl _) _ ?_))) (Nat.le_refl _) hb; have HRe0 := hide hR; clear hR hf hb)
      | (go_at_call 38; refine Calls.mono (e_Grm D x0 _ _ Fx0 Fe0 _ (Hx0_2.out _ (by (repeat (first | assumption | exact Below.refl _ _ | apply Below.drew | refine below_alloc (Nat.le_refl _) _ ?_)))) HRe0.out) ?_; rintro en W13 ⟨rfl, hb⟩; have hW13 : Below V2.heap.size V2 W13 := below_step (by (repeat (first | assumption | exact Below.refl _ _ | apply Below.drew | refine below_alloc (Nat.le_refl _) _ ?_))) (Nat.le_refl _) hb; clear hb))
  clear HRe0
  go_wp2_with fail
  go_region_held3 (fun W => Below V2.heap.size V2 W)
    (first | assumption | exact Below.drew (by assumption))
    (first
      | (go_at_call_has 17 bv0; refine Calls.mono (HT1.out _ ?hw) ?_; (case hw => exact Hw_2.out _ (by (repeat (first | assumption | exact Below.refl _ _ | apply Below.drew | refine below_alloc (Nat.le_refl _) _ ?_)))); rintro en W14 ⟨us, Fe1, rfl, hR, hf, hb⟩; obtain ⟨e1_0, e1_1, e1_2, e1_3, e1_4, e1_5, rfl⟩ := list_6 ((RulR.good D).len hR); have hW14 : Below V2.heap.size V2 W14 := below_step (by (repeat (first | assumption | exact Below.refl _ _ | apply Below.drew | refine below_alloc (Nat.le_refl _) _ ?_))) (Nat.le_refl _) hb; have HRe1 := hide hR; clear hR hf hb)
      | (go_at_call 21; refine Calls.mono (e_Rul D x1 _ _ Fx1 Fe1 _ (Hx1_2.out _ (by (repeat (first | assumption | exact Below.refl _ _ | apply Below.drew | refine below_alloc (Nat.le_refl _) _ ?_)))) HRe1.out) ?_; rintro en W15 ⟨rfl, hb⟩; have hW15 : Below V2.heap.size V2 W15 := below_step (by (repeat (first | assumption | exact Below.refl _ _ | apply Below.drew | refine below_alloc (Nat.le_refl _) _ ?_))) (Nat.le_refl _) hb; clear hb))
  clear HRe1
  go_wp2_with fail
  go_ret
  exact ⟨rfl, Hw_2.out _ (by (repeat (first | assumption | exact Below.refl _ _ | apply Below.drew | refine below_alloc (Nat.le_refl _) _ ?_)))⟩
end Go.Proofs.Ythifibjkgiggfaa.fnExactMayUse
