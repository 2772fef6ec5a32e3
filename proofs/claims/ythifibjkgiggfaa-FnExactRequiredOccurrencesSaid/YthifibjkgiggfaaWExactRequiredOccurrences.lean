/- The walk of the law FnExactRequiredOccurrences: every call returns true and leaves old memory as it was. Conditions: none. -/
import Derived.Test.YthifibjkgiggfaaRows
import Derived.Test.YthifibjkgiggfaaKit
import Derived.Test.YthifibjkgiggfaaReqC
import Derived.Test.YthifibjkgiggfaaOccS
import Derived.Test.YthifibjkgiggfaaGrmEqG
import Derived.Test.YthifibjkgiggfaaRulEqR
import Derived.Test.YthifibjkgiggfaaLawKit
namespace Go.Proofs.Ythifibjkgiggfaa.fnExactRequiredOccurrences
set_option maxRecDepth 100000
open Go.ChangeShapes Go.WideShapes Go.ChangeAt Go.RowKit
set_option linter.unusedVariables false

set_option maxRecDepth 100000 in
set_option maxHeartbeats 8000000 in
theorem walk (w : World) (D0 : Nat) (x0 : Grm) (cs0 : List Value) (F0 : List Nat) (h0 : GrmR D0 w x0 cs0 F0) (D1 : Nat) (x1 : Rul) (cs1 : List Value) (F1 : List Nat) (h1 : RulR D1 w x1 cs1 F1) : Calls Try.prog 13 #[.agg cs0.toArray, .agg cs1.toArray] w fun en w' => en = .returned (.bool true) ∧ Below w.heap.size w w' := by
  have h0 := h0.up (D0 + D1) (by omega)
  have h1 := h1.up (D0 + D1) (by omega)
  generalize D0 + D1 = D at h0 h1
  have HF0 := hide ((GrmR.good D).lt h0)
  obtain ⟨av0, av1, rfl⟩ := list2 ((GrmR.good D).len h0)
  have HX0 : Hid (∀ W : World, Below w.heap.size w W → GrmR D W x0 [av0, av1] F0) := hide fun W hW => (GrmR.good D).below h0 hW HF0.out
  clear h0
  have HF1 := hide ((RulR.good D).lt h1)
  obtain ⟨bv0, bv1, bv2, bv3, bv4, bv5, rfl⟩ := list_6 ((RulR.good D).len h1)
  have HX1 : Hid (∀ W : World, Below w.heap.size w W → RulR D W x1 [bv0, bv1, bv2, bv3, bv4, bv5] F1) := hide fun W hW => (RulR.good D).below h1 hW HF1.out
  clear h1
  obtain ⟨C0, C1, hz0, hw0⟩ := boxes2 w [av0, av1] [bv0, bv1, bv2, bv3, bv4, bv5] 63 26
  show Calls _ _ #[.agg #[av0, av1], .agg #[bv0, bv1, bv2, bv3, bv4, bv5]] w _
  go_enter Try.func13, Try.ntmps13
  go_wp2_with fail
  generalize (w.alloc (Obj.cells #[av0, av1] 63)).alloc (Obj.cells #[bv0, bv1, bv2, bv3, bv4, bv5] 26) = V0 at C0 C1 hz0 hw0 ⊢
  have zV0 : w.heap.size + 2 ≤ V0.heap.size := Nat.le_of_eq hz0.symm
  have Hw_0 : Hid (∀ X : World, Below V0.heap.size V0 X → Below w.heap.size w X) := hide fun X h => hw0.trans (h.mono (by omega))
  have ca0_0_0 := cell_rule C0 (n := V0.heap.size) (by omega) 0 (v := av0) rfl
  have ca0_1_0 := cell_rule C0 (n := V0.heap.size) (by omega) 1 (v := av1) rfl
  have ca1_0_0 := cell_rule C1 (n := V0.heap.size) (by omega) 0 (v := bv0) rfl
  have ca1_1_0 := cell_rule C1 (n := V0.heap.size) (by omega) 1 (v := bv1) rfl
  have ca1_2_0 := cell_rule C1 (n := V0.heap.size) (by omega) 2 (v := bv2) rfl
  have ca1_3_0 := cell_rule C1 (n := V0.heap.size) (by omega) 3 (v := bv3) rfl
  have ca1_4_0 := cell_rule C1 (n := V0.heap.size) (by omega) 4 (v := bv4) rfl
  have ca1_5_0 := cell_rule C1 (n := V0.heap.size) (by omega) 5 (v := bv5) rfl
  clear C0 C1 hz0 hw0
  have hV0 : Below V0.heap.size V0 V0 := Below.refl _ _
  have hD0 : ∀ X : World, Below V0.heap.size V0 X → Below V0.heap.size V0 X.drew := fun _ h => h.drew
  have hA0 : ∀ (X : World) (o : Obj), Below V0.heap.size V0 X → Below V0.heap.size V0 (X.alloc o) := fun _ o h => below_alloc (Nat.le_refl _) o h
  refine Calls.mono (z_Grm D x0 _ F0 _ 1048576 (HX0.out _ (Hw_0.out _ (by (repeat (first | assumption | exact Below.refl _ _ | apply Below.drew | refine below_alloc (Nat.le_refl _) _ ?_))))) (by omega) (by omega)) ?_
  rintro en W1 ⟨⟨r0, rfl, hr⟩, hb⟩
  have hW1 : Below V0.heap.size V0 W1 := below_step (by (repeat (first | assumption | exact Below.refl _ _ | apply Below.drew | refine below_alloc (Nat.le_refl _) _ ?_))) (Nat.le_refl _) hb
  have zW1 : V0.heap.size ≤ W1.heap.size := hW1.size
  clear hb
  rcases hr with rfl | ⟨hr0, hq⟩
  · go_wp2_with fail
    go_ret
    exact ⟨rfl, Hw_0.out _ hW1⟩
  have hnn := bulkGrm_nonneg D x0
  have Hbk0 : Hid (bulkGrm D x0 ≤ 1048576) := hide (by omega)
  have hl0 : r0 ≤ 1048576 := by omega
  have hqj := hide hq
  clear hq hnn
  have HT0 : Hid (∀ W : World, Below w.heap.size w W → Calls Try.prog 36 #[.agg #[av0, av1]] W fun en w' => ∃ us F', en = .returned (.agg (List.toArray us)) ∧ GrmR D w' x0 us F' ∧ Fresh W.heap.size w' F' ∧ Below W.heap.size W w') := hide fun W hW =>
    c_Grm D x0 _ F0 W (HX0.out W hW) Hbk0.out
  go_wp2_with fail
  refine Calls.mono (z_Rul D x1 _ F1 _ r0 (HX1.out _ (Hw_0.out _ (by (repeat (first | assumption | exact Below.refl _ _ | apply Below.drew | refine below_alloc (Nat.le_refl _) _ ?_))))) (by omega) (by omega)) ?_
  rintro en W2 ⟨⟨r1, rfl, hr⟩, hb⟩
  have hW2 : Below V0.heap.size V0 W2 := below_step (by (repeat (first | assumption | exact Below.refl _ _ | apply Below.drew | refine below_alloc (Nat.le_refl _) _ ?_))) (Nat.le_refl _) hb
  have zW2 : V0.heap.size ≤ W2.heap.size := hW2.size
  clear hb
  rcases hr with rfl | ⟨hr1, hq⟩
  · go_wp2_with fail
    go_ret
    exact ⟨rfl, Hw_0.out _ hW2⟩
  have hnn := bulkRul_nonneg D x1
  have Hbk1 : Hid (bulkRul D x1 ≤ 1048576) := hide (by omega)
  have Hbj : Hid (bulkGrm D x0 + bulkRul D x1 ≤ 1048576) := hide (by have := hqj.out; omega)
  have hl1 : r1 ≤ 1048576 := by omega
  clear hq hnn hqj
  have HT1 : Hid (∀ W : World, Below w.heap.size w W → Calls Try.prog 17 #[.agg #[bv0, bv1, bv2, bv3, bv4, bv5]] W fun en w' => ∃ us F', en = .returned (.agg (List.toArray us)) ∧ RulR D w' x1 us F' ∧ Fresh W.heap.size w' F' ∧ Below W.heap.size W w') := hide fun W hW =>
    c_Rul D x1 _ F1 W (HX1.out W hW) Hbk1.out
  go_wp2_with fail
  clear hr0 hl0 hr1 hl1
  have hst := fun (w : World) (a : Addr) (v : Value) (m : Mode) (hv : v.oneCell' = true) => run_store Try.prog w a v m hv
  -- the reference
  go_region_held3 (fun W => Below V0.heap.size V0 W)
    (first | assumption | exact Below.drew (by assumption) | exact below_alloc (Nat.le_refl _) _ (by assumption) | (refine Below.setCell ?_ ?_ _ <;> first | assumption | exact below_alloc (Nat.le_refl _) _ (by assumption) | exact hW5.size))
    (first
      | (go_at_call_has 36 av0; refine Calls.mono (HT0.out _ ?hw) ?_; (case hw => exact Hw_0.out _ (by (repeat (first | assumption | exact Below.refl _ _ | apply Below.drew | refine below_alloc (Nat.le_refl _) _ ?_)))); rintro en W3 ⟨us, Ftz0, rfl, hR, hf, hb⟩; obtain ⟨tz0_0, tz0_1, rfl⟩ := list2 ((GrmR.good D).len hR); have hW3 : Below V0.heap.size V0 W3 := below_step (by (repeat (first | assumption | exact Below.refl _ _ | apply Below.drew | refine below_alloc (Nat.le_refl _) _ ?_))) (Nat.le_refl _) hb; have hbtz0 := hb; have HLtz0 := hide hf.lt; have HRtz0 := hide hR; clear hR hf hb)
      | (go_at_call_has 17 bv0; refine Calls.mono (HT1.out _ ?hw) ?_; (case hw => exact Hw_0.out _ (by (repeat (first | assumption | exact Below.refl _ _ | apply Below.drew | refine below_alloc (Nat.le_refl _) _ ?_)))); rintro en W4 ⟨us, Ftz1, rfl, hR, hf, hb⟩; obtain ⟨tz1_0, tz1_1, tz1_2, tz1_3, tz1_4, tz1_5, rfl⟩ := list_6 ((RulR.good D).len hR); have hW4 : Below V0.heap.size V0 W4 := below_step (by (repeat (first | assumption | exact Below.refl _ _ | apply Below.drew | refine below_alloc (Nat.le_refl _) _ ?_))) (Nat.le_refl _) hb; have hbtz1 := hb; have HLtz1 := hide hf.lt; have HRtz1 := hide hR; clear hR hf hb)
      | (go_at_call 59; refine Calls.mono (s_RequiredOccurrences D x0 x1 _ _ Ftz0 Ftz1 _ ((GrmR.good D).below HRtz0.out hbtz1 (fun b hb => Nat.lt_of_lt_of_le (HLtz0.out b hb) (Nat.le_refl _))) HRtz1.out Hbj.out) ?_; rintro en W5 ⟨vz, Fz, rfl, hR, hf, hb⟩; have hRk := hide hR; have hfk := hide hf; have Hlo_z : Hid (∀ b ∈ Fz, W4.heap.size ≤ b) := hide hf.from_; have Hhi_z : Hid (∀ b ∈ Fz, b < W5.heap.size) := hide hf.lt; have hW5 : Below V0.heap.size V0 W5 := below_step (by (repeat (first | assumption | exact Below.refl _ _ | apply Below.drew | refine below_alloc (Nat.le_refl _) _ ?_))) (Nat.le_refl _) hb; have zW5 : V0.heap.size ≤ W5.heap.size := hW5.size; clear hb; clear hR hf))
  clear HRtz0 HLtz0 hbtz0 HRtz1 HLtz1 hbtz1
  have hbb : ∀ X : World, Below W5.heap.size W5 X → Below V0.heap.size V0 X := fun X hX => hW5.trans (hX.mono hW5.size)
  have ca0_0_1 := fun (X : World) (hX : Below W5.heap.size W5 X) => ca0_0_0 X (hbb X hX)
  have ca0_1_1 := fun (X : World) (hX : Below W5.heap.size W5 X) => ca0_1_0 X (hbb X hX)
  have ca1_0_1 := fun (X : World) (hX : Below W5.heap.size W5 X) => ca1_0_0 X (hbb X hX)
  have ca1_1_1 := fun (X : World) (hX : Below W5.heap.size W5 X) => ca1_1_0 X (hbb X hX)
  have ca1_2_1 := fun (X : World) (hX : Below W5.heap.size W5 X) => ca1_2_0 X (hbb X hX)
  have ca1_3_1 := fun (X : World) (hX : Below W5.heap.size W5 X) => ca1_3_0 X (hbb X hX)
  have ca1_4_1 := fun (X : World) (hX : Below W5.heap.size W5 X) => ca1_4_0 X (hbb X hX)
  have ca1_5_1 := fun (X : World) (hX : Below W5.heap.size W5 X) => ca1_5_0 X (hbb X hX)
  have Hw_1 : Hid (∀ X : World, Below W5.heap.size W5 X → Below w.heap.size w X) := hide fun X hX => Hw_0.out X (hbb X hX)
  clear ca0_0_0 ca0_1_0 ca1_0_0 ca1_1_0 ca1_2_0 ca1_3_0 ca1_4_0 ca1_5_0 Hw_0
  have Hz_1 : Hid (∀ X : World, Below W5.heap.size W5 X → SlR 2 (OccR D) X (reqO x0 x1) vz Fz) := hide fun X hX => hRk.out.below (OccR.good D) hX Hhi_z.out
  have Rz_1 : Hid (∀ X : World, Below W5.heap.size W5 X → Fresh (W4.heap.size) X Fz) := hide fun X hX => hfk.out.below hX
  clear hbb hRk hfk hV0 hD0 hA0
  clear hW5
  have hW5 : Below W5.heap.size W5 W5 := Below.refl _ _
  have hD1 : ∀ X : World, Below W5.heap.size W5 X → Below W5.heap.size W5 X.drew := fun _ h => h.drew
  have hA1 : ∀ (X : World) (o : Obj), Below W5.heap.size W5 X → Below W5.heap.size W5 (X.alloc o) := fun _ o h => below_alloc (Nat.le_refl _) o h
  go_wp2_with fail
  go_wp2_with fail
  refine Calls.mono (HT0.out _ (Hw_1.out _ (by (repeat (first | assumption | exact Below.refl _ _ | apply Below.drew | refine below_alloc (Nat.le_refl _) _ ?_))))) ?_
  rintro en W6 ⟨us, Fx0, rfl, hR, hf, hb⟩
  obtain ⟨x0_0, x0_1, rfl⟩ := list2 ((GrmR.good D).len hR)
  have ho := GrmR.one hR
  have ox0_0 := ho x0_0 (by simp)
  have ox0_1 := ho x0_1 (by simp)
  have hRk := hide hR
  have hfk := hide hf
  have Hlo_x0 : Hid (∀ b ∈ Fx0, W5.heap.size ≤ b) := hide hf.from_
  have Hhi_x0 : Hid (∀ b ∈ Fx0, b < W6.heap.size) := hide hf.lt
  have hW6 : Below W5.heap.size W5 W6 := below_step (by (repeat (first | assumption | exact Below.refl _ _ | apply Below.drew | refine below_alloc (Nat.le_refl _) _ ?_))) (Nat.le_refl _) hb
  have zW6 : W5.heap.size ≤ W6.heap.size := hW6.size
  clear hb
  clear ho hR hf
  go_wp2_with fail
  have Cx := CellsAt.new W6 [x0_0, x0_1] 69
  have hz := World.size_alloc W6 (Obj.cells #[x0_0, x0_1] 69)
  have hst0 : Below W6.heap.size W6 (W6.alloc (Obj.cells #[x0_0, x0_1] 69)) := (Below.refl _ _).alloc (Nat.le_refl _) _
  generalize W6.alloc (Obj.cells #[x0_0, x0_1] 69) = V1 at Cx hz hst0 ⊢
  have zV1 : W6.heap.size + 1 ≤ V1.heap.size := Nat.le_of_eq hz.symm
  have hbW : ∀ X : World, Below V1.heap.size V1 X → Below W6.heap.size W6 X := fun X hX => hst0.trans (hX.mono (by omega))
  have hbb : ∀ X : World, Below V1.heap.size V1 X → Below W5.heap.size W5 X := fun X hX => hW6.trans ((hbW X hX).mono hW6.size)
  have ca0_0_2 := fun (X : World) (hX : Below V1.heap.size V1 X) => ca0_0_1 X (hbb X hX)
  have ca0_1_2 := fun (X : World) (hX : Below V1.heap.size V1 X) => ca0_1_1 X (hbb X hX)
  have ca1_0_2 := fun (X : World) (hX : Below V1.heap.size V1 X) => ca1_0_1 X (hbb X hX)
  have ca1_1_2 := fun (X : World) (hX : Below V1.heap.size V1 X) => ca1_1_1 X (hbb X hX)
  have ca1_2_2 := fun (X : World) (hX : Below V1.heap.size V1 X) => ca1_2_1 X (hbb X hX)
  have ca1_3_2 := fun (X : World) (hX : Below V1.heap.size V1 X) => ca1_3_1 X (hbb X hX)
  have ca1_4_2 := fun (X : World) (hX : Below V1.heap.size V1 X) => ca1_4_1 X (hbb X hX)
  have ca1_5_2 := fun (X : World) (hX : Below V1.heap.size V1 X) => ca1_5_1 X (hbb X hX)
  have Hz_2 := hide (fun (X : World) (hX : Below V1.heap.size V1 X) => Hz_1.out X (hbb X hX))
  have Rz_2 := hide (fun (X : World) (hX : Below V1.heap.size V1 X) => Rz_1.out X (hbb X hX))
  have Hw_2 : Hid (∀ X : World, Below V1.heap.size V1 X → Below w.heap.size w X) := hide fun X hX => Hw_1.out X (hbb X hX)
  clear ca0_0_1 ca0_1_1 ca1_0_1 ca1_1_1 ca1_2_1 ca1_3_1 ca1_4_1 ca1_5_1 Hz_1 Rz_1 Hw_1
  have cx0_0_2 := cell_rule Cx (n := V1.heap.size) (by omega) 0 (v := x0_0) rfl
  have cx0_1_2 := cell_rule Cx (n := V1.heap.size) (by omega) 1 (v := x0_1) rfl
  have hV1 : Below V1.heap.size V1 V1 := Below.refl _ _
  have hD2 : ∀ X : World, Below V1.heap.size V1 X → Below V1.heap.size V1 X.drew := fun _ h => h.drew
  have hA2 : ∀ (X : World) (o : Obj), Below V1.heap.size V1 X → Below V1.heap.size V1 (X.alloc o) := fun _ o h => below_alloc (Nat.le_refl _) o h
  clear Cx hz hst0
  have hRv := fun (X : World) (hX : Below V1.heap.size V1 X) => (GrmR.good D).below hRk.out (hbW X hX) Hhi_x0.out
  have Hx0_2 : Hid (∀ X : World, Below V1.heap.size V1 X → GrmR D X x0 [x0_0, x0_1] Fx0) := hide hRv
  have Rx0_2 : Hid (∀ X : World, Below V1.heap.size V1 X → Fresh (W5.heap.size) X Fx0) := hide fun X hX => hfk.out.below (hbW X hX)
  clear hRk hfk hRv ox0_0 ox0_1
  clear hbW hbb hW6 hW5 hD1 hA1
  go_wp2_with fail
  refine Calls.mono (HT1.out _ (Hw_2.out _ (by (repeat (first | assumption | exact Below.refl _ _ | apply Below.drew | refine below_alloc (Nat.le_refl _) _ ?_))))) ?_
  rintro en W7 ⟨us, Fx1, rfl, hR, hf, hb⟩
  obtain ⟨x1_0, x1_1, x1_2, x1_3, x1_4, x1_5, rfl⟩ := list_6 ((RulR.good D).len hR)
  have ho := RulR.one hR
  have ox1_0 := ho x1_0 (by simp)
  have ox1_1 := ho x1_1 (by simp)
  have ox1_2 := ho x1_2 (by simp)
  have ox1_3 := ho x1_3 (by simp)
  have ox1_4 := ho x1_4 (by simp)
  have ox1_5 := ho x1_5 (by simp)
  have hRk := hide hR
  have hfk := hide hf
  have Hlo_x1 : Hid (∀ b ∈ Fx1, V1.heap.size ≤ b) := hide hf.from_
  have Hhi_x1 : Hid (∀ b ∈ Fx1, b < W7.heap.size) := hide hf.lt
  have hW7 : Below V1.heap.size V1 W7 := below_step (by (repeat (first | assumption | exact Below.refl _ _ | apply Below.drew | refine below_alloc (Nat.le_refl _) _ ?_))) (Nat.le_refl _) hb
  have zW7 : V1.heap.size ≤ W7.heap.size := hW7.size
  clear hb
  clear ho hR hf
  go_wp2_with fail
  have Cx := CellsAt.new W7 [x1_0, x1_1, x1_2, x1_3, x1_4, x1_5] 39
  have hz := World.size_alloc W7 (Obj.cells #[x1_0, x1_1, x1_2, x1_3, x1_4, x1_5] 39)
  have hst0 : Below W7.heap.size W7 (W7.alloc (Obj.cells #[x1_0, x1_1, x1_2, x1_3, x1_4, x1_5] 39)) := (Below.refl _ _).alloc (Nat.le_refl _) _
  generalize W7.alloc (Obj.cells #[x1_0, x1_1, x1_2, x1_3, x1_4, x1_5] 39) = V2 at Cx hz hst0 ⊢
  have zV2 : W7.heap.size + 1 ≤ V2.heap.size := Nat.le_of_eq hz.symm
  have hbW : ∀ X : World, Below V2.heap.size V2 X → Below W7.heap.size W7 X := fun X hX => hst0.trans (hX.mono (by omega))
  have hbb : ∀ X : World, Below V2.heap.size V2 X → Below V1.heap.size V1 X := fun X hX => hW7.trans ((hbW X hX).mono hW7.size)
  have ca0_0_3 := fun (X : World) (hX : Below V2.heap.size V2 X) => ca0_0_2 X (hbb X hX)
  have ca0_1_3 := fun (X : World) (hX : Below V2.heap.size V2 X) => ca0_1_2 X (hbb X hX)
  have ca1_0_3 := fun (X : World) (hX : Below V2.heap.size V2 X) => ca1_0_2 X (hbb X hX)
  have ca1_1_3 := fun (X : World) (hX : Below V2.heap.size V2 X) => ca1_1_2 X (hbb X hX)
  have ca1_2_3 := fun (X : World) (hX : Below V2.heap.size V2 X) => ca1_2_2 X (hbb X hX)
  have ca1_3_3 := fun (X : World) (hX : Below V2.heap.size V2 X) => ca1_3_2 X (hbb X hX)
  have ca1_4_3 := fun (X : World) (hX : Below V2.heap.size V2 X) => ca1_4_2 X (hbb X hX)
  have ca1_5_3 := fun (X : World) (hX : Below V2.heap.size V2 X) => ca1_5_2 X (hbb X hX)
  have cx0_0_3 := fun (X : World) (hX : Below V2.heap.size V2 X) => cx0_0_2 X (hbb X hX)
  have cx0_1_3 := fun (X : World) (hX : Below V2.heap.size V2 X) => cx0_1_2 X (hbb X hX)
  have Hz_3 := hide (fun (X : World) (hX : Below V2.heap.size V2 X) => Hz_2.out X (hbb X hX))
  have Rz_3 := hide (fun (X : World) (hX : Below V2.heap.size V2 X) => Rz_2.out X (hbb X hX))
  have Hx0_3 := hide (fun (X : World) (hX : Below V2.heap.size V2 X) => Hx0_2.out X (hbb X hX))
  have Rx0_3 := hide (fun (X : World) (hX : Below V2.heap.size V2 X) => Rx0_2.out X (hbb X hX))
  have Hw_3 : Hid (∀ X : World, Below V2.heap.size V2 X → Below w.heap.size w X) := hide fun X hX => Hw_2.out X (hbb X hX)
  clear ca0_0_2 ca0_1_2 ca1_0_2 ca1_1_2 ca1_2_2 ca1_3_2 ca1_4_2 ca1_5_2 cx0_0_2 cx0_1_2 Hz_2 Hx0_2 Rz_2 Rx0_2 Hw_2
  have cx1_0_3 := cell_rule Cx (n := V2.heap.size) (by omega) 0 (v := x1_0) rfl
  have cx1_1_3 := cell_rule Cx (n := V2.heap.size) (by omega) 1 (v := x1_1) rfl
  have cx1_2_3 := cell_rule Cx (n := V2.heap.size) (by omega) 2 (v := x1_2) rfl
  have cx1_3_3 := cell_rule Cx (n := V2.heap.size) (by omega) 3 (v := x1_3) rfl
  have cx1_4_3 := cell_rule Cx (n := V2.heap.size) (by omega) 4 (v := x1_4) rfl
  have cx1_5_3 := cell_rule Cx (n := V2.heap.size) (by omega) 5 (v := x1_5) rfl
  have hV2 : Below V2.heap.size V2 V2 := Below.refl _ _
  have hD3 : ∀ X : World, Below V2.heap.size V2 X → Below V2.heap.size V2 X.drew := fun _ h => h.drew
  have hA3 : ∀ (X : World) (o : Obj), Below V2.heap.size V2 X → Below V2.heap.size V2 (X.alloc o) := fun _ o h => below_alloc (Nat.le_refl _) o h
  clear Cx hz hst0
  have hRv := fun (X : World) (hX : Below V2.heap.size V2 X) => (RulR.good D).below hRk.out (hbW X hX) Hhi_x1.out
  have Hx1_3 : Hid (∀ X : World, Below V2.heap.size V2 X → RulR D X x1 [x1_0, x1_1, x1_2, x1_3, x1_4, x1_5] Fx1) := hide hRv
  have Rx1_3 : Hid (∀ X : World, Below V2.heap.size V2 X → Fresh (V1.heap.size) X Fx1) := hide fun X hX => hfk.out.below (hbW X hX)
  clear hRk hfk hRv ox1_0 ox1_1 ox1_2 ox1_3 ox1_4 ox1_5
  clear hbW hbb hW7 hV1 hD2 hA2
  go_wp2_with fail
  -- the program
  refine Calls.mono (i_RequiredOccurrences D x0 x1 _ _ Fx0 Fx1 _ (Hx0_3.out _ (by (repeat (first | assumption | exact Below.refl _ _ | apply Below.drew | refine below_alloc (Nat.le_refl _) _ ?_)))) (Hx1_3.out _ (by (repeat (first | assumption | exact Below.refl _ _ | apply Below.drew | refine below_alloc (Nat.le_refl _) _ ?_)))) Hbj.out) ?_
  rintro en W8 ⟨vg, Fg, rfl, hR, hf, hb⟩
  have hRk := hide hR
  have hfk := hide hf
  have Hlo_g : Hid (∀ b ∈ Fg, V2.heap.size ≤ b) := hide hf.from_
  have Hhi_g : Hid (∀ b ∈ Fg, b < W8.heap.size) := hide hf.lt
  have hW8 : Below V2.heap.size V2 W8 := below_step (by (repeat (first | assumption | exact Below.refl _ _ | apply Below.drew | refine below_alloc (Nat.le_refl _) _ ?_))) (Nat.le_refl _) hb
  have zW8 : V2.heap.size ≤ W8.heap.size := hW8.size
  clear hb
  clear hR hf
  have hbb : ∀ X : World, Below W8.heap.size W8 X → Below V2.heap.size V2 X := fun X hX => hW8.trans (hX.mono hW8.size)
  have ca0_0_4 := fun (X : World) (hX : Below W8.heap.size W8 X) => ca0_0_3 X (hbb X hX)
  have ca0_1_4 := fun (X : World) (hX : Below W8.heap.size W8 X) => ca0_1_3 X (hbb X hX)
  have ca1_0_4 := fun (X : World) (hX : Below W8.heap.size W8 X) => ca1_0_3 X (hbb X hX)
  have ca1_1_4 := fun (X : World) (hX : Below W8.heap.size W8 X) => ca1_1_3 X (hbb X hX)
  have ca1_2_4 := fun (X : World) (hX : Below W8.heap.size W8 X) => ca1_2_3 X (hbb X hX)
  have ca1_3_4 := fun (X : World) (hX : Below W8.heap.size W8 X) => ca1_3_3 X (hbb X hX)
  have ca1_4_4 := fun (X : World) (hX : Below W8.heap.size W8 X) => ca1_4_3 X (hbb X hX)
  have ca1_5_4 := fun (X : World) (hX : Below W8.heap.size W8 X) => ca1_5_3 X (hbb X hX)
  have cx0_0_4 := fun (X : World) (hX : Below W8.heap.size W8 X) => cx0_0_3 X (hbb X hX)
  have cx0_1_4 := fun (X : World) (hX : Below W8.heap.size W8 X) => cx0_1_3 X (hbb X hX)
  have cx1_0_4 := fun (X : World) (hX : Below W8.heap.size W8 X) => cx1_0_3 X (hbb X hX)
  have cx1_1_4 := fun (X : World) (hX : Below W8.heap.size W8 X) => cx1_1_3 X (hbb X hX)
  have cx1_2_4 := fun (X : World) (hX : Below W8.heap.size W8 X) => cx1_2_3 X (hbb X hX)
  have cx1_3_4 := fun (X : World) (hX : Below W8.heap.size W8 X) => cx1_3_3 X (hbb X hX)
  have cx1_4_4 := fun (X : World) (hX : Below W8.heap.size W8 X) => cx1_4_3 X (hbb X hX)
  have cx1_5_4 := fun (X : World) (hX : Below W8.heap.size W8 X) => cx1_5_3 X (hbb X hX)
  have Hz_4 := hide (fun (X : World) (hX : Below W8.heap.size W8 X) => Hz_3.out X (hbb X hX))
  have Rz_4 := hide (fun (X : World) (hX : Below W8.heap.size W8 X) => Rz_3.out X (hbb X hX))
  have Hx0_4 := hide (fun (X : World) (hX : Below W8.heap.size W8 X) => Hx0_3.out X (hbb X hX))
  have Rx0_4 := hide (fun (X : World) (hX : Below W8.heap.size W8 X) => Rx0_3.out X (hbb X hX))
  have Hx1_4 := hide (fun (X : World) (hX : Below W8.heap.size W8 X) => Hx1_3.out X (hbb X hX))
  have Rx1_4 := hide (fun (X : World) (hX : Below W8.heap.size W8 X) => Rx1_3.out X (hbb X hX))
  have Hw_4 : Hid (∀ X : World, Below W8.heap.size W8 X → Below w.heap.size w X) := hide fun X hX => Hw_3.out X (hbb X hX)
  clear ca0_0_3 ca0_1_3 ca1_0_3 ca1_1_3 ca1_2_3 ca1_3_3 ca1_4_3 ca1_5_3 cx0_0_3 cx0_1_3 cx1_0_3 cx1_1_3 cx1_2_3 cx1_3_3 cx1_4_3 cx1_5_3 Hz_3 Hx0_3 Hx1_3 Rz_3 Rx0_3 Rx1_3 Hw_3
  have Hg_4 : Hid (∀ X : World, Below W8.heap.size W8 X → SlR 2 (OccR D) X (reqO x0 x1) vg Fg) := hide fun X hX => hRk.out.below (OccR.good D) hX Hhi_g.out
  have Rg_4 : Hid (∀ X : World, Below W8.heap.size W8 X → Fresh (V2.heap.size) X Fg) := hide fun X hX => hfk.out.below hX
  clear hbb hRk hfk hV2 hD3 hA3
  clear hW8
  have hW8 : Below W8.heap.size W8 W8 := Below.refl _ _
  have hD4 : ∀ X : World, Below W8.heap.size W8 X → Below W8.heap.size W8 X.drew := fun _ h => h.drew
  have hA4 : ∀ (X : World) (o : Obj), Below W8.heap.size W8 X → Below W8.heap.size W8 (X.alloc o) := fun _ o h => below_alloc (Nat.le_refl _) o h
  go_wp2_with fail
  refine Calls.mono (es_Occ D (reqO x0 x1) _ _ Fg Fz _ (Hg_4.out _ (by (repeat (first | assumption | exact Below.refl _ _ | apply Below.drew | refine below_alloc (Nat.le_refl _) _ ?_)))) (Hz_4.out _ (by (repeat (first | assumption | exact Below.refl _ _ | apply Below.drew | refine below_alloc (Nat.le_refl _) _ ?_))))) ?_
  rintro en W9 ⟨rfl, hb⟩
  have hW9 : Below W8.heap.size W8 W9 := below_step (by (repeat (first | assumption | exact Below.refl _ _ | apply Below.drew | refine below_alloc (Nat.le_refl _) _ ?_))) (Nat.le_refl _) hb
  have zW9 : W8.heap.size ≤ W9.heap.size := hW9.size
  clear hb
  go_wp2_with fail
  go_region_held3 (fun W => Below W8.heap.size W8 W)
    (first | assumption | exact Below.drew (by assumption))
    (first
      | (go_at_call_has 36 av0; refine Calls.mono (HT0.out _ ?hw) ?_; (case hw => exact Hw_4.out _ (by (repeat (first | assumption | exact Below.refl _ _ | apply Below.drew | refine below_alloc (Nat.le_refl _) _ ?_)))); rintro en W10 ⟨us, Fe0, rfl, hR, hf, hb⟩; obtain ⟨e0_0, e0_1, rfl⟩ := list2 ((GrmR.good D).len hR); have hW10 : Below W8.heap.size W8 W10 := below_step (by (repeat (first | assumption | exact Below.refl _ _ | apply Below.drew | refine below_alloc (Nat.le_refl _) _ ?_))) (Nat.le_refl _) hb; have HRe0 := hide hR; clear hR hf hb)
      | (go_at_call 38; refine Calls.mono (e_Grm D x0 _ _ Fx0 Fe0 _ (Hx0_4.out _ (by (repeat (first | assumption | exact Below.refl _ _ | apply Below.drew | refine below_alloc (Nat.le_refl _) _ ?_)))) HRe0.out) ?_; rintro en W11 ⟨rfl, hb⟩; have hW11 : Below W8.heap.size W8 W11 := below_step (by (repeat (first | assumption | exact Below.refl _ _ | apply Below.drew | refine below_alloc (Nat.le_refl _) _ ?_))) (Nat.le_refl _) hb; clear hb))
  clear HRe0
  go_wp2_with fail
  go_region_held3 (fun W => Below W8.heap.size W8 W)
    (first | assumption | exact Below.drew (by assumption))
    (first
      | (go_at_call_has 17 bv0; refine Calls.mono (HT1.out _ ?hw) ?_; (case hw => exact Hw_4.out _ (by (repeat (first | assumption | exact Below.refl _ _ | apply Below.drew | refine below_alloc (Nat.le_refl _) _ ?_)))); rintro en W12 ⟨us, Fe1, rfl, hR, hf, hb⟩; obtain ⟨e1_0, e1_1, e1_2, e1_3, e1_4, e1_5, rfl⟩ := list_6 ((RulR.good D).len hR); have hW12 : Below W8.heap.size W8 W12 := below_step (by (repeat (first | assumption | exact Below.refl _ _ | apply Below.drew | refine below_alloc (Nat.le_refl _) _ ?_))) (Nat.le_refl _) hb; have HRe1 := hide hR; clear hR hf hb)
      | (go_at_call 21; refine Calls.mono (e_Rul D x1 _ _ Fx1 Fe1 _ (Hx1_4.out _ (by (repeat (first | assumption | exact Below.refl _ _ | apply Below.drew | refine below_alloc (Nat.le_refl _) _ ?_)))) HRe1.out) ?_; rintro en W13 ⟨rfl, hb⟩; have hW13 : Below W8.heap.size W8 W13 := below_step (by (repeat (first | assumption | exact Below.refl _ _ | apply Below.drew | refine below_alloc (Nat.le_refl _) _ ?_))) (Nat.le_refl _) hb; clear hb))
  clear HRe1
  go_wp2_with fail
  have hMr := Hx0_4.out _ (by (repeat (first | assumption | exact Below.refl _ _ | apply Below.drew | refine below_alloc (Nat.le_refl _) _ ?_)))
  have hMf := Rx0_4.out _ (by (repeat (first | assumption | exact Below.refl _ _ | apply Below.drew | refine below_alloc (Nat.le_refl _) _ ?_)))
  refine Calls.mono (mm_Grm D _ (1) x0 _ Fx0 _ hMr hMf (by omega) (by have := Grm_cnt Hbk0.out; omega)) ?_
  rintro en W14 ⟨rfl, hRn, hFn, ha⟩
  have hcur : Below W8.heap.size W8 _ := (by (repeat (first | assumption | exact Below.refl _ _ | apply Below.drew | refine below_alloc (Nat.le_refl _) _ ?_)))
  have zW14 : W8.heap.size ≤ W14.heap.size := Nat.le_trans hcur.size ha.size
  have ca0_0_5 := cell_apart ha (ca0_0_4 _ hcur) (fun hm => by have := Hlo_x0.out _ hm; have := Hhi_x0.out _ hm; omega)
  have ca0_1_5 := cell_apart ha (ca0_1_4 _ hcur) (fun hm => by have := Hlo_x0.out _ hm; have := Hhi_x0.out _ hm; omega)
  have ca1_0_5 := cell_apart ha (ca1_0_4 _ hcur) (fun hm => by have := Hlo_x0.out _ hm; have := Hhi_x0.out _ hm; omega)
  have ca1_1_5 := cell_apart ha (ca1_1_4 _ hcur) (fun hm => by have := Hlo_x0.out _ hm; have := Hhi_x0.out _ hm; omega)
  have ca1_2_5 := cell_apart ha (ca1_2_4 _ hcur) (fun hm => by have := Hlo_x0.out _ hm; have := Hhi_x0.out _ hm; omega)
  have ca1_3_5 := cell_apart ha (ca1_3_4 _ hcur) (fun hm => by have := Hlo_x0.out _ hm; have := Hhi_x0.out _ hm; omega)
  have ca1_4_5 := cell_apart ha (ca1_4_4 _ hcur) (fun hm => by have := Hlo_x0.out _ hm; have := Hhi_x0.out _ hm; omega)
  have ca1_5_5 := cell_apart ha (ca1_5_4 _ hcur) (fun hm => by have := Hlo_x0.out _ hm; have := Hhi_x0.out _ hm; omega)
  have cx0_0_5 := cell_apart ha (cx0_0_4 _ hcur) (fun hm => by have := Hlo_x0.out _ hm; have := Hhi_x0.out _ hm; omega)
  have cx0_1_5 := cell_apart ha (cx0_1_4 _ hcur) (fun hm => by have := Hlo_x0.out _ hm; have := Hhi_x0.out _ hm; omega)
  have cx1_0_5 := cell_apart ha (cx1_0_4 _ hcur) (fun hm => by have := Hlo_x0.out _ hm; have := Hhi_x0.out _ hm; omega)
  have cx1_1_5 := cell_apart ha (cx1_1_4 _ hcur) (fun hm => by have := Hlo_x0.out _ hm; have := Hhi_x0.out _ hm; omega)
  have cx1_2_5 := cell_apart ha (cx1_2_4 _ hcur) (fun hm => by have := Hlo_x0.out _ hm; have := Hhi_x0.out _ hm; omega)
  have cx1_3_5 := cell_apart ha (cx1_3_4 _ hcur) (fun hm => by have := Hlo_x0.out _ hm; have := Hhi_x0.out _ hm; omega)
  have cx1_4_5 := cell_apart ha (cx1_4_4 _ hcur) (fun hm => by have := Hlo_x0.out _ hm; have := Hhi_x0.out _ hm; omega)
  have cx1_5_5 := cell_apart ha (cx1_5_4 _ hcur) (fun hm => by have := Hlo_x0.out _ hm; have := Hhi_x0.out _ hm; omega)
  have qz := ((Hz_4.out _ hcur).apart (OccR.good D) ha (fun b h1 h2 => by have := Hlo_z.out b h1; have := Hhi_z.out b h1; have := Hlo_x0.out b h2; have := Hhi_x0.out b h2; omega))
  have Hz_5 : Hid (∀ X : World, Below W14.heap.size W14 X → SlR 2 (OccR D) X (reqO x0 x1) vz Fz) := hide fun X hX => qz.below (OccR.good D) hX (qz.lt (OccR.good D))
  have fz := (Rz_4.out _ hcur).apart ha (fun b h1 h2 => by have := Hlo_z.out b h1; have := Hhi_z.out b h1; have := Hlo_x0.out b h2; have := Hhi_x0.out b h2; omega)
  have Rz_5 : Hid (∀ X : World, Below W14.heap.size W14 X → Fresh (W4.heap.size) X Fz) := hide fun X hX => fz.below hX
  have qx1 := ((RulR.good D).apart (Hx1_4.out _ hcur) ha (fun b h1 h2 => by have := Hlo_x1.out b h1; have := Hhi_x1.out b h1; have := Hlo_x0.out b h2; have := Hhi_x0.out b h2; omega))
  have Hx1_5 : Hid (∀ X : World, Below W14.heap.size W14 X → RulR D X x1 [x1_0, x1_1, x1_2, x1_3, x1_4, x1_5] Fx1) := hide fun X hX => (RulR.good D).below qx1 hX ((RulR.good D).lt qx1)
  have fx1 := (Rx1_4.out _ hcur).apart ha (fun b h1 h2 => by have := Hlo_x1.out b h1; have := Hhi_x1.out b h1; have := Hlo_x0.out b h2; have := Hhi_x0.out b h2; omega)
  have Rx1_5 : Hid (∀ X : World, Below W14.heap.size W14 X → Fresh (V1.heap.size) X Fx1) := hide fun X hX => fx1.below hX
  have qg := ((Hg_4.out _ hcur).apart (OccR.good D) ha (fun b h1 h2 => by have := Hlo_g.out b h1; have := Hhi_g.out b h1; have := Hlo_x0.out b h2; have := Hhi_x0.out b h2; omega))
  have Hg_5 : Hid (∀ X : World, Below W14.heap.size W14 X → SlR 2 (OccR D) X (reqO x0 x1) vg Fg) := hide fun X hX => qg.below (OccR.good D) hX (qg.lt (OccR.good D))
  have fg := (Rg_4.out _ hcur).apart ha (fun b h1 h2 => by have := Hlo_g.out b h1; have := Hhi_g.out b h1; have := Hlo_x0.out b h2; have := Hhi_x0.out b h2; omega)
  have Rg_5 : Hid (∀ X : World, Below W14.heap.size W14 X → Fresh (V2.heap.size) X Fg) := hide fun X hX => fg.below hX
  have qx0 := hRn
  have Hx0_5 : Hid (∀ X : World, Below W14.heap.size W14 X → GrmR D X (sk_Grm D (1) x0) [x0_0, x0_1] Fx0) := hide fun X hX => (GrmR.good D).below qx0 hX ((GrmR.good D).lt qx0)
  have Rx0_5 : Hid (∀ X : World, Below W14.heap.size W14 X → Fresh (W5.heap.size) X Fx0) := hide fun X hX => hFn.below hX
  have hapw : Below w.heap.size w W14 := (Hw_4.out _ hcur).trans (ha.below (fun b hb => by have := Hlo_x0.out b hb; omega) (by have := (Hw_4.out _ hcur).size; omega))
  have Hw_5 : Hid (∀ X : World, Below W14.heap.size W14 X → Below w.heap.size w X) := hide fun X hX => hapw.trans (hX.mono hapw.size)
  clear ca0_0_4 ca0_1_4 ca1_0_4 ca1_1_4 ca1_2_4 ca1_3_4 ca1_4_4 ca1_5_4 cx0_0_4 cx0_1_4 cx1_0_4 cx1_1_4 cx1_2_4 cx1_3_4 cx1_4_4 cx1_5_4 Hz_4 Hx0_4 Hx1_4 Hg_4 Rz_4 Rx0_4 Rx1_4 Rg_4 Hw_4 hapw hcur ha hMr hMf hRn hFn qz qx0 qx1 qg fz fx1 fg
  clear hD4 hA4
  have hW14 : Below W14.heap.size W14 W14 := Below.refl _ _
  have hD5 : ∀ X : World, Below W14.heap.size W14 X → Below W14.heap.size W14 X.drew := fun _ h => h.drew
  have hA5 : ∀ (X : World) (o : Obj), Below W14.heap.size W14 X → Below W14.heap.size W14 (X.alloc o) := fun _ o h => below_alloc (Nat.le_refl _) o h
  go_wp2_with fail
  have hMr := Hx1_5.out _ (by (repeat (first | assumption | exact Below.refl _ _ | apply Below.drew | refine below_alloc (Nat.le_refl _) _ ?_)))
  have hMf := Rx1_5.out _ (by (repeat (first | assumption | exact Below.refl _ _ | apply Below.drew | refine below_alloc (Nat.le_refl _) _ ?_)))
  refine Calls.mono (mm_Rul D _ (1 + sc_Grm D x0) x1 _ Fx1 _ hMr hMf (by omega) (by have := Rul_cnt Hbk1.out; have := Grm_cnt Hbk0.out; omega)) ?_
  rintro en W15 ⟨rfl, hRn, hFn, ha⟩
  have hcur : Below W14.heap.size W14 _ := (by (repeat (first | assumption | exact Below.refl _ _ | apply Below.drew | refine below_alloc (Nat.le_refl _) _ ?_)))
  have zW15 : W14.heap.size ≤ W15.heap.size := Nat.le_trans hcur.size ha.size
  have ca0_0_6 := cell_apart ha (ca0_0_5 _ hcur) (fun hm => by have := Hlo_x1.out _ hm; have := Hhi_x1.out _ hm; omega)
  have ca0_1_6 := cell_apart ha (ca0_1_5 _ hcur) (fun hm => by have := Hlo_x1.out _ hm; have := Hhi_x1.out _ hm; omega)
  have ca1_0_6 := cell_apart ha (ca1_0_5 _ hcur) (fun hm => by have := Hlo_x1.out _ hm; have := Hhi_x1.out _ hm; omega)
  have ca1_1_6 := cell_apart ha (ca1_1_5 _ hcur) (fun hm => by have := Hlo_x1.out _ hm; have := Hhi_x1.out _ hm; omega)
  have ca1_2_6 := cell_apart ha (ca1_2_5 _ hcur) (fun hm => by have := Hlo_x1.out _ hm; have := Hhi_x1.out _ hm; omega)
  have ca1_3_6 := cell_apart ha (ca1_3_5 _ hcur) (fun hm => by have := Hlo_x1.out _ hm; have := Hhi_x1.out _ hm; omega)
  have ca1_4_6 := cell_apart ha (ca1_4_5 _ hcur) (fun hm => by have := Hlo_x1.out _ hm; have := Hhi_x1.out _ hm; omega)
  have ca1_5_6 := cell_apart ha (ca1_5_5 _ hcur) (fun hm => by have := Hlo_x1.out _ hm; have := Hhi_x1.out _ hm; omega)
  have cx0_0_6 := cell_apart ha (cx0_0_5 _ hcur) (fun hm => by have := Hlo_x1.out _ hm; have := Hhi_x1.out _ hm; omega)
  have cx0_1_6 := cell_apart ha (cx0_1_5 _ hcur) (fun hm => by have := Hlo_x1.out _ hm; have := Hhi_x1.out _ hm; omega)
  have cx1_0_6 := cell_apart ha (cx1_0_5 _ hcur) (fun hm => by have := Hlo_x1.out _ hm; have := Hhi_x1.out _ hm; omega)
  have cx1_1_6 := cell_apart ha (cx1_1_5 _ hcur) (fun hm => by have := Hlo_x1.out _ hm; have := Hhi_x1.out _ hm; omega)
  have cx1_2_6 := cell_apart ha (cx1_2_5 _ hcur) (fun hm => by have := Hlo_x1.out _ hm; have := Hhi_x1.out _ hm; omega)
  have cx1_3_6 := cell_apart ha (cx1_3_5 _ hcur) (fun hm => by have := Hlo_x1.out _ hm; have := Hhi_x1.out _ hm; omega)
  have cx1_4_6 := cell_apart ha (cx1_4_5 _ hcur) (fun hm => by have := Hlo_x1.out _ hm; have := Hhi_x1.out _ hm; omega)
  have cx1_5_6 := cell_apart ha (cx1_5_5 _ hcur) (fun hm => by have := Hlo_x1.out _ hm; have := Hhi_x1.out _ hm; omega)
  have qz := ((Hz_5.out _ hcur).apart (OccR.good D) ha (fun b h1 h2 => by have := Hlo_z.out b h1; have := Hhi_z.out b h1; have := Hlo_x1.out b h2; have := Hhi_x1.out b h2; omega))
  have Hz_6 : Hid (∀ X : World, Below W15.heap.size W15 X → SlR 2 (OccR D) X (reqO x0 x1) vz Fz) := hide fun X hX => qz.below (OccR.good D) hX (qz.lt (OccR.good D))
  have fz := (Rz_5.out _ hcur).apart ha (fun b h1 h2 => by have := Hlo_z.out b h1; have := Hhi_z.out b h1; have := Hlo_x1.out b h2; have := Hhi_x1.out b h2; omega)
  have Rz_6 : Hid (∀ X : World, Below W15.heap.size W15 X → Fresh (W4.heap.size) X Fz) := hide fun X hX => fz.below hX
  have qx0 := ((GrmR.good D).apart (Hx0_5.out _ hcur) ha (fun b h1 h2 => by have := Hlo_x0.out b h1; have := Hhi_x0.out b h1; have := Hlo_x1.out b h2; have := Hhi_x1.out b h2; omega))
  have Hx0_6 : Hid (∀ X : World, Below W15.heap.size W15 X → GrmR D X (sk_Grm D (1) x0) [x0_0, x0_1] Fx0) := hide fun X hX => (GrmR.good D).below qx0 hX ((GrmR.good D).lt qx0)
  have fx0 := (Rx0_5.out _ hcur).apart ha (fun b h1 h2 => by have := Hlo_x0.out b h1; have := Hhi_x0.out b h1; have := Hlo_x1.out b h2; have := Hhi_x1.out b h2; omega)
  have Rx0_6 : Hid (∀ X : World, Below W15.heap.size W15 X → Fresh (W5.heap.size) X Fx0) := hide fun X hX => fx0.below hX
  have qg := ((Hg_5.out _ hcur).apart (OccR.good D) ha (fun b h1 h2 => by have := Hlo_g.out b h1; have := Hhi_g.out b h1; have := Hlo_x1.out b h2; have := Hhi_x1.out b h2; omega))
  have Hg_6 : Hid (∀ X : World, Below W15.heap.size W15 X → SlR 2 (OccR D) X (reqO x0 x1) vg Fg) := hide fun X hX => qg.below (OccR.good D) hX (qg.lt (OccR.good D))
  have fg := (Rg_5.out _ hcur).apart ha (fun b h1 h2 => by have := Hlo_g.out b h1; have := Hhi_g.out b h1; have := Hlo_x1.out b h2; have := Hhi_x1.out b h2; omega)
  have Rg_6 : Hid (∀ X : World, Below W15.heap.size W15 X → Fresh (V2.heap.size) X Fg) := hide fun X hX => fg.below hX
  have qx1 := hRn
  have Hx1_6 : Hid (∀ X : World, Below W15.heap.size W15 X → RulR D X (sk_Rul D (1 + sc_Grm D x0) x1) [x1_0, x1_1, x1_2, x1_3, x1_4, x1_5] Fx1) := hide fun X hX => (RulR.good D).below qx1 hX ((RulR.good D).lt qx1)
  have Rx1_6 : Hid (∀ X : World, Below W15.heap.size W15 X → Fresh (V1.heap.size) X Fx1) := hide fun X hX => hFn.below hX
  have hapw : Below w.heap.size w W15 := (Hw_5.out _ hcur).trans (ha.below (fun b hb => by have := Hlo_x1.out b hb; omega) (by have := (Hw_5.out _ hcur).size; omega))
  have Hw_6 : Hid (∀ X : World, Below W15.heap.size W15 X → Below w.heap.size w X) := hide fun X hX => hapw.trans (hX.mono hapw.size)
  clear ca0_0_5 ca0_1_5 ca1_0_5 ca1_1_5 ca1_2_5 ca1_3_5 ca1_4_5 ca1_5_5 cx0_0_5 cx0_1_5 cx1_0_5 cx1_1_5 cx1_2_5 cx1_3_5 cx1_4_5 cx1_5_5 Hz_5 Hx0_5 Hx1_5 Hg_5 Rz_5 Rx0_5 Rx1_5 Rg_5 Hw_5 hapw hcur ha hMr hMf hRn hFn qz qx0 qx1 qg fz fx0 fg
  clear hD5 hA5
  have hW15 : Below W15.heap.size W15 W15 := Below.refl _ _
  have hD6 : ∀ X : World, Below W15.heap.size W15 X → Below W15.heap.size W15 X.drew := fun _ h => h.drew
  have hA6 : ∀ (X : World) (o : Obj), Below W15.heap.size W15 X → Below W15.heap.size W15 (X.alloc o) := fun _ o h => below_alloc (Nat.le_refl _) o h
  go_wp2_with fail
  refine Calls.mono (es_Occ D (reqO x0 x1) _ _ Fg Fz _ (Hg_6.out _ (by (repeat (first | assumption | exact Below.refl _ _ | apply Below.drew | refine below_alloc (Nat.le_refl _) _ ?_)))) (Hz_6.out _ (by (repeat (first | assumption | exact Below.refl _ _ | apply Below.drew | refine below_alloc (Nat.le_refl _) _ ?_))))) ?_
  rintro en W16 ⟨rfl, hb⟩
  have hW16 : Below W15.heap.size W15 W16 := below_step (by (repeat (first | assumption | exact Below.refl _ _ | apply Below.drew | refine below_alloc (Nat.le_refl _) _ ?_))) (Nat.le_refl _) hb
  have zW16 : W15.heap.size ≤ W16.heap.size := hW16.size
  clear hb
  go_wp2_with fail
  have hcnt : 1 + ctL ct_Occ (reqO x0 x1) ≤ 1099511627776 := by have h : ctL ct_Occ (reqO x0 x1) ≤ 824634769408 := reqO_cnt Hbj.out; omega
  have hMr := Hg_6.out _ (by (repeat (first | assumption | exact Below.refl _ _ | apply Below.drew | refine below_alloc (Nat.le_refl _) _ ?_)))
  have hMf := Rg_6.out _ (by (repeat (first | assumption | exact Below.refl _ _ | apply Below.drew | refine below_alloc (Nat.le_refl _) _ ?_)))
  refine Calls.mono (m_Occ D _ 1 (reqO x0 x1) _ Fg _ hMr hMf (by omega) hcnt) ?_
  rintro en W17 ⟨rfl, hRn, hFn, ha⟩
  have hcur : Below W15.heap.size W15 _ := (by (repeat (first | assumption | exact Below.refl _ _ | apply Below.drew | refine below_alloc (Nat.le_refl _) _ ?_)))
  have zW17 : W15.heap.size ≤ W17.heap.size := Nat.le_trans hcur.size ha.size
  have ca0_0_7 := cell_apart ha (ca0_0_6 _ hcur) (fun hm => by have := Hlo_g.out _ hm; have := Hhi_g.out _ hm; omega)
  have ca0_1_7 := cell_apart ha (ca0_1_6 _ hcur) (fun hm => by have := Hlo_g.out _ hm; have := Hhi_g.out _ hm; omega)
  have ca1_0_7 := cell_apart ha (ca1_0_6 _ hcur) (fun hm => by have := Hlo_g.out _ hm; have := Hhi_g.out _ hm; omega)
  have ca1_1_7 := cell_apart ha (ca1_1_6 _ hcur) (fun hm => by have := Hlo_g.out _ hm; have := Hhi_g.out _ hm; omega)
  have ca1_2_7 := cell_apart ha (ca1_2_6 _ hcur) (fun hm => by have := Hlo_g.out _ hm; have := Hhi_g.out _ hm; omega)
  have ca1_3_7 := cell_apart ha (ca1_3_6 _ hcur) (fun hm => by have := Hlo_g.out _ hm; have := Hhi_g.out _ hm; omega)
  have ca1_4_7 := cell_apart ha (ca1_4_6 _ hcur) (fun hm => by have := Hlo_g.out _ hm; have := Hhi_g.out _ hm; omega)
  have ca1_5_7 := cell_apart ha (ca1_5_6 _ hcur) (fun hm => by have := Hlo_g.out _ hm; have := Hhi_g.out _ hm; omega)
  have cx0_0_7 := cell_apart ha (cx0_0_6 _ hcur) (fun hm => by have := Hlo_g.out _ hm; have := Hhi_g.out _ hm; omega)
  have cx0_1_7 := cell_apart ha (cx0_1_6 _ hcur) (fun hm => by have := Hlo_g.out _ hm; have := Hhi_g.out _ hm; omega)
  have cx1_0_7 := cell_apart ha (cx1_0_6 _ hcur) (fun hm => by have := Hlo_g.out _ hm; have := Hhi_g.out _ hm; omega)
  have cx1_1_7 := cell_apart ha (cx1_1_6 _ hcur) (fun hm => by have := Hlo_g.out _ hm; have := Hhi_g.out _ hm; omega)
  have cx1_2_7 := cell_apart ha (cx1_2_6 _ hcur) (fun hm => by have := Hlo_g.out _ hm; have := Hhi_g.out _ hm; omega)
  have cx1_3_7 := cell_apart ha (cx1_3_6 _ hcur) (fun hm => by have := Hlo_g.out _ hm; have := Hhi_g.out _ hm; omega)
  have cx1_4_7 := cell_apart ha (cx1_4_6 _ hcur) (fun hm => by have := Hlo_g.out _ hm; have := Hhi_g.out _ hm; omega)
  have cx1_5_7 := cell_apart ha (cx1_5_6 _ hcur) (fun hm => by have := Hlo_g.out _ hm; have := Hhi_g.out _ hm; omega)
  have qz := ((Hz_6.out _ hcur).apart (OccR.good D) ha (fun b h1 h2 => by have := Hlo_z.out b h1; have := Hhi_z.out b h1; have := Hlo_g.out b h2; have := Hhi_g.out b h2; omega))
  have Hz_7 : Hid (∀ X : World, Below W17.heap.size W17 X → SlR 2 (OccR D) X (reqO x0 x1) vz Fz) := hide fun X hX => qz.below (OccR.good D) hX (qz.lt (OccR.good D))
  have fz := (Rz_6.out _ hcur).apart ha (fun b h1 h2 => by have := Hlo_z.out b h1; have := Hhi_z.out b h1; have := Hlo_g.out b h2; have := Hhi_g.out b h2; omega)
  have Rz_7 : Hid (∀ X : World, Below W17.heap.size W17 X → Fresh (W4.heap.size) X Fz) := hide fun X hX => fz.below hX
  have qx0 := ((GrmR.good D).apart (Hx0_6.out _ hcur) ha (fun b h1 h2 => by have := Hlo_x0.out b h1; have := Hhi_x0.out b h1; have := Hlo_g.out b h2; have := Hhi_g.out b h2; omega))
  have Hx0_7 : Hid (∀ X : World, Below W17.heap.size W17 X → GrmR D X (sk_Grm D (1) x0) [x0_0, x0_1] Fx0) := hide fun X hX => (GrmR.good D).below qx0 hX ((GrmR.good D).lt qx0)
  have fx0 := (Rx0_6.out _ hcur).apart ha (fun b h1 h2 => by have := Hlo_x0.out b h1; have := Hhi_x0.out b h1; have := Hlo_g.out b h2; have := Hhi_g.out b h2; omega)
  have Rx0_7 : Hid (∀ X : World, Below W17.heap.size W17 X → Fresh (W5.heap.size) X Fx0) := hide fun X hX => fx0.below hX
  have qx1 := ((RulR.good D).apart (Hx1_6.out _ hcur) ha (fun b h1 h2 => by have := Hlo_x1.out b h1; have := Hhi_x1.out b h1; have := Hlo_g.out b h2; have := Hhi_g.out b h2; omega))
  have Hx1_7 : Hid (∀ X : World, Below W17.heap.size W17 X → RulR D X (sk_Rul D (1 + sc_Grm D x0) x1) [x1_0, x1_1, x1_2, x1_3, x1_4, x1_5] Fx1) := hide fun X hX => (RulR.good D).below qx1 hX ((RulR.good D).lt qx1)
  have fx1 := (Rx1_6.out _ hcur).apart ha (fun b h1 h2 => by have := Hlo_x1.out b h1; have := Hhi_x1.out b h1; have := Hlo_g.out b h2; have := Hhi_g.out b h2; omega)
  have Rx1_7 : Hid (∀ X : World, Below W17.heap.size W17 X → Fresh (V1.heap.size) X Fx1) := hide fun X hX => fx1.below hX
  have qg := hRn
  have Hg_7 : Hid (∀ X : World, Below W17.heap.size W17 X → SlR 2 (OccR D) X (mkL mk_Occ ct_Occ 1 (reqO x0 x1)) vg Fg) := hide fun X hX => qg.below (OccR.good D) hX (qg.lt (OccR.good D))
  have Rg_7 : Hid (∀ X : World, Below W17.heap.size W17 X → Fresh (V2.heap.size) X Fg) := hide fun X hX => hFn.below hX
  have hapw : Below w.heap.size w W17 := (Hw_6.out _ hcur).trans (ha.below (fun b hb => by have := Hlo_g.out b hb; omega) (by have := (Hw_6.out _ hcur).size; omega))
  have Hw_7 : Hid (∀ X : World, Below W17.heap.size W17 X → Below w.heap.size w X) := hide fun X hX => hapw.trans (hX.mono hapw.size)
  clear ca0_0_6 ca0_1_6 ca1_0_6 ca1_1_6 ca1_2_6 ca1_3_6 ca1_4_6 ca1_5_6 cx0_0_6 cx0_1_6 cx1_0_6 cx1_1_6 cx1_2_6 cx1_3_6 cx1_4_6 cx1_5_6 Hz_6 Hx0_6 Hx1_6 Hg_6 Rz_6 Rx0_6 Rx1_6 Rg_6 Hw_6 hapw hcur ha hMr hMf hRn hFn qz qx0 qx1 qg fz fx0 fx1
  clear hD6 hA6
  have hW17 : Below W17.heap.size W17 W17 := Below.refl _ _
  have hD7 : ∀ X : World, Below W17.heap.size W17 X → Below W17.heap.size W17 X.drew := fun _ h => h.drew
  have hA7 : ∀ (X : World) (o : Obj), Below W17.heap.size W17 X → Below W17.heap.size W17 (X.alloc o) := fun _ o h => below_alloc (Nat.le_refl _) o h
  go_wp2_with fail
  refine Calls.mono (hd_Occ D 1 (reqO x0 x1) _ Fg _ (Hg_7.out _ (by (repeat (first | assumption | exact Below.refl _ _ | apply Below.drew | refine below_alloc (Nat.le_refl _) _ ?_)))) (by omega) hcnt) ?_
  rintro en W18 ⟨rfl, hb⟩
  have hW18 : Below W17.heap.size W17 W18 := below_step (by (repeat (first | assumption | exact Below.refl _ _ | apply Below.drew | refine below_alloc (Nat.le_refl _) _ ?_))) (Nat.le_refl _) hb
  have zW18 : W17.heap.size ≤ W18.heap.size := hW18.size
  clear hb
  go_wp2_with fail
  -- the program again
  go_region_held3 (fun W => Below W17.heap.size W17 W)
    (first | assumption | exact Below.drew (by assumption) | exact below_alloc (Nat.le_refl _) _ (by assumption) | (refine Below.setCell ?_ ?_ _ <;> first | assumption | exact below_alloc (Nat.le_refl _) _ (by assumption) | exact hW21.size))
    (first
      | (go_at_call_has 36 av0; refine Calls.mono (HT0.out _ ?hw) ?_; (case hw => exact Hw_7.out _ (by (repeat (first | assumption | exact Below.refl _ _ | apply Below.drew | refine below_alloc (Nat.le_refl _) _ ?_)))); rintro en W19 ⟨us, Fth0, rfl, hR, hf, hb⟩; obtain ⟨th0_0, th0_1, rfl⟩ := list2 ((GrmR.good D).len hR); have hW19 : Below W17.heap.size W17 W19 := below_step (by (repeat (first | assumption | exact Below.refl _ _ | apply Below.drew | refine below_alloc (Nat.le_refl _) _ ?_))) (Nat.le_refl _) hb; have hbth0 := hb; have HLth0 := hide hf.lt; have HRth0 := hide hR; clear hR hf hb)
      | (go_at_call_has 17 bv0; refine Calls.mono (HT1.out _ ?hw) ?_; (case hw => exact Hw_7.out _ (by (repeat (first | assumption | exact Below.refl _ _ | apply Below.drew | refine below_alloc (Nat.le_refl _) _ ?_)))); rintro en W20 ⟨us, Fth1, rfl, hR, hf, hb⟩; obtain ⟨th1_0, th1_1, th1_2, th1_3, th1_4, th1_5, rfl⟩ := list_6 ((RulR.good D).len hR); have hW20 : Below W17.heap.size W17 W20 := below_step (by (repeat (first | assumption | exact Below.refl _ _ | apply Below.drew | refine below_alloc (Nat.le_refl _) _ ?_))) (Nat.le_refl _) hb; have hbth1 := hb; have HLth1 := hide hf.lt; have HRth1 := hide hR; clear hR hf hb)
      | (go_at_call 60; refine Calls.mono (i_RequiredOccurrences D x0 x1 _ _ Fth0 Fth1 _ ((GrmR.good D).below HRth0.out hbth1 (fun b hb => Nat.lt_of_lt_of_le (HLth0.out b hb) (Nat.le_refl _))) HRth1.out Hbj.out) ?_; rintro en W21 ⟨vh, Fh, rfl, hR, hf, hb⟩; have hRk := hide hR; have hfk := hide hf; have Hlo_h : Hid (∀ b ∈ Fh, W20.heap.size ≤ b) := hide hf.from_; have Hhi_h : Hid (∀ b ∈ Fh, b < W21.heap.size) := hide hf.lt; have hW21 : Below W17.heap.size W17 W21 := below_step (by (repeat (first | assumption | exact Below.refl _ _ | apply Below.drew | refine below_alloc (Nat.le_refl _) _ ?_))) (Nat.le_refl _) hb; have zW21 : W17.heap.size ≤ W21.heap.size := hW21.size; clear hb; clear hR hf))
  clear HRth0 HLth0 hbth0 HRth1 HLth1 hbth1
  have hbb : ∀ X : World, Below W21.heap.size W21 X → Below W17.heap.size W17 X := fun X hX => hW21.trans (hX.mono hW21.size)
  have ca0_0_8 := fun (X : World) (hX : Below W21.heap.size W21 X) => ca0_0_7 X (hbb X hX)
  have ca0_1_8 := fun (X : World) (hX : Below W21.heap.size W21 X) => ca0_1_7 X (hbb X hX)
  have ca1_0_8 := fun (X : World) (hX : Below W21.heap.size W21 X) => ca1_0_7 X (hbb X hX)
  have ca1_1_8 := fun (X : World) (hX : Below W21.heap.size W21 X) => ca1_1_7 X (hbb X hX)
  have ca1_2_8 := fun (X : World) (hX : Below W21.heap.size W21 X) => ca1_2_7 X (hbb X hX)
  have ca1_3_8 := fun (X : World) (hX : Below W21.heap.size W21 X) => ca1_3_7 X (hbb X hX)
  have ca1_4_8 := fun (X : World) (hX : Below W21.heap.size W21 X) => ca1_4_7 X (hbb X hX)
  have ca1_5_8 := fun (X : World) (hX : Below W21.heap.size W21 X) => ca1_5_7 X (hbb X hX)
  have cx0_0_8 := fun (X : World) (hX : Below W21.heap.size W21 X) => cx0_0_7 X (hbb X hX)
  have cx0_1_8 := fun (X : World) (hX : Below W21.heap.size W21 X) => cx0_1_7 X (hbb X hX)
  have cx1_0_8 := fun (X : World) (hX : Below W21.heap.size W21 X) => cx1_0_7 X (hbb X hX)
  have cx1_1_8 := fun (X : World) (hX : Below W21.heap.size W21 X) => cx1_1_7 X (hbb X hX)
  have cx1_2_8 := fun (X : World) (hX : Below W21.heap.size W21 X) => cx1_2_7 X (hbb X hX)
  have cx1_3_8 := fun (X : World) (hX : Below W21.heap.size W21 X) => cx1_3_7 X (hbb X hX)
  have cx1_4_8 := fun (X : World) (hX : Below W21.heap.size W21 X) => cx1_4_7 X (hbb X hX)
  have cx1_5_8 := fun (X : World) (hX : Below W21.heap.size W21 X) => cx1_5_7 X (hbb X hX)
  have Hz_8 := hide (fun (X : World) (hX : Below W21.heap.size W21 X) => Hz_7.out X (hbb X hX))
  have Rz_8 := hide (fun (X : World) (hX : Below W21.heap.size W21 X) => Rz_7.out X (hbb X hX))
  have Hx0_8 := hide (fun (X : World) (hX : Below W21.heap.size W21 X) => Hx0_7.out X (hbb X hX))
  have Rx0_8 := hide (fun (X : World) (hX : Below W21.heap.size W21 X) => Rx0_7.out X (hbb X hX))
  have Hx1_8 := hide (fun (X : World) (hX : Below W21.heap.size W21 X) => Hx1_7.out X (hbb X hX))
  have Rx1_8 := hide (fun (X : World) (hX : Below W21.heap.size W21 X) => Rx1_7.out X (hbb X hX))
  have Hg_8 := hide (fun (X : World) (hX : Below W21.heap.size W21 X) => Hg_7.out X (hbb X hX))
  have Rg_8 := hide (fun (X : World) (hX : Below W21.heap.size W21 X) => Rg_7.out X (hbb X hX))
  have Hw_8 : Hid (∀ X : World, Below W21.heap.size W21 X → Below w.heap.size w X) := hide fun X hX => Hw_7.out X (hbb X hX)
  clear ca0_0_7 ca0_1_7 ca1_0_7 ca1_1_7 ca1_2_7 ca1_3_7 ca1_4_7 ca1_5_7 cx0_0_7 cx0_1_7 cx1_0_7 cx1_1_7 cx1_2_7 cx1_3_7 cx1_4_7 cx1_5_7 Hz_7 Hx0_7 Hx1_7 Hg_7 Rz_7 Rx0_7 Rx1_7 Rg_7 Hw_7
  have Hh_8 : Hid (∀ X : World, Below W21.heap.size W21 X → SlR 2 (OccR D) X (reqO x0 x1) vh Fh) := hide fun X hX => hRk.out.below (OccR.good D) hX Hhi_h.out
  have Rh_8 : Hid (∀ X : World, Below W21.heap.size W21 X → Fresh (W20.heap.size) X Fh) := hide fun X hX => hfk.out.below hX
  clear hbb hRk hfk hW17 hD7 hA7
  clear hW21
  have hW21 : Below W21.heap.size W21 W21 := Below.refl _ _
  have hD8 : ∀ X : World, Below W21.heap.size W21 X → Below W21.heap.size W21 X.drew := fun _ h => h.drew
  have hA8 : ∀ (X : World) (o : Obj), Below W21.heap.size W21 X → Below W21.heap.size W21 (X.alloc o) := fun _ o h => below_alloc (Nat.le_refl _) o h
  go_wp2_with fail
  go_wp2_with fail
  refine Calls.mono (es_Occ D (reqO x0 x1) _ _ Fh Fz _ (Hh_8.out _ (by (repeat (first | assumption | exact Below.refl _ _ | apply Below.drew | refine below_alloc (Nat.le_refl _) _ ?_)))) (Hz_8.out _ (by (repeat (first | assumption | exact Below.refl _ _ | apply Below.drew | refine below_alloc (Nat.le_refl _) _ ?_))))) ?_
  rintro en W22 ⟨rfl, hb⟩
  have hW22 : Below W21.heap.size W21 W22 := below_step (by (repeat (first | assumption | exact Below.refl _ _ | apply Below.drew | refine below_alloc (Nat.le_refl _) _ ?_))) (Nat.le_refl _) hb
  have zW22 : W21.heap.size ≤ W22.heap.size := hW22.size
  clear hb
  go_wp2_with fail
  refine Calls.mono (hd_Occ D 1 (reqO x0 x1) _ Fg _ (Hg_8.out _ (by (repeat (first | assumption | exact Below.refl _ _ | apply Below.drew | refine below_alloc (Nat.le_refl _) _ ?_)))) (by omega) hcnt) ?_
  rintro en W23 ⟨rfl, hb⟩
  have hW23 : Below W21.heap.size W21 W23 := below_step (by (repeat (first | assumption | exact Below.refl _ _ | apply Below.drew | refine below_alloc (Nat.le_refl _) _ ?_))) (Nat.le_refl _) hb
  have zW23 : W21.heap.size ≤ W23.heap.size := hW23.size
  clear hb
  go_wp2_with fail
  go_ret
  exact ⟨rfl, Hw_8.out _ (by (repeat (first | assumption | exact Below.refl _ _ | apply Below.drew | refine below_alloc (Nat.le_refl _) _ ?_)))⟩
end Go.Proofs.Ythifibjkgiggfaa.fnExactRequiredOccurrences
