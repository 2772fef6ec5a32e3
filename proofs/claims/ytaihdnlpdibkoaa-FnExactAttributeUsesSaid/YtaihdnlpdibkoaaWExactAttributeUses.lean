/- The walk of the law FnExactAttributeUses: every call returns true and leaves old memory as it was. Conditions: none. -/
import Derived.Test.YtaihdnlpdibkoaaRows
import Derived.Test.YtaihdnlpdibkoaaKit
import Derived.Test.YtaihdnlpdibkoaaUseL
import Derived.Test.YtaihdnlpdibkoaaOccS
import Derived.Test.YtaihdnlpdibkoaaExGlue
import Derived.Test.YtaihdnlpdibkoaaLawKit
namespace Go.Proofs.Ytaihdnlpdibkoaa.fnExactAttributeUses
set_option maxRecDepth 100000
open Go.ChangeShapes Go.WideShapes Go.ChangeAt Go.RowKit
set_option linter.unusedVariables false

set_option maxRecDepth 100000 in
set_option maxHeartbeats 40000000 in
theorem walk (w : World) (D0 : Nat) (x0 : Ex) (cs0 : List Value) (F0 : List Nat) (h0 : ExR D0 w x0 cs0 F0) : Calls Try.prog 4 #[.agg cs0.toArray] w fun en w' => en = .returned (.bool true) ∧ Below w.heap.size w w' := by
  have h0 := h0.up (D0) (by omega)
  generalize D0 = D at h0
  have HF0 := hide ((ExR.good D).lt h0)
  obtain ⟨av0, av1, av2, av3, av4, av5, av6, rfl⟩ := list7 ((ExR.good D).len h0)
  have HX0 : Hid (∀ W : World, Below w.heap.size w W → ExR D W x0 [av0, av1, av2, av3, av4, av5, av6] F0) := hide fun W hW => (ExR.good D).below h0 hW HF0.out
  clear h0
  obtain ⟨C0, hz0, hw0⟩ := boxes1 w [av0, av1, av2, av3, av4, av5, av6] 46
  show Calls _ _ #[.agg #[av0, av1, av2, av3, av4, av5, av6]] w _
  go_enter Try.func4, Try.ntmps4
  go_wp2_with fail
  generalize w.alloc (Obj.cells #[av0, av1, av2, av3, av4, av5, av6] 46) = V0 at C0 hz0 hw0 ⊢
  have zV0 : w.heap.size + 1 ≤ V0.heap.size := Nat.le_of_eq hz0.symm
  have Hw_0 : Hid (∀ X : World, Below V0.heap.size V0 X → Below w.heap.size w X) := hide fun X h => hw0.trans (h.mono (by omega))
  have ca0_0_0 := cell_rule C0 (n := V0.heap.size) (by omega) 0 (v := av0) rfl
  have ca0_1_0 := cell_rule C0 (n := V0.heap.size) (by omega) 1 (v := av1) rfl
  have ca0_2_0 := cell_rule C0 (n := V0.heap.size) (by omega) 2 (v := av2) rfl
  have ca0_3_0 := cell_rule C0 (n := V0.heap.size) (by omega) 3 (v := av3) rfl
  have ca0_4_0 := cell_rule C0 (n := V0.heap.size) (by omega) 4 (v := av4) rfl
  have ca0_5_0 := cell_rule C0 (n := V0.heap.size) (by omega) 5 (v := av5) rfl
  have ca0_6_0 := cell_rule C0 (n := V0.heap.size) (by omega) 6 (v := av6) rfl
  clear C0 hz0 hw0
  have hV0 : Below V0.heap.size V0 V0 := Below.refl _ _
  have hD0 : ∀ X : World, Below V0.heap.size V0 X → Below V0.heap.size V0 X.drew := fun _ h => h.drew
  have hA0 : ∀ (X : World) (o : Obj), Below V0.heap.size V0 X → Below V0.heap.size V0 (X.alloc o) := fun _ o h => below_alloc (Nat.le_refl _) o h
  refine Calls.mono (l_szExpr D x0 _ F0 _ 1048576 (HX0.out _ (Hw_0.out _ (by (repeat (first | assumption | exact Below.refl _ _ | apply Below.drew | refine below_alloc (Nat.le_refl _) _ ?_))))) (by omega) (by omega)) ?_
  rintro en W1 ⟨⟨r0, rfl, hr⟩, hb⟩
  have hW1 : Below V0.heap.size V0 W1 := below_step (by (repeat (first | assumption | exact Below.refl _ _ | apply Below.drew | refine below_alloc (Nat.le_refl _) _ ?_))) (Nat.le_refl _) hb
  have zW1 : V0.heap.size ≤ W1.heap.size := hW1.size
  clear hb
  rcases hr with rfl | ⟨hr0, hq⟩
  · go_wp2_with fail
    go_ret
    exact ⟨rfl, Hw_0.out _ hW1⟩
  have hnn := bulkE_nonneg D x0
  have Hbk0 : Hid (bulkE D x0 ≤ 1048576) := hide (by omega)
  have hl0 : r0 ≤ 1048576 := by omega
  clear hq hnn
  have HT0 : Hid (∀ W : World, Below w.heap.size w W → Calls Try.prog 17 #[.agg #[av0, av1, av2, av3, av4, av5, av6]] W fun en w' => ∃ us F', en = .returned (.agg (List.toArray us)) ∧ ExR D w' x0 us F' ∧ Fresh W.heap.size w' F' ∧ Below W.heap.size W w') := hide fun W hW =>
    c_Ex D x0 _ F0 W (HX0.out W hW) Hbk0.out
  go_wp2_with fail
  clear hr0 hl0
  have hst := fun (w : World) (a : Addr) (v : Value) (m : Mode) (hv : v.oneCell' = true) => run_store Try.prog w a v m hv
  -- the reference
  refine Calls.mono (HT0.out _ (Hw_0.out _ (by (repeat (first | assumption | exact Below.refl _ _ | apply Below.drew | refine below_alloc (Nat.le_refl _) _ ?_))))) ?_
  rintro en W2 ⟨us, Fuz, rfl, hR, hf, hb⟩
  obtain ⟨uz0, uz1, uz2, uz3, uz4, uz5, uz6, rfl⟩ := list7 ((ExR.good D).len hR)
  have hW2 : Below V0.heap.size V0 W2 := below_step (by (repeat (first | assumption | exact Below.refl _ _ | apply Below.drew | refine below_alloc (Nat.le_refl _) _ ?_))) (Nat.le_refl _) hb
  have zW2 : V0.heap.size ≤ W2.heap.size := hW2.size
  clear hb
  have HRu := hide hR
  clear hR hf
  go_wp2_with fail
  refine Calls.mono (s_AttributeUses D x0 _ Fuz _ HRu.out Hbk0.out) ?_
  rintro en W3 ⟨vz, Fz, rfl, hR, hf, hb⟩
  have hRk := hide hR
  have hfk := hide hf
  have Hlo_z : Hid (∀ b ∈ Fz, W2.heap.size ≤ b) := hide hf.from_
  have Hhi_z : Hid (∀ b ∈ Fz, b < W3.heap.size) := hide hf.lt
  have hW3 : Below V0.heap.size V0 W3 := below_step (by (repeat (first | assumption | exact Below.refl _ _ | apply Below.drew | refine below_alloc (Nat.le_refl _) _ ?_))) (Nat.le_refl _) hb
  have zW3 : V0.heap.size ≤ W3.heap.size := hW3.size
  clear hb
  clear hR hf
  have hbb : ∀ X : World, Below W3.heap.size W3 X → Below V0.heap.size V0 X := fun X hX => hW3.trans (hX.mono hW3.size)
  have ca0_0_1 := fun (X : World) (hX : Below W3.heap.size W3 X) => ca0_0_0 X (hbb X hX)
  have ca0_1_1 := fun (X : World) (hX : Below W3.heap.size W3 X) => ca0_1_0 X (hbb X hX)
  have ca0_2_1 := fun (X : World) (hX : Below W3.heap.size W3 X) => ca0_2_0 X (hbb X hX)
  have ca0_3_1 := fun (X : World) (hX : Below W3.heap.size W3 X) => ca0_3_0 X (hbb X hX)
  have ca0_4_1 := fun (X : World) (hX : Below W3.heap.size W3 X) => ca0_4_0 X (hbb X hX)
  have ca0_5_1 := fun (X : World) (hX : Below W3.heap.size W3 X) => ca0_5_0 X (hbb X hX)
  have ca0_6_1 := fun (X : World) (hX : Below W3.heap.size W3 X) => ca0_6_0 X (hbb X hX)
  have Hw_1 : Hid (∀ X : World, Below W3.heap.size W3 X → Below w.heap.size w X) := hide fun X hX => Hw_0.out X (hbb X hX)
  clear ca0_0_0 ca0_1_0 ca0_2_0 ca0_3_0 ca0_4_0 ca0_5_0 ca0_6_0 Hw_0
  have Hz_1 : Hid (∀ X : World, Below W3.heap.size W3 X → SlR 2 (OccR D) X (sortO (usesE D x0)) vz Fz) := hide fun X hX => hRk.out.below (OccR.good D) hX Hhi_z.out
  have Rz_1 : Hid (∀ X : World, Below W3.heap.size W3 X → Fresh (W2.heap.size) X Fz) := hide fun X hX => hfk.out.below hX
  clear hbb hRk hfk hV0 hD0 hA0
  clear hW3
  have hW3 : Below W3.heap.size W3 W3 := Below.refl _ _
  have hD1 : ∀ X : World, Below W3.heap.size W3 X → Below W3.heap.size W3 X.drew := fun _ h => h.drew
  have hA1 : ∀ (X : World) (o : Obj), Below W3.heap.size W3 X → Below W3.heap.size W3 (X.alloc o) := fun _ o h => below_alloc (Nat.le_refl _) o h
  go_wp2_with fail
  clear HRu
  refine Calls.mono (HT0.out _ (Hw_1.out _ (by (repeat (first | assumption | exact Below.refl _ _ | apply Below.drew | refine below_alloc (Nat.le_refl _) _ ?_))))) ?_
  rintro en W4 ⟨us, Fx0, rfl, hR, hf, hb⟩
  obtain ⟨x0_0, x0_1, x0_2, x0_3, x0_4, x0_5, x0_6, rfl⟩ := list7 ((ExR.good D).len hR)
  have ho := ExR.one hR
  have ox0_0 := ho x0_0 (by simp)
  have ox0_1 := ho x0_1 (by simp)
  have ox0_2 := ho x0_2 (by simp)
  have ox0_3 := ho x0_3 (by simp)
  have ox0_4 := ho x0_4 (by simp)
  have ox0_5 := ho x0_5 (by simp)
  have ox0_6 := ho x0_6 (by simp)
  have hRk := hide hR
  have hfk := hide hf
  have Hlo_x0 : Hid (∀ b ∈ Fx0, W3.heap.size ≤ b) := hide hf.from_
  have Hhi_x0 : Hid (∀ b ∈ Fx0, b < W4.heap.size) := hide hf.lt
  have hW4 : Below W3.heap.size W3 W4 := below_step (by (repeat (first | assumption | exact Below.refl _ _ | apply Below.drew | refine below_alloc (Nat.le_refl _) _ ?_))) (Nat.le_refl _) hb
  have zW4 : W3.heap.size ≤ W4.heap.size := hW4.size
  clear hb
  clear ho hR hf
  go_wp2_with fail
  have Cx := CellsAt.new W4 [x0_0, x0_1, x0_2, x0_3, x0_4, x0_5, x0_6] 52
  have hz := World.size_alloc W4 (Obj.cells #[x0_0, x0_1, x0_2, x0_3, x0_4, x0_5, x0_6] 52)
  have hst0 : Below W4.heap.size W4 (W4.alloc (Obj.cells #[x0_0, x0_1, x0_2, x0_3, x0_4, x0_5, x0_6] 52)) := (Below.refl _ _).alloc (Nat.le_refl _) _
  generalize W4.alloc (Obj.cells #[x0_0, x0_1, x0_2, x0_3, x0_4, x0_5, x0_6] 52) = V1 at Cx hz hst0 ⊢
  have zV1 : W4.heap.size + 1 ≤ V1.heap.size := Nat.le_of_eq hz.symm
  have hbW : ∀ X : World, Below V1.heap.size V1 X → Below W4.heap.size W4 X := fun X hX => hst0.trans (hX.mono (by omega))
  have hbb : ∀ X : World, Below V1.heap.size V1 X → Below W3.heap.size W3 X := fun X hX => hW4.trans ((hbW X hX).mono hW4.size)
  have ca0_0_2 := fun (X : World) (hX : Below V1.heap.size V1 X) => ca0_0_1 X (hbb X hX)
  have ca0_1_2 := fun (X : World) (hX : Below V1.heap.size V1 X) => ca0_1_1 X (hbb X hX)
  have ca0_2_2 := fun (X : World) (hX : Below V1.heap.size V1 X) => ca0_2_1 X (hbb X hX)
  have ca0_3_2 := fun (X : World) (hX : Below V1.heap.size V1 X) => ca0_3_1 X (hbb X hX)
  have ca0_4_2 := fun (X : World) (hX : Below V1.heap.size V1 X) => ca0_4_1 X (hbb X hX)
  have ca0_5_2 := fun (X : World) (hX : Below V1.heap.size V1 X) => ca0_5_1 X (hbb X hX)
  have ca0_6_2 := fun (X : World) (hX : Below V1.heap.size V1 X) => ca0_6_1 X (hbb X hX)
  have Hz_2 := hide (fun (X : World) (hX : Below V1.heap.size V1 X) => Hz_1.out X (hbb X hX))
  have Rz_2 := hide (fun (X : World) (hX : Below V1.heap.size V1 X) => Rz_1.out X (hbb X hX))
  have Hw_2 : Hid (∀ X : World, Below V1.heap.size V1 X → Below w.heap.size w X) := hide fun X hX => Hw_1.out X (hbb X hX)
  clear ca0_0_1 ca0_1_1 ca0_2_1 ca0_3_1 ca0_4_1 ca0_5_1 ca0_6_1 Hz_1 Rz_1 Hw_1
  have cx0_0_2 := cell_rule Cx (n := V1.heap.size) (by omega) 0 (v := x0_0) rfl
  have cx0_1_2 := cell_rule Cx (n := V1.heap.size) (by omega) 1 (v := x0_1) rfl
  have cx0_2_2 := cell_rule Cx (n := V1.heap.size) (by omega) 2 (v := x0_2) rfl
  have cx0_3_2 := cell_rule Cx (n := V1.heap.size) (by omega) 3 (v := x0_3) rfl
  have cx0_4_2 := cell_rule Cx (n := V1.heap.size) (by omega) 4 (v := x0_4) rfl
  have cx0_5_2 := cell_rule Cx (n := V1.heap.size) (by omega) 5 (v := x0_5) rfl
  have cx0_6_2 := cell_rule Cx (n := V1.heap.size) (by omega) 6 (v := x0_6) rfl
  have hV1 : Below V1.heap.size V1 V1 := Below.refl _ _
  have hD2 : ∀ X : World, Below V1.heap.size V1 X → Below V1.heap.size V1 X.drew := fun _ h => h.drew
  have hA2 : ∀ (X : World) (o : Obj), Below V1.heap.size V1 X → Below V1.heap.size V1 (X.alloc o) := fun _ o h => below_alloc (Nat.le_refl _) o h
  clear Cx hz hst0
  have hRv := fun (X : World) (hX : Below V1.heap.size V1 X) => (ExR.good D).below hRk.out (hbW X hX) Hhi_x0.out
  have Hx0_2 : Hid (∀ X : World, Below V1.heap.size V1 X → ExR D X x0 [x0_0, x0_1, x0_2, x0_3, x0_4, x0_5, x0_6] Fx0) := hide hRv
  have Rx0_2 : Hid (∀ X : World, Below V1.heap.size V1 X → Fresh (W3.heap.size) X Fx0) := hide fun X hX => hfk.out.below (hbW X hX)
  clear hRk hfk hRv ox0_0 ox0_1 ox0_2 ox0_3 ox0_4 ox0_5 ox0_6
  clear hbW hbb hW4 hW3 hD1 hA1
  go_wp2_with fail
  -- the program
  refine Calls.mono (i_AttributeUses D x0 _ Fx0 _ (Hx0_2.out _ (by (repeat (first | assumption | exact Below.refl _ _ | apply Below.drew | refine below_alloc (Nat.le_refl _) _ ?_)))) Hbk0.out) ?_
  rintro en W5 ⟨vg, Fg, rfl, hR, hf, hb⟩
  have hRk := hide hR
  have hfk := hide hf
  have Hlo_g : Hid (∀ b ∈ Fg, V1.heap.size ≤ b) := hide hf.from_
  have Hhi_g : Hid (∀ b ∈ Fg, b < W5.heap.size) := hide hf.lt
  have hW5 : Below V1.heap.size V1 W5 := below_step (by (repeat (first | assumption | exact Below.refl _ _ | apply Below.drew | refine below_alloc (Nat.le_refl _) _ ?_))) (Nat.le_refl _) hb
  have zW5 : V1.heap.size ≤ W5.heap.size := hW5.size
  clear hb
  clear hR hf
  have hbb : ∀ X : World, Below W5.heap.size W5 X → Below V1.heap.size V1 X := fun X hX => hW5.trans (hX.mono hW5.size)
  have ca0_0_3 := fun (X : World) (hX : Below W5.heap.size W5 X) => ca0_0_2 X (hbb X hX)
  have ca0_1_3 := fun (X : World) (hX : Below W5.heap.size W5 X) => ca0_1_2 X (hbb X hX)
  have ca0_2_3 := fun (X : World) (hX : Below W5.heap.size W5 X) => ca0_2_2 X (hbb X hX)
  have ca0_3_3 := fun (X : World) (hX : Below W5.heap.size W5 X) => ca0_3_2 X (hbb X hX)
  have ca0_4_3 := fun (X : World) (hX : Below W5.heap.size W5 X) => ca0_4_2 X (hbb X hX)
  have ca0_5_3 := fun (X : World) (hX : Below W5.heap.size W5 X) => ca0_5_2 X (hbb X hX)
  have ca0_6_3 := fun (X : World) (hX : Below W5.heap.size W5 X) => ca0_6_2 X (hbb X hX)
  have cx0_0_3 := fun (X : World) (hX : Below W5.heap.size W5 X) => cx0_0_2 X (hbb X hX)
  have cx0_1_3 := fun (X : World) (hX : Below W5.heap.size W5 X) => cx0_1_2 X (hbb X hX)
  have cx0_2_3 := fun (X : World) (hX : Below W5.heap.size W5 X) => cx0_2_2 X (hbb X hX)
  have cx0_3_3 := fun (X : World) (hX : Below W5.heap.size W5 X) => cx0_3_2 X (hbb X hX)
  have cx0_4_3 := fun (X : World) (hX : Below W5.heap.size W5 X) => cx0_4_2 X (hbb X hX)
  have cx0_5_3 := fun (X : World) (hX : Below W5.heap.size W5 X) => cx0_5_2 X (hbb X hX)
  have cx0_6_3 := fun (X : World) (hX : Below W5.heap.size W5 X) => cx0_6_2 X (hbb X hX)
  have Hz_3 := hide (fun (X : World) (hX : Below W5.heap.size W5 X) => Hz_2.out X (hbb X hX))
  have Rz_3 := hide (fun (X : World) (hX : Below W5.heap.size W5 X) => Rz_2.out X (hbb X hX))
  have Hx0_3 := hide (fun (X : World) (hX : Below W5.heap.size W5 X) => Hx0_2.out X (hbb X hX))
  have Rx0_3 := hide (fun (X : World) (hX : Below W5.heap.size W5 X) => Rx0_2.out X (hbb X hX))
  have Hw_3 : Hid (∀ X : World, Below W5.heap.size W5 X → Below w.heap.size w X) := hide fun X hX => Hw_2.out X (hbb X hX)
  clear ca0_0_2 ca0_1_2 ca0_2_2 ca0_3_2 ca0_4_2 ca0_5_2 ca0_6_2 cx0_0_2 cx0_1_2 cx0_2_2 cx0_3_2 cx0_4_2 cx0_5_2 cx0_6_2 Hz_2 Hx0_2 Rz_2 Rx0_2 Hw_2
  have Hg_3 : Hid (∀ X : World, Below W5.heap.size W5 X → SlR 2 (OccR D) X (sortO (usesE D x0)) vg Fg) := hide fun X hX => hRk.out.below (OccR.good D) hX Hhi_g.out
  have Rg_3 : Hid (∀ X : World, Below W5.heap.size W5 X → Fresh (V1.heap.size) X Fg) := hide fun X hX => hfk.out.below hX
  clear hbb hRk hfk hV1 hD2 hA2
  clear hW5
  have hW5 : Below W5.heap.size W5 W5 := Below.refl _ _
  have hD3 : ∀ X : World, Below W5.heap.size W5 X → Below W5.heap.size W5 X.drew := fun _ h => h.drew
  have hA3 : ∀ (X : World) (o : Obj), Below W5.heap.size W5 X → Below W5.heap.size W5 (X.alloc o) := fun _ o h => below_alloc (Nat.le_refl _) o h
  go_wp2_with fail
  refine Calls.mono (es_Occ D (sortO (usesE D x0)) _ _ Fg Fz _ (Hg_3.out _ (by (repeat (first | assumption | exact Below.refl _ _ | apply Below.drew | refine below_alloc (Nat.le_refl _) _ ?_)))) (Hz_3.out _ (by (repeat (first | assumption | exact Below.refl _ _ | apply Below.drew | refine below_alloc (Nat.le_refl _) _ ?_))))) ?_
  rintro en W6 ⟨rfl, hb⟩
  have hW6 : Below W5.heap.size W5 W6 := below_step (by (repeat (first | assumption | exact Below.refl _ _ | apply Below.drew | refine below_alloc (Nat.le_refl _) _ ?_))) (Nat.le_refl _) hb
  have zW6 : W5.heap.size ≤ W6.heap.size := hW6.size
  clear hb
  go_wp2_with fail
  go_region_held3 (fun W => Below W5.heap.size W5 W)
    (first | assumption | exact Below.drew (by assumption))
    (first
      | (go_at_call_has 17 av0; refine Calls.mono (HT0.out _ ?hw) ?_; (case hw => exact Hw_3.out _ (by (repeat (first | assumption | exact Below.refl _ _ | apply Below.drew | refine below_alloc (Nat.le_refl _) _ ?_)))); rintro en W7 ⟨us, Fe0, rfl, hR, hf, hb⟩; obtain ⟨e0_0, e0_1, e0_2, e0_3, e0_4, e0_5, e0_6, rfl⟩ := list7 ((ExR.good D).len hR); have hW7 : Below W5.heap.size W5 W7 := below_step (by (repeat (first | assumption | exact Below.refl _ _ | apply Below.drew | refine below_alloc (Nat.le_refl _) _ ?_))) (Nat.le_refl _) hb; have HRe0 := hide hR; clear hR hf hb)
      | (go_at_call 20; refine Calls.mono (ee_Ex D x0 _ _ Fx0 Fe0 _ (Hx0_3.out _ (by (repeat (first | assumption | exact Below.refl _ _ | apply Below.drew | refine below_alloc (Nat.le_refl _) _ ?_)))) HRe0.out) ?_; rintro en W8 ⟨rfl, hb⟩; have hW8 : Below W5.heap.size W5 W8 := below_step (by (repeat (first | assumption | exact Below.refl _ _ | apply Below.drew | refine below_alloc (Nat.le_refl _) _ ?_))) (Nat.le_refl _) hb; clear hb))
  clear HRe0
  go_wp2_with fail
  have hMr := Hx0_3.out _ (by (repeat (first | assumption | exact Below.refl _ _ | apply Below.drew | refine below_alloc (Nat.le_refl _) _ ?_)))
  have hMf := Rx0_3.out _ (by (repeat (first | assumption | exact Below.refl _ _ | apply Below.drew | refine below_alloc (Nat.le_refl _) _ ?_)))
  refine Calls.mono (mm_Ex D _ (1) x0 _ Fx0 _ hMr hMf (by omega) (by have := Ex_cnt Hbk0.out; omega)) ?_
  rintro en W9 ⟨rfl, hRn, hFn, ha⟩
  have hcur : Below W5.heap.size W5 _ := (by (repeat (first | assumption | exact Below.refl _ _ | apply Below.drew | refine below_alloc (Nat.le_refl _) _ ?_)))
  have zW9 : W5.heap.size ≤ W9.heap.size := Nat.le_trans hcur.size ha.size
  have ca0_0_4 := cell_apart ha (ca0_0_3 _ hcur) (fun hm => by first | (have := Hlo_x0.out _ hm; have := Hhi_x0.out _ hm; omega) | exact Hnk_x0.out _ hm rfl)
  have ca0_1_4 := cell_apart ha (ca0_1_3 _ hcur) (fun hm => by first | (have := Hlo_x0.out _ hm; have := Hhi_x0.out _ hm; omega) | exact Hnk_x0.out _ hm rfl)
  have ca0_2_4 := cell_apart ha (ca0_2_3 _ hcur) (fun hm => by first | (have := Hlo_x0.out _ hm; have := Hhi_x0.out _ hm; omega) | exact Hnk_x0.out _ hm rfl)
  have ca0_3_4 := cell_apart ha (ca0_3_3 _ hcur) (fun hm => by first | (have := Hlo_x0.out _ hm; have := Hhi_x0.out _ hm; omega) | exact Hnk_x0.out _ hm rfl)
  have ca0_4_4 := cell_apart ha (ca0_4_3 _ hcur) (fun hm => by first | (have := Hlo_x0.out _ hm; have := Hhi_x0.out _ hm; omega) | exact Hnk_x0.out _ hm rfl)
  have ca0_5_4 := cell_apart ha (ca0_5_3 _ hcur) (fun hm => by first | (have := Hlo_x0.out _ hm; have := Hhi_x0.out _ hm; omega) | exact Hnk_x0.out _ hm rfl)
  have ca0_6_4 := cell_apart ha (ca0_6_3 _ hcur) (fun hm => by first | (have := Hlo_x0.out _ hm; have := Hhi_x0.out _ hm; omega) | exact Hnk_x0.out _ hm rfl)
  have cx0_0_4 := cell_apart ha (cx0_0_3 _ hcur) (fun hm => by first | (have := Hlo_x0.out _ hm; have := Hhi_x0.out _ hm; omega) | exact Hnk_x0.out _ hm rfl)
  have cx0_1_4 := cell_apart ha (cx0_1_3 _ hcur) (fun hm => by first | (have := Hlo_x0.out _ hm; have := Hhi_x0.out _ hm; omega) | exact Hnk_x0.out _ hm rfl)
  have cx0_2_4 := cell_apart ha (cx0_2_3 _ hcur) (fun hm => by first | (have := Hlo_x0.out _ hm; have := Hhi_x0.out _ hm; omega) | exact Hnk_x0.out _ hm rfl)
  have cx0_3_4 := cell_apart ha (cx0_3_3 _ hcur) (fun hm => by first | (have := Hlo_x0.out _ hm; have := Hhi_x0.out _ hm; omega) | exact Hnk_x0.out _ hm rfl)
  have cx0_4_4 := cell_apart ha (cx0_4_3 _ hcur) (fun hm => by first | (have := Hlo_x0.out _ hm; have := Hhi_x0.out _ hm; omega) | exact Hnk_x0.out _ hm rfl)
  have cx0_5_4 := cell_apart ha (cx0_5_3 _ hcur) (fun hm => by first | (have := Hlo_x0.out _ hm; have := Hhi_x0.out _ hm; omega) | exact Hnk_x0.out _ hm rfl)
  have cx0_6_4 := cell_apart ha (cx0_6_3 _ hcur) (fun hm => by first | (have := Hlo_x0.out _ hm; have := Hhi_x0.out _ hm; omega) | exact Hnk_x0.out _ hm rfl)
  have qz := ((Hz_3.out _ hcur).apart (OccR.good D) ha (fun b h1 h2 => by have := Hlo_z.out b h1; have := Hhi_z.out b h1; have := Hlo_x0.out b h2; have := Hhi_x0.out b h2; omega))
  have Hz_4 : Hid (∀ X : World, Below W9.heap.size W9 X → SlR 2 (OccR D) X (sortO (usesE D x0)) vz Fz) := hide fun X hX => qz.below (OccR.good D) hX (qz.lt (OccR.good D))
  have fz := (Rz_3.out _ hcur).apart ha (fun b h1 h2 => by have := Hlo_z.out b h1; have := Hhi_z.out b h1; have := Hlo_x0.out b h2; have := Hhi_x0.out b h2; omega)
  have Rz_4 : Hid (∀ X : World, Below W9.heap.size W9 X → Fresh (W2.heap.size) X Fz) := hide fun X hX => fz.below hX
  have qg := ((Hg_3.out _ hcur).apart (OccR.good D) ha (fun b h1 h2 => by have := Hlo_g.out b h1; have := Hhi_g.out b h1; have := Hlo_x0.out b h2; have := Hhi_x0.out b h2; omega))
  have Hg_4 : Hid (∀ X : World, Below W9.heap.size W9 X → SlR 2 (OccR D) X (sortO (usesE D x0)) vg Fg) := hide fun X hX => qg.below (OccR.good D) hX (qg.lt (OccR.good D))
  have fg := (Rg_3.out _ hcur).apart ha (fun b h1 h2 => by have := Hlo_g.out b h1; have := Hhi_g.out b h1; have := Hlo_x0.out b h2; have := Hhi_x0.out b h2; omega)
  have Rg_4 : Hid (∀ X : World, Below W9.heap.size W9 X → Fresh (V1.heap.size) X Fg) := hide fun X hX => fg.below hX
  have qx0 := hRn
  have Hx0_4 : Hid (∀ X : World, Below W9.heap.size W9 X → ExR D X (sk_Ex D (1) x0) [x0_0, x0_1, x0_2, x0_3, x0_4, x0_5, x0_6] Fx0) := hide fun X hX => (ExR.good D).below qx0 hX ((ExR.good D).lt qx0)
  have Rx0_4 : Hid (∀ X : World, Below W9.heap.size W9 X → Fresh (W3.heap.size) X Fx0) := hide fun X hX => hFn.below hX
  have hapw : Below w.heap.size w W9 := (Hw_3.out _ hcur).trans (ha.below (fun b hb => by have := Hlo_x0.out b hb; omega) (by have := (Hw_3.out _ hcur).size; omega))
  have Hw_4 : Hid (∀ X : World, Below W9.heap.size W9 X → Below w.heap.size w X) := hide fun X hX => hapw.trans (hX.mono hapw.size)
  clear ca0_0_3 ca0_1_3 ca0_2_3 ca0_3_3 ca0_4_3 ca0_5_3 ca0_6_3 cx0_0_3 cx0_1_3 cx0_2_3 cx0_3_3 cx0_4_3 cx0_5_3 cx0_6_3 Hz_3 Hx0_3 Hg_3 Rz_3 Rx0_3 Rg_3 Hw_3 hapw hcur ha hMr hMf hRn hFn qz qx0 qg fz fg
  clear hD3 hA3
  have hW9 : Below W9.heap.size W9 W9 := Below.refl _ _
  have hD4 : ∀ X : World, Below W9.heap.size W9 X → Below W9.heap.size W9 X.drew := fun _ h => h.drew
  have hA4 : ∀ (X : World) (o : Obj), Below W9.heap.size W9 X → Below W9.heap.size W9 (X.alloc o) := fun _ o h => below_alloc (Nat.le_refl _) o h
  go_wp2_with fail
  refine Calls.mono (es_Occ D (sortO (usesE D x0)) _ _ Fg Fz _ (Hg_4.out _ (by (repeat (first | assumption | exact Below.refl _ _ | apply Below.drew | refine below_alloc (Nat.le_refl _) _ ?_)))) (Hz_4.out _ (by (repeat (first | assumption | exact Below.refl _ _ | apply Below.drew | refine below_alloc (Nat.le_refl _) _ ?_))))) ?_
  rintro en W10 ⟨rfl, hb⟩
  have hW10 : Below W9.heap.size W9 W10 := below_step (by (repeat (first | assumption | exact Below.refl _ _ | apply Below.drew | refine below_alloc (Nat.le_refl _) _ ?_))) (Nat.le_refl _) hb
  have zW10 : W9.heap.size ≤ W10.heap.size := hW10.size
  clear hb
  go_wp2_with fail
  have hcnt : 1 + ctL ct_Occ (sortO (usesE D x0)) ≤ 1099511627776 := by have h : ctL ct_Occ (sortO (usesE D x0)) ≤ 100000000 := usesE_cnt Hbk0.out; omega
  have hMr := Hg_4.out _ (by (repeat (first | assumption | exact Below.refl _ _ | apply Below.drew | refine below_alloc (Nat.le_refl _) _ ?_)))
  have hMf := Rg_4.out _ (by (repeat (first | assumption | exact Below.refl _ _ | apply Below.drew | refine below_alloc (Nat.le_refl _) _ ?_)))
  refine Calls.mono (m_Occ D _ 1 (sortO (usesE D x0)) _ Fg _ hMr hMf (by omega) hcnt) ?_
  rintro en W11 ⟨rfl, hRn, hFn, ha⟩
  have hcur : Below W9.heap.size W9 _ := (by (repeat (first | assumption | exact Below.refl _ _ | apply Below.drew | refine below_alloc (Nat.le_refl _) _ ?_)))
  have zW11 : W9.heap.size ≤ W11.heap.size := Nat.le_trans hcur.size ha.size
  have ca0_0_5 := cell_apart ha (ca0_0_4 _ hcur) (fun hm => by first | (have := Hlo_g.out _ hm; have := Hhi_g.out _ hm; omega) | exact Hnk_g.out _ hm rfl)
  have ca0_1_5 := cell_apart ha (ca0_1_4 _ hcur) (fun hm => by first | (have := Hlo_g.out _ hm; have := Hhi_g.out _ hm; omega) | exact Hnk_g.out _ hm rfl)
  have ca0_2_5 := cell_apart ha (ca0_2_4 _ hcur) (fun hm => by first | (have := Hlo_g.out _ hm; have := Hhi_g.out _ hm; omega) | exact Hnk_g.out _ hm rfl)
  have ca0_3_5 := cell_apart ha (ca0_3_4 _ hcur) (fun hm => by first | (have := Hlo_g.out _ hm; have := Hhi_g.out _ hm; omega) | exact Hnk_g.out _ hm rfl)
  have ca0_4_5 := cell_apart ha (ca0_4_4 _ hcur) (fun hm => by first | (have := Hlo_g.out _ hm; have := Hhi_g.out _ hm; omega) | exact Hnk_g.out _ hm rfl)
  have ca0_5_5 := cell_apart ha (ca0_5_4 _ hcur) (fun hm => by first | (have := Hlo_g.out _ hm; have := Hhi_g.out _ hm; omega) | exact Hnk_g.out _ hm rfl)
  have ca0_6_5 := cell_apart ha (ca0_6_4 _ hcur) (fun hm => by first | (have := Hlo_g.out _ hm; have := Hhi_g.out _ hm; omega) | exact Hnk_g.out _ hm rfl)
  have cx0_0_5 := cell_apart ha (cx0_0_4 _ hcur) (fun hm => by first | (have := Hlo_g.out _ hm; have := Hhi_g.out _ hm; omega) | exact Hnk_g.out _ hm rfl)
  have cx0_1_5 := cell_apart ha (cx0_1_4 _ hcur) (fun hm => by first | (have := Hlo_g.out _ hm; have := Hhi_g.out _ hm; omega) | exact Hnk_g.out _ hm rfl)
  have cx0_2_5 := cell_apart ha (cx0_2_4 _ hcur) (fun hm => by first | (have := Hlo_g.out _ hm; have := Hhi_g.out _ hm; omega) | exact Hnk_g.out _ hm rfl)
  have cx0_3_5 := cell_apart ha (cx0_3_4 _ hcur) (fun hm => by first | (have := Hlo_g.out _ hm; have := Hhi_g.out _ hm; omega) | exact Hnk_g.out _ hm rfl)
  have cx0_4_5 := cell_apart ha (cx0_4_4 _ hcur) (fun hm => by first | (have := Hlo_g.out _ hm; have := Hhi_g.out _ hm; omega) | exact Hnk_g.out _ hm rfl)
  have cx0_5_5 := cell_apart ha (cx0_5_4 _ hcur) (fun hm => by first | (have := Hlo_g.out _ hm; have := Hhi_g.out _ hm; omega) | exact Hnk_g.out _ hm rfl)
  have cx0_6_5 := cell_apart ha (cx0_6_4 _ hcur) (fun hm => by first | (have := Hlo_g.out _ hm; have := Hhi_g.out _ hm; omega) | exact Hnk_g.out _ hm rfl)
  have qz := ((Hz_4.out _ hcur).apart (OccR.good D) ha (fun b h1 h2 => by have := Hlo_z.out b h1; have := Hhi_z.out b h1; have := Hlo_g.out b h2; have := Hhi_g.out b h2; omega))
  have Hz_5 : Hid (∀ X : World, Below W11.heap.size W11 X → SlR 2 (OccR D) X (sortO (usesE D x0)) vz Fz) := hide fun X hX => qz.below (OccR.good D) hX (qz.lt (OccR.good D))
  have fz := (Rz_4.out _ hcur).apart ha (fun b h1 h2 => by have := Hlo_z.out b h1; have := Hhi_z.out b h1; have := Hlo_g.out b h2; have := Hhi_g.out b h2; omega)
  have Rz_5 : Hid (∀ X : World, Below W11.heap.size W11 X → Fresh (W2.heap.size) X Fz) := hide fun X hX => fz.below hX
  have qx0 := ((ExR.good D).apart (Hx0_4.out _ hcur) ha (fun b h1 h2 => by have := Hlo_x0.out b h1; have := Hhi_x0.out b h1; have := Hlo_g.out b h2; have := Hhi_g.out b h2; omega))
  have Hx0_5 : Hid (∀ X : World, Below W11.heap.size W11 X → ExR D X (sk_Ex D (1) x0) [x0_0, x0_1, x0_2, x0_3, x0_4, x0_5, x0_6] Fx0) := hide fun X hX => (ExR.good D).below qx0 hX ((ExR.good D).lt qx0)
  have fx0 := (Rx0_4.out _ hcur).apart ha (fun b h1 h2 => by have := Hlo_x0.out b h1; have := Hhi_x0.out b h1; have := Hlo_g.out b h2; have := Hhi_g.out b h2; omega)
  have Rx0_5 : Hid (∀ X : World, Below W11.heap.size W11 X → Fresh (W3.heap.size) X Fx0) := hide fun X hX => fx0.below hX
  have qg := hRn
  have Hg_5 : Hid (∀ X : World, Below W11.heap.size W11 X → SlR 2 (OccR D) X (mkL mk_Occ ct_Occ 1 (sortO (usesE D x0))) vg Fg) := hide fun X hX => qg.below (OccR.good D) hX (qg.lt (OccR.good D))
  have Rg_5 : Hid (∀ X : World, Below W11.heap.size W11 X → Fresh (V1.heap.size) X Fg) := hide fun X hX => hFn.below hX
  have hapw : Below w.heap.size w W11 := (Hw_4.out _ hcur).trans (ha.below (fun b hb => by have := Hlo_g.out b hb; omega) (by have := (Hw_4.out _ hcur).size; omega))
  have Hw_5 : Hid (∀ X : World, Below W11.heap.size W11 X → Below w.heap.size w X) := hide fun X hX => hapw.trans (hX.mono hapw.size)
  clear ca0_0_4 ca0_1_4 ca0_2_4 ca0_3_4 ca0_4_4 ca0_5_4 ca0_6_4 cx0_0_4 cx0_1_4 cx0_2_4 cx0_3_4 cx0_4_4 cx0_5_4 cx0_6_4 Hz_4 Hx0_4 Hg_4 Rz_4 Rx0_4 Rg_4 Hw_4 hapw hcur ha hMr hMf hRn hFn qz qx0 qg fz fx0
  clear hD4 hA4
  have hW11 : Below W11.heap.size W11 W11 := Below.refl _ _
  have hD5 : ∀ X : World, Below W11.heap.size W11 X → Below W11.heap.size W11 X.drew := fun _ h => h.drew
  have hA5 : ∀ (X : World) (o : Obj), Below W11.heap.size W11 X → Below W11.heap.size W11 (X.alloc o) := fun _ o h => below_alloc (Nat.le_refl _) o h
  go_wp2_with fail
  refine Calls.mono (hd_Occ D 1 (sortO (usesE D x0)) _ Fg _ (Hg_5.out _ (by (repeat (first | assumption | exact Below.refl _ _ | apply Below.drew | refine below_alloc (Nat.le_refl _) _ ?_)))) (by omega) hcnt) ?_
  rintro en W12 ⟨rfl, hb⟩
  have hW12 : Below W11.heap.size W11 W12 := below_step (by (repeat (first | assumption | exact Below.refl _ _ | apply Below.drew | refine below_alloc (Nat.le_refl _) _ ?_))) (Nat.le_refl _) hb
  have zW12 : W11.heap.size ≤ W12.heap.size := hW12.size
  clear hb
  go_wp2_with fail
  -- the program again
  refine Calls.mono (HT0.out _ (Hw_5.out _ (by (repeat (first | assumption | exact Below.refl _ _ | apply Below.drew | refine below_alloc (Nat.le_refl _) _ ?_))))) ?_
  rintro en W13 ⟨us, Fuh, rfl, hR, hf, hb⟩
  obtain ⟨uh0, uh1, uh2, uh3, uh4, uh5, uh6, rfl⟩ := list7 ((ExR.good D).len hR)
  have hW13 : Below W11.heap.size W11 W13 := below_step (by (repeat (first | assumption | exact Below.refl _ _ | apply Below.drew | refine below_alloc (Nat.le_refl _) _ ?_))) (Nat.le_refl _) hb
  have zW13 : W11.heap.size ≤ W13.heap.size := hW13.size
  clear hb
  have HRu := hide hR
  clear hR hf
  go_wp2_with fail
  refine Calls.mono (i_AttributeUses D x0 _ Fuh _ HRu.out Hbk0.out) ?_
  rintro en W14 ⟨vh, Fh, rfl, hR, hf, hb⟩
  have hRk := hide hR
  have hfk := hide hf
  have Hlo_h : Hid (∀ b ∈ Fh, W13.heap.size ≤ b) := hide hf.from_
  have Hhi_h : Hid (∀ b ∈ Fh, b < W14.heap.size) := hide hf.lt
  have hW14 : Below W11.heap.size W11 W14 := below_step (by (repeat (first | assumption | exact Below.refl _ _ | apply Below.drew | refine below_alloc (Nat.le_refl _) _ ?_))) (Nat.le_refl _) hb
  have zW14 : W11.heap.size ≤ W14.heap.size := hW14.size
  clear hb
  clear hR hf
  have hbb : ∀ X : World, Below W14.heap.size W14 X → Below W11.heap.size W11 X := fun X hX => hW14.trans (hX.mono hW14.size)
  have ca0_0_6 := fun (X : World) (hX : Below W14.heap.size W14 X) => ca0_0_5 X (hbb X hX)
  have ca0_1_6 := fun (X : World) (hX : Below W14.heap.size W14 X) => ca0_1_5 X (hbb X hX)
  have ca0_2_6 := fun (X : World) (hX : Below W14.heap.size W14 X) => ca0_2_5 X (hbb X hX)
  have ca0_3_6 := fun (X : World) (hX : Below W14.heap.size W14 X) => ca0_3_5 X (hbb X hX)
  have ca0_4_6 := fun (X : World) (hX : Below W14.heap.size W14 X) => ca0_4_5 X (hbb X hX)
  have ca0_5_6 := fun (X : World) (hX : Below W14.heap.size W14 X) => ca0_5_5 X (hbb X hX)
  have ca0_6_6 := fun (X : World) (hX : Below W14.heap.size W14 X) => ca0_6_5 X (hbb X hX)
  have cx0_0_6 := fun (X : World) (hX : Below W14.heap.size W14 X) => cx0_0_5 X (hbb X hX)
  have cx0_1_6 := fun (X : World) (hX : Below W14.heap.size W14 X) => cx0_1_5 X (hbb X hX)
  have cx0_2_6 := fun (X : World) (hX : Below W14.heap.size W14 X) => cx0_2_5 X (hbb X hX)
  have cx0_3_6 := fun (X : World) (hX : Below W14.heap.size W14 X) => cx0_3_5 X (hbb X hX)
  have cx0_4_6 := fun (X : World) (hX : Below W14.heap.size W14 X) => cx0_4_5 X (hbb X hX)
  have cx0_5_6 := fun (X : World) (hX : Below W14.heap.size W14 X) => cx0_5_5 X (hbb X hX)
  have cx0_6_6 := fun (X : World) (hX : Below W14.heap.size W14 X) => cx0_6_5 X (hbb X hX)
  have Hz_6 := hide (fun (X : World) (hX : Below W14.heap.size W14 X) => Hz_5.out X (hbb X hX))
  have Rz_6 := hide (fun (X : World) (hX : Below W14.heap.size W14 X) => Rz_5.out X (hbb X hX))
  have Hx0_6 := hide (fun (X : World) (hX : Below W14.heap.size W14 X) => Hx0_5.out X (hbb X hX))
  have Rx0_6 := hide (fun (X : World) (hX : Below W14.heap.size W14 X) => Rx0_5.out X (hbb X hX))
  have Hg_6 := hide (fun (X : World) (hX : Below W14.heap.size W14 X) => Hg_5.out X (hbb X hX))
  have Rg_6 := hide (fun (X : World) (hX : Below W14.heap.size W14 X) => Rg_5.out X (hbb X hX))
  have Hw_6 : Hid (∀ X : World, Below W14.heap.size W14 X → Below w.heap.size w X) := hide fun X hX => Hw_5.out X (hbb X hX)
  clear ca0_0_5 ca0_1_5 ca0_2_5 ca0_3_5 ca0_4_5 ca0_5_5 ca0_6_5 cx0_0_5 cx0_1_5 cx0_2_5 cx0_3_5 cx0_4_5 cx0_5_5 cx0_6_5 Hz_5 Hx0_5 Hg_5 Rz_5 Rx0_5 Rg_5 Hw_5
  have Hh_6 : Hid (∀ X : World, Below W14.heap.size W14 X → SlR 2 (OccR D) X (sortO (usesE D x0)) vh Fh) := hide fun X hX => hRk.out.below (OccR.good D) hX Hhi_h.out
  have Rh_6 : Hid (∀ X : World, Below W14.heap.size W14 X → Fresh (W13.heap.size) X Fh) := hide fun X hX => hfk.out.below hX
  clear hbb hRk hfk hW11 hD5 hA5
  clear hW14
  have hW14 : Below W14.heap.size W14 W14 := Below.refl _ _
  have hD6 : ∀ X : World, Below W14.heap.size W14 X → Below W14.heap.size W14 X.drew := fun _ h => h.drew
  have hA6 : ∀ (X : World) (o : Obj), Below W14.heap.size W14 X → Below W14.heap.size W14 (X.alloc o) := fun _ o h => below_alloc (Nat.le_refl _) o h
  go_wp2_with fail
  clear HRu
  refine Calls.mono (es_Occ D (sortO (usesE D x0)) _ _ Fh Fz _ (Hh_6.out _ (by (repeat (first | assumption | exact Below.refl _ _ | apply Below.drew | refine below_alloc (Nat.le_refl _) _ ?_)))) (Hz_6.out _ (by (repeat (first | assumption | exact Below.refl _ _ | apply Below.drew | refine below_alloc (Nat.le_refl _) _ ?_))))) ?_
  rintro en W15 ⟨rfl, hb⟩
  have hW15 : Below W14.heap.size W14 W15 := below_step (by (repeat (first | assumption | exact Below.refl _ _ | apply Below.drew | refine below_alloc (Nat.le_refl _) _ ?_))) (Nat.le_refl _) hb
  have zW15 : W14.heap.size ≤ W15.heap.size := hW15.size
  clear hb
  go_wp2_with fail
  refine Calls.mono (hd_Occ D 1 (sortO (usesE D x0)) _ Fg _ (Hg_6.out _ (by (repeat (first | assumption | exact Below.refl _ _ | apply Below.drew | refine below_alloc (Nat.le_refl _) _ ?_)))) (by omega) hcnt) ?_
  rintro en W16 ⟨rfl, hb⟩
  have hW16 : Below W14.heap.size W14 W16 := below_step (by (repeat (first | assumption | exact Below.refl _ _ | apply Below.drew | refine below_alloc (Nat.le_refl _) _ ?_))) (Nat.le_refl _) hb
  have zW16 : W14.heap.size ≤ W16.heap.size := hW16.size
  clear hb
  go_wp2_with fail
  go_ret
  exact ⟨rfl, Hw_6.out _ (by (repeat (first | assumption | exact Below.refl _ _ | apply Below.drew | refine below_alloc (Nat.le_refl _) _ ?_)))⟩
end Go.Proofs.Ytaihdnlpdibkoaa.fnExactAttributeUses
