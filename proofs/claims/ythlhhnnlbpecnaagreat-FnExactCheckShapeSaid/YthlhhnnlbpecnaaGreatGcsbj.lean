/- Several texts of one proof in one file: The walk of the law FnExactCheckShape: every call returns true and leaves old memory as it was. Conditions: each theorem names its own. -/
import Derived.Test.YthlhhnnlbpecnaaGreatRows
import Derived.Test.YthlhhnnlbpecnaaGreatGcsaa
import Derived.Test.YthlhhnnlbpecnaaGreatGcsbg
import Derived.Test.YthlhhnnlbpecnaaGreatGcsbi
import Derived.Test.YthlhhnnlbpecnaaGreatGcsai

/- The walk of the law FnExactCheckShape: every call returns true and leaves old memory as it was. Conditions: none. -/
namespace Go.Proofs.YthlhhnnlbpecnaaGreat.fnExactCheckShape
set_option linter.unusedSimpArgs false
set_option linter.unusedVariables false
set_option maxRecDepth 100000
open Go.ChangeShapes Go.WideShapes Go.ChangeAt Go.RowKit
set_option linter.unusedVariables false

set_option maxRecDepth 100000 in
set_option maxHeartbeats 40000000 in
theorem walk (w : World) (D0 : Nat) (x0 : Grm) (cs0 : List Value) (F0 : List Nat) (h0 : GrmR D0 w x0 cs0 F0) : Calls Tryz.prog 3 #[.agg cs0.toArray] w fun en w' => en = .returned (.bool true) ∧ Below w.heap.size w w' := by
  have h0 := h0.up (D0 + 1) (by omega)
  have hDp : 0 < D0 + 1 := by omega
  generalize D0 + 1 = D at h0 hDp
  have HF0 := hide ((GrmR.good D).lt h0)
  obtain ⟨av0, av1, rfl⟩ := list2 ((GrmR.good D).len h0)
  have HX0 : Hid (∀ W : World, Below w.heap.size w W → GrmR D W x0 [av0, av1] F0) := hide fun W hW => (GrmR.good D).below h0 hW HF0.out
  clear h0
  obtain ⟨C0, hz0, hw0⟩ := boxes1 w [av0, av1] 25
  show Calls _ _ #[.agg #[av0, av1]] w _
  go_enter Tryz.func3, Tryz.ntmps3
  go_wp2_with fail
  generalize w.alloc (Obj.cells #[av0, av1] 25) = V0 at C0 hz0 hw0 ⊢
  have zV0 : w.heap.size + 1 ≤ V0.heap.size := Nat.le_of_eq hz0.symm
  have Hw_0 : Hid (∀ X : World, Below V0.heap.size V0 X → Below w.heap.size w X) := hide fun X h => hw0.trans (h.mono (by omega))
  have ca0_0_0 := cell_rule C0 (n := V0.heap.size) (by omega) 0 (v := av0) rfl
  have ca0_1_0 := cell_rule C0 (n := V0.heap.size) (by omega) 1 (v := av1) rfl
  clear C0 hz0 hw0
  have hV0 : Below V0.heap.size V0 V0 := Below.refl _ _
  have hD0 : ∀ X : World, Below V0.heap.size V0 X → Below V0.heap.size V0 X.drew := fun _ h => h.drew
  have hA0 : ∀ (X : World) (o : Obj), Below V0.heap.size V0 X → Below V0.heap.size V0 (X.alloc o) := fun _ o h => below_alloc (Nat.le_refl _) o h
  refine Calls.mono (z_Grm D x0 _ F0 _ 1048576 (HX0.out _ (Hw_0.out _ (by (repeat (first | assumption | exact Below.refl _ _ | apply Below.drew | refine below_alloc (Nat.le_refl _) _ ?_))))) (by omega) (by omega)) ?_
  rintro en W1 ⟨⟨r0, rfl, hr⟩, hb⟩
  have hW1 : Below V0.heap.size V0 W1 := below_step (by (repeat (first | assumption | exact Below.refl _ _ | apply Below.drew | refine below_alloc (Nat.le_refl _) _ ?_))) (Nat.le_refl _) hb
  have zW1 : V0.heap.size ≤ W1.heap.size := hW1.size
  clear hb
  rcases hr with rfl | ⟨hr0, hq⟩
  · go_wp2_with fail
    go_ret
    exact ⟨rfl, Hw_0.out _ hW1⟩
  have hnn := bulkGrm_nonneg D x0
  have Hbk0 : Hid (bulkGrm D x0 ≤ 1048576) := hide (by omega)
  have hl0 : r0 ≤ 1048576 := by omega
  clear hq hnn
  have HT0 : Hid (∀ W : World, Below w.heap.size w W → Calls Tryz.prog 6 #[.agg #[av0, av1]] W fun en w' => ∃ us F', en = .returned (.agg (List.toArray us)) ∧ GrmR D w' x0 us F' ∧ Fresh W.heap.size w' F' ∧ Below W.heap.size W w') := hide fun W hW =>
    c_Grm D x0 _ F0 W (HX0.out W hW) Hbk0.out
  go_wp2_with fail
  clear hr0 hl0
  have hst := fun (w : World) (a : Addr) (v : Value) (m : Mode) (hv : v.oneCell' = true) => run_store Tryz.prog w a v m hv
  -- the reference
  refine Calls.mono (HT0.out _ (Hw_0.out _ (by (repeat (first | assumption | exact Below.refl _ _ | apply Below.drew | refine below_alloc (Nat.le_refl _) _ ?_))))) ?_
  rintro en W2 ⟨us, Fuz, rfl, hR, hf, hb⟩
  obtain ⟨uz0, uz1, rfl⟩ := list2 ((GrmR.good D).len hR)
  have hW2 : Below V0.heap.size V0 W2 := below_step (by (repeat (first | assumption | exact Below.refl _ _ | apply Below.drew | refine below_alloc (Nat.le_refl _) _ ?_))) (Nat.le_refl _) hb
  have zW2 : V0.heap.size ≤ W2.heap.size := hW2.size
  clear hb
  have HRu := hide hR
  clear hR hf
  go_wp2_with fail
  refine Calls.mono (s_CheckShape D x0 _ Fuz _ HRu.out Hbk0.out hDp) ?_
  rintro en W3 ⟨rfl, hb⟩
  have hW3 : Below V0.heap.size V0 W3 := below_step (by (repeat (first | assumption | exact Below.refl _ _ | apply Below.drew | refine below_alloc (Nat.le_refl _) _ ?_))) (Nat.le_refl _) hb
  have zW3 : V0.heap.size ≤ W3.heap.size := hW3.size
  clear hb
  clear HRu
  go_wp2_with fail
  refine Calls.mono (HT0.out _ (Hw_0.out _ (by (repeat (first | assumption | exact Below.refl _ _ | apply Below.drew | refine below_alloc (Nat.le_refl _) _ ?_))))) ?_
  rintro en W4 ⟨us, Fx0, rfl, hR, hf, hb⟩
  obtain ⟨x0_0, x0_1, rfl⟩ := list2 ((GrmR.good D).len hR)
  have ho := GrmR.one hR
  have ox0_0 := ho x0_0 (by simp)
  have ox0_1 := ho x0_1 (by simp)
  have hRk := hide hR
  have hfk := hide hf
  have Hlo_x0 : Hid (∀ b ∈ Fx0, W3.heap.size ≤ b) := hide hf.from_
  have Hhi_x0 : Hid (∀ b ∈ Fx0, b < W4.heap.size) := hide hf.lt
  have hW4 : Below V0.heap.size V0 W4 := below_step (by (repeat (first | assumption | exact Below.refl _ _ | apply Below.drew | refine below_alloc (Nat.le_refl _) _ ?_))) (Nat.le_refl _) hb
  have zW4 : V0.heap.size ≤ W4.heap.size := hW4.size
  clear hb
  clear ho hR hf
  go_wp2_with fail
  have Cx := CellsAt.new W4 [x0_0, x0_1] 32
  have hz := World.size_alloc W4 (Obj.cells #[x0_0, x0_1] 32)
  have hst0 : Below W4.heap.size W4 (W4.alloc (Obj.cells #[x0_0, x0_1] 32)) := (Below.refl _ _).alloc (Nat.le_refl _) _
  generalize W4.alloc (Obj.cells #[x0_0, x0_1] 32) = V1 at Cx hz hst0 ⊢
  have zV1 : W4.heap.size + 1 ≤ V1.heap.size := Nat.le_of_eq hz.symm
  have hbW : ∀ X : World, Below V1.heap.size V1 X → Below W4.heap.size W4 X := fun X hX => hst0.trans (hX.mono (by omega))
  have hbb : ∀ X : World, Below V1.heap.size V1 X → Below V0.heap.size V0 X := fun X hX => hW4.trans ((hbW X hX).mono hW4.size)
  have ca0_0_1 := fun (X : World) (hX : Below V1.heap.size V1 X) => ca0_0_0 X (hbb X hX)
  have ca0_1_1 := fun (X : World) (hX : Below V1.heap.size V1 X) => ca0_1_0 X (hbb X hX)
  have Hw_1 : Hid (∀ X : World, Below V1.heap.size V1 X → Below w.heap.size w X) := hide fun X hX => Hw_0.out X (hbb X hX)
  clear ca0_0_0 ca0_1_0 Hw_0
  have cx0_0_1 := cell_rule Cx (n := V1.heap.size) (by omega) 0 (v := x0_0) rfl
  have cx0_1_1 := cell_rule Cx (n := V1.heap.size) (by omega) 1 (v := x0_1) rfl
  have hV1 : Below V1.heap.size V1 V1 := Below.refl _ _
  have hD1 : ∀ X : World, Below V1.heap.size V1 X → Below V1.heap.size V1 X.drew := fun _ h => h.drew
  have hA1 : ∀ (X : World) (o : Obj), Below V1.heap.size V1 X → Below V1.heap.size V1 (X.alloc o) := fun _ o h => below_alloc (Nat.le_refl _) o h
  clear Cx hz hst0
  have hRv := fun (X : World) (hX : Below V1.heap.size V1 X) => (GrmR.good D).below hRk.out (hbW X hX) Hhi_x0.out
  have Hx0_1 : Hid (∀ X : World, Below V1.heap.size V1 X → GrmR D X x0 [x0_0, x0_1] Fx0) := hide hRv
  have Rx0_1 : Hid (∀ X : World, Below V1.heap.size V1 X → Fresh (W3.heap.size) X Fx0) := hide fun X hX => hfk.out.below (hbW X hX)
  clear hRk hfk hRv ox0_0 ox0_1
  clear hbW hbb hW4 hV0 hD0 hA0
  go_wp2_with fail
  -- the program
  refine Calls.mono (i_CheckShape D x0 _ Fx0 _ (Hx0_1.out _ (by (repeat (first | assumption | exact Below.refl _ _ | apply Below.drew | refine below_alloc (Nat.le_refl _) _ ?_)))) Hbk0.out) ?_
  rintro en W5 ⟨rfl, hb⟩
  have hW5 : Below V1.heap.size V1 W5 := below_step (by (repeat (first | assumption | exact Below.refl _ _ | apply Below.drew | refine below_alloc (Nat.le_refl _) _ ?_))) (Nat.le_refl _) hb
  have zW5 : V1.heap.size ≤ W5.heap.size := hW5.size
  clear hb
  go_wp2_with fail
  go_region_held3 (fun W => Below V1.heap.size V1 W)
    (first | assumption | exact Below.drew (by assumption))
    (first
      | (go_at_call_has 6 av0; refine Calls.mono (HT0.out _ ?hw) ?_; (case hw => exact Hw_1.out _ (by (repeat (first | assumption | exact Below.refl _ _ | apply Below.drew | refine below_alloc (Nat.le_refl _) _ ?_)))); rintro en W6 ⟨us, Fe0, rfl, hR, hf, hb⟩; obtain ⟨e0_0, e0_1, rfl⟩ := list2 ((GrmR.good D).len hR); have hW6 : Below V1.heap.size V1 W6 := below_step (by (repeat (first | assumption | exact Below.refl _ _ | apply Below.drew | refine below_alloc (Nat.le_refl _) _ ?_))) (Nat.le_refl _) hb; have HRe0 := hide hR; clear hR hf hb)
      | (go_at_call 8; refine Calls.mono (e_Grm D x0 _ _ Fx0 Fe0 _ (Hx0_1.out _ (by (repeat (first | assumption | exact Below.refl _ _ | apply Below.drew | refine below_alloc (Nat.le_refl _) _ ?_)))) HRe0.out) ?_; rintro en W7 ⟨rfl, hb⟩; have hW7 : Below V1.heap.size V1 W7 := below_step (by (repeat (first | assumption | exact Below.refl _ _ | apply Below.drew | refine below_alloc (Nat.le_refl _) _ ?_))) (Nat.le_refl _) hb; clear hb))
  clear HRe0
  go_wp2_with fail
  go_ret
  exact ⟨rfl, Hw_1.out _ (by (repeat (first | assumption | exact Below.refl _ _ | apply Below.drew | refine below_alloc (Nat.le_refl _) _ ?_)))⟩
end Go.Proofs.YthlhhnnlbpecnaaGreat.fnExactCheckShape
