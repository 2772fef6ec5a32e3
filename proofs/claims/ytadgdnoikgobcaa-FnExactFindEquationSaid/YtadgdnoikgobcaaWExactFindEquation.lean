/- The walk of the law FnExactFindEquation: every call returns true and leaves old memory as it was. Conditions: none. -/
import Derived.Test.YtadgdnoikgobcaaRows
import Derived.Test.YtadgdnoikgobcaaKit
import Derived.Test.YtadgdnoikgobcaaFindEq
import Derived.Test.YtadgdnoikgobcaaBoxC
import Derived.Test.YtadgdnoikgobcaaRulEqR
import Derived.Test.YtadgdnoikgobcaaLawKit
namespace Go.Proofs.Ytadgdnoikgobcaa.fnExactFindEquation
set_option maxRecDepth 100000
open Go.ChangeShapes Go.WideShapes Go.ChangeAt Go.RowKit
set_option linter.unusedVariables false

set_option maxRecDepth 100000 in
set_option maxHeartbeats 40000000 in
theorem walk (w : World) (D0 : Nat) (x0 : Rul) (cs0 : List Value) (F0 : List Nat) (h0 : RulR D0 w x0 cs0 F0) (D1 : Nat) (x1 : Occ) (cs1 : List Value) (F1 : List Nat) (h1 : OccR D1 w x1 cs1 F1) : Calls Try.prog 3 #[.agg cs0.toArray, .agg cs1.toArray] w fun en w' => en = .returned (.bool true) ∧ Below w.heap.size w w' := by
  have h0 := h0.up (D0 + D1 + 1) (by omega)
  have h1 := h1.up (D0 + D1 + 1) (by omega)
  have hDp : 0 < D0 + D1 + 1 := by omega
  generalize D0 + D1 + 1 = D at h0 h1 hDp
  have HF0 := hide ((RulR.good D).lt h0)
  obtain ⟨av0, av1, av2, av3, av4, av5, rfl⟩ := list_6 ((RulR.good D).len h0)
  have HX0 : Hid (∀ W : World, Below w.heap.size w W → RulR D W x0 [av0, av1, av2, av3, av4, av5] F0) := hide fun W hW => (RulR.good D).below h0 hW HF0.out
  clear h0
  have HF1 := hide ((OccR.good D).lt h1)
  obtain ⟨bv0, bv1, rfl⟩ := list2 ((OccR.good D).len h1)
  have HX1 : Hid (∀ W : World, Below w.heap.size w W → OccR D W x1 [bv0, bv1] F1) := hide fun W hW => (OccR.good D).below h1 hW HF1.out
  clear h1
  obtain ⟨C0, C1, hz0, hw0⟩ := boxes2 w [av0, av1, av2, av3, av4, av5] [bv0, bv1] 26 28
  show Calls _ _ #[.agg #[av0, av1, av2, av3, av4, av5], .agg #[bv0, bv1]] w _
  go_enter Try.func3, Try.ntmps3
  go_wp2_with fail
  generalize (w.alloc (Obj.cells #[av0, av1, av2, av3, av4, av5] 26)).alloc (Obj.cells #[bv0, bv1] 28) = V0 at C0 C1 hz0 hw0 ⊢
  have zV0 : w.heap.size + 2 ≤ V0.heap.size := Nat.le_of_eq hz0.symm
  have Hw_0 : Hid (∀ X : World, Below V0.heap.size V0 X → Below w.heap.size w X) := hide fun X h => hw0.trans (h.mono (by omega))
  have ca0_0_0 := cell_rule C0 (n := V0.heap.size) (by omega) 0 (v := av0) rfl
  have ca0_1_0 := cell_rule C0 (n := V0.heap.size) (by omega) 1 (v := av1) rfl
  have ca0_2_0 := cell_rule C0 (n := V0.heap.size) (by omega) 2 (v := av2) rfl
  have ca0_3_0 := cell_rule C0 (n := V0.heap.size) (by omega) 3 (v := av3) rfl
  have ca0_4_0 := cell_rule C0 (n := V0.heap.size) (by omega) 4 (v := av4) rfl
  have ca0_5_0 := cell_rule C0 (n := V0.heap.size) (by omega) 5 (v := av5) rfl
  have ca1_0_0 := cell_rule C1 (n := V0.heap.size) (by omega) 0 (v := bv0) rfl
  have ca1_1_0 := cell_rule C1 (n := V0.heap.size) (by omega) 1 (v := bv1) rfl
  clear C0 C1 hz0 hw0
  have hV0 : Below V0.heap.size V0 V0 := Below.refl _ _
  have hD0 : ∀ X : World, Below V0.heap.size V0 X → Below V0.heap.size V0 X.drew := fun _ h => h.drew
  have hA0 : ∀ (X : World) (o : Obj), Below V0.heap.size V0 X → Below V0.heap.size V0 (X.alloc o) := fun _ o h => below_alloc (Nat.le_refl _) o h
  refine Calls.mono (z_Rul D x0 _ F0 _ 1048576 (HX0.out _ (Hw_0.out _ (by (repeat (first | assumption | exact Below.refl _ _ | apply Below.drew | refine below_alloc (Nat.le_refl _) _ ?_))))) (by omega) (by omega)) ?_
  rintro en W1 ⟨⟨r0, rfl, hr⟩, hb⟩
  have hW1 : Below V0.heap.size V0 W1 := below_step (by (repeat (first | assumption | exact Below.refl _ _ | apply Below.drew | refine below_alloc (Nat.le_refl _) _ ?_))) (Nat.le_refl _) hb
  have zW1 : V0.heap.size ≤ W1.heap.size := hW1.size
  clear hb
  rcases hr with rfl | ⟨hr0, hq⟩
  · go_wp2_with fail
    go_ret
    exact ⟨rfl, Hw_0.out _ hW1⟩
  have hnn := bulkRul_nonneg D x0
  have Hbk0 : Hid (bulkRul D x0 ≤ 1048576) := hide (by omega)
  have hl0 : r0 ≤ 1048576 := by omega
  clear hq hnn
  have HT0 : Hid (∀ W : World, Below w.heap.size w W → Calls Try.prog 11 #[.agg #[av0, av1, av2, av3, av4, av5]] W fun en w' => ∃ us F', en = .returned (.agg (List.toArray us)) ∧ RulR D w' x0 us F' ∧ Fresh W.heap.size w' F' ∧ Below W.heap.size W w') := hide fun W hW =>
    c_Rul D x0 _ F0 W (HX0.out W hW) Hbk0.out
  go_wp2_with fail
  refine Calls.mono (z_Occ D x1 _ F1 _ r0 (HX1.out _ (Hw_0.out _ (by (repeat (first | assumption | exact Below.refl _ _ | apply Below.drew | refine below_alloc (Nat.le_refl _) _ ?_))))) (by omega) (by omega)) ?_
  rintro en W2 ⟨⟨r1, rfl, hr⟩, hb⟩
  have hW2 : Below V0.heap.size V0 W2 := below_step (by (repeat (first | assumption | exact Below.refl _ _ | apply Below.drew | refine below_alloc (Nat.le_refl _) _ ?_))) (Nat.le_refl _) hb
  have zW2 : V0.heap.size ≤ W2.heap.size := hW2.size
  clear hb
  rcases hr with rfl | ⟨hr1, hq⟩
  · go_wp2_with fail
    go_ret
    exact ⟨rfl, Hw_0.out _ hW2⟩
  have hnn := bulkOcc_nonneg D x1
  have Hbk1 : Hid (bulkOcc D x1 ≤ 1048576) := hide (by omega)
  have hl1 : r1 ≤ 1048576 := by omega
  clear hq hnn
  have HT1 : Hid (∀ W : World, Below w.heap.size w W → Calls Try.prog 12 #[.agg #[bv0, bv1]] W fun en w' => ∃ us F', en = .returned (.agg (List.toArray us)) ∧ OccR D w' x1 us F' ∧ Fresh W.heap.size w' F' ∧ Below W.heap.size W w') := hide fun W hW =>
    c_Occ D x1 _ F1 W (HX1.out W hW)
  go_wp2_with fail
  clear hr0 hl0 hr1 hl1
  have hst := fun (w : World) (a : Addr) (v : Value) (m : Mode) (hv : v.oneCell' = true) => run_store Try.prog w a v m hv
  -- the reference
  try clear hst
  go_region_held3 (fun W => Below V0.heap.size V0 W)
    (first | assumption | exact Below.drew (by assumption) | exact below_alloc (Nat.le_refl _) _ (by assumption) | exact Below.drew (below_alloc (Nat.le_refl _) _ (by assumption)) | exact below_set7 (by assumption) (by first | exact Nat.le_refl _ | assumption | omega))
    (first
      | (go_at_call_has 11 av0; refine Calls.mono (HT0.out _ ?hw) ?_; (case hw => exact Hw_0.out _ (by (repeat (first | assumption | apply Below.drew | refine below_alloc (Nat.le_refl _) _ ?_)))); rintro en W3 ⟨us, Ftz0, rfl, hR, hf, hb⟩; obtain ⟨tz0_0, tz0_1, tz0_2, tz0_3, tz0_4, tz0_5, rfl⟩ := list_6 ((RulR.good D).len hR); have hW3 : Below V0.heap.size V0 W3 := below_step (by (repeat (first | assumption | apply Below.drew | refine below_alloc (Nat.le_refl _) _ ?_))) (Nat.le_refl _) hb; have zzW3 := hW3.size; have hsW3 : Below W3.heap.size W3 W3 := Below.refl _ _; (first | have zb := xcarry zb hb | have zb := xbox hb | have zb := xboxd hb | skip); have HRtz0 := hide (fun (X : World) (hX : Below W3.heap.size W3 X) => (RulR.good D).below hR hX hf.lt); clear hR hf hb)
      | (go_at_call_has 12 bv0; refine Calls.mono (HT1.out _ ?hw) ?_; (case hw => exact Hw_0.out _ (by (repeat (first | assumption | apply Below.drew | refine below_alloc (Nat.le_refl _) _ ?_)))); rintro en W4 ⟨us, Ftz1, rfl, hR, hf, hb⟩; obtain ⟨tz1_0, tz1_1, rfl⟩ := list2 ((OccR.good D).len hR); have hW4 : Below V0.heap.size V0 W4 := below_step (by (repeat (first | assumption | apply Below.drew | refine below_alloc (Nat.le_refl _) _ ?_))) (Nat.le_refl _) hb; have zzW4 := hW4.size; have hsW4 : Below W4.heap.size W4 W4 := Below.refl _ _; have hbtz0tz1 : Below W3.heap.size W3 W4 := below_step (by (repeat (first | assumption | apply Below.drew | refine below_alloc (Nat.le_refl _) _ ?_))) (Nat.le_refl _) hb; (first | have zb := xcarry zb hb | have zb := xbox hb | have zb := xboxd hb | skip); have HRtz1 := hide (fun (X : World) (hX : Below W4.heap.size W4 X) => (OccR.good D).below hR hX hf.lt); clear hR hf hb)
      | (go_at_call 10; refine Calls.mono (s_FindEquation D x0 x1 _ _ Ftz0 Ftz1 _ (HRtz0.out _ (by (repeat (first | assumption | apply Below.drew | refine below_alloc (Nat.le_refl _) _ ?_)))) (HRtz1.out _ (by (repeat (first | assumption | apply Below.drew | refine below_alloc (Nat.le_refl _) _ ?_)))) Hbk0.out hDp) ?_; rintro en W5 ⟨us, Fz, rfl, hR, hf, hb⟩; obtain ⟨zr0, zr1, zr2, zr3, zr4, zr5, zr6, rfl⟩ := list7 ((ExR.good D).len hR); have ho := ExR.one hR; have ozr0 := ho zr0 (by simp); have ozr1 := ho zr1 (by simp); have ozr2 := ho zr2 (by simp); have ozr3 := ho zr3 (by simp); have ozr4 := ho zr4 (by simp); have ozr5 := ho zr5 (by simp); have ozr6 := ho zr6 (by simp); have hRk := hide hR; have hfk := hide hf; have Hlo_z : Hid (∀ b ∈ Fz, W4.heap.size ≤ b) := hide (fun b hb' => by have h9 := hf.from_ b hb'; first | (simp only [World.size_alloc] at h9; omega) | omega); have Hhi_z : Hid (∀ b ∈ Fz, b < W5.heap.size) := hide hf.lt; (first | have zb := xcarry zb hb | have zb := xbox hb | have zb := xboxd hb | skip); have Hlo9 := hide hf.from_; (first | have sx := store7 Try.prog zr0 zr1 zr2 zr3 zr4 zr5 zr6 zb.1 (by simp) ho | have sx := store7 Try.prog (w := W5.alloc (.cells #[.int .i64 0, .int .i64 0, .int .i64 0, .int .i64 0, .string ⟨#[]⟩, .string ⟨#[]⟩, .slice none 0 0] 33)) zr0 zr1 zr2 zr3 zr4 zr5 zr6 (heap_alloc_new W5 _) (by simp) ho); obtain ⟨wz1, wz2, wz3, wz4, wz5, wz6, WFz, sz0, sz1, sz2, sz3, sz4, sz5, sz6, hP⟩ := sx; have HP := hide hP; have hW5 : Below V0.heap.size V0 W5 := below_step (by (repeat (first | assumption | apply Below.drew | refine below_alloc (Nat.le_refl _) _ ?_))) (Nat.le_refl _) hb; have zzW5 := hW5.size; (first | have hWF : Below V0.heap.size V0 WFz := hW5.trans (hP.below (by first | exact Nat.le_refl _ | assumption | omega)) | have hWF : Below V0.heap.size V0 WFz := (below_alloc (Nat.le_refl _) _ hW5).trans (hP.below (by first | exact Nat.le_refl _ | assumption | omega))); clear hP; clear ho hR hf hb))
  all_goals
    first
    | (have C : Put W5 V0.heap.size 0 [zr0, zr1, zr2, zr3, zr4, zr5, zr6] #[.int .i64 0, .int .i64 0, .int .i64 0, .int .i64 0, .string ⟨#[]⟩, .string ⟨#[]⟩, .slice none 0 0] 33 WFz := HP.out
       have C2 : V0.heap.size ≤ V0.heap.size ∧ V0.heap.size < W5.heap.size := ⟨by omega, zb.2⟩
       have hzz : W5.heap.size ≤ WFz.heap.size := by rw [C.size]; exact Nat.le_refl _
       have hC := C.cellsAt
       have hC2 : V0.heap.size < WFz.heap.size := by rw [C.size]; exact zb.2
       have hne : ∀ k ∈ Fz, WFz.heap[k]? = W5.heap[k]? := fun k hk => C.far k (by first | (have := Hlo_z.out k hk; have := C2.1; omega) | (have h9 := Hlo9.out k hk; simp only [World.size_alloc] at h9; omega))
       have hnk : ∀ k ∈ Fz, k ≠ V0.heap.size := fun k hk => by first | (have := Hlo_z.out k hk; have := C2.1; omega) | (have h9 := Hlo9.out k hk; simp only [World.size_alloc] at h9; omega)
       clear C HP
       obtain ⟨kbz, hkb9⟩ : ∃ k, k = V0.heap.size := ⟨_, rfl⟩
       have C4 : V0.heap.size ≤ kbz := by rw [hkb9]; exact C2.1
       rw [← hkb9] at hC hC2 hnk ⊢
       clear hkb9 C2)
    | (have C : Put W5 W2.heap.size 0 [zr0, zr1, zr2, zr3, zr4, zr5, zr6] #[.int .i64 0, .int .i64 0, .int .i64 0, .int .i64 0, .string ⟨#[]⟩, .string ⟨#[]⟩, .slice none 0 0] 33 WFz := HP.out
       have C2 : V0.heap.size ≤ W2.heap.size ∧ W2.heap.size < W5.heap.size := ⟨by omega, zb.2⟩
       have hzz : W5.heap.size ≤ WFz.heap.size := by rw [C.size]; exact Nat.le_refl _
       have hC := C.cellsAt
       have hC2 : W2.heap.size < WFz.heap.size := by rw [C.size]; exact zb.2
       have hne : ∀ k ∈ Fz, WFz.heap[k]? = W5.heap[k]? := fun k hk => C.far k (by first | (have := Hlo_z.out k hk; have := C2.1; omega) | (have h9 := Hlo9.out k hk; simp only [World.size_alloc] at h9; omega))
       have hnk : ∀ k ∈ Fz, k ≠ W2.heap.size := fun k hk => by first | (have := Hlo_z.out k hk; have := C2.1; omega) | (have h9 := Hlo9.out k hk; simp only [World.size_alloc] at h9; omega)
       clear C HP
       obtain ⟨kbz, hkb9⟩ : ∃ k, k = W2.heap.size := ⟨_, rfl⟩
       have C4 : V0.heap.size ≤ kbz := by rw [hkb9]; exact C2.1
       rw [← hkb9] at hC hC2 hnk ⊢
       clear hkb9 C2)
    | (have C : Put W5 W3.heap.size 0 [zr0, zr1, zr2, zr3, zr4, zr5, zr6] #[.int .i64 0, .int .i64 0, .int .i64 0, .int .i64 0, .string ⟨#[]⟩, .string ⟨#[]⟩, .slice none 0 0] 33 WFz := HP.out
       have C2 : V0.heap.size ≤ W3.heap.size ∧ W3.heap.size < W5.heap.size := ⟨by omega, zb.2⟩
       have hzz : W5.heap.size ≤ WFz.heap.size := by rw [C.size]; exact Nat.le_refl _
       have hC := C.cellsAt
       have hC2 : W3.heap.size < WFz.heap.size := by rw [C.size]; exact zb.2
       have hne : ∀ k ∈ Fz, WFz.heap[k]? = W5.heap[k]? := fun k hk => C.far k (by first | (have := Hlo_z.out k hk; have := C2.1; omega) | (have h9 := Hlo9.out k hk; simp only [World.size_alloc] at h9; omega))
       have hnk : ∀ k ∈ Fz, k ≠ W3.heap.size := fun k hk => by first | (have := Hlo_z.out k hk; have := C2.1; omega) | (have h9 := Hlo9.out k hk; simp only [World.size_alloc] at h9; omega)
       clear C HP
       obtain ⟨kbz, hkb9⟩ : ∃ k, k = W3.heap.size := ⟨_, rfl⟩
       have C4 : V0.heap.size ≤ kbz := by rw [hkb9]; exact C2.1
       rw [← hkb9] at hC hC2 hnk ⊢
       clear hkb9 C2)
    | (have C : Put W5 W4.heap.size 0 [zr0, zr1, zr2, zr3, zr4, zr5, zr6] #[.int .i64 0, .int .i64 0, .int .i64 0, .int .i64 0, .string ⟨#[]⟩, .string ⟨#[]⟩, .slice none 0 0] 33 WFz := HP.out
       have C2 : V0.heap.size ≤ W4.heap.size ∧ W4.heap.size < W5.heap.size := ⟨by omega, zb.2⟩
       have hzz : W5.heap.size ≤ WFz.heap.size := by rw [C.size]; exact Nat.le_refl _
       have hC := C.cellsAt
       have hC2 : W4.heap.size < WFz.heap.size := by rw [C.size]; exact zb.2
       have hne : ∀ k ∈ Fz, WFz.heap[k]? = W5.heap[k]? := fun k hk => C.far k (by first | (have := Hlo_z.out k hk; have := C2.1; omega) | (have h9 := Hlo9.out k hk; simp only [World.size_alloc] at h9; omega))
       have hnk : ∀ k ∈ Fz, k ≠ W4.heap.size := fun k hk => by first | (have := Hlo_z.out k hk; have := C2.1; omega) | (have h9 := Hlo9.out k hk; simp only [World.size_alloc] at h9; omega)
       clear C HP
       obtain ⟨kbz, hkb9⟩ : ∃ k, k = W4.heap.size := ⟨_, rfl⟩
       have C4 : V0.heap.size ≤ kbz := by rw [hkb9]; exact C2.1
       rw [← hkb9] at hC hC2 hnk ⊢
       clear hkb9 C2)
    | (have C : Put (W5.alloc (.cells #[.int .i64 0, .int .i64 0, .int .i64 0, .int .i64 0, .string ⟨#[]⟩, .string ⟨#[]⟩, .slice none 0 0] 33)) W5.heap.size 0 [zr0, zr1, zr2, zr3, zr4, zr5, zr6] #[.int .i64 0, .int .i64 0, .int .i64 0, .int .i64 0, .string ⟨#[]⟩, .string ⟨#[]⟩, .slice none 0 0] 33 WFz := HP.out
       have C2 : V0.heap.size ≤ W5.heap.size ∧ True := ⟨by omega, trivial⟩
       have hb9 : Below W5.heap.size W5 WFz := ((Below.refl _ _).alloc (Nat.le_refl _) _).trans (C.below (Nat.le_refl _))
       have hC := C.cellsAt
       have hzz := hb9.size
       have hC2 : W5.heap.size < WFz.heap.size := by rw [C.size, World.size_alloc]; exact Nat.lt_succ_self _
       have hne : ∀ k ∈ Fz, WFz.heap[k]? = W5.heap[k]? := fun k hk => hb9.block k (Hhi_z.out k hk)
       have hnk : ∀ k ∈ Fz, k ≠ W5.heap.size := fun k hk => by have := Hhi_z.out k hk; omega
       clear hb9 C HP
       obtain ⟨kbz, hkb9⟩ : ∃ k, k = W5.heap.size := ⟨_, rfl⟩
       have C4 : V0.heap.size ≤ kbz := by rw [hkb9]; exact C2.1
       rw [← hkb9] at hC hC2 hnk ⊢
       clear hkb9 C2)
  all_goals as_aux_lemma =>
    have hF : Below V0.heap.size V0 WFz := by assumption
    have hkz := C4
    iterate 5 (try clear zb)
    have Hnk_z := hide hnk
    clear hnk
    have zWFz := hF.size
    have zWFz2 := hzz
    have hbb : ∀ X : World, Below WFz.heap.size WFz X → Below V0.heap.size V0 X := fun X hX => hF.trans (hX.mono hF.size)
    have ca0_0_1 := fun (X : World) (hX : Below WFz.heap.size WFz X) => ca0_0_0 X (hbb X hX)
    have ca0_1_1 := fun (X : World) (hX : Below WFz.heap.size WFz X) => ca0_1_0 X (hbb X hX)
    have ca0_2_1 := fun (X : World) (hX : Below WFz.heap.size WFz X) => ca0_2_0 X (hbb X hX)
    have ca0_3_1 := fun (X : World) (hX : Below WFz.heap.size WFz X) => ca0_3_0 X (hbb X hX)
    have ca0_4_1 := fun (X : World) (hX : Below WFz.heap.size WFz X) => ca0_4_0 X (hbb X hX)
    have ca0_5_1 := fun (X : World) (hX : Below WFz.heap.size WFz X) => ca0_5_0 X (hbb X hX)
    have ca1_0_1 := fun (X : World) (hX : Below WFz.heap.size WFz X) => ca1_0_0 X (hbb X hX)
    have ca1_1_1 := fun (X : World) (hX : Below WFz.heap.size WFz X) => ca1_1_0 X (hbb X hX)
    have Hw_1 : Hid (∀ X : World, Below WFz.heap.size WFz X → Below w.heap.size w X) := hide fun X hX => Hw_0.out X (hbb X hX)
    clear ca0_0_0 ca0_1_0 ca0_2_0 ca0_3_0 ca0_4_0 ca0_5_0 ca1_0_0 ca1_1_0 Hw_0
    have cz_0_1 := cell_rule hC (n := WFz.heap.size) hC2 0 (v := zr0) rfl
    have cz_1_1 := cell_rule hC (n := WFz.heap.size) hC2 1 (v := zr1) rfl
    have cz_2_1 := cell_rule hC (n := WFz.heap.size) hC2 2 (v := zr2) rfl
    have cz_3_1 := cell_rule hC (n := WFz.heap.size) hC2 3 (v := zr3) rfl
    have cz_4_1 := cell_rule hC (n := WFz.heap.size) hC2 4 (v := zr4) rfl
    have cz_5_1 := cell_rule hC (n := WFz.heap.size) hC2 5 (v := zr5) rfl
    have cz_6_1 := cell_rule hC (n := WFz.heap.size) hC2 6 (v := zr6) rfl
    have hRv := fun (X : World) (hX : Below WFz.heap.size WFz X) => (ExR.good D).below ((ExR.good D).frame hRk.out hne hzz) hX (fun b hb => Nat.lt_of_lt_of_le (Hhi_z.out b hb) hzz)
    have Hz_1 : Hid (∀ X : World, Below WFz.heap.size WFz X → ExR D X ((findQ x0.eqs x1).getD Ex.zero) [zr0, zr1, zr2, zr3, zr4, zr5, zr6] Fz) := hide hRv
    have Rz_1 : Hid (∀ X : World, Below WFz.heap.size WFz X → Fresh (W4.heap.size) X Fz) := hide fun X hX => (have q9 := (hfk.out.keep hne).below hX; ⟨q9.nodup, Hlo_z.out, q9.cells⟩)
    have hWFz : Below WFz.heap.size WFz WFz := Below.refl _ _
    have hD1 : ∀ X : World, Below WFz.heap.size WFz X → Below WFz.heap.size WFz X.drew := fun _ h => h.drew
    have hA1 : ∀ (X : World) (o : Obj), Below WFz.heap.size WFz X → Below WFz.heap.size WFz (X.alloc o) := fun _ o h => below_alloc (Nat.le_refl _) o h
    clear hRk hfk hRv hC hbb hne hF hV0 hD0 hA0 ozr0 ozr1 ozr2 ozr3 ozr4 ozr5 ozr6 sz0 sz1 sz2 sz3 sz4 sz5 sz6  HRtz0 HRtz1
    have hzz := hC2
    have hst := fun (w : World) (a : Addr) (v : Value) (m : Mode) (hv : v.oneCell' = true) => run_store Try.prog w a v m hv
    go_wp2_with fail
    refine Calls.mono (HT0.out _ (Hw_1.out _ (by (repeat (first | assumption | exact Below.refl _ _ | apply Below.drew | refine below_alloc (Nat.le_refl _) _ ?_))))) ?_
    rintro en W6 ⟨us, Fx0, rfl, hR, hf, hb⟩
    obtain ⟨x0_0, x0_1, x0_2, x0_3, x0_4, x0_5, rfl⟩ := list_6 ((RulR.good D).len hR)
    have ho := RulR.one hR
    have ox0_0 := ho x0_0 (by simp)
    have ox0_1 := ho x0_1 (by simp)
    have ox0_2 := ho x0_2 (by simp)
    have ox0_3 := ho x0_3 (by simp)
    have ox0_4 := ho x0_4 (by simp)
    have ox0_5 := ho x0_5 (by simp)
    have hRk := hide hR
    have hfk := hide hf
    have Hlo_x0 : Hid (∀ b ∈ Fx0, WFz.heap.size ≤ b) := hide hf.from_
    have Hhi_x0 : Hid (∀ b ∈ Fx0, b < W6.heap.size) := hide hf.lt
    have hW6 : Below WFz.heap.size WFz W6 := below_step (by (repeat (first | assumption | exact Below.refl _ _ | apply Below.drew | refine below_alloc (Nat.le_refl _) _ ?_))) (Nat.le_refl _) hb
    have zW6 : WFz.heap.size ≤ W6.heap.size := hW6.size
    clear hb
    clear ho hR hf
    go_wp2_with fail
    have Cx := CellsAt.new W6 [x0_0, x0_1, x0_2, x0_3, x0_4, x0_5] 39
    have hz := World.size_alloc W6 (Obj.cells #[x0_0, x0_1, x0_2, x0_3, x0_4, x0_5] 39)
    have hst0 : Below W6.heap.size W6 (W6.alloc (Obj.cells #[x0_0, x0_1, x0_2, x0_3, x0_4, x0_5] 39)) := (Below.refl _ _).alloc (Nat.le_refl _) _
    generalize W6.alloc (Obj.cells #[x0_0, x0_1, x0_2, x0_3, x0_4, x0_5] 39) = V1 at Cx hz hst0 ⊢
    have zV1 : W6.heap.size + 1 ≤ V1.heap.size := Nat.le_of_eq hz.symm
    have hbW : ∀ X : World, Below V1.heap.size V1 X → Below W6.heap.size W6 X := fun X hX => hst0.trans (hX.mono (by omega))
    have hbb : ∀ X : World, Below V1.heap.size V1 X → Below WFz.heap.size WFz X := fun X hX => hW6.trans ((hbW X hX).mono hW6.size)
    have ca0_0_2 := fun (X : World) (hX : Below V1.heap.size V1 X) => ca0_0_1 X (hbb X hX)
    have ca0_1_2 := fun (X : World) (hX : Below V1.heap.size V1 X) => ca0_1_1 X (hbb X hX)
    have ca0_2_2 := fun (X : World) (hX : Below V1.heap.size V1 X) => ca0_2_1 X (hbb X hX)
    have ca0_3_2 := fun (X : World) (hX : Below V1.heap.size V1 X) => ca0_3_1 X (hbb X hX)
    have ca0_4_2 := fun (X : World) (hX : Below V1.heap.size V1 X) => ca0_4_1 X (hbb X hX)
    have ca0_5_2 := fun (X : World) (hX : Below V1.heap.size V1 X) => ca0_5_1 X (hbb X hX)
    have ca1_0_2 := fun (X : World) (hX : Below V1.heap.size V1 X) => ca1_0_1 X (hbb X hX)
    have ca1_1_2 := fun (X : World) (hX : Below V1.heap.size V1 X) => ca1_1_1 X (hbb X hX)
    have cz_0_2 := fun (X : World) (hX : Below V1.heap.size V1 X) => cz_0_1 X (hbb X hX)
    have cz_1_2 := fun (X : World) (hX : Below V1.heap.size V1 X) => cz_1_1 X (hbb X hX)
    have cz_2_2 := fun (X : World) (hX : Below V1.heap.size V1 X) => cz_2_1 X (hbb X hX)
    have cz_3_2 := fun (X : World) (hX : Below V1.heap.size V1 X) => cz_3_1 X (hbb X hX)
    have cz_4_2 := fun (X : World) (hX : Below V1.heap.size V1 X) => cz_4_1 X (hbb X hX)
    have cz_5_2 := fun (X : World) (hX : Below V1.heap.size V1 X) => cz_5_1 X (hbb X hX)
    have cz_6_2 := fun (X : World) (hX : Below V1.heap.size V1 X) => cz_6_1 X (hbb X hX)
    have Hz_2 := hide (fun (X : World) (hX : Below V1.heap.size V1 X) => Hz_1.out X (hbb X hX))
    have Rz_2 := hide (fun (X : World) (hX : Below V1.heap.size V1 X) => Rz_1.out X (hbb X hX))
    have Hw_2 : Hid (∀ X : World, Below V1.heap.size V1 X → Below w.heap.size w X) := hide fun X hX => Hw_1.out X (hbb X hX)
    clear ca0_0_1 ca0_1_1 ca0_2_1 ca0_3_1 ca0_4_1 ca0_5_1 ca1_0_1 ca1_1_1 cz_0_1 cz_1_1 cz_2_1 cz_3_1 cz_4_1 cz_5_1 cz_6_1 Hz_1 Rz_1 Hw_1
    have cx0_0_2 := cell_rule Cx (n := V1.heap.size) (by omega) 0 (v := x0_0) rfl
    have cx0_1_2 := cell_rule Cx (n := V1.heap.size) (by omega) 1 (v := x0_1) rfl
    have cx0_2_2 := cell_rule Cx (n := V1.heap.size) (by omega) 2 (v := x0_2) rfl
    have cx0_3_2 := cell_rule Cx (n := V1.heap.size) (by omega) 3 (v := x0_3) rfl
    have cx0_4_2 := cell_rule Cx (n := V1.heap.size) (by omega) 4 (v := x0_4) rfl
    have cx0_5_2 := cell_rule Cx (n := V1.heap.size) (by omega) 5 (v := x0_5) rfl
    have hV1 : Below V1.heap.size V1 V1 := Below.refl _ _
    have hD2 : ∀ X : World, Below V1.heap.size V1 X → Below V1.heap.size V1 X.drew := fun _ h => h.drew
    have hA2 : ∀ (X : World) (o : Obj), Below V1.heap.size V1 X → Below V1.heap.size V1 (X.alloc o) := fun _ o h => below_alloc (Nat.le_refl _) o h
    clear Cx hz hst0
    have hRv := fun (X : World) (hX : Below V1.heap.size V1 X) => (RulR.good D).below hRk.out (hbW X hX) Hhi_x0.out
    have Hx0_2 : Hid (∀ X : World, Below V1.heap.size V1 X → RulR D X x0 [x0_0, x0_1, x0_2, x0_3, x0_4, x0_5] Fx0) := hide hRv
    have Rx0_2 : Hid (∀ X : World, Below V1.heap.size V1 X → Fresh (WFz.heap.size) X Fx0) := hide fun X hX => hfk.out.below (hbW X hX)
    clear hRk hfk hRv ox0_0 ox0_1 ox0_2 ox0_3 ox0_4 ox0_5
    clear hbW hbb hW6 hWFz hD1 hA1
    go_wp2_with fail
  -- the program
    try clear hst
    go_region_held3 (fun W => Below V1.heap.size V1 W)
      (first | assumption | exact Below.drew (by assumption) | exact below_alloc (Nat.le_refl _) _ (by assumption) | exact Below.drew (below_alloc (Nat.le_refl _) _ (by assumption)) | exact below_set7 (by assumption) (by first | exact Nat.le_refl _ | assumption | omega))
      (first
        | (go_at_call_has 12 bv0; refine Calls.mono (HT1.out _ ?hw) ?_; (case hw => exact Hw_2.out _ (by (repeat (first | assumption | apply Below.drew | refine below_alloc (Nat.le_refl _) _ ?_)))); rintro en W7 ⟨us, Ftg1, rfl, hR, hf, hb⟩; obtain ⟨tg1_0, tg1_1, rfl⟩ := list2 ((OccR.good D).len hR); have hW7 : Below V1.heap.size V1 W7 := below_step (by (repeat (first | assumption | apply Below.drew | refine below_alloc (Nat.le_refl _) _ ?_))) (Nat.le_refl _) hb; have zzW7 := hW7.size; have hsW7 : Below W7.heap.size W7 W7 := Below.refl _ _; (first | have zb := xcarry zb hb | have zb := xbox hb | have zb := xboxd hb | skip); have HRtg1 := hide (fun (X : World) (hX : Below W7.heap.size W7 X) => (OccR.good D).below hR hX hf.lt); clear hR hf hb)
        | (go_at_call 13; refine Calls.mono (i_FindEquation D x0 x1 _ _ Fx0 Ftg1 _ (Hx0_2.out _ (by (repeat (first | assumption | apply Below.drew | refine below_alloc (Nat.le_refl _) _ ?_)))) (HRtg1.out _ (by (repeat (first | assumption | apply Below.drew | refine below_alloc (Nat.le_refl _) _ ?_)))) Hbk0.out hDp) ?_; rintro en W8 ⟨us, Fg, rfl, hR, hf, hb⟩; obtain ⟨gr0, gr1, gr2, gr3, gr4, gr5, gr6, rfl⟩ := list7 ((ExR.good D).len hR); have ho := ExR.one hR; have ogr0 := ho gr0 (by simp); have ogr1 := ho gr1 (by simp); have ogr2 := ho gr2 (by simp); have ogr3 := ho gr3 (by simp); have ogr4 := ho gr4 (by simp); have ogr5 := ho gr5 (by simp); have ogr6 := ho gr6 (by simp); have hRk := hide hR; have hfk := hide hf; have Hlo_g : Hid (∀ b ∈ Fg, W7.heap.size ≤ b) := hide (fun b hb' => by have h9 := hf.from_ b hb'; first | (simp only [World.size_alloc] at h9; omega) | omega); have Hhi_g : Hid (∀ b ∈ Fg, b < W8.heap.size) := hide hf.lt; (first | have zb := xcarry zb hb | have zb := xbox hb | have zb := xboxd hb | skip); have Hlo9 := hide hf.from_; (first | have sx := store7 Try.prog gr0 gr1 gr2 gr3 gr4 gr5 gr6 zb.1 (by simp) ho | have sx := store7 Try.prog (w := W8.alloc (.cells #[.int .i64 0, .int .i64 0, .int .i64 0, .int .i64 0, .string ⟨#[]⟩, .string ⟨#[]⟩, .slice none 0 0] 33)) gr0 gr1 gr2 gr3 gr4 gr5 gr6 (heap_alloc_new W8 _) (by simp) ho); obtain ⟨wg1, wg2, wg3, wg4, wg5, wg6, WFg, sg0, sg1, sg2, sg3, sg4, sg5, sg6, hP⟩ := sx; have HP := hide hP; have hW8 : Below V1.heap.size V1 W8 := below_step (by (repeat (first | assumption | apply Below.drew | refine below_alloc (Nat.le_refl _) _ ?_))) (Nat.le_refl _) hb; have zzW8 := hW8.size; (first | have hWF : Below V1.heap.size V1 WFg := hW8.trans (hP.below (by first | exact Nat.le_refl _ | assumption | omega)) | have hWF : Below V1.heap.size V1 WFg := (below_alloc (Nat.le_refl _) _ hW8).trans (hP.below (by first | exact Nat.le_refl _ | assumption | omega))); clear hP; clear ho hR hf hb))
    all_goals
      first
      | (have C : Put W8 V1.heap.size 0 [gr0, gr1, gr2, gr3, gr4, gr5, gr6] #[.int .i64 0, .int .i64 0, .int .i64 0, .int .i64 0, .string ⟨#[]⟩, .string ⟨#[]⟩, .slice none 0 0] 33 WFg := HP.out
         have C2 : V1.heap.size ≤ V1.heap.size ∧ V1.heap.size < W8.heap.size := ⟨by omega, zb.2⟩
         have hzz : W8.heap.size ≤ WFg.heap.size := by rw [C.size]; exact Nat.le_refl _
         have hC := C.cellsAt
         have hC2 : V1.heap.size < WFg.heap.size := by rw [C.size]; exact zb.2
         have hne : ∀ k ∈ Fg, WFg.heap[k]? = W8.heap[k]? := fun k hk => C.far k (by first | (have := Hlo_g.out k hk; have := C2.1; omega) | (have h9 := Hlo9.out k hk; simp only [World.size_alloc] at h9; omega))
         have hnk : ∀ k ∈ Fg, k ≠ V1.heap.size := fun k hk => by first | (have := Hlo_g.out k hk; have := C2.1; omega) | (have h9 := Hlo9.out k hk; simp only [World.size_alloc] at h9; omega)
         clear C HP
         obtain ⟨kbg, hkb9⟩ : ∃ k, k = V1.heap.size := ⟨_, rfl⟩
         have C4 : V1.heap.size ≤ kbg := by rw [hkb9]; exact C2.1
         rw [← hkb9] at hC hC2 hnk ⊢
         clear hkb9 C2)
      | (have C : Put W8 W7.heap.size 0 [gr0, gr1, gr2, gr3, gr4, gr5, gr6] #[.int .i64 0, .int .i64 0, .int .i64 0, .int .i64 0, .string ⟨#[]⟩, .string ⟨#[]⟩, .slice none 0 0] 33 WFg := HP.out
         have C2 : V1.heap.size ≤ W7.heap.size ∧ W7.heap.size < W8.heap.size := ⟨by omega, zb.2⟩
         have hzz : W8.heap.size ≤ WFg.heap.size := by rw [C.size]; exact Nat.le_refl _
         have hC := C.cellsAt
         have hC2 : W7.heap.size < WFg.heap.size := by rw [C.size]; exact zb.2
         have hne : ∀ k ∈ Fg, WFg.heap[k]? = W8.heap[k]? := fun k hk => C.far k (by first | (have := Hlo_g.out k hk; have := C2.1; omega) | (have h9 := Hlo9.out k hk; simp only [World.size_alloc] at h9; omega))
         have hnk : ∀ k ∈ Fg, k ≠ W7.heap.size := fun k hk => by first | (have := Hlo_g.out k hk; have := C2.1; omega) | (have h9 := Hlo9.out k hk; simp only [World.size_alloc] at h9; omega)
         clear C HP
         obtain ⟨kbg, hkb9⟩ : ∃ k, k = W7.heap.size := ⟨_, rfl⟩
         have C4 : V1.heap.size ≤ kbg := by rw [hkb9]; exact C2.1
         rw [← hkb9] at hC hC2 hnk ⊢
         clear hkb9 C2)
      | (have C : Put (W8.alloc (.cells #[.int .i64 0, .int .i64 0, .int .i64 0, .int .i64 0, .string ⟨#[]⟩, .string ⟨#[]⟩, .slice none 0 0] 33)) W8.heap.size 0 [gr0, gr1, gr2, gr3, gr4, gr5, gr6] #[.int .i64 0, .int .i64 0, .int .i64 0, .int .i64 0, .string ⟨#[]⟩, .string ⟨#[]⟩, .slice none 0 0] 33 WFg := HP.out
         have C2 : V1.heap.size ≤ W8.heap.size ∧ True := ⟨by omega, trivial⟩
         have hb9 : Below W8.heap.size W8 WFg := ((Below.refl _ _).alloc (Nat.le_refl _) _).trans (C.below (Nat.le_refl _))
         have hC := C.cellsAt
         have hzz := hb9.size
         have hC2 : W8.heap.size < WFg.heap.size := by rw [C.size, World.size_alloc]; exact Nat.lt_succ_self _
         have hne : ∀ k ∈ Fg, WFg.heap[k]? = W8.heap[k]? := fun k hk => hb9.block k (Hhi_g.out k hk)
         have hnk : ∀ k ∈ Fg, k ≠ W8.heap.size := fun k hk => by have := Hhi_g.out k hk; omega
         clear hb9 C HP
         obtain ⟨kbg, hkb9⟩ : ∃ k, k = W8.heap.size := ⟨_, rfl⟩
         have C4 : V1.heap.size ≤ kbg := by rw [hkb9]; exact C2.1
         rw [← hkb9] at hC hC2 hnk ⊢
         clear hkb9 C2)
    all_goals as_aux_lemma =>
      have hF : Below V1.heap.size V1 WFg := by assumption
      have hkg := C4
      iterate 5 (try clear zb)
      have Hnk_g := hide hnk
      clear hnk
      have zWFg := hF.size
      have zWFg2 := hzz
      have hbb : ∀ X : World, Below WFg.heap.size WFg X → Below V1.heap.size V1 X := fun X hX => hF.trans (hX.mono hF.size)
      have ca0_0_3 := fun (X : World) (hX : Below WFg.heap.size WFg X) => ca0_0_2 X (hbb X hX)
      have ca0_1_3 := fun (X : World) (hX : Below WFg.heap.size WFg X) => ca0_1_2 X (hbb X hX)
      have ca0_2_3 := fun (X : World) (hX : Below WFg.heap.size WFg X) => ca0_2_2 X (hbb X hX)
      have ca0_3_3 := fun (X : World) (hX : Below WFg.heap.size WFg X) => ca0_3_2 X (hbb X hX)
      have ca0_4_3 := fun (X : World) (hX : Below WFg.heap.size WFg X) => ca0_4_2 X (hbb X hX)
      have ca0_5_3 := fun (X : World) (hX : Below WFg.heap.size WFg X) => ca0_5_2 X (hbb X hX)
      have ca1_0_3 := fun (X : World) (hX : Below WFg.heap.size WFg X) => ca1_0_2 X (hbb X hX)
      have ca1_1_3 := fun (X : World) (hX : Below WFg.heap.size WFg X) => ca1_1_2 X (hbb X hX)
      have cz_0_3 := fun (X : World) (hX : Below WFg.heap.size WFg X) => cz_0_2 X (hbb X hX)
      have cz_1_3 := fun (X : World) (hX : Below WFg.heap.size WFg X) => cz_1_2 X (hbb X hX)
      have cz_2_3 := fun (X : World) (hX : Below WFg.heap.size WFg X) => cz_2_2 X (hbb X hX)
      have cz_3_3 := fun (X : World) (hX : Below WFg.heap.size WFg X) => cz_3_2 X (hbb X hX)
      have cz_4_3 := fun (X : World) (hX : Below WFg.heap.size WFg X) => cz_4_2 X (hbb X hX)
      have cz_5_3 := fun (X : World) (hX : Below WFg.heap.size WFg X) => cz_5_2 X (hbb X hX)
      have cz_6_3 := fun (X : World) (hX : Below WFg.heap.size WFg X) => cz_6_2 X (hbb X hX)
      have cx0_0_3 := fun (X : World) (hX : Below WFg.heap.size WFg X) => cx0_0_2 X (hbb X hX)
      have cx0_1_3 := fun (X : World) (hX : Below WFg.heap.size WFg X) => cx0_1_2 X (hbb X hX)
      have cx0_2_3 := fun (X : World) (hX : Below WFg.heap.size WFg X) => cx0_2_2 X (hbb X hX)
      have cx0_3_3 := fun (X : World) (hX : Below WFg.heap.size WFg X) => cx0_3_2 X (hbb X hX)
      have cx0_4_3 := fun (X : World) (hX : Below WFg.heap.size WFg X) => cx0_4_2 X (hbb X hX)
      have cx0_5_3 := fun (X : World) (hX : Below WFg.heap.size WFg X) => cx0_5_2 X (hbb X hX)
      have Hz_3 := hide (fun (X : World) (hX : Below WFg.heap.size WFg X) => Hz_2.out X (hbb X hX))
      have Rz_3 := hide (fun (X : World) (hX : Below WFg.heap.size WFg X) => Rz_2.out X (hbb X hX))
      have Hx0_3 := hide (fun (X : World) (hX : Below WFg.heap.size WFg X) => Hx0_2.out X (hbb X hX))
      have Rx0_3 := hide (fun (X : World) (hX : Below WFg.heap.size WFg X) => Rx0_2.out X (hbb X hX))
      have Hw_3 : Hid (∀ X : World, Below WFg.heap.size WFg X → Below w.heap.size w X) := hide fun X hX => Hw_2.out X (hbb X hX)
      clear ca0_0_2 ca0_1_2 ca0_2_2 ca0_3_2 ca0_4_2 ca0_5_2 ca1_0_2 ca1_1_2 cz_0_2 cz_1_2 cz_2_2 cz_3_2 cz_4_2 cz_5_2 cz_6_2 cx0_0_2 cx0_1_2 cx0_2_2 cx0_3_2 cx0_4_2 cx0_5_2 Hz_2 Hx0_2 Rz_2 Rx0_2 Hw_2
      have cg_0_3 := cell_rule hC (n := WFg.heap.size) hC2 0 (v := gr0) rfl
      have cg_1_3 := cell_rule hC (n := WFg.heap.size) hC2 1 (v := gr1) rfl
      have cg_2_3 := cell_rule hC (n := WFg.heap.size) hC2 2 (v := gr2) rfl
      have cg_3_3 := cell_rule hC (n := WFg.heap.size) hC2 3 (v := gr3) rfl
      have cg_4_3 := cell_rule hC (n := WFg.heap.size) hC2 4 (v := gr4) rfl
      have cg_5_3 := cell_rule hC (n := WFg.heap.size) hC2 5 (v := gr5) rfl
      have cg_6_3 := cell_rule hC (n := WFg.heap.size) hC2 6 (v := gr6) rfl
      have hRv := fun (X : World) (hX : Below WFg.heap.size WFg X) => (ExR.good D).below ((ExR.good D).frame hRk.out hne hzz) hX (fun b hb => Nat.lt_of_lt_of_le (Hhi_g.out b hb) hzz)
      have Hg_3 : Hid (∀ X : World, Below WFg.heap.size WFg X → ExR D X ((findQ x0.eqs x1).getD Ex.zero) [gr0, gr1, gr2, gr3, gr4, gr5, gr6] Fg) := hide hRv
      have Rg_3 : Hid (∀ X : World, Below WFg.heap.size WFg X → Fresh (W7.heap.size) X Fg) := hide fun X hX => (have q9 := (hfk.out.keep hne).below hX; ⟨q9.nodup, Hlo_g.out, q9.cells⟩)
      have hWFg : Below WFg.heap.size WFg WFg := Below.refl _ _
      have hD3 : ∀ X : World, Below WFg.heap.size WFg X → Below WFg.heap.size WFg X.drew := fun _ h => h.drew
      have hA3 : ∀ (X : World) (o : Obj), Below WFg.heap.size WFg X → Below WFg.heap.size WFg (X.alloc o) := fun _ o h => below_alloc (Nat.le_refl _) o h
      clear hRk hfk hRv hC hbb hne hF hV1 hD2 hA2 ogr0 ogr1 ogr2 ogr3 ogr4 ogr5 ogr6 sg0 sg1 sg2 sg3 sg4 sg5 sg6  HRtg1
      have hzg := hC2
      have hst := fun (w : World) (a : Addr) (v : Value) (m : Mode) (hv : v.oneCell' = true) => run_store Try.prog w a v m hv
      go_wp2_with fail
      refine Calls.mono (ee_Ex D ((findQ x0.eqs x1).getD Ex.zero) _ _ Fg Fz _ (Hg_3.out _ (by (repeat (first | assumption | exact Below.refl _ _ | apply Below.drew | refine below_alloc (Nat.le_refl _) _ ?_)))) (Hz_3.out _ (by (repeat (first | assumption | exact Below.refl _ _ | apply Below.drew | refine below_alloc (Nat.le_refl _) _ ?_))))) ?_
      rintro en W9 ⟨rfl, hb⟩
      have hW9 : Below WFg.heap.size WFg W9 := below_step (by (repeat (first | assumption | exact Below.refl _ _ | apply Below.drew | refine below_alloc (Nat.le_refl _) _ ?_))) (Nat.le_refl _) hb
      have zW9 : WFg.heap.size ≤ W9.heap.size := hW9.size
      clear hb
      go_wp2_with fail
      go_region_held3 (fun W => Below WFg.heap.size WFg W)
        (first | assumption | exact Below.drew (by assumption))
        (first
          | (go_at_call_has 11 av0; refine Calls.mono (HT0.out _ ?hw) ?_; (case hw => exact Hw_3.out _ (by (repeat (first | assumption | exact Below.refl _ _ | apply Below.drew | refine below_alloc (Nat.le_refl _) _ ?_)))); rintro en W10 ⟨us, Fe0, rfl, hR, hf, hb⟩; obtain ⟨e0_0, e0_1, e0_2, e0_3, e0_4, e0_5, rfl⟩ := list_6 ((RulR.good D).len hR); have hW10 : Below WFg.heap.size WFg W10 := below_step (by (repeat (first | assumption | exact Below.refl _ _ | apply Below.drew | refine below_alloc (Nat.le_refl _) _ ?_))) (Nat.le_refl _) hb; have HRe0 := hide hR; clear hR hf hb)
          | (go_at_call 15; refine Calls.mono (e_Rul D x0 _ _ Fx0 Fe0 _ (Hx0_3.out _ (by (repeat (first | assumption | exact Below.refl _ _ | apply Below.drew | refine below_alloc (Nat.le_refl _) _ ?_)))) HRe0.out) ?_; rintro en W11 ⟨rfl, hb⟩; have hW11 : Below WFg.heap.size WFg W11 := below_step (by (repeat (first | assumption | exact Below.refl _ _ | apply Below.drew | refine below_alloc (Nat.le_refl _) _ ?_))) (Nat.le_refl _) hb; clear hb))
      clear HRe0
      go_wp2_with fail
      have hMr := Hx0_3.out _ (by (repeat (first | assumption | exact Below.refl _ _ | apply Below.drew | refine below_alloc (Nat.le_refl _) _ ?_)))
      have hMf := Rx0_3.out _ (by (repeat (first | assumption | exact Below.refl _ _ | apply Below.drew | refine below_alloc (Nat.le_refl _) _ ?_)))
      refine Calls.mono (mm_Rul D _ (1) x0 _ Fx0 _ hMr hMf (by omega) (by have := Rul_cnt Hbk0.out; omega)) ?_
      rintro en W12 ⟨rfl, hRn, hFn, ha⟩
      have hcur : Below WFg.heap.size WFg _ := (by (repeat (first | assumption | exact Below.refl _ _ | apply Below.drew | refine below_alloc (Nat.le_refl _) _ ?_)))
      have zW12 : WFg.heap.size ≤ W12.heap.size := Nat.le_trans hcur.size ha.size
      have ca0_0_4 := cell_apart ha (ca0_0_3 _ hcur) (fun hm => by first | (have := Hlo_x0.out _ hm; have := Hhi_x0.out _ hm; omega) | exact Hnk_x0.out _ hm rfl)
      have ca0_1_4 := cell_apart ha (ca0_1_3 _ hcur) (fun hm => by first | (have := Hlo_x0.out _ hm; have := Hhi_x0.out _ hm; omega) | exact Hnk_x0.out _ hm rfl)
      have ca0_2_4 := cell_apart ha (ca0_2_3 _ hcur) (fun hm => by first | (have := Hlo_x0.out _ hm; have := Hhi_x0.out _ hm; omega) | exact Hnk_x0.out _ hm rfl)
      have ca0_3_4 := cell_apart ha (ca0_3_3 _ hcur) (fun hm => by first | (have := Hlo_x0.out _ hm; have := Hhi_x0.out _ hm; omega) | exact Hnk_x0.out _ hm rfl)
      have ca0_4_4 := cell_apart ha (ca0_4_3 _ hcur) (fun hm => by first | (have := Hlo_x0.out _ hm; have := Hhi_x0.out _ hm; omega) | exact Hnk_x0.out _ hm rfl)
      have ca0_5_4 := cell_apart ha (ca0_5_3 _ hcur) (fun hm => by first | (have := Hlo_x0.out _ hm; have := Hhi_x0.out _ hm; omega) | exact Hnk_x0.out _ hm rfl)
      have ca1_0_4 := cell_apart ha (ca1_0_3 _ hcur) (fun hm => by first | (have := Hlo_x0.out _ hm; have := Hhi_x0.out _ hm; omega) | exact Hnk_x0.out _ hm rfl)
      have ca1_1_4 := cell_apart ha (ca1_1_3 _ hcur) (fun hm => by first | (have := Hlo_x0.out _ hm; have := Hhi_x0.out _ hm; omega) | exact Hnk_x0.out _ hm rfl)
      have cz_0_4 := cell_apart ha (cz_0_3 _ hcur) (fun hm => by first | (have := Hlo_x0.out _ hm; have := Hhi_x0.out _ hm; omega) | exact Hnk_x0.out _ hm rfl)
      have cz_1_4 := cell_apart ha (cz_1_3 _ hcur) (fun hm => by first | (have := Hlo_x0.out _ hm; have := Hhi_x0.out _ hm; omega) | exact Hnk_x0.out _ hm rfl)
      have cz_2_4 := cell_apart ha (cz_2_3 _ hcur) (fun hm => by first | (have := Hlo_x0.out _ hm; have := Hhi_x0.out _ hm; omega) | exact Hnk_x0.out _ hm rfl)
      have cz_3_4 := cell_apart ha (cz_3_3 _ hcur) (fun hm => by first | (have := Hlo_x0.out _ hm; have := Hhi_x0.out _ hm; omega) | exact Hnk_x0.out _ hm rfl)
      have cz_4_4 := cell_apart ha (cz_4_3 _ hcur) (fun hm => by first | (have := Hlo_x0.out _ hm; have := Hhi_x0.out _ hm; omega) | exact Hnk_x0.out _ hm rfl)
      have cz_5_4 := cell_apart ha (cz_5_3 _ hcur) (fun hm => by first | (have := Hlo_x0.out _ hm; have := Hhi_x0.out _ hm; omega) | exact Hnk_x0.out _ hm rfl)
      have cz_6_4 := cell_apart ha (cz_6_3 _ hcur) (fun hm => by first | (have := Hlo_x0.out _ hm; have := Hhi_x0.out _ hm; omega) | exact Hnk_x0.out _ hm rfl)
      have cx0_0_4 := cell_apart ha (cx0_0_3 _ hcur) (fun hm => by first | (have := Hlo_x0.out _ hm; have := Hhi_x0.out _ hm; omega) | exact Hnk_x0.out _ hm rfl)
      have cx0_1_4 := cell_apart ha (cx0_1_3 _ hcur) (fun hm => by first | (have := Hlo_x0.out _ hm; have := Hhi_x0.out _ hm; omega) | exact Hnk_x0.out _ hm rfl)
      have cx0_2_4 := cell_apart ha (cx0_2_3 _ hcur) (fun hm => by first | (have := Hlo_x0.out _ hm; have := Hhi_x0.out _ hm; omega) | exact Hnk_x0.out _ hm rfl)
      have cx0_3_4 := cell_apart ha (cx0_3_3 _ hcur) (fun hm => by first | (have := Hlo_x0.out _ hm; have := Hhi_x0.out _ hm; omega) | exact Hnk_x0.out _ hm rfl)
      have cx0_4_4 := cell_apart ha (cx0_4_3 _ hcur) (fun hm => by first | (have := Hlo_x0.out _ hm; have := Hhi_x0.out _ hm; omega) | exact Hnk_x0.out _ hm rfl)
      have cx0_5_4 := cell_apart ha (cx0_5_3 _ hcur) (fun hm => by first | (have := Hlo_x0.out _ hm; have := Hhi_x0.out _ hm; omega) | exact Hnk_x0.out _ hm rfl)
      have cg_0_4 := cell_apart ha (cg_0_3 _ hcur) (fun hm => by first | (have := Hlo_x0.out _ hm; have := Hhi_x0.out _ hm; omega) | exact Hnk_x0.out _ hm rfl)
      have cg_1_4 := cell_apart ha (cg_1_3 _ hcur) (fun hm => by first | (have := Hlo_x0.out _ hm; have := Hhi_x0.out _ hm; omega) | exact Hnk_x0.out _ hm rfl)
      have cg_2_4 := cell_apart ha (cg_2_3 _ hcur) (fun hm => by first | (have := Hlo_x0.out _ hm; have := Hhi_x0.out _ hm; omega) | exact Hnk_x0.out _ hm rfl)
      have cg_3_4 := cell_apart ha (cg_3_3 _ hcur) (fun hm => by first | (have := Hlo_x0.out _ hm; have := Hhi_x0.out _ hm; omega) | exact Hnk_x0.out _ hm rfl)
      have cg_4_4 := cell_apart ha (cg_4_3 _ hcur) (fun hm => by first | (have := Hlo_x0.out _ hm; have := Hhi_x0.out _ hm; omega) | exact Hnk_x0.out _ hm rfl)
      have cg_5_4 := cell_apart ha (cg_5_3 _ hcur) (fun hm => by first | (have := Hlo_x0.out _ hm; have := Hhi_x0.out _ hm; omega) | exact Hnk_x0.out _ hm rfl)
      have cg_6_4 := cell_apart ha (cg_6_3 _ hcur) (fun hm => by first | (have := Hlo_x0.out _ hm; have := Hhi_x0.out _ hm; omega) | exact Hnk_x0.out _ hm rfl)
      have qz := ((ExR.good D).apart (Hz_3.out _ hcur) ha (fun b h1 h2 => by have := Hlo_z.out b h1; have := Hhi_z.out b h1; have := Hlo_x0.out b h2; have := Hhi_x0.out b h2; omega))
      have Hz_4 : Hid (∀ X : World, Below W12.heap.size W12 X → ExR D X ((findQ x0.eqs x1).getD Ex.zero) [zr0, zr1, zr2, zr3, zr4, zr5, zr6] Fz) := hide fun X hX => (ExR.good D).below qz hX ((ExR.good D).lt qz)
      have fz := (Rz_3.out _ hcur).apart ha (fun b h1 h2 => by have := Hlo_z.out b h1; have := Hhi_z.out b h1; have := Hlo_x0.out b h2; have := Hhi_x0.out b h2; omega)
      have Rz_4 : Hid (∀ X : World, Below W12.heap.size W12 X → Fresh (W4.heap.size) X Fz) := hide fun X hX => fz.below hX
      have qg := ((ExR.good D).apart (Hg_3.out _ hcur) ha (fun b h1 h2 => by have := Hlo_g.out b h1; have := Hhi_g.out b h1; have := Hlo_x0.out b h2; have := Hhi_x0.out b h2; omega))
      have Hg_4 : Hid (∀ X : World, Below W12.heap.size W12 X → ExR D X ((findQ x0.eqs x1).getD Ex.zero) [gr0, gr1, gr2, gr3, gr4, gr5, gr6] Fg) := hide fun X hX => (ExR.good D).below qg hX ((ExR.good D).lt qg)
      have fg := (Rg_3.out _ hcur).apart ha (fun b h1 h2 => by have := Hlo_g.out b h1; have := Hhi_g.out b h1; have := Hlo_x0.out b h2; have := Hhi_x0.out b h2; omega)
      have Rg_4 : Hid (∀ X : World, Below W12.heap.size W12 X → Fresh (W7.heap.size) X Fg) := hide fun X hX => fg.below hX
      have qx0 := hRn
      have Hx0_4 : Hid (∀ X : World, Below W12.heap.size W12 X → RulR D X (sk_Rul D (1) x0) [x0_0, x0_1, x0_2, x0_3, x0_4, x0_5] Fx0) := hide fun X hX => (RulR.good D).below qx0 hX ((RulR.good D).lt qx0)
      have Rx0_4 : Hid (∀ X : World, Below W12.heap.size W12 X → Fresh (WFz.heap.size) X Fx0) := hide fun X hX => hFn.below hX
      have hapw : Below w.heap.size w W12 := (Hw_3.out _ hcur).trans (ha.below (fun b hb => by have := Hlo_x0.out b hb; omega) (by have := (Hw_3.out _ hcur).size; omega))
      have Hw_4 : Hid (∀ X : World, Below W12.heap.size W12 X → Below w.heap.size w X) := hide fun X hX => hapw.trans (hX.mono hapw.size)
      clear ca0_0_3 ca0_1_3 ca0_2_3 ca0_3_3 ca0_4_3 ca0_5_3 ca1_0_3 ca1_1_3 cz_0_3 cz_1_3 cz_2_3 cz_3_3 cz_4_3 cz_5_3 cz_6_3 cx0_0_3 cx0_1_3 cx0_2_3 cx0_3_3 cx0_4_3 cx0_5_3 cg_0_3 cg_1_3 cg_2_3 cg_3_3 cg_4_3 cg_5_3 cg_6_3 Hz_3 Hx0_3 Hg_3 Rz_3 Rx0_3 Rg_3 Hw_3 hapw hcur ha hMr hMf hRn hFn qz qx0 qg fz fg
      clear hD3 hA3
      have hW12 : Below W12.heap.size W12 W12 := Below.refl _ _
      have hD4 : ∀ X : World, Below W12.heap.size W12 X → Below W12.heap.size W12 X.drew := fun _ h => h.drew
      have hA4 : ∀ (X : World) (o : Obj), Below W12.heap.size W12 X → Below W12.heap.size W12 (X.alloc o) := fun _ o h => below_alloc (Nat.le_refl _) o h
      go_wp2_with fail
      refine Calls.mono (ee_Ex D ((findQ x0.eqs x1).getD Ex.zero) _ _ Fg Fz _ (Hg_4.out _ (by (repeat (first | assumption | exact Below.refl _ _ | apply Below.drew | refine below_alloc (Nat.le_refl _) _ ?_)))) (Hz_4.out _ (by (repeat (first | assumption | exact Below.refl _ _ | apply Below.drew | refine below_alloc (Nat.le_refl _) _ ?_))))) ?_
      rintro en W13 ⟨rfl, hb⟩
      have hW13 : Below W12.heap.size W12 W13 := below_step (by (repeat (first | assumption | exact Below.refl _ _ | apply Below.drew | refine below_alloc (Nat.le_refl _) _ ?_))) (Nat.le_refl _) hb
      have zW13 : W12.heap.size ≤ W13.heap.size := hW13.size
      clear hb
      go_wp2_with fail
      have hcnt : 1 + sc_Ex D ((findQ x0.eqs x1).getD Ex.zero) ≤ 1099511627776 := by have h : sc_Ex D ((findQ x0.eqs x1).getD Ex.zero) ≤ 100000000 := findQ_cnt Hbk0.out; omega
      have hMr := Hg_4.out _ (by (repeat (first | assumption | exact Below.refl _ _ | apply Below.drew | refine below_alloc (Nat.le_refl _) _ ?_)))
      have hMf := Rg_4.out _ (by (repeat (first | assumption | exact Below.refl _ _ | apply Below.drew | refine below_alloc (Nat.le_refl _) _ ?_)))
      refine Calls.mono (mm_Ex D _ 1 ((findQ x0.eqs x1).getD Ex.zero) _ Fg _ hMr hMf (by omega) hcnt) ?_
      rintro en W14 ⟨rfl, hRn, hFn, ha⟩
      have hcur : Below W12.heap.size W12 _ := (by (repeat (first | assumption | exact Below.refl _ _ | apply Below.drew | refine below_alloc (Nat.le_refl _) _ ?_)))
      have zW14 : W12.heap.size ≤ W14.heap.size := Nat.le_trans hcur.size ha.size
      have ca0_0_5 := cell_apart ha (ca0_0_4 _ hcur) (fun hm => by first | (have := Hlo_g.out _ hm; have := Hhi_g.out _ hm; omega) | exact Hnk_g.out _ hm rfl)
      have ca0_1_5 := cell_apart ha (ca0_1_4 _ hcur) (fun hm => by first | (have := Hlo_g.out _ hm; have := Hhi_g.out _ hm; omega) | exact Hnk_g.out _ hm rfl)
      have ca0_2_5 := cell_apart ha (ca0_2_4 _ hcur) (fun hm => by first | (have := Hlo_g.out _ hm; have := Hhi_g.out _ hm; omega) | exact Hnk_g.out _ hm rfl)
      have ca0_3_5 := cell_apart ha (ca0_3_4 _ hcur) (fun hm => by first | (have := Hlo_g.out _ hm; have := Hhi_g.out _ hm; omega) | exact Hnk_g.out _ hm rfl)
      have ca0_4_5 := cell_apart ha (ca0_4_4 _ hcur) (fun hm => by first | (have := Hlo_g.out _ hm; have := Hhi_g.out _ hm; omega) | exact Hnk_g.out _ hm rfl)
      have ca0_5_5 := cell_apart ha (ca0_5_4 _ hcur) (fun hm => by first | (have := Hlo_g.out _ hm; have := Hhi_g.out _ hm; omega) | exact Hnk_g.out _ hm rfl)
      have ca1_0_5 := cell_apart ha (ca1_0_4 _ hcur) (fun hm => by first | (have := Hlo_g.out _ hm; have := Hhi_g.out _ hm; omega) | exact Hnk_g.out _ hm rfl)
      have ca1_1_5 := cell_apart ha (ca1_1_4 _ hcur) (fun hm => by first | (have := Hlo_g.out _ hm; have := Hhi_g.out _ hm; omega) | exact Hnk_g.out _ hm rfl)
      have cz_0_5 := cell_apart ha (cz_0_4 _ hcur) (fun hm => by first | (have := Hlo_g.out _ hm; have := Hhi_g.out _ hm; omega) | exact Hnk_g.out _ hm rfl)
      have cz_1_5 := cell_apart ha (cz_1_4 _ hcur) (fun hm => by first | (have := Hlo_g.out _ hm; have := Hhi_g.out _ hm; omega) | exact Hnk_g.out _ hm rfl)
      have cz_2_5 := cell_apart ha (cz_2_4 _ hcur) (fun hm => by first | (have := Hlo_g.out _ hm; have := Hhi_g.out _ hm; omega) | exact Hnk_g.out _ hm rfl)
      have cz_3_5 := cell_apart ha (cz_3_4 _ hcur) (fun hm => by first | (have := Hlo_g.out _ hm; have := Hhi_g.out _ hm; omega) | exact Hnk_g.out _ hm rfl)
      have cz_4_5 := cell_apart ha (cz_4_4 _ hcur) (fun hm => by first | (have := Hlo_g.out _ hm; have := Hhi_g.out _ hm; omega) | exact Hnk_g.out _ hm rfl)
      have cz_5_5 := cell_apart ha (cz_5_4 _ hcur) (fun hm => by first | (have := Hlo_g.out _ hm; have := Hhi_g.out _ hm; omega) | exact Hnk_g.out _ hm rfl)
      have cz_6_5 := cell_apart ha (cz_6_4 _ hcur) (fun hm => by first | (have := Hlo_g.out _ hm; have := Hhi_g.out _ hm; omega) | exact Hnk_g.out _ hm rfl)
      have cx0_0_5 := cell_apart ha (cx0_0_4 _ hcur) (fun hm => by first | (have := Hlo_g.out _ hm; have := Hhi_g.out _ hm; omega) | exact Hnk_g.out _ hm rfl)
      have cx0_1_5 := cell_apart ha (cx0_1_4 _ hcur) (fun hm => by first | (have := Hlo_g.out _ hm; have := Hhi_g.out _ hm; omega) | exact Hnk_g.out _ hm rfl)
      have cx0_2_5 := cell_apart ha (cx0_2_4 _ hcur) (fun hm => by first | (have := Hlo_g.out _ hm; have := Hhi_g.out _ hm; omega) | exact Hnk_g.out _ hm rfl)
      have cx0_3_5 := cell_apart ha (cx0_3_4 _ hcur) (fun hm => by first | (have := Hlo_g.out _ hm; have := Hhi_g.out _ hm; omega) | exact Hnk_g.out _ hm rfl)
      have cx0_4_5 := cell_apart ha (cx0_4_4 _ hcur) (fun hm => by first | (have := Hlo_g.out _ hm; have := Hhi_g.out _ hm; omega) | exact Hnk_g.out _ hm rfl)
      have cx0_5_5 := cell_apart ha (cx0_5_4 _ hcur) (fun hm => by first | (have := Hlo_g.out _ hm; have := Hhi_g.out _ hm; omega) | exact Hnk_g.out _ hm rfl)
      have cg_0_5 := cell_apart ha (cg_0_4 _ hcur) (fun hm => by first | (have := Hlo_g.out _ hm; have := Hhi_g.out _ hm; omega) | exact Hnk_g.out _ hm rfl)
      have cg_1_5 := cell_apart ha (cg_1_4 _ hcur) (fun hm => by first | (have := Hlo_g.out _ hm; have := Hhi_g.out _ hm; omega) | exact Hnk_g.out _ hm rfl)
      have cg_2_5 := cell_apart ha (cg_2_4 _ hcur) (fun hm => by first | (have := Hlo_g.out _ hm; have := Hhi_g.out _ hm; omega) | exact Hnk_g.out _ hm rfl)
      have cg_3_5 := cell_apart ha (cg_3_4 _ hcur) (fun hm => by first | (have := Hlo_g.out _ hm; have := Hhi_g.out _ hm; omega) | exact Hnk_g.out _ hm rfl)
      have cg_4_5 := cell_apart ha (cg_4_4 _ hcur) (fun hm => by first | (have := Hlo_g.out _ hm; have := Hhi_g.out _ hm; omega) | exact Hnk_g.out _ hm rfl)
      have cg_5_5 := cell_apart ha (cg_5_4 _ hcur) (fun hm => by first | (have := Hlo_g.out _ hm; have := Hhi_g.out _ hm; omega) | exact Hnk_g.out _ hm rfl)
      have cg_6_5 := cell_apart ha (cg_6_4 _ hcur) (fun hm => by first | (have := Hlo_g.out _ hm; have := Hhi_g.out _ hm; omega) | exact Hnk_g.out _ hm rfl)
      have qz := ((ExR.good D).apart (Hz_4.out _ hcur) ha (fun b h1 h2 => by have := Hlo_z.out b h1; have := Hhi_z.out b h1; have := Hlo_g.out b h2; have := Hhi_g.out b h2; omega))
      have Hz_5 : Hid (∀ X : World, Below W14.heap.size W14 X → ExR D X ((findQ x0.eqs x1).getD Ex.zero) [zr0, zr1, zr2, zr3, zr4, zr5, zr6] Fz) := hide fun X hX => (ExR.good D).below qz hX ((ExR.good D).lt qz)
      have fz := (Rz_4.out _ hcur).apart ha (fun b h1 h2 => by have := Hlo_z.out b h1; have := Hhi_z.out b h1; have := Hlo_g.out b h2; have := Hhi_g.out b h2; omega)
      have Rz_5 : Hid (∀ X : World, Below W14.heap.size W14 X → Fresh (W4.heap.size) X Fz) := hide fun X hX => fz.below hX
      have qx0 := ((RulR.good D).apart (Hx0_4.out _ hcur) ha (fun b h1 h2 => by have := Hlo_x0.out b h1; have := Hhi_x0.out b h1; have := Hlo_g.out b h2; have := Hhi_g.out b h2; omega))
      have Hx0_5 : Hid (∀ X : World, Below W14.heap.size W14 X → RulR D X (sk_Rul D (1) x0) [x0_0, x0_1, x0_2, x0_3, x0_4, x0_5] Fx0) := hide fun X hX => (RulR.good D).below qx0 hX ((RulR.good D).lt qx0)
      have fx0 := (Rx0_4.out _ hcur).apart ha (fun b h1 h2 => by have := Hlo_x0.out b h1; have := Hhi_x0.out b h1; have := Hlo_g.out b h2; have := Hhi_g.out b h2; omega)
      have Rx0_5 : Hid (∀ X : World, Below W14.heap.size W14 X → Fresh (WFz.heap.size) X Fx0) := hide fun X hX => fx0.below hX
      have qg := hRn
      have Hg_5 : Hid (∀ X : World, Below W14.heap.size W14 X → ExR D X (sk_Ex D 1 ((findQ x0.eqs x1).getD Ex.zero)) [gr0, gr1, gr2, gr3, gr4, gr5, gr6] Fg) := hide fun X hX => (ExR.good D).below qg hX ((ExR.good D).lt qg)
      have Rg_5 : Hid (∀ X : World, Below W14.heap.size W14 X → Fresh (W7.heap.size) X Fg) := hide fun X hX => hFn.below hX
      have hapw : Below w.heap.size w W14 := (Hw_4.out _ hcur).trans (ha.below (fun b hb => by have := Hlo_g.out b hb; omega) (by have := (Hw_4.out _ hcur).size; omega))
      have Hw_5 : Hid (∀ X : World, Below W14.heap.size W14 X → Below w.heap.size w X) := hide fun X hX => hapw.trans (hX.mono hapw.size)
      clear ca0_0_4 ca0_1_4 ca0_2_4 ca0_3_4 ca0_4_4 ca0_5_4 ca1_0_4 ca1_1_4 cz_0_4 cz_1_4 cz_2_4 cz_3_4 cz_4_4 cz_5_4 cz_6_4 cx0_0_4 cx0_1_4 cx0_2_4 cx0_3_4 cx0_4_4 cx0_5_4 cg_0_4 cg_1_4 cg_2_4 cg_3_4 cg_4_4 cg_5_4 cg_6_4 Hz_4 Hx0_4 Hg_4 Rz_4 Rx0_4 Rg_4 Hw_4 hapw hcur ha hMr hMf hRn hFn qz qx0 qg fz fx0
      clear hD4 hA4
      have hW14 : Below W14.heap.size W14 W14 := Below.refl _ _
      have hD5 : ∀ X : World, Below W14.heap.size W14 X → Below W14.heap.size W14 X.drew := fun _ h => h.drew
      have hA5 : ∀ (X : World) (o : Obj), Below W14.heap.size W14 X → Below W14.heap.size W14 (X.alloc o) := fun _ o h => below_alloc (Nat.le_refl _) o h
      go_wp2_with fail
      refine Calls.mono (hm_Ex D 1 ((findQ x0.eqs x1).getD Ex.zero) _ Fg _ (Hg_5.out _ (by (repeat (first | assumption | exact Below.refl _ _ | apply Below.drew | refine below_alloc (Nat.le_refl _) _ ?_)))) (by omega) hcnt) ?_
      rintro en W15 ⟨rfl, hb⟩
      have hW15 : Below W14.heap.size W14 W15 := below_step (by (repeat (first | assumption | exact Below.refl _ _ | apply Below.drew | refine below_alloc (Nat.le_refl _) _ ?_))) (Nat.le_refl _) hb
      have zW15 : W14.heap.size ≤ W15.heap.size := hW15.size
      clear hb
      go_wp2_with fail
  -- the program again
      try clear hst
      go_region_held3 (fun W => Below W14.heap.size W14 W)
        (first | assumption | exact Below.drew (by assumption) | exact below_alloc (Nat.le_refl _) _ (by assumption) | exact Below.drew (below_alloc (Nat.le_refl _) _ (by assumption)) | exact below_set7 (by assumption) (by first | exact Nat.le_refl _ | assumption | omega))
        (first
          | (go_at_call_has 11 av0; refine Calls.mono (HT0.out _ ?hw) ?_; (case hw => exact Hw_5.out _ (by (repeat (first | assumption | apply Below.drew | refine below_alloc (Nat.le_refl _) _ ?_)))); rintro en W16 ⟨us, Fth0, rfl, hR, hf, hb⟩; obtain ⟨th0_0, th0_1, th0_2, th0_3, th0_4, th0_5, rfl⟩ := list_6 ((RulR.good D).len hR); have hW16 : Below W14.heap.size W14 W16 := below_step (by (repeat (first | assumption | apply Below.drew | refine below_alloc (Nat.le_refl _) _ ?_))) (Nat.le_refl _) hb; have zzW16 := hW16.size; have hsW16 : Below W16.heap.size W16 W16 := Below.refl _ _; (first | have zb := xcarry zb hb | have zb := xbox hb | have zb := xboxd hb | skip); have HRth0 := hide (fun (X : World) (hX : Below W16.heap.size W16 X) => (RulR.good D).below hR hX hf.lt); clear hR hf hb)
          | (go_at_call_has 12 bv0; refine Calls.mono (HT1.out _ ?hw) ?_; (case hw => exact Hw_5.out _ (by (repeat (first | assumption | apply Below.drew | refine below_alloc (Nat.le_refl _) _ ?_)))); rintro en W17 ⟨us, Fth1, rfl, hR, hf, hb⟩; obtain ⟨th1_0, th1_1, rfl⟩ := list2 ((OccR.good D).len hR); have hW17 : Below W14.heap.size W14 W17 := below_step (by (repeat (first | assumption | apply Below.drew | refine below_alloc (Nat.le_refl _) _ ?_))) (Nat.le_refl _) hb; have zzW17 := hW17.size; have hsW17 : Below W17.heap.size W17 W17 := Below.refl _ _; have hbth0th1 : Below W16.heap.size W16 W17 := below_step (by (repeat (first | assumption | apply Below.drew | refine below_alloc (Nat.le_refl _) _ ?_))) (Nat.le_refl _) hb; (first | have zb := xcarry zb hb | have zb := xbox hb | have zb := xboxd hb | skip); have HRth1 := hide (fun (X : World) (hX : Below W17.heap.size W17 X) => (OccR.good D).below hR hX hf.lt); clear hR hf hb)
          | (go_at_call 13; refine Calls.mono (i_FindEquation D x0 x1 _ _ Fth0 Fth1 _ (HRth0.out _ (by (repeat (first | assumption | apply Below.drew | refine below_alloc (Nat.le_refl _) _ ?_)))) (HRth1.out _ (by (repeat (first | assumption | apply Below.drew | refine below_alloc (Nat.le_refl _) _ ?_)))) Hbk0.out hDp) ?_; rintro en W18 ⟨us, Fh, rfl, hR, hf, hb⟩; obtain ⟨hr0, hr1, hr2, hr3, hr4, hr5, hr6, rfl⟩ := list7 ((ExR.good D).len hR); have ho := ExR.one hR; have ohr0 := ho hr0 (by simp); have ohr1 := ho hr1 (by simp); have ohr2 := ho hr2 (by simp); have ohr3 := ho hr3 (by simp); have ohr4 := ho hr4 (by simp); have ohr5 := ho hr5 (by simp); have ohr6 := ho hr6 (by simp); have hRk := hide hR; have hfk := hide hf; have Hlo_h : Hid (∀ b ∈ Fh, W17.heap.size ≤ b) := hide (fun b hb' => by have h9 := hf.from_ b hb'; first | (simp only [World.size_alloc] at h9; omega) | omega); have Hhi_h : Hid (∀ b ∈ Fh, b < W18.heap.size) := hide hf.lt; (first | have zb := xcarry zb hb | have zb := xbox hb | have zb := xboxd hb | skip); have Hlo9 := hide hf.from_; (first | have sx := store7 Try.prog hr0 hr1 hr2 hr3 hr4 hr5 hr6 zb.1 (by simp) ho | have sx := store7 Try.prog (w := W18.alloc (.cells #[.int .i64 0, .int .i64 0, .int .i64 0, .int .i64 0, .string ⟨#[]⟩, .string ⟨#[]⟩, .slice none 0 0] 33)) hr0 hr1 hr2 hr3 hr4 hr5 hr6 (heap_alloc_new W18 _) (by simp) ho); obtain ⟨wh1, wh2, wh3, wh4, wh5, wh6, WFh, sh0, sh1, sh2, sh3, sh4, sh5, sh6, hP⟩ := sx; have HP := hide hP; have hW18 : Below W14.heap.size W14 W18 := below_step (by (repeat (first | assumption | apply Below.drew | refine below_alloc (Nat.le_refl _) _ ?_))) (Nat.le_refl _) hb; have zzW18 := hW18.size; (first | have hWF : Below W14.heap.size W14 WFh := hW18.trans (hP.below (by first | exact Nat.le_refl _ | assumption | omega)) | have hWF : Below W14.heap.size W14 WFh := (below_alloc (Nat.le_refl _) _ hW18).trans (hP.below (by first | exact Nat.le_refl _ | assumption | omega))); clear hP; clear ho hR hf hb))
      all_goals
        first
        | (have C : Put W18 W14.heap.size 0 [hr0, hr1, hr2, hr3, hr4, hr5, hr6] #[.int .i64 0, .int .i64 0, .int .i64 0, .int .i64 0, .string ⟨#[]⟩, .string ⟨#[]⟩, .slice none 0 0] 33 WFh := HP.out
           have C2 : W14.heap.size ≤ W14.heap.size ∧ W14.heap.size < W18.heap.size := ⟨by omega, zb.2⟩
           have hzz : W18.heap.size ≤ WFh.heap.size := by rw [C.size]; exact Nat.le_refl _
           have hC := C.cellsAt
           have hC2 : W14.heap.size < WFh.heap.size := by rw [C.size]; exact zb.2
           have hne : ∀ k ∈ Fh, WFh.heap[k]? = W18.heap[k]? := fun k hk => C.far k (by first | (have := Hlo_h.out k hk; have := C2.1; omega) | (have h9 := Hlo9.out k hk; simp only [World.size_alloc] at h9; omega))
           have hnk : ∀ k ∈ Fh, k ≠ W14.heap.size := fun k hk => by first | (have := Hlo_h.out k hk; have := C2.1; omega) | (have h9 := Hlo9.out k hk; simp only [World.size_alloc] at h9; omega)
           clear C HP
           obtain ⟨kbh, hkb9⟩ : ∃ k, k = W14.heap.size := ⟨_, rfl⟩
           have C4 : W14.heap.size ≤ kbh := by rw [hkb9]; exact C2.1
           rw [← hkb9] at hC hC2 hnk ⊢
           clear hkb9 C2)
        | (have C : Put W18 W15.heap.size 0 [hr0, hr1, hr2, hr3, hr4, hr5, hr6] #[.int .i64 0, .int .i64 0, .int .i64 0, .int .i64 0, .string ⟨#[]⟩, .string ⟨#[]⟩, .slice none 0 0] 33 WFh := HP.out
           have C2 : W14.heap.size ≤ W15.heap.size ∧ W15.heap.size < W18.heap.size := ⟨by omega, zb.2⟩
           have hzz : W18.heap.size ≤ WFh.heap.size := by rw [C.size]; exact Nat.le_refl _
           have hC := C.cellsAt
           have hC2 : W15.heap.size < WFh.heap.size := by rw [C.size]; exact zb.2
           have hne : ∀ k ∈ Fh, WFh.heap[k]? = W18.heap[k]? := fun k hk => C.far k (by first | (have := Hlo_h.out k hk; have := C2.1; omega) | (have h9 := Hlo9.out k hk; simp only [World.size_alloc] at h9; omega))
           have hnk : ∀ k ∈ Fh, k ≠ W15.heap.size := fun k hk => by first | (have := Hlo_h.out k hk; have := C2.1; omega) | (have h9 := Hlo9.out k hk; simp only [World.size_alloc] at h9; omega)
           clear C HP
           obtain ⟨kbh, hkb9⟩ : ∃ k, k = W15.heap.size := ⟨_, rfl⟩
           have C4 : W14.heap.size ≤ kbh := by rw [hkb9]; exact C2.1
           rw [← hkb9] at hC hC2 hnk ⊢
           clear hkb9 C2)
        | (have C : Put W18 W16.heap.size 0 [hr0, hr1, hr2, hr3, hr4, hr5, hr6] #[.int .i64 0, .int .i64 0, .int .i64 0, .int .i64 0, .string ⟨#[]⟩, .string ⟨#[]⟩, .slice none 0 0] 33 WFh := HP.out
           have C2 : W14.heap.size ≤ W16.heap.size ∧ W16.heap.size < W18.heap.size := ⟨by omega, zb.2⟩
           have hzz : W18.heap.size ≤ WFh.heap.size := by rw [C.size]; exact Nat.le_refl _
           have hC := C.cellsAt
           have hC2 : W16.heap.size < WFh.heap.size := by rw [C.size]; exact zb.2
           have hne : ∀ k ∈ Fh, WFh.heap[k]? = W18.heap[k]? := fun k hk => C.far k (by first | (have := Hlo_h.out k hk; have := C2.1; omega) | (have h9 := Hlo9.out k hk; simp only [World.size_alloc] at h9; omega))
           have hnk : ∀ k ∈ Fh, k ≠ W16.heap.size := fun k hk => by first | (have := Hlo_h.out k hk; have := C2.1; omega) | (have h9 := Hlo9.out k hk; simp only [World.size_alloc] at h9; omega)
           clear C HP
           obtain ⟨kbh, hkb9⟩ : ∃ k, k = W16.heap.size := ⟨_, rfl⟩
           have C4 : W14.heap.size ≤ kbh := by rw [hkb9]; exact C2.1
           rw [← hkb9] at hC hC2 hnk ⊢
           clear hkb9 C2)
        | (have C : Put W18 W17.heap.size 0 [hr0, hr1, hr2, hr3, hr4, hr5, hr6] #[.int .i64 0, .int .i64 0, .int .i64 0, .int .i64 0, .string ⟨#[]⟩, .string ⟨#[]⟩, .slice none 0 0] 33 WFh := HP.out
           have C2 : W14.heap.size ≤ W17.heap.size ∧ W17.heap.size < W18.heap.size := ⟨by omega, zb.2⟩
           have hzz : W18.heap.size ≤ WFh.heap.size := by rw [C.size]; exact Nat.le_refl _
           have hC := C.cellsAt
           have hC2 : W17.heap.size < WFh.heap.size := by rw [C.size]; exact zb.2
           have hne : ∀ k ∈ Fh, WFh.heap[k]? = W18.heap[k]? := fun k hk => C.far k (by first | (have := Hlo_h.out k hk; have := C2.1; omega) | (have h9 := Hlo9.out k hk; simp only [World.size_alloc] at h9; omega))
           have hnk : ∀ k ∈ Fh, k ≠ W17.heap.size := fun k hk => by first | (have := Hlo_h.out k hk; have := C2.1; omega) | (have h9 := Hlo9.out k hk; simp only [World.size_alloc] at h9; omega)
           clear C HP
           obtain ⟨kbh, hkb9⟩ : ∃ k, k = W17.heap.size := ⟨_, rfl⟩
           have C4 : W14.heap.size ≤ kbh := by rw [hkb9]; exact C2.1
           rw [← hkb9] at hC hC2 hnk ⊢
           clear hkb9 C2)
        | (have C : Put (W18.alloc (.cells #[.int .i64 0, .int .i64 0, .int .i64 0, .int .i64 0, .string ⟨#[]⟩, .string ⟨#[]⟩, .slice none 0 0] 33)) W18.heap.size 0 [hr0, hr1, hr2, hr3, hr4, hr5, hr6] #[.int .i64 0, .int .i64 0, .int .i64 0, .int .i64 0, .string ⟨#[]⟩, .string ⟨#[]⟩, .slice none 0 0] 33 WFh := HP.out
           have C2 : W14.heap.size ≤ W18.heap.size ∧ True := ⟨by omega, trivial⟩
           have hb9 : Below W18.heap.size W18 WFh := ((Below.refl _ _).alloc (Nat.le_refl _) _).trans (C.below (Nat.le_refl _))
           have hC := C.cellsAt
           have hzz := hb9.size
           have hC2 : W18.heap.size < WFh.heap.size := by rw [C.size, World.size_alloc]; exact Nat.lt_succ_self _
           have hne : ∀ k ∈ Fh, WFh.heap[k]? = W18.heap[k]? := fun k hk => hb9.block k (Hhi_h.out k hk)
           have hnk : ∀ k ∈ Fh, k ≠ W18.heap.size := fun k hk => by have := Hhi_h.out k hk; omega
           clear hb9 C HP
           obtain ⟨kbh, hkb9⟩ : ∃ k, k = W18.heap.size := ⟨_, rfl⟩
           have C4 : W14.heap.size ≤ kbh := by rw [hkb9]; exact C2.1
           rw [← hkb9] at hC hC2 hnk ⊢
           clear hkb9 C2)
      all_goals as_aux_lemma =>
        have hF : Below W14.heap.size W14 WFh := by assumption
        have hkh := C4
        iterate 5 (try clear zb)
        have Hnk_h := hide hnk
        clear hnk
        have zWFh := hF.size
        have zWFh2 := hzz
        have hbb : ∀ X : World, Below WFh.heap.size WFh X → Below W14.heap.size W14 X := fun X hX => hF.trans (hX.mono hF.size)
        have ca0_0_6 := fun (X : World) (hX : Below WFh.heap.size WFh X) => ca0_0_5 X (hbb X hX)
        have ca0_1_6 := fun (X : World) (hX : Below WFh.heap.size WFh X) => ca0_1_5 X (hbb X hX)
        have ca0_2_6 := fun (X : World) (hX : Below WFh.heap.size WFh X) => ca0_2_5 X (hbb X hX)
        have ca0_3_6 := fun (X : World) (hX : Below WFh.heap.size WFh X) => ca0_3_5 X (hbb X hX)
        have ca0_4_6 := fun (X : World) (hX : Below WFh.heap.size WFh X) => ca0_4_5 X (hbb X hX)
        have ca0_5_6 := fun (X : World) (hX : Below WFh.heap.size WFh X) => ca0_5_5 X (hbb X hX)
        have ca1_0_6 := fun (X : World) (hX : Below WFh.heap.size WFh X) => ca1_0_5 X (hbb X hX)
        have ca1_1_6 := fun (X : World) (hX : Below WFh.heap.size WFh X) => ca1_1_5 X (hbb X hX)
        have cz_0_6 := fun (X : World) (hX : Below WFh.heap.size WFh X) => cz_0_5 X (hbb X hX)
        have cz_1_6 := fun (X : World) (hX : Below WFh.heap.size WFh X) => cz_1_5 X (hbb X hX)
        have cz_2_6 := fun (X : World) (hX : Below WFh.heap.size WFh X) => cz_2_5 X (hbb X hX)
        have cz_3_6 := fun (X : World) (hX : Below WFh.heap.size WFh X) => cz_3_5 X (hbb X hX)
        have cz_4_6 := fun (X : World) (hX : Below WFh.heap.size WFh X) => cz_4_5 X (hbb X hX)
        have cz_5_6 := fun (X : World) (hX : Below WFh.heap.size WFh X) => cz_5_5 X (hbb X hX)
        have cz_6_6 := fun (X : World) (hX : Below WFh.heap.size WFh X) => cz_6_5 X (hbb X hX)
        have cx0_0_6 := fun (X : World) (hX : Below WFh.heap.size WFh X) => cx0_0_5 X (hbb X hX)
        have cx0_1_6 := fun (X : World) (hX : Below WFh.heap.size WFh X) => cx0_1_5 X (hbb X hX)
        have cx0_2_6 := fun (X : World) (hX : Below WFh.heap.size WFh X) => cx0_2_5 X (hbb X hX)
        have cx0_3_6 := fun (X : World) (hX : Below WFh.heap.size WFh X) => cx0_3_5 X (hbb X hX)
        have cx0_4_6 := fun (X : World) (hX : Below WFh.heap.size WFh X) => cx0_4_5 X (hbb X hX)
        have cx0_5_6 := fun (X : World) (hX : Below WFh.heap.size WFh X) => cx0_5_5 X (hbb X hX)
        have cg_0_6 := fun (X : World) (hX : Below WFh.heap.size WFh X) => cg_0_5 X (hbb X hX)
        have cg_1_6 := fun (X : World) (hX : Below WFh.heap.size WFh X) => cg_1_5 X (hbb X hX)
        have cg_2_6 := fun (X : World) (hX : Below WFh.heap.size WFh X) => cg_2_5 X (hbb X hX)
        have cg_3_6 := fun (X : World) (hX : Below WFh.heap.size WFh X) => cg_3_5 X (hbb X hX)
        have cg_4_6 := fun (X : World) (hX : Below WFh.heap.size WFh X) => cg_4_5 X (hbb X hX)
        have cg_5_6 := fun (X : World) (hX : Below WFh.heap.size WFh X) => cg_5_5 X (hbb X hX)
        have cg_6_6 := fun (X : World) (hX : Below WFh.heap.size WFh X) => cg_6_5 X (hbb X hX)
        have Hz_6 := hide (fun (X : World) (hX : Below WFh.heap.size WFh X) => Hz_5.out X (hbb X hX))
        have Rz_6 := hide (fun (X : World) (hX : Below WFh.heap.size WFh X) => Rz_5.out X (hbb X hX))
        have Hx0_6 := hide (fun (X : World) (hX : Below WFh.heap.size WFh X) => Hx0_5.out X (hbb X hX))
        have Rx0_6 := hide (fun (X : World) (hX : Below WFh.heap.size WFh X) => Rx0_5.out X (hbb X hX))
        have Hg_6 := hide (fun (X : World) (hX : Below WFh.heap.size WFh X) => Hg_5.out X (hbb X hX))
        have Rg_6 := hide (fun (X : World) (hX : Below WFh.heap.size WFh X) => Rg_5.out X (hbb X hX))
        have Hw_6 : Hid (∀ X : World, Below WFh.heap.size WFh X → Below w.heap.size w X) := hide fun X hX => Hw_5.out X (hbb X hX)
        clear ca0_0_5 ca0_1_5 ca0_2_5 ca0_3_5 ca0_4_5 ca0_5_5 ca1_0_5 ca1_1_5 cz_0_5 cz_1_5 cz_2_5 cz_3_5 cz_4_5 cz_5_5 cz_6_5 cx0_0_5 cx0_1_5 cx0_2_5 cx0_3_5 cx0_4_5 cx0_5_5 cg_0_5 cg_1_5 cg_2_5 cg_3_5 cg_4_5 cg_5_5 cg_6_5 Hz_5 Hx0_5 Hg_5 Rz_5 Rx0_5 Rg_5 Hw_5
        have ch_0_6 := cell_rule hC (n := WFh.heap.size) hC2 0 (v := hr0) rfl
        have ch_1_6 := cell_rule hC (n := WFh.heap.size) hC2 1 (v := hr1) rfl
        have ch_2_6 := cell_rule hC (n := WFh.heap.size) hC2 2 (v := hr2) rfl
        have ch_3_6 := cell_rule hC (n := WFh.heap.size) hC2 3 (v := hr3) rfl
        have ch_4_6 := cell_rule hC (n := WFh.heap.size) hC2 4 (v := hr4) rfl
        have ch_5_6 := cell_rule hC (n := WFh.heap.size) hC2 5 (v := hr5) rfl
        have ch_6_6 := cell_rule hC (n := WFh.heap.size) hC2 6 (v := hr6) rfl
        have hRv := fun (X : World) (hX : Below WFh.heap.size WFh X) => (ExR.good D).below ((ExR.good D).frame hRk.out hne hzz) hX (fun b hb => Nat.lt_of_lt_of_le (Hhi_h.out b hb) hzz)
        have Hh_6 : Hid (∀ X : World, Below WFh.heap.size WFh X → ExR D X ((findQ x0.eqs x1).getD Ex.zero) [hr0, hr1, hr2, hr3, hr4, hr5, hr6] Fh) := hide hRv
        have Rh_6 : Hid (∀ X : World, Below WFh.heap.size WFh X → Fresh (W17.heap.size) X Fh) := hide fun X hX => (have q9 := (hfk.out.keep hne).below hX; ⟨q9.nodup, Hlo_h.out, q9.cells⟩)
        have hWFh : Below WFh.heap.size WFh WFh := Below.refl _ _
        have hD6 : ∀ X : World, Below WFh.heap.size WFh X → Below WFh.heap.size WFh X.drew := fun _ h => h.drew
        have hA6 : ∀ (X : World) (o : Obj), Below WFh.heap.size WFh X → Below WFh.heap.size WFh (X.alloc o) := fun _ o h => below_alloc (Nat.le_refl _) o h
        clear hRk hfk hRv hC hbb hne hF hW14 hD5 hA5 ohr0 ohr1 ohr2 ohr3 ohr4 ohr5 ohr6 sh0 sh1 sh2 sh3 sh4 sh5 sh6  HRth0 HRth1
        have hzh := hC2
        have hst := fun (w : World) (a : Addr) (v : Value) (m : Mode) (hv : v.oneCell' = true) => run_store Try.prog w a v m hv
        go_wp2_with fail
        refine Calls.mono (ee_Ex D ((findQ x0.eqs x1).getD Ex.zero) _ _ Fh Fz _ (Hh_6.out _ (by (repeat (first | assumption | exact Below.refl _ _ | apply Below.drew | refine below_alloc (Nat.le_refl _) _ ?_)))) (Hz_6.out _ (by (repeat (first | assumption | exact Below.refl _ _ | apply Below.drew | refine below_alloc (Nat.le_refl _) _ ?_))))) ?_
        rintro en W19 ⟨rfl, hb⟩
        have hW19 : Below WFh.heap.size WFh W19 := below_step (by (repeat (first | assumption | exact Below.refl _ _ | apply Below.drew | refine below_alloc (Nat.le_refl _) _ ?_))) (Nat.le_refl _) hb
        have zW19 : WFh.heap.size ≤ W19.heap.size := hW19.size
        clear hb
        go_wp2_with fail
        refine Calls.mono (hm_Ex D 1 ((findQ x0.eqs x1).getD Ex.zero) _ Fg _ (Hg_6.out _ (by (repeat (first | assumption | exact Below.refl _ _ | apply Below.drew | refine below_alloc (Nat.le_refl _) _ ?_)))) (by omega) hcnt) ?_
        rintro en W20 ⟨rfl, hb⟩
        have hW20 : Below WFh.heap.size WFh W20 := below_step (by (repeat (first | assumption | exact Below.refl _ _ | apply Below.drew | refine below_alloc (Nat.le_refl _) _ ?_))) (Nat.le_refl _) hb
        have zW20 : WFh.heap.size ≤ W20.heap.size := hW20.size
        clear hb
        go_wp2_with fail
        go_ret
        exact ⟨rfl, Hw_6.out _ (by (repeat (first | assumption | exact Below.refl _ _ | apply Below.drew | refine below_alloc (Nat.le_refl _) _ ?_)))⟩
end Go.Proofs.Ytadgdnoikgobcaa.fnExactFindEquation
