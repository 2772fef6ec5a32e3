/- The law FnExactIsValidExpr: whatever the arguments, the call returns true and leaves the arguments as they were. Conditions: none. -/
import Derived.Test.YtadfbidgbeoggaaRows
import Derived.Test.YtadfbidgbeoggaaKit
import Derived.Test.YtadfbidgbeoggaaValid
import Derived.Test.YtadfbidgbeoggaaExGlue
namespace Go.Proofs.Ytadfbidgbeoggaa.fnExactIsValidExpr
open Go.ChangeShapes Go.WideShapes Go.ChangeAt Go.RowKit
set_option linter.unusedVariables false

theorem own : ownKnob Try.prog.godebug = none := by kernel_rfl

set_option maxRecDepth 100000 in
set_option maxHeartbeats 4000000 in
theorem walk (w : World) (D0 : Nat) (x0 : Ex) (cs0 : List Value) (F0 : List Nat) (h0 : ExR D0 w x0 cs0 F0) : Calls Try.prog 8 #[.agg cs0.toArray] w fun en w' => en = .returned (.bool true) ∧ Below w.heap.size w w' := by
  have h0 := h0.up (D0) (by omega)
  generalize D0 = D at h0
  have HF0 := hide ((ExR.good D).lt h0)
  obtain ⟨av0, av1, av2, av3, av4, av5, av6, rfl⟩ := list7 ((ExR.good D).len h0)
  have HX0 : Hid (∀ W : World, Below w.heap.size w W → ExR D W x0 [av0, av1, av2, av3, av4, av5, av6] F0) := hide fun W hW => (ExR.good D).below h0 hW HF0.out
  clear h0
  obtain ⟨C0, hz0, hw0⟩ := boxes1 w [av0, av1, av2, av3, av4, av5, av6] 24
  show Calls _ _ #[.agg #[av0, av1, av2, av3, av4, av5, av6]] w _
  go_enter Try.func8, Try.ntmps8
  go_wp2_with fail
  generalize w.alloc (Obj.cells #[av0, av1, av2, av3, av4, av5, av6] 24) = V0 at C0 hz0 hw0 ⊢
  have hn0 : (w.heap.size + 1) ≤ V0.heap.size := by omega
  have Hw : Hid (∀ W : World, Below (w.heap.size + 1) V0 W → Below w.heap.size w W) := hide fun W h => hw0.trans (h.mono (by omega))
  have hV0 : Below (w.heap.size + 1) V0 V0 := Below.refl _ _
  have c0_0 := cell_rule C0 (n := (w.heap.size + 1)) (by omega) 0 (v := av0) rfl
  have c0_1 := cell_rule C0 (n := (w.heap.size + 1)) (by omega) 1 (v := av1) rfl
  have c0_2 := cell_rule C0 (n := (w.heap.size + 1)) (by omega) 2 (v := av2) rfl
  have c0_3 := cell_rule C0 (n := (w.heap.size + 1)) (by omega) 3 (v := av3) rfl
  have c0_4 := cell_rule C0 (n := (w.heap.size + 1)) (by omega) 4 (v := av4) rfl
  have c0_5 := cell_rule C0 (n := (w.heap.size + 1)) (by omega) 5 (v := av5) rfl
  have c0_6 := cell_rule C0 (n := (w.heap.size + 1)) (by omega) 6 (v := av6) rfl
  have hD0 : ∀ W : World, Below (w.heap.size + 1) V0 W → Below (w.heap.size + 1) V0 W.drew := fun _ h => h.drew
  have hA0 : ∀ (W : World) (o : Obj), Below (w.heap.size + 1) V0 W → Below (w.heap.size + 1) V0 (W.alloc o) := fun _ o h => below_alloc hn0 o h
  clear C0 hz0 hw0
  refine Calls.mono (l_szExpr D x0 _ F0 _ 1048576 (HX0.out _ (Hw.out _ (by assumption))) (by omega) (by omega)) ?_
  rintro en W1 ⟨⟨r0, rfl, hr⟩, hb⟩
  have hW1 : Below (w.heap.size + 1) V0 W1 := below_step (by (repeat (first | assumption | apply Below.drew | refine below_alloc (by assumption) _ ?_))) hn0 hb
  clear hb
  rcases hr with rfl | ⟨hr0, hq⟩
  · go_wp2_with fail
    go_ret
    exact ⟨rfl, Hw.out _ hW1⟩
  have hnn := bulkE_nonneg D x0
  have Hbk0 : Hid (bulkE D x0 ≤ 1048576) := hide (by omega)
  have hl0 : r0 ≤ 1048576 := by omega
  clear hq hnn
  have HT0 : Hid (∀ W : World, Below (w.heap.size + 1) V0 W → Calls Try.prog 16 #[.agg #[av0, av1, av2, av3, av4, av5, av6]] W fun en w' => ∃ us F', en = .returned (.agg (List.toArray us)) ∧ ExR D w' x0 us F' ∧ Fresh W.heap.size w' F' ∧ Below W.heap.size W w') := hide fun W hW =>
    c_Ex D x0 _ F0 W (HX0.out W (Hw.out W hW)) Hbk0.out
  go_wp2_with fail
  clear hr0 hl0
  have hst := fun (w : World) (a : Addr) (v : Value) (m : Mode) (hv : v.oneCell' = true) => run_store Try.prog w a v m hv
  refine Calls.mono (HT0.out _ (by (repeat (first | assumption | apply Below.drew | refine below_alloc (by assumption) _ ?_)))) ?_
  rintro en W2 ⟨us, Fu, rfl, hR, hf, hb⟩
  obtain ⟨u0, u1, u2, u3, u4, u5, u6, rfl⟩ := list7 ((ExR.good D).len hR)
  have hW2 : Below (w.heap.size + 1) V0 W2 := below_step (by (repeat (first | assumption | apply Below.drew | refine below_alloc (by assumption) _ ?_))) (by assumption) hb
  have hbu := hb
  have HLu := hide hf.lt
  have HRu := hide hR
  have HEu := hide hf
  clear hR hf hb
  go_wp2_with fail
  refine Calls.mono (s_IsValidExpr D x0 _ Fu _ HRu.out Hbk0.out) ?_
  rintro en W3 ⟨rfl, hb⟩
  have hW3 : Below (w.heap.size + 1) V0 W3 := below_step (by (repeat (first | assumption | apply Below.drew | refine below_alloc (by assumption) _ ?_))) hn0 hb
  clear hb
  clear HRu HLu hbu HEu
  go_wp2_with fail
  refine Calls.mono (HT0.out _ (by (repeat (first | assumption | apply Below.drew | refine below_alloc (by assumption) _ ?_)))) ?_
  rintro en W4 ⟨us, Fx0_, rfl, hR, hf, hb⟩
  obtain ⟨x0_0, x0_1, x0_2, x0_3, x0_4, x0_5, x0_6, rfl⟩ := list7 ((ExR.good D).len hR)
  have ho := ExR.one hR
  have ox0_0 := ho x0_0 (by simp)
  have ox0_1 := ho x0_1 (by simp)
  have ox0_2 := ho x0_2 (by simp)
  have ox0_3 := ho x0_3 (by simp)
  have ox0_4 := ho x0_4 (by simp)
  have ox0_5 := ho x0_5 (by simp)
  have ox0_6 := ho x0_6 (by simp)
  have HRx0_ := hide hR
  have HLx0_ := hide hf.lt
  have hW4 : Below (w.heap.size + 1) V0 W4 := below_step (by (repeat (first | assumption | apply Below.drew | refine below_alloc (by assumption) _ ?_))) hn0 hb
  clear hb
  clear hf ho hR
  go_wp2_with fail
  have Cx := CellsAt.new W4 [x0_0, x0_1, x0_2, x0_3, x0_4, x0_5, x0_6] 29
  have hb0_1 := below_box (o := Obj.cells #[x0_0, x0_1, x0_2, x0_3, x0_4, x0_5, x0_6] 29) (by (repeat (first | assumption | apply Below.drew | refine below_alloc (by assumption) _ ?_)) : Below (w.heap.size + 1) V0 W4) hn0
  have hz := World.size_alloc W4 (Obj.cells #[x0_0, x0_1, x0_2, x0_3, x0_4, x0_5, x0_6] 29)
  have HV0 : Hid (∀ V : World, Below (W4.heap.size + 1) (W4.alloc (Obj.cells #[x0_0, x0_1, x0_2, x0_3, x0_4, x0_5, x0_6] 29)) V → ExR D V x0 [x0_0, x0_1, x0_2, x0_3, x0_4, x0_5, x0_6] Fx0_) := hide fun V hV => (ExR.good D).below HRx0_.out (below_of_box hV) HLx0_.out
  generalize W4.alloc (Obj.cells #[x0_0, x0_1, x0_2, x0_3, x0_4, x0_5, x0_6] 29) = V1 at Cx hb0_1 hz HV0 ⊢
  have hn1 : (W4.heap.size + 1) ≤ V1.heap.size := Nat.le_of_eq hz.symm
  have hV1 : Below (W4.heap.size + 1) V1 V1 := Below.refl _ _
  have cx1_0 := cell_rule Cx (n := (W4.heap.size + 1)) (by omega) 0 (v := x0_0) rfl
  have cx1_1 := cell_rule Cx (n := (W4.heap.size + 1)) (by omega) 1 (v := x0_1) rfl
  have cx1_2 := cell_rule Cx (n := (W4.heap.size + 1)) (by omega) 2 (v := x0_2) rfl
  have cx1_3 := cell_rule Cx (n := (W4.heap.size + 1)) (by omega) 3 (v := x0_3) rfl
  have cx1_4 := cell_rule Cx (n := (W4.heap.size + 1)) (by omega) 4 (v := x0_4) rfl
  have cx1_5 := cell_rule Cx (n := (W4.heap.size + 1)) (by omega) 5 (v := x0_5) rfl
  have cx1_6 := cell_rule Cx (n := (W4.heap.size + 1)) (by omega) 6 (v := x0_6) rfl
  have hD1 : ∀ W : World, Below (W4.heap.size + 1) V1 W → Below (W4.heap.size + 1) V1 W.drew := fun _ h => h.drew
  have hA1 : ∀ (W : World) (o : Obj), Below (W4.heap.size + 1) V1 W → Below (W4.heap.size + 1) V1 (W.alloc o) := fun _ o h => below_alloc hn1 o h
  clear Cx hz
  clear HRx0_ HLx0_ ox0_0 ox0_1 ox0_2 ox0_3 ox0_4 ox0_5 ox0_6
  go_wp2_with fail
  refine Calls.mono (i_IsValidExpr D x0 _ Fx0_ _ (HV0.out _ (hV1)) Hbk0.out) ?_
  rintro en W5 ⟨rfl, hb⟩
  have hW5 : Below (W4.heap.size + 1) V1 W5 := below_step (by (repeat (first | assumption | apply Below.drew | refine below_alloc (by assumption) _ ?_))) hn1 hb
  clear hb
  go_wp2_with fail
  go_region_held3 (fun W => Below (W4.heap.size + 1) V1 W)
    (first | assumption | exact Below.drew (by assumption))
    (first
      | (go_at_call_has 16 av0; refine Calls.mono (HT0.out _ (hb0_1 _ (?hw))) ?_; (case hw => (repeat (first | assumption | apply Below.drew | refine below_alloc (by assumption) _ ?_))); rintro en W6 ⟨us, Fp, rfl, hR, hf, hb⟩; obtain ⟨p0, p1, p2, p3, p4, p5, p6, rfl⟩ := list7 ((ExR.good D).len hR); have hW6 : Below (W4.heap.size + 1) V1 W6 := below_step (by (repeat (first | assumption | apply Below.drew | refine below_alloc (by assumption) _ ?_))) (by assumption) hb; have hbp := hb; have HLp := hide hf.lt; have HRp := hide hR; have HEp := hide hf; clear hR hf hb)
      | (go_at_call 18; refine Calls.mono (ee_Ex D x0 _ _ Fx0_ Fp _ (HV0.out _ (by assumption)) HRp.out) ?_; rintro en W7 ⟨rfl, hb⟩; have hW7 : Below (W4.heap.size + 1) V1 W7 := below_step (by (repeat (first | assumption | apply Below.drew | refine below_alloc (by assumption) _ ?_))) (by assumption) hb; clear hb))
  clear HRp HLp hbp HEp
  go_wp2_with fail
  go_ret
  exact ⟨rfl, Hw.out _ (hb0_1 _ (by assumption))⟩

set_option maxRecDepth 100000 in
theorem lifted (os : Os) (started : os.Started) (H : Type) (enc : TypeId × Value → H) :
    ReturnsInHanded {} Try.checked os 8 .any (Rows.fnExactIsValidExprSpec.pre6 enc Try.prog Try.f8 Rows.fnExactIsValidExprRow.domain false) (Rows.fnExactIsValidExprSpec.post enc Try.prog Try.f8 false true false false) := by
  refine returnsInHanded_of_change (C := Try.checked) own started (by kernel_rfl) Try.func8
    (ChangeSpec.witness6 (enc := enc) (C := Try.checked) false ⟨#[], #[.agg #[.int .i64 0, .int .i64 0, .int .i64 0, .int .i64 0, .string ByteArray.empty, .string ByteArray.empty, .slice none 0 0]], []⟩ 12 (by kernel_rfl) (by kernel_rfl) (by kernel_rfl) (by kernel_rfl)) ?_
  intro W base args ds gs before hval0 hW hcnd _
  have hval : ∀ (j : Nat) t v, Try.f8.params[j]? = some t → args[j]? = some v → Value.okWide Try.prog W .any base t v := hval0
  have hW' := hW
  obtain ⟨p, q, hA0, hV, rfl, hfz, hnd⟩ := hW
  have hA : DataW.TrodAll enc Try.prog W 0 (fun _ => true) true Try.f8.params.toList args.toList ds p := hA0
  rw [Try.params8] at hA hval
  obtain ⟨v0, vs0, d0, ds0, p0, q0, hargs, rfl, rfl, h0, r0x⟩ := trodAll_cons hA
  obtain ⟨rfl, rfl, rfl⟩ := trodAll_nil r0x
  obtain rfl : args = #[v0] := by cases args; simp_all
  obtain ⟨rfl, rfl⟩ := trodVars_none hV
  obtain ⟨D0, a0, cs0, F0, rfl, w0⟩ := open_Expr (hval 0 24 v0 rfl rfl) h0
  clear hA0 hval0
  refine (walk W D0 a0 cs0 F0 w0).mono fun e W' ⟨he, hb⟩ => ?_
  exact ⟨_, he, law_post (gs := []) hW' hb (by kernel_rfl) (by kernel_rfl) (by kernel_rfl) Try.underlying4 rfl rfl⟩

theorem over : Rows.fnExactIsValidExprRow.holds Try.pinned (OpenSpec.ofChange Rows.fnExactIsValidExprSpec) :=
  OpenClaim.holds_of_wide 8 Try.f8 rfl rfl rfl rfl rfl rfl rfl ⟨rfl, rfl, rfl, rfl, rfl⟩ rfl rfl rfl rfl rfl (by kernel_rfl) Try.func8 (by kernel_rfl)
    (of_decide_eq_true (by kernel_rfl)) (by unfold Func.isWrapper; first | (rw [if_pos (by decide +kernel)]; kernel_rfl) | (rw [if_neg (by decide +kernel)]; exact ⟨rfl, rfl⟩))
    (fun os started H enc _ => lifted os started H enc)

/-- The statement. -/
theorem proved : Rows.FnExactIsValidExprSaid := over
#print axioms proved
end Go.Proofs.Ytadfbidgbeoggaa.fnExactIsValidExpr
