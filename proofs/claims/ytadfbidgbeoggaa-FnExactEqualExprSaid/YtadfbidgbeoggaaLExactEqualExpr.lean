/- The law FnExactEqualExpr: whatever the arguments, the call returns true and leaves the arguments as they were. Conditions: none. -/
import Derived.Test.YtadfbidgbeoggaaRows
import Derived.Test.YtadfbidgbeoggaaKit
import Derived.Test.YtadfbidgbeoggaaExEq
import Derived.Test.YtadfbidgbeoggaaFrame
namespace Go.Proofs.Ytadfbidgbeoggaa.fnExactEqualExpr
open Go.ChangeShapes Go.WideShapes Go.ChangeAt Go.RowKit
set_option linter.unusedVariables false

theorem own : ownKnob Try.prog.godebug = none := by kernel_rfl

theorem ExR.one {D : Nat} {w : World} {e : Ex} {cs : List Value} {F : List Nat} (h : ExR D w e cs F) : ∀ v ∈ cs, v.oneCell' = true := by
  match D, h with
  | d + 1, h =>
    obtain ⟨A, cap, rfl, _⟩ := ex_form h
    intro v hv
    simp only [ExH.cells, List.mem_cons, List.not_mem_nil, or_false] at hv
    rcases hv with rfl | rfl | rfl | rfl | rfl | rfl | rfl <;> rfl
set_option maxRecDepth 100000 in
set_option maxHeartbeats 2000000 in
theorem walk (w : World) (D1 : Nat) (e1 : Ex) (cs1 : List Value) (F : List Nat) (h1 : ExR D1 w e1 cs1 F) (D2 : Nat) (e2 : Ex) (cs2 : List Value) (F' : List Nat) (h2 : ExR D2 w e2 cs2 F') : Calls Try.prog 6 #[.agg cs1.toArray, .agg cs2.toArray] w fun en w' => en = .returned (.bool true) ∧ Below w.heap.size w w' := by
  have h1 := h1.up (D1 + D2) (by omega)
  have h2 := h2.up (D1 + D2) (by omega)
  generalize D1 + D2 = D at h1 h2
  have HF := hide ((ExR.good D).lt h1)
  have HF' := hide ((ExR.good D).lt h2)
  obtain ⟨a0, a1, a2, a3, a4, a5, a6, rfl⟩ := list7 ((ExR.good D).len h1)
  obtain ⟨b0, b1, b2, b3, b4, b5, b6, rfl⟩ := list7 ((ExR.good D).len h2)
  have HX1 : Hid (∀ W : World, Below w.heap.size w W → ExR D W e1 [a0, a1, a2, a3, a4, a5, a6] F) := hide fun W hW => (ExR.good D).below h1 hW HF.out
  have HX2 : Hid (∀ W : World, Below w.heap.size w W → ExR D W e2 [b0, b1, b2, b3, b4, b5, b6] F') := hide fun W hW => (ExR.good D).below h2 hW HF'.out
  clear h1 h2
  obtain ⟨C1, C2, hz0, hw0⟩ := boxes2 w [a0, a1, a2, a3, a4, a5, a6] [b0, b1, b2, b3, b4, b5, b6] 24 24
  show Calls _ _ #[.agg #[a0, a1, a2, a3, a4, a5, a6], .agg #[b0, b1, b2, b3, b4, b5, b6]] w _
  go_enter Try.func6, Try.ntmps6
  go_wp2_with fail
  generalize (w.alloc (Obj.cells #[a0, a1, a2, a3, a4, a5, a6] 24)).alloc (Obj.cells #[b0, b1, b2, b3, b4, b5, b6] 24) = W0 at C1 C2 hz0 hw0 ⊢
  have hn0 : (w.heap.size + 2) ≤ W0.heap.size := by omega
  have Hw : Hid (∀ W : World, Below (w.heap.size + 2) W0 W → Below w.heap.size w W) := hide fun W h => hw0.trans (h.mono (by omega))
  have hB0 : Below (w.heap.size + 2) W0 W0 := Below.refl _ _
  have c0 := cell_rule C1 (n := (w.heap.size + 2)) (by omega) 0 (v := a0) rfl
  have c1 := cell_rule C1 (n := (w.heap.size + 2)) (by omega) 1 (v := a1) rfl
  have c2 := cell_rule C1 (n := (w.heap.size + 2)) (by omega) 2 (v := a2) rfl
  have c3 := cell_rule C1 (n := (w.heap.size + 2)) (by omega) 3 (v := a3) rfl
  have c4 := cell_rule C1 (n := (w.heap.size + 2)) (by omega) 4 (v := a4) rfl
  have c5 := cell_rule C1 (n := (w.heap.size + 2)) (by omega) 5 (v := a5) rfl
  have c6 := cell_rule C1 (n := (w.heap.size + 2)) (by omega) 6 (v := a6) rfl
  have d0 := cell_rule C2 (n := (w.heap.size + 2)) (by omega) 0 (v := b0) rfl
  have d1 := cell_rule C2 (n := (w.heap.size + 2)) (by omega) 1 (v := b1) rfl
  have d2 := cell_rule C2 (n := (w.heap.size + 2)) (by omega) 2 (v := b2) rfl
  have d3 := cell_rule C2 (n := (w.heap.size + 2)) (by omega) 3 (v := b3) rfl
  have d4 := cell_rule C2 (n := (w.heap.size + 2)) (by omega) 4 (v := b4) rfl
  have d5 := cell_rule C2 (n := (w.heap.size + 2)) (by omega) 5 (v := b5) rfl
  have d6 := cell_rule C2 (n := (w.heap.size + 2)) (by omega) 6 (v := b6) rfl
  have hD : ∀ W : World, Below (w.heap.size + 2) W0 W → Below (w.heap.size + 2) W0 W.drew := fun _ h => h.drew
  have hA : ∀ (W : World) (o : Obj), Below (w.heap.size + 2) W0 W → Below (w.heap.size + 2) W0 (W.alloc o) := fun _ o h => below_alloc hn0 o h
  clear C1 C2 hz0 hw0
  refine Calls.mono (l_szExpr D e1 _ F _ 1048576 (HX1.out _ (Hw.out _ hB0)) (by omega) (by omega)) ?_
  rintro en W1 ⟨⟨r, rfl, hr⟩, hb⟩
  have hB1 : Below (w.heap.size + 2) W0 W1 := below_step hB0 hn0 hb
  clear hb
  rcases hr with rfl | ⟨hr0, hr1⟩
  · go_wp2_with fail
    go_ret
    exact ⟨rfl, Hw.out _ hB1⟩
  have Hnn := hide (bulkE_nonneg D e1)
  have Hbk1 : Hid (bulkE D e1 ≤ 1048576) := hide (by omega)
  have hr2 : r ≤ 1048576 := by have := Hnn.out; omega
  clear hr1
  go_wp2_with fail
  refine Calls.mono (l_szExpr D e2 _ F' _ r (HX2.out _ (Hw.out _ hB1)) hr0 hr2) ?_
  rintro en W2 ⟨⟨q, rfl, hq⟩, hb⟩
  have hB2 : Below (w.heap.size + 2) W0 W2 := below_step hB1 hn0 hb
  clear hb
  rcases hq with rfl | ⟨hq0, hq1⟩
  · go_wp2_with fail
    go_ret
    exact ⟨rfl, Hw.out _ hB2⟩
  have Hbk2 : Hid (bulkE D e2 ≤ 1048576) := hide (by omega)
  clear hq1 hr2
  have HT1 : Hid (∀ W : World, Below (w.heap.size + 2) W0 W → Calls Try.prog 16 #[.agg #[a0, a1, a2, a3, a4, a5, a6]] W fun en w' => ∃ us F', en = .returned (.agg (List.toArray us)) ∧ ExR D w' e1 us F' ∧ Fresh W.heap.size w' F' ∧ Below W.heap.size W w') := hide fun W hW =>
    (l_toExpr D e1 _ F W (HX1.out W (Hw.out W hW)) (slim_of_bulk Hbk1.out)).mono fun en w' ⟨A, cap, F', h1, h2, h3, h4⟩ => ⟨_, F', h1, h2, h3, h4⟩
  have HT2 : Hid (∀ W : World, Below (w.heap.size + 2) W0 W → Calls Try.prog 16 #[.agg #[b0, b1, b2, b3, b4, b5, b6]] W fun en w' => ∃ us F', en = .returned (.agg (List.toArray us)) ∧ ExR D w' e2 us F' ∧ Fresh W.heap.size w' F' ∧ Below W.heap.size W w') := hide fun W hW =>
    (l_toExpr D e2 _ F' W (HX2.out W (Hw.out W hW)) (slim_of_bulk Hbk2.out)).mono fun en w' ⟨A, cap, F', h1, h2, h3, h4⟩ => ⟨_, F', h1, h2, h3, h4⟩
  go_wp2_with fail
  go_region_held3 (fun W => Below (w.heap.size + 2) W0 W)
    (first | assumption | exact Below.drew (by assumption))
    (first
      | (go_at_call_has 16 a0; refine Calls.mono (HT1.out _ ?hw) ?_; (case hw => (repeat (first | assumption | apply Below.drew | refine below_alloc (by assumption) _ ?_))); rintro en W3 ⟨us, Fu, rfl, hR, hf, hb⟩; obtain ⟨u0, u1, u2, u3, u4, u5, u6, rfl⟩ := list7 ((ExR.good D).len hR); have hBW3 : Below (w.heap.size + 2) W0 W3 := below_step (by (repeat (first | assumption | apply Below.drew | refine below_alloc (by assumption) _ ?_))) hn0 hb; have hbW3 := hb; have HLu := hide hf.lt; have HRu := hide hR; clear hR hf hb)
      | (go_at_call_has 16 b0; refine Calls.mono (HT2.out _ ?hw) ?_; (case hw => (repeat (first | assumption | apply Below.drew | refine below_alloc (by assumption) _ ?_))); rintro en W4 ⟨us, Fv, rfl, hR, hf, hb⟩; obtain ⟨v0, v1, v2, v3, v4, v5, v6, rfl⟩ := list7 ((ExR.good D).len hR); have hBW4 : Below (w.heap.size + 2) W0 W4 := below_step (by (repeat (first | assumption | apply Below.drew | refine below_alloc (by assumption) _ ?_))) hn0 hb; have hbW4 := hb; have HLv := hide hf.lt; have HRv := hide hR; clear hR hf hb)
      | (go_at_call 23; refine Calls.mono (s_EqualExpr D e1 e2 _ _ Fu Fv _ ((ExR.good D).below HRu.out hbW4 HLu.out) HRv.out) ?_; rintro en W5 ⟨rfl, hb⟩; have hB5 : Below (w.heap.size + 2) W0 W5 := below_step (by (repeat (first | assumption | apply Below.drew | refine below_alloc (by assumption) _ ?_))) hn0 hb; clear hb))
  clear HRu HRv HLu HLv hbW3 hbW4
  have hst := fun (w : World) (a : Addr) (v : Value) (m : Mode) (hv : v.oneCell' = true) => run_store Try.prog w a v m hv
  go_wp2_with fail
  refine Calls.mono (HT1.out _ (by (repeat (first | assumption | apply Below.drew | refine below_alloc (by assumption) _ ?_)))) ?_
  rintro en W6 ⟨us, Fx, rfl, hR, hf, hb⟩
  obtain ⟨x0, x1, x2, x3, x4, x5, x6, rfl⟩ := list7 ((ExR.good D).len hR)
  have hB6 : Below (w.heap.size + 2) W0 W6 := below_step (by (repeat (first | assumption | apply Below.drew | refine below_alloc (by assumption) _ ?_))) hn0 hb
  have ho := ExR.one hR
  have ox0 := ho x0 (by simp)
  have ox1 := ho x1 (by simp)
  have ox2 := ho x2 (by simp)
  have ox3 := ho x3 (by simp)
  have ox4 := ho x4 (by simp)
  have ox5 := ho x5 (by simp)
  have ox6 := ho x6 (by simp)
  have HRx := hide hR
  have HLx := hide hf.lt
  clear hb hf ho hR
  go_wp2_with fail
  have Cx := CellsAt.new W6 [x0, x1, x2, x3, x4, x5, x6] 29
  have hbx := below_box (o := Obj.cells #[x0, x1, x2, x3, x4, x5, x6] 29) hB6 hn0
  have hz := World.size_alloc W6 (Obj.cells #[x0, x1, x2, x3, x4, x5, x6] 29)
  have HV1 : Hid (∀ V : World, Below (W6.heap.size + 1) (W6.alloc (Obj.cells #[x0, x1, x2, x3, x4, x5, x6] 29)) V → ExR D V e1 [x0, x1, x2, x3, x4, x5, x6] Fx) := hide fun V hV => (ExR.good D).below HRx.out (below_of_box hV) HLx.out
  generalize W6.alloc (Obj.cells #[x0, x1, x2, x3, x4, x5, x6] 29) = V1 at Cx hbx hz HV1 ⊢
  have hn1 : (W6.heap.size + 1) ≤ V1.heap.size := Nat.le_of_eq hz.symm
  have hBV1 : Below (W6.heap.size + 1) V1 V1 := Below.refl _ _
  have cx0 := cell_rule Cx (n := (W6.heap.size + 1)) (by omega) 0 (v := x0) rfl
  have cx1 := cell_rule Cx (n := (W6.heap.size + 1)) (by omega) 1 (v := x1) rfl
  have cx2 := cell_rule Cx (n := (W6.heap.size + 1)) (by omega) 2 (v := x2) rfl
  have cx3 := cell_rule Cx (n := (W6.heap.size + 1)) (by omega) 3 (v := x3) rfl
  have cx4 := cell_rule Cx (n := (W6.heap.size + 1)) (by omega) 4 (v := x4) rfl
  have cx5 := cell_rule Cx (n := (W6.heap.size + 1)) (by omega) 5 (v := x5) rfl
  have cx6 := cell_rule Cx (n := (W6.heap.size + 1)) (by omega) 6 (v := x6) rfl
  have hDV1 : ∀ W : World, Below (W6.heap.size + 1) V1 W → Below (W6.heap.size + 1) V1 W.drew := fun _ h => h.drew
  have hAV1 : ∀ (W : World) (o : Obj), Below (W6.heap.size + 1) V1 W → Below (W6.heap.size + 1) V1 (W.alloc o) := fun _ o h => below_alloc hn1 o h
  clear Cx HRx HLx hz ox0 ox1 ox2 ox3 ox4 ox5 ox6
  go_wp2_with fail
  refine Calls.mono (HT2.out _ (hbx _ (by (repeat (first | assumption | apply Below.drew | refine below_alloc (by assumption) _ ?_))))) ?_
  rintro en W7 ⟨us, Fy, rfl, hR, hf, hb⟩
  obtain ⟨y0, y1, y2, y3, y4, y5, y6, rfl⟩ := list7 ((ExR.good D).len hR)
  have hB7 : Below (W6.heap.size + 1) V1 W7 := below_step (by (repeat (first | assumption | apply Below.drew | refine below_alloc (by assumption) _ ?_))) hn1 hb
  have ho := ExR.one hR
  have oy0 := ho y0 (by simp)
  have oy1 := ho y1 (by simp)
  have oy2 := ho y2 (by simp)
  have oy3 := ho y3 (by simp)
  have oy4 := ho y4 (by simp)
  have oy5 := ho y5 (by simp)
  have oy6 := ho y6 (by simp)
  have HRy := hide hR
  have HLy := hide hf.lt
  clear hb hf ho hR
  go_wp2_with fail
  have Cy := CellsAt.new W7 [y0, y1, y2, y3, y4, y5, y6] 29
  have hby := below_box (o := Obj.cells #[y0, y1, y2, y3, y4, y5, y6] 29) hB7 hn1
  have hz := World.size_alloc W7 (Obj.cells #[y0, y1, y2, y3, y4, y5, y6] 29)
  have HV2 : Hid (∀ V : World, Below (W7.heap.size + 1) (W7.alloc (Obj.cells #[y0, y1, y2, y3, y4, y5, y6] 29)) V → ExR D V e2 [y0, y1, y2, y3, y4, y5, y6] Fy) := hide fun V hV => (ExR.good D).below HRy.out (below_of_box hV) HLy.out
  generalize W7.alloc (Obj.cells #[y0, y1, y2, y3, y4, y5, y6] 29) = V2 at Cy hby hz HV2 ⊢
  have hn2 : (W7.heap.size + 1) ≤ V2.heap.size := Nat.le_of_eq hz.symm
  have hBV2 : Below (W7.heap.size + 1) V2 V2 := Below.refl _ _
  have cy0 := cell_rule Cy (n := (W7.heap.size + 1)) (by omega) 0 (v := y0) rfl
  have cy1 := cell_rule Cy (n := (W7.heap.size + 1)) (by omega) 1 (v := y1) rfl
  have cy2 := cell_rule Cy (n := (W7.heap.size + 1)) (by omega) 2 (v := y2) rfl
  have cy3 := cell_rule Cy (n := (W7.heap.size + 1)) (by omega) 3 (v := y3) rfl
  have cy4 := cell_rule Cy (n := (W7.heap.size + 1)) (by omega) 4 (v := y4) rfl
  have cy5 := cell_rule Cy (n := (W7.heap.size + 1)) (by omega) 5 (v := y5) rfl
  have cy6 := cell_rule Cy (n := (W7.heap.size + 1)) (by omega) 6 (v := y6) rfl
  have hDV2 : ∀ W : World, Below (W7.heap.size + 1) V2 W → Below (W7.heap.size + 1) V2 W.drew := fun _ h => h.drew
  have hAV2 : ∀ (W : World) (o : Obj), Below (W7.heap.size + 1) V2 W → Below (W7.heap.size + 1) V2 (W.alloc o) := fun _ o h => below_alloc hn2 o h
  clear Cy HRy HLy hz oy0 oy1 oy2 oy3 oy4 oy5 oy6
  go_wp2_with fail
  refine Calls.mono (i_EqualExpr D e1 e2 _ _ Fx Fy _ (HV1.out _ (hby _ hBV2)) (HV2.out _ hBV2)) ?_
  rintro en W8 ⟨rfl, hb⟩
  have hB8 : Below (W7.heap.size + 1) V2 W8 := below_step hBV2 hn2 hb
  clear hb
  have hbz := fun (V : World) (h : Below (W7.heap.size + 1) V2 V) => hbx V (hby V h)
  have Hr1 := hide (eqE_refl D e1)
  have Hr2 := hide (eqE_refl D e2)
  go_wp2_with fail
  go_region_held3 (fun W => Below (W7.heap.size + 1) V2 W)
    (first | assumption | exact Below.drew (by assumption))
    (first
      | (go_at_call_has 16 a0; refine Calls.mono (HT1.out _ (hbz _ ?hw)) ?_; (case hw => (repeat (first | assumption | apply Below.drew | refine below_alloc (by assumption) _ ?_))); rintro en W9 ⟨us, Fp, rfl, hR, hf, hb⟩; obtain ⟨p0, p1, p2, p3, p4, p5, p6, rfl⟩ := list7 ((ExR.good D).len hR); have hBW9 : Below (W7.heap.size + 1) V2 W9 := below_step (by (repeat (first | assumption | apply Below.drew | refine below_alloc (by assumption) _ ?_))) hn2 hb; have HRp := hide hR; clear hR hf hb)
      | (go_at_call 18; refine Calls.mono (l_eqExpr D e1 e1 _ _ Fx Fp _ (HV1.out _ (hby _ hBW9)) HRp.out) ?_; rintro en W10 ⟨rfl, hb⟩; have hBW10 : Below (W7.heap.size + 1) V2 W10 := below_step (by (repeat (first | assumption | apply Below.drew | refine below_alloc (by assumption) _ ?_))) hn2 hb; clear hb; rw [Hr1.out]))
  go_wp2_with fail
  go_region_held3 (fun W => Below (W7.heap.size + 1) V2 W)
    (first | assumption | exact Below.drew (by assumption))
    (first
      | (go_at_call_has 16 b0; refine Calls.mono (HT2.out _ (hbz _ ?hw)) ?_; (case hw => (repeat (first | assumption | apply Below.drew | refine below_alloc (by assumption) _ ?_))); rintro en W11 ⟨us, Fq, rfl, hR, hf, hb⟩; obtain ⟨q0, q1, q2, q3, q4, q5, q6, rfl⟩ := list7 ((ExR.good D).len hR); have hBW11 : Below (W7.heap.size + 1) V2 W11 := below_step (by (repeat (first | assumption | apply Below.drew | refine below_alloc (by assumption) _ ?_))) hn2 hb; have HRq := hide hR; clear hR hf hb)
      | (go_at_call 18; refine Calls.mono (l_eqExpr D e2 e2 _ _ Fy Fq _ (HV2.out _ hBW11) HRq.out) ?_; rintro en W12 ⟨rfl, hb⟩; have hBW12 : Below (W7.heap.size + 1) V2 W12 := below_step (by (repeat (first | assumption | apply Below.drew | refine below_alloc (by assumption) _ ?_))) hn2 hb; clear hb; rw [Hr2.out]))
  go_wp2_with fail
  go_ret
  exact ⟨rfl, Hw.out _ (hbx _ (hby _ hBW12))⟩

set_option maxRecDepth 100000 in
theorem lifted (os : Os) (started : os.Started) (H : Type) (enc : TypeId × Value → H) :
    ReturnsInHanded {} Try.checked os 6 .any (Rows.fnExactEqualExprSpec.pre6 enc Try.prog Try.f6 Rows.fnExactEqualExprRow.domain false) (Rows.fnExactEqualExprSpec.post enc Try.prog Try.f6 false true false false) := by
  refine returnsInHanded_of_change (C := Try.checked) own started (by kernel_rfl) Try.func6
    (ChangeSpec.witness6 (enc := enc) (C := Try.checked) false ⟨#[], #[.agg #[.int .i64 0, .int .i64 0, .int .i64 0, .int .i64 0, .string ByteArray.empty, .string ByteArray.empty, .slice none 0 0], .agg #[.int .i64 0, .int .i64 0, .int .i64 0, .int .i64 0, .string ByteArray.empty, .string ByteArray.empty, .slice none 0 0]], []⟩ 12 (by kernel_rfl) (by kernel_rfl) (by kernel_rfl) (by kernel_rfl)) ?_
  intro W base args ds gs before hval0 hW hcnd _
  have hval : ∀ (j : Nat) t v, Try.f6.params[j]? = some t → args[j]? = some v → Value.okWide Try.prog W .any base t v := hval0
  have hW' := hW
  obtain ⟨p, q, hA0, hV, rfl, hfz, hnd⟩ := hW
  have hA : DataW.TrodAll enc Try.prog W 0 (fun _ => true) true Try.f6.params.toList args.toList ds p := hA0
  rw [Try.params6] at hA hval
  obtain ⟨v0, vs0, d0, ds0, p0, q0, hargs, rfl, rfl, h0, r0x⟩ := trodAll_cons hA
  obtain ⟨v1, vs1, d1, ds1, p1, q1, rfl, rfl, rfl, h1, r1x⟩ := trodAll_cons r0x
  obtain ⟨rfl, rfl, rfl⟩ := trodAll_nil r1x
  obtain rfl : args = #[v0, v1] := by cases args; simp_all
  obtain ⟨rfl, rfl⟩ := trodVars_none hV
  obtain ⟨D0, a0, cs0, F0, rfl, w0⟩ := open_Expr (hval 0 24 v0 rfl rfl) h0
  obtain ⟨D1, a1, cs1, F1, rfl, w1⟩ := open_Expr (hval 1 24 v1 rfl rfl) h1
  clear hA0 hval0
  refine (walk W D0 a0 cs0 F0 w0 D1 a1 cs1 F1 w1).mono fun e W' ⟨he, hb⟩ => ?_
  exact ⟨_, he, law_post (gs := []) hW' hb (by kernel_rfl) (by kernel_rfl) (by kernel_rfl) Try.underlying4 rfl rfl⟩

theorem over : Rows.fnExactEqualExprRow.holds Try.pinned (OpenSpec.ofChange Rows.fnExactEqualExprSpec) :=
  OpenClaim.holds_of_wide 6 Try.f6 rfl rfl rfl rfl rfl rfl rfl ⟨rfl, rfl, rfl, rfl, rfl⟩ rfl rfl rfl rfl rfl (by kernel_rfl) Try.func6 (by kernel_rfl)
    (of_decide_eq_true (by kernel_rfl)) (by unfold Func.isWrapper; first | (rw [if_pos (by decide +kernel)]; kernel_rfl) | (rw [if_neg (by decide +kernel)]; exact ⟨rfl, rfl⟩))
    (fun os started H enc _ => lifted os started H enc)

/-- The statement. -/
theorem proved : Rows.FnExactEqualExprSaid := over
#print axioms proved
end Go.Proofs.Ytadfbidgbeoggaa.fnExactEqualExpr
