/- The law FnExactFindAttribute: whatever the arguments, the call returns true and leaves the arguments as they were. Conditions: none. -/
import Derived.Test.YtemghikeolikpaaRows
import Derived.Test.YtemghikeolikpaaKit
import Derived.Test.YtemghikeolikpaaSymFns
namespace Go.Proofs.Ytemghikeolikpaa.fnExactFindAttribute
open Go.ChangeShapes Go.WideShapes Go.ChangeAt Go.RowKit
set_option linter.unusedVariables false

theorem own : ownKnob Try.prog.godebug = none := by kernel_rfl

set_option maxRecDepth 100000 in
set_option maxHeartbeats 4000000 in
theorem walk (w : World) (D0 : Nat) (x0 : Sym) (cs0 : List Value) (F0 : List Nat) (h0 : SymR D0 w x0 cs0 F0) (x1 : ByteArray) (hx1 : x1.size ≤ maxLen) : Calls Try.prog 10 #[.agg cs0.toArray, .string x1] w fun en w' => en = .returned (.bool true) ∧ Below w.heap.size w w' := by
  have h0 := h0.up (D0) (by omega)
  generalize D0 = D at h0
  have HF0 := hide ((SymR.good D).lt h0)
  obtain ⟨av0, av1, rfl⟩ := list2 ((SymR.good D).len h0)
  have HX0 : Hid (∀ W : World, Below w.heap.size w W → SymR D W x0 [av0, av1] F0) := hide fun W hW => (SymR.good D).below h0 hW HF0.out
  clear h0
  obtain ⟨C0, hz0, hw0⟩ := boxes1 w [av0, av1] 47
  show Calls _ _ #[.agg #[av0, av1], .string x1] w _
  unfold maxLen at hx1
  by_cases hb1 : x1.size ≤ 1048576
  case neg =>
    go_enter Try.func10, Try.ntmps10
    go_wp2_with fail
    go_ret
    exact ⟨rfl, hw0⟩
  go_enter Try.func10, Try.ntmps10
  go_wp2_with fail
  generalize w.alloc (Obj.cells #[av0, av1] 47) = V0 at C0 hz0 hw0 ⊢
  have hn0 : (w.heap.size + 1) ≤ V0.heap.size := by omega
  have Hw : Hid (∀ W : World, Below (w.heap.size + 1) V0 W → Below w.heap.size w W) := hide fun W h => hw0.trans (h.mono (by omega))
  have hV0 : Below (w.heap.size + 1) V0 V0 := Below.refl _ _
  have c0_0 := cell_rule C0 (n := (w.heap.size + 1)) (by omega) 0 (v := av0) rfl
  have c0_1 := cell_rule C0 (n := (w.heap.size + 1)) (by omega) 1 (v := av1) rfl
  have hD0 : ∀ W : World, Below (w.heap.size + 1) V0 W → Below (w.heap.size + 1) V0 W.drew := fun _ h => h.drew
  have hA0 : ∀ (W : World) (o : Obj), Below (w.heap.size + 1) V0 W → Below (w.heap.size + 1) V0 (W.alloc o) := fun _ o h => below_alloc hn0 o h
  clear C0 hz0 hw0
  refine Calls.mono (z_Sym D x0 _ F0 _ 1048576 (HX0.out _ (Hw.out _ (by assumption))) (by omega) (by omega)) ?_
  rintro en W1 ⟨⟨r0, rfl, hr⟩, hb⟩
  have hW1 : Below (w.heap.size + 1) V0 W1 := below_step (by (repeat (first | assumption | apply Below.drew | refine below_alloc (by assumption) _ ?_))) hn0 hb
  clear hb
  rcases hr with rfl | ⟨hr0, hq⟩
  · go_wp2_with fail
    go_ret
    exact ⟨rfl, Hw.out _ hW1⟩
  have hnn := bulkSym_nonneg D x0
  have Hbk0 : Hid (bulkSym D x0 ≤ 1048576) := hide (by omega)
  have hl0 : r0 ≤ 1048576 := by omega
  clear hq hnn
  have HT0 : Hid (∀ W : World, Below (w.heap.size + 1) V0 W → Calls Try.prog 37 #[.agg #[av0, av1]] W fun en w' => ∃ us F', en = .returned (.agg (List.toArray us)) ∧ SymR D w' x0 us F' ∧ Fresh W.heap.size w' F' ∧ Below W.heap.size W w') := hide fun W hW =>
    c_Sym D x0 _ F0 W (HX0.out W (Hw.out W hW)) Hbk0.out
  go_wp2_with fail
  clear hr0 hl0
  have hst := fun (w : World) (a : Addr) (v : Value) (m : Mode) (hv : v.oneCell' = true) => run_store Try.prog w a v m hv
  refine Calls.mono (HT0.out _ (by (repeat (first | assumption | apply Below.drew | refine below_alloc (by assumption) _ ?_)))) ?_
  rintro en W2 ⟨us, Fu, rfl, hR, hf, hb⟩
  obtain ⟨u0, u1, rfl⟩ := list2 ((SymR.good D).len hR)
  have hW2 : Below (w.heap.size + 1) V0 W2 := below_step (by (repeat (first | assumption | apply Below.drew | refine below_alloc (by assumption) _ ?_))) (by assumption) hb
  have hbu := hb
  have HLu := hide hf.lt
  have HRu := hide hR
  have HEu := hide hf
  clear hR hf hb
  go_wp2_with fail
  refine Calls.mono (s_FindAttribute D x0 _ Fu _ HRu.out x1) ?_
  rintro en W3 ⟨us, Fw, rfl, hR, hf, hb⟩
  obtain ⟨wr0, wr1, wr2, wr3, rfl⟩ := list4 ((AtrR.good D).len hR)
  have ho := AtrR.one hR
  have owr0 := ho wr0 (by simp)
  have owr1 := ho wr1 (by simp)
  have owr2 := ho wr2 (by simp)
  have owr3 := ho wr3 (by simp)
  have HRw := hide hR
  have HLw := hide hf.lt
  have hW3 : Below (w.heap.size + 1) V0 W3 := below_step (by (repeat (first | assumption | apply Below.drew | refine below_alloc (by assumption) _ ?_))) hn0 hb
  clear hb
  have hbx := below_alloc hn0 (Obj.cells #[wr0, wr1, wr2, wr3] 40) hW3
  clear hf ho hR
  go_wp2_with fail
  clear hbx
  have Cx := CellsAt.new W3 [wr0, wr1, wr2, wr3] 40
  have hb0_1 := below_box (o := Obj.cells #[wr0, wr1, wr2, wr3] 40) (by (repeat (first | assumption | apply Below.drew | refine below_alloc (by assumption) _ ?_)) : Below (w.heap.size + 1) V0 W3) hn0
  have hz := World.size_alloc W3 (Obj.cells #[wr0, wr1, wr2, wr3] 40)
  have HVw : Hid (∀ V : World, Below (W3.heap.size + 1) (W3.alloc (Obj.cells #[wr0, wr1, wr2, wr3] 40)) V → AtrR D V ((findA x0.attrs x1).getD Atr.zero) [wr0, wr1, wr2, wr3] Fw) := hide fun V hV => (AtrR.good D).below HRw.out (below_of_box hV) HLw.out
  generalize W3.alloc (Obj.cells #[wr0, wr1, wr2, wr3] 40) = V1 at Cx hb0_1 hz HVw ⊢
  have hn1 : (W3.heap.size + 1) ≤ V1.heap.size := Nat.le_of_eq hz.symm
  have hV1 : Below (W3.heap.size + 1) V1 V1 := Below.refl _ _
  have cx1_0 := cell_rule Cx (n := (W3.heap.size + 1)) (by omega) 0 (v := wr0) rfl
  have cx1_1 := cell_rule Cx (n := (W3.heap.size + 1)) (by omega) 1 (v := wr1) rfl
  have cx1_2 := cell_rule Cx (n := (W3.heap.size + 1)) (by omega) 2 (v := wr2) rfl
  have cx1_3 := cell_rule Cx (n := (W3.heap.size + 1)) (by omega) 3 (v := wr3) rfl
  have hD1 : ∀ W : World, Below (W3.heap.size + 1) V1 W → Below (W3.heap.size + 1) V1 W.drew := fun _ h => h.drew
  have hA1 : ∀ (W : World) (o : Obj), Below (W3.heap.size + 1) V1 W → Below (W3.heap.size + 1) V1 (W.alloc o) := fun _ o h => below_alloc hn1 o h
  clear Cx hz
  clear HRw HLw owr0 owr1 owr2 owr3
  clear HRu HLu hbu HEu
  go_wp2_with fail
  refine Calls.mono (HT0.out _ (hb0_1 _ (by (repeat (first | assumption | apply Below.drew | refine below_alloc (by assumption) _ ?_))))) ?_
  rintro en W4 ⟨us, Fx0_, rfl, hR, hf, hb⟩
  obtain ⟨x0_0, x0_1, rfl⟩ := list2 ((SymR.good D).len hR)
  have ho := SymR.one hR
  have ox0_0 := ho x0_0 (by simp)
  have ox0_1 := ho x0_1 (by simp)
  have HRx0_ := hide hR
  have HLx0_ := hide hf.lt
  have hW4 : Below (W3.heap.size + 1) V1 W4 := below_step (by (repeat (first | assumption | apply Below.drew | refine below_alloc (by assumption) _ ?_))) hn1 hb
  clear hb
  clear hf ho hR
  go_wp2_with fail
  have Cx := CellsAt.new W4 [x0_0, x0_1] 53
  have hb1_2 := below_box (o := Obj.cells #[x0_0, x0_1] 53) (by (repeat (first | assumption | apply Below.drew | refine below_alloc (by assumption) _ ?_)) : Below (W3.heap.size + 1) V1 W4) hn1
  have hz := World.size_alloc W4 (Obj.cells #[x0_0, x0_1] 53)
  have HV0 : Hid (∀ V : World, Below (W4.heap.size + 1) (W4.alloc (Obj.cells #[x0_0, x0_1] 53)) V → SymR D V x0 [x0_0, x0_1] Fx0_) := hide fun V hV => (SymR.good D).below HRx0_.out (below_of_box hV) HLx0_.out
  generalize W4.alloc (Obj.cells #[x0_0, x0_1] 53) = V2 at Cx hb1_2 hz HV0 ⊢
  have hn2 : (W4.heap.size + 1) ≤ V2.heap.size := Nat.le_of_eq hz.symm
  have hV2 : Below (W4.heap.size + 1) V2 V2 := Below.refl _ _
  have cx2_0 := cell_rule Cx (n := (W4.heap.size + 1)) (by omega) 0 (v := x0_0) rfl
  have cx2_1 := cell_rule Cx (n := (W4.heap.size + 1)) (by omega) 1 (v := x0_1) rfl
  have hD2 : ∀ W : World, Below (W4.heap.size + 1) V2 W → Below (W4.heap.size + 1) V2 W.drew := fun _ h => h.drew
  have hA2 : ∀ (W : World) (o : Obj), Below (W4.heap.size + 1) V2 W → Below (W4.heap.size + 1) V2 (W.alloc o) := fun _ o h => below_alloc hn2 o h
  have hb0_2 := fun (V : World) (h : Below (W4.heap.size + 1) V2 V) => hb0_1 V (hb1_2 V h)
  clear Cx hz hb0_1
  clear HRx0_ HLx0_ ox0_0 ox0_1
  go_wp2_with fail
  refine Calls.mono (i_FindAttribute D x0 _ Fx0_ _ (HV0.out _ (hV2)) x1) ?_
  rintro en W5 ⟨us, Fg, rfl, hR, hf, hb⟩
  obtain ⟨gr0, gr1, gr2, gr3, rfl⟩ := list4 ((AtrR.good D).len hR)
  have ho := AtrR.one hR
  have ogr0 := ho gr0 (by simp)
  have ogr1 := ho gr1 (by simp)
  have ogr2 := ho gr2 (by simp)
  have ogr3 := ho gr3 (by simp)
  have HRg := hide hR
  have HLg := hide hf.lt
  have hW5 : Below (W4.heap.size + 1) V2 W5 := below_step (by (repeat (first | assumption | apply Below.drew | refine below_alloc (by assumption) _ ?_))) hn2 hb
  clear hb
  have hbx := below_alloc hn2 (Obj.cells #[gr0, gr1, gr2, gr3] 40) hW5
  clear hf ho hR
  go_wp2_with fail
  clear hbx
  have Cx := CellsAt.new W5 [gr0, gr1, gr2, gr3] 40
  have hb2_3 := below_box (o := Obj.cells #[gr0, gr1, gr2, gr3] 40) (by (repeat (first | assumption | apply Below.drew | refine below_alloc (by assumption) _ ?_)) : Below (W4.heap.size + 1) V2 W5) hn2
  have hz := World.size_alloc W5 (Obj.cells #[gr0, gr1, gr2, gr3] 40)
  have HVg : Hid (∀ V : World, Below (W5.heap.size + 1) (W5.alloc (Obj.cells #[gr0, gr1, gr2, gr3] 40)) V → AtrR D V ((findA x0.attrs x1).getD Atr.zero) [gr0, gr1, gr2, gr3] Fg) := hide fun V hV => (AtrR.good D).below HRg.out (below_of_box hV) HLg.out
  generalize W5.alloc (Obj.cells #[gr0, gr1, gr2, gr3] 40) = V3 at Cx hb2_3 hz HVg ⊢
  have hn3 : (W5.heap.size + 1) ≤ V3.heap.size := Nat.le_of_eq hz.symm
  have hV3 : Below (W5.heap.size + 1) V3 V3 := Below.refl _ _
  have cx3_0 := cell_rule Cx (n := (W5.heap.size + 1)) (by omega) 0 (v := gr0) rfl
  have cx3_1 := cell_rule Cx (n := (W5.heap.size + 1)) (by omega) 1 (v := gr1) rfl
  have cx3_2 := cell_rule Cx (n := (W5.heap.size + 1)) (by omega) 2 (v := gr2) rfl
  have cx3_3 := cell_rule Cx (n := (W5.heap.size + 1)) (by omega) 3 (v := gr3) rfl
  have hD3 : ∀ W : World, Below (W5.heap.size + 1) V3 W → Below (W5.heap.size + 1) V3 W.drew := fun _ h => h.drew
  have hA3 : ∀ (W : World) (o : Obj), Below (W5.heap.size + 1) V3 W → Below (W5.heap.size + 1) V3 (W.alloc o) := fun _ o h => below_alloc hn3 o h
  have hb0_3 := fun (V : World) (h : Below (W5.heap.size + 1) V3 V) => hb0_2 V (hb2_3 V h)
  have hb1_3 := fun (V : World) (h : Below (W5.heap.size + 1) V3 V) => hb1_2 V (hb2_3 V h)
  clear Cx hz hb0_2 hb1_2
  clear HRg HLg ogr0 ogr1 ogr2 ogr3
  go_wp2_with fail
  refine Calls.mono (e_Atr D ((findA x0.attrs x1).getD Atr.zero) _ _ Fg Fw _ (HVg.out _ (by (repeat (first | assumption | apply Below.drew | refine below_alloc (by assumption) _ ?_)))) (HVw.out _ (hb1_3 _ (by (repeat (first | assumption | apply Below.drew | refine below_alloc (by assumption) _ ?_)))))) ?_
  rintro en W6 ⟨rfl, hb⟩
  have hW6 : Below (W5.heap.size + 1) V3 W6 := below_step (by (repeat (first | assumption | apply Below.drew | refine below_alloc (by assumption) _ ?_))) hn3 hb
  clear hb
  go_wp2_with fail
  go_region_held3 (fun W => Below (W5.heap.size + 1) V3 W)
    (first | assumption | exact Below.drew (by assumption))
    (first
      | (go_at_call_has 37 av0; refine Calls.mono (HT0.out _ (hb0_3 _ (?hw))) ?_; (case hw => (repeat (first | assumption | apply Below.drew | refine below_alloc (by assumption) _ ?_))); rintro en W7 ⟨us, Fp, rfl, hR, hf, hb⟩; obtain ⟨p0, p1, rfl⟩ := list2 ((SymR.good D).len hR); have hW7 : Below (W5.heap.size + 1) V3 W7 := below_step (by (repeat (first | assumption | apply Below.drew | refine below_alloc (by assumption) _ ?_))) (by assumption) hb; have hbp := hb; have HLp := hide hf.lt; have HRp := hide hR; have HEp := hide hf; clear hR hf hb)
      | (go_at_call 40; refine Calls.mono (e_Sym D x0 _ _ Fx0_ Fp _ (HV0.out _ (hb2_3 _ (by assumption))) HRp.out) ?_; rintro en W8 ⟨rfl, hb⟩; have hW8 : Below (W5.heap.size + 1) V3 W8 := below_step (by (repeat (first | assumption | apply Below.drew | refine below_alloc (by assumption) _ ?_))) (by assumption) hb; clear hb))
  clear HRp HLp hbp HEp
  go_wp2_with fail
  go_ret
  exact ⟨rfl, Hw.out _ (hb0_3 _ (by assumption))⟩

set_option maxRecDepth 100000 in
theorem lifted (os : Os) (started : os.Started) (H : Type) (enc : TypeId × Value → H) :
    ReturnsInHanded {} Try.checked os 10 .any (Rows.fnExactFindAttributeSpec.pre6 enc Try.prog Try.f10 Rows.fnExactFindAttributeRow.domain false) (Rows.fnExactFindAttributeSpec.post enc Try.prog Try.f10 false true false false) := by
  refine returnsInHanded_of_change (C := Try.checked) own started (by kernel_rfl) Try.func10
    (ChangeSpec.witness6 (enc := enc) (C := Try.checked) false ⟨#[], #[.agg #[.string ByteArray.empty, .slice none 0 0], .string ByteArray.empty], []⟩ 12 (by kernel_rfl) (by kernel_rfl) (by kernel_rfl) (by kernel_rfl)) ?_
  intro W base args ds gs before hval0 hW hcnd _
  have hval : ∀ (j : Nat) t v, Try.f10.params[j]? = some t → args[j]? = some v → Value.okWide Try.prog W .any base t v := hval0
  have hW' := hW
  obtain ⟨p, q, hA0, hV, rfl, hfz, hnd⟩ := hW
  have hA : DataW.TrodAll enc Try.prog W 0 (fun _ => true) true Try.f10.params.toList args.toList ds p := hA0
  rw [Try.params10] at hA hval
  obtain ⟨v0, vs0, d0, ds0, p0, q0, hargs, rfl, rfl, h0, r0x⟩ := trodAll_cons hA
  obtain ⟨v1, vs1, d1, ds1, p1, q1, rfl, rfl, rfl, h1, r1x⟩ := trodAll_cons r0x
  obtain ⟨rfl, rfl, rfl⟩ := trodAll_nil r1x
  obtain rfl : args = #[v0, v1] := by cases args; simp_all
  obtain ⟨rfl, rfl⟩ := trodVars_none hV
  obtain ⟨D0, a0, cs0, F0, rfl, w0⟩ := open_Sym (hval 0 47 v0 rfl rfl) h0
  obtain ⟨a1, rfl, rfl, rfl, w1⟩ := ChangeMaps.open_string Try.underlying9 (hval 1 9 v1 rfl rfl) h1
  clear hA0 hval0
  refine (walk W D0 a0 cs0 F0 w0 a1 w1).mono fun e W' ⟨he, hb⟩ => ?_
  exact ⟨_, he, law_post (gs := []) hW' hb (by kernel_rfl) (by kernel_rfl) (by kernel_rfl) Try.underlying4 rfl rfl⟩

theorem over : Rows.fnExactFindAttributeRow.holds Try.pinned (OpenSpec.ofChange Rows.fnExactFindAttributeSpec) :=
  OpenClaim.holds_of_wide 10 Try.f10 rfl rfl rfl rfl rfl rfl rfl ⟨rfl, rfl, rfl, rfl, rfl⟩ rfl rfl rfl rfl rfl (by kernel_rfl) Try.func10 (by kernel_rfl)
    (of_decide_eq_true (by kernel_rfl)) (by unfold Func.isWrapper; first | (rw [if_pos (by decide +kernel)]; kernel_rfl) | (rw [if_neg (by decide +kernel)]; exact ⟨rfl, rfl⟩))
    (fun os started H enc _ => lifted os started H enc)

/-- The statement. -/
theorem proved : Rows.FnExactFindAttributeSaid := over
#print axioms proved
end Go.Proofs.Ytemghikeolikpaa.fnExactFindAttribute
