/- The law FnExactIsValidSymbol: whatever the arguments, the call returns true and leaves the arguments as they were. Conditions: none. -/
import Derived.Test.YtemghikeolikpaaRows
import Derived.Test.YtemghikeolikpaaKit
import Derived.Test.YtemghikeolikpaaSymValI
namespace Go.Proofs.Ytemghikeolikpaa.fnExactIsValidSymbol
open Go.ChangeShapes Go.WideShapes Go.ChangeAt Go.RowKit
set_option linter.unusedVariables false

theorem own : ownKnob Try.prog.godebug = none := by kernel_rfl

set_option maxRecDepth 100000 in
set_option maxHeartbeats 4000000 in
theorem walk (w : World) (D0 : Nat) (x0 : Sym) (cs0 : List Value) (F0 : List Nat) (h0 : SymR D0 w x0 cs0 F0) : Calls Try.prog 11 #[.agg cs0.toArray] w fun en w' => en = .returned (.bool true) ∧ Below w.heap.size w w' := by
  have h0 := h0.up (D0) (by omega)
  generalize D0 = D at h0
  have HF0 := hide ((SymR.good D).lt h0)
  obtain ⟨av0, av1, rfl⟩ := list2 ((SymR.good D).len h0)
  have HX0 : Hid (∀ W : World, Below w.heap.size w W → SymR D W x0 [av0, av1] F0) := hide fun W hW => (SymR.good D).below h0 hW HF0.out
  clear h0
  obtain ⟨C0, hz0, hw0⟩ := boxes1 w [av0, av1] 47
  show Calls _ _ #[.agg #[av0, av1]] w _
  go_enter Try.func11, Try.ntmps11
  go_wp2_with fail
  generalize w.alloc (Obj.cells #[av0, av1] 47) = V0 at C0 hz0 hw0 ⊢
  have hn0 : (w.heap.size + 1) ≤ V0.heap.size := by omega
  have Hw : Hid (∀ W : World, Below (w.heap.size + 1) V0 W → Below w.heap.size w W) := hide fun W h => hw0.trans (h.mono (by omega))
  have hV0 : Below (w.heap.size + 1) V0 V0 := Below.refl _ _
  have c0_0 := cell_rule C0 (n := (w.heap.size + 1)) (by omega) 0 (v := av0) rfl
  have c0_1 := cell_rule C0 (n := (w.heap.size + 1)) (by omega) 1 (v := av1) rfl
  have hD0 : ∀ W : World, Below (w.heap.size + 1) V0 W → Below (w.heap.size + 1) V0 W.drew := fun _ h => h.drew
  have hA0 : ∀ (W : World) (o : Obj), Below (w.heap.size + 1) V0 W → Below (w.heap.size + 1) V0 (W.alloc o) := fun _ o h => below_alloc hn0 o h
  clear C0 hz0 hw0
  refine Calls.mono (z_Sym D x0 _ F0 _ 1048576 (HX0.out _ (Hw.out _ (by assumption))) (by omega) (by omega)) ?_
  rintro en W1 ⟨⟨r0, rfl, hr⟩, hb⟩
  have hW1 : Below (w.heap.size + 1) V0 W1 := below_step (by (repeat (first | assumption | apply Below.drew | refine below_alloc (by assumption) _ ?_))) hn0 hb
  clear hb
  rcases hr with rfl | ⟨hr0, hq⟩
  · go_wp2_with fail
    go_ret
    exact ⟨rfl, Hw.out _ hW1⟩
  have hnn := bulkSym_nonneg D x0
  have Hbk0 : Hid (bulkSym D x0 ≤ 1048576) := hide (by omega)
  have hl0 : r0 ≤ 1048576 := by omega
  clear hq hnn
  have HT0 : Hid (∀ W : World, Below (w.heap.size + 1) V0 W → Calls Try.prog 37 #[.agg #[av0, av1]] W fun en w' => ∃ us F', en = .returned (.agg (List.toArray us)) ∧ SymR D w' x0 us F' ∧ Fresh W.heap.size w' F' ∧ Below W.heap.size W w') := hide fun W hW =>
    c_Sym D x0 _ F0 W (HX0.out W (Hw.out W hW)) Hbk0.out
  go_wp2_with fail
  clear hr0 hl0
  have hst := fun (w : World) (a : Addr) (v : Value) (m : Mode) (hv : v.oneCell' = true) => run_store Try.prog w a v m hv
  refine Calls.mono (HT0.out _ (by (repeat (first | assumption | apply Below.drew | refine below_alloc (by assumption) _ ?_)))) ?_
  rintro en W2 ⟨us, Fu, rfl, hR, hf, hb⟩
  obtain ⟨u0, u1, rfl⟩ := list2 ((SymR.good D).len hR)
  have hW2 : Below (w.heap.size + 1) V0 W2 := below_step (by (repeat (first | assumption | apply Below.drew | refine below_alloc (by assumption) _ ?_))) (by assumption) hb
  have hbu := hb
  have HLu := hide hf.lt
  have HRu := hide hR
  have HEu := hide hf
  clear hR hf hb
  go_wp2_with fail
  refine Calls.mono (s_IsValidSymbol D x0 _ Fu _ HRu.out (sym_short Hbk0.out)) ?_
  rintro en W3 ⟨rfl, hb⟩
  have hW3 : Below (w.heap.size + 1) V0 W3 := below_step (by (repeat (first | assumption | apply Below.drew | refine below_alloc (by assumption) _ ?_))) hn0 hb
  clear hb
  clear HRu HLu hbu HEu
  go_wp2_with fail
  refine Calls.mono (HT0.out _ (by (repeat (first | assumption | apply Below.drew | refine below_alloc (by assumption) _ ?_)))) ?_
  rintro en W4 ⟨us, Fx0_, rfl, hR, hf, hb⟩
  obtain ⟨x0_0, x0_1, rfl⟩ := list2 ((SymR.good D).len hR)
  have ho := SymR.one hR
  have ox0_0 := ho x0_0 (by simp)
  have ox0_1 := ho x0_1 (by simp)
  have HRx0_ := hide hR
  have HLx0_ := hide hf.lt
  have hW4 : Below (w.heap.size + 1) V0 W4 := below_step (by (repeat (first | assumption | apply Below.drew | refine below_alloc (by assumption) _ ?_))) hn0 hb
  clear hb
  clear hf ho hR
  go_wp2_with fail
  have Cx := CellsAt.new W4 [x0_0, x0_1] 53
  have hb0_1 := below_box (o := Obj.cells #[x0_0, x0_1] 53) (by (repeat (first | assumption | apply Below.drew | refine below_alloc (by assumption) _ ?_)) : Below (w.heap.size + 1) V0 W4) hn0
  have hz := World.size_alloc W4 (Obj.cells #[x0_0, x0_1] 53)
  have HV0 : Hid (∀ V : World, Below (W4.heap.size + 1) (W4.alloc (Obj.cells #[x0_0, x0_1] 53)) V → SymR D V x0 [x0_0, x0_1] Fx0_) := hide fun V hV => (SymR.good D).below HRx0_.out (below_of_box hV) HLx0_.out
  generalize W4.alloc (Obj.cells #[x0_0, x0_1] 53) = V1 at Cx hb0_1 hz HV0 ⊢
  have hn1 : (W4.heap.size + 1) ≤ V1.heap.size := Nat.le_of_eq hz.symm
  have hV1 : Below (W4.heap.size + 1) V1 V1 := Below.refl _ _
  have cx1_0 := cell_rule Cx (n := (W4.heap.size + 1)) (by omega) 0 (v := x0_0) rfl
  have cx1_1 := cell_rule Cx (n := (W4.heap.size + 1)) (by omega) 1 (v := x0_1) rfl
  have hD1 : ∀ W : World, Below (W4.heap.size + 1) V1 W → Below (W4.heap.size + 1) V1 W.drew := fun _ h => h.drew
  have hA1 : ∀ (W : World) (o : Obj), Below (W4.heap.size + 1) V1 W → Below (W4.heap.size + 1) V1 (W.alloc o) := fun _ o h => below_alloc hn1 o h
  clear Cx hz
  clear HRx0_ HLx0_ ox0_0 ox0_1
  go_wp2_with fail
  refine Calls.mono (i_IsValidSymbol D x0 _ Fx0_ _ (HV0.out _ (hV1)) (sym_short Hbk0.out)) ?_
  rintro en W5 ⟨rfl, hb⟩
  have hW5 : Below (W4.heap.size + 1) V1 W5 := below_step (by (repeat (first | assumption | apply Below.drew | refine below_alloc (by assumption) _ ?_))) hn1 hb
  clear hb
  go_wp2_with fail
  go_region_held3 (fun W => Below (W4.heap.size + 1) V1 W)
    (first | assumption | exact Below.drew (by assumption))
    (first
      | (go_at_call_has 37 av0; refine Calls.mono (HT0.out _ (hb0_1 _ (?hw))) ?_; (case hw => (repeat (first | assumption | apply Below.drew | refine below_alloc (by assumption) _ ?_))); rintro en W6 ⟨us, Fp, rfl, hR, hf, hb⟩; obtain ⟨p0, p1, rfl⟩ := list2 ((SymR.good D).len hR); have hW6 : Below (W4.heap.size + 1) V1 W6 := below_step (by (repeat (first | assumption | apply Below.drew | refine below_alloc (by assumption) _ ?_))) (by assumption) hb; have hbp := hb; have HLp := hide hf.lt; have HRp := hide hR; have HEp := hide hf; clear hR hf hb)
      | (go_at_call 40; refine Calls.mono (e_Sym D x0 _ _ Fx0_ Fp _ (HV0.out _ (by assumption)) HRp.out) ?_; rintro en W7 ⟨rfl, hb⟩; have hW7 : Below (W4.heap.size + 1) V1 W7 := below_step (by (repeat (first | assumption | apply Below.drew | refine below_alloc (by assumption) _ ?_))) (by assumption) hb; clear hb))
  clear HRp HLp hbp HEp
  go_wp2_with fail
  go_ret
  exact ⟨rfl, Hw.out _ (hb0_1 _ (by assumption))⟩

set_option maxRecDepth 100000 in
theorem lifted (os : Os) (started : os.Started) (H : Type) (enc : TypeId × Value → H) :
    ReturnsInHanded {} Try.checked os 11 .any (Rows.fnExactIsValidSymbolSpec.pre6 enc Try.prog Try.f11 Rows.fnExactIsValidSymbolRow.domain false) (Rows.fnExactIsValidSymbolSpec.post enc Try.prog Try.f11 false true false false) := by
  refine returnsInHanded_of_change (C := Try.checked) own started (by kernel_rfl) Try.func11
    (ChangeSpec.witness6 (enc := enc) (C := Try.checked) false ⟨#[], #[.agg #[.string ByteArray.empty, .slice none 0 0]], []⟩ 12 (by kernel_rfl) (by kernel_rfl) (by kernel_rfl) (by kernel_rfl)) ?_
  intro W base args ds gs before hval0 hW hcnd _
  have hval : ∀ (j : Nat) t v, Try.f11.params[j]? = some t → args[j]? = some v → Value.okWide Try.prog W .any base t v := hval0
  have hW' := hW
  obtain ⟨p, q, hA0, hV, rfl, hfz, hnd⟩ := hW
  have hA : DataW.TrodAll enc Try.prog W 0 (fun _ => true) true Try.f11.params.toList args.toList ds p := hA0
  rw [Try.params11] at hA hval
  obtain ⟨v0, vs0, d0, ds0, p0, q0, hargs, rfl, rfl, h0, r0x⟩ := trodAll_cons hA
  obtain ⟨rfl, rfl, rfl⟩ := trodAll_nil r0x
  obtain rfl : args = #[v0] := by cases args; simp_all
  obtain ⟨rfl, rfl⟩ := trodVars_none hV
  obtain ⟨D0, a0, cs0, F0, rfl, w0⟩ := open_Sym (hval 0 47 v0 rfl rfl) h0
  clear hA0 hval0
  refine (walk W D0 a0 cs0 F0 w0).mono fun e W' ⟨he, hb⟩ => ?_
  exact ⟨_, he, law_post (gs := []) hW' hb (by kernel_rfl) (by kernel_rfl) (by kernel_rfl) Try.underlying4 rfl rfl⟩

theorem over : Rows.fnExactIsValidSymbolRow.holds Try.pinned (OpenSpec.ofChange Rows.fnExactIsValidSymbolSpec) :=
  OpenClaim.holds_of_wide 11 Try.f11 rfl rfl rfl rfl rfl rfl rfl ⟨rfl, rfl, rfl, rfl, rfl⟩ rfl rfl rfl rfl rfl (by kernel_rfl) Try.func11 (by kernel_rfl)
    (of_decide_eq_true (by kernel_rfl)) (by unfold Func.isWrapper; first | (rw [if_pos (by decide +kernel)]; kernel_rfl) | (rw [if_neg (by decide +kernel)]; exact ⟨rfl, rfl⟩))
    (fun os started H enc _ => lifted os started H enc)

/-- The statement. -/
theorem proved : Rows.FnExactIsValidSymbolSaid := over
#print axioms proved
end Go.Proofs.Ytemghikeolikpaa.fnExactIsValidSymbol
