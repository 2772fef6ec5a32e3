/- The law FnExactIsValidAttribute: whatever the arguments, the call returns true and leaves the arguments as they were. Conditions: none. -/
import Derived.Test.YtemghikeolikpaaRows
import Derived.Test.YtemghikeolikpaaKit
import Derived.Test.YtemghikeolikpaaToks
namespace Go.Proofs.Ytemghikeolikpaa.fnExactIsValidAttribute
open Go.ChangeShapes Go.WideShapes Go.ChangeAt Go.RowKit
set_option linter.unusedVariables false

theorem own : ownKnob Try.prog.godebug = none := by kernel_rfl

theorem walk (w : World) (a : Attr) (ha : a.ok) : Calls Try.prog 7 #[.agg a.cells.toArray] w fun e w' => e = .returned (.bool true) ∧ Below w.heap.size w w' := by
  obtain ⟨s, t, m, c⟩ := a
  have hs := ha.name
  simp only at hs
  show Calls _ _ #[.agg #[.string s, .int .i64 t, .int .i64 m, .bool c]] w _
  have HC := hide (CellsAt.new w [.string s, .int .i64 t, .int .i64 m, .bool c] 37)
  go_enter Try.func7, Try.ntmps7
  go_wp2_with fail
  refine (l_szAttribute s t m c 1048576 hs (by omega) (by omega) _).mono ?_
  rintro e w2 ⟨rfl, hb2⟩
  rw [World.size_alloc] at hb2
  obtain ⟨c0, c1, c2, c3⟩ := (HC.out.below hb2 (by omega)).four0
  by_cases h : (1048576 : Int) < s.size
  · rw [if_pos h]
    go_wp2_with fail
    go_ret
    exact ⟨rfl, box_below hb2⟩
  · rw [if_neg h]
    go_wp2_with fail
    refine (l_toAttribute s t m c _).mono ?_
    rintro e w3 ⟨rfl, hb3⟩
    have hB3 := hb2.trans (hb3.mono (by have := hb2.size; rw [World.size_alloc] at this; omega))
    go_wp2_with fail
    refine (s_IsValidAttribute s t m c hs _).mono ?_
    rintro e w4 ⟨rfl, hb4⟩
    have hB4 := hB3.trans (hb4.mono (by have := hB3.size; rw [World.size_alloc] at this; omega))
    obtain ⟨c0, c1, c2, c3⟩ := (HC.out.below hB4 (by omega)).four0
    go_wp2_with fail
    refine (l_toAttribute s t m c _).mono ?_
    rintro e w5 ⟨rfl, hb5⟩
    have hB5 := hB4.trans (hb5.mono (by have := hB4.size; rw [World.size_alloc] at this; omega))
    go_wp2_with fail
    refine (i_IsValidAttribute s t m c hs _).mono ?_
    rintro e w6 ⟨rfl, hb6⟩
    have hB6 := hB5.trans (hb6.mono (by have := hB5.size; rw [World.size_alloc] at this; omega))
    go_wp2_with fail
    go_ret
    exact ⟨rfl, box_below hB6⟩

set_option maxRecDepth 100000 in
theorem lifted (os : Os) (started : os.Started) (H : Type) (enc : TypeId × Value → H) :
    ReturnsInHanded {} Try.checked os 7 .any (Rows.fnExactIsValidAttributeSpec.pre6 enc Try.prog Try.f7 Rows.fnExactIsValidAttributeRow.domain false) (Rows.fnExactIsValidAttributeSpec.post enc Try.prog Try.f7 false true false false) := by
  refine returnsInHanded_of_change (C := Try.checked) own started (by kernel_rfl) Try.func7
    (ChangeSpec.witness6 (enc := enc) (C := Try.checked) false ⟨#[], #[.agg #[.string ByteArray.empty, .int .i64 0, .int .i64 0, .bool false]], []⟩ 12 (by kernel_rfl) (by kernel_rfl) (by kernel_rfl) (by kernel_rfl)) ?_
  intro W base args ds gs before hval0 hW hcnd _
  have hval : ∀ (j : Nat) t v, Try.f7.params[j]? = some t → args[j]? = some v → Value.okWide Try.prog W .any base t v := hval0
  have hW' := hW
  obtain ⟨p, q, hA0, hV, rfl, hfz, hnd⟩ := hW
  have hA : DataW.TrodAll enc Try.prog W 0 (fun _ => true) true Try.f7.params.toList args.toList ds p := hA0
  rw [Try.params7] at hA hval
  obtain ⟨v0, vs0, d0, ds0, p0, q0, hargs, rfl, rfl, h0, r0x⟩ := trodAll_cons hA
  obtain ⟨rfl, rfl, rfl⟩ := trodAll_nil r0x
  obtain rfl : args = #[v0] := by cases args; simp_all
  obtain ⟨rfl, rfl⟩ := trodVars_none hV
  obtain ⟨a0, rfl, w0⟩ := open_Attr (hval 0 37 v0 rfl rfl) h0
  clear hA0 hval0
  refine (walk W a0 w0).mono fun e W' ⟨he, hb⟩ => ?_
  exact ⟨_, he, law_post (gs := []) hW' hb (by kernel_rfl) (by kernel_rfl) (by kernel_rfl) Try.underlying4 rfl rfl⟩

theorem over : Rows.fnExactIsValidAttributeRow.holds Try.pinned (OpenSpec.ofChange Rows.fnExactIsValidAttributeSpec) :=
  OpenClaim.holds_of_wide 7 Try.f7 rfl rfl rfl rfl rfl rfl rfl ⟨rfl, rfl, rfl, rfl, rfl⟩ rfl rfl rfl rfl rfl (by kernel_rfl) Try.func7 (by kernel_rfl)
    (of_decide_eq_true (by kernel_rfl)) (by unfold Func.isWrapper; first | (rw [if_pos (by decide +kernel)]; kernel_rfl) | (rw [if_neg (by decide +kernel)]; exact ⟨rfl, rfl⟩))
    (fun os started H enc _ => lifted os started H enc)

/-- The statement. -/
theorem proved : Rows.FnExactIsValidAttributeSaid := over
#print axioms proved
end Go.Proofs.Ytemghikeolikpaa.fnExactIsValidAttribute
