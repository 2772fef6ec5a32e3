/- The law FnExactIsWord: whatever the arguments, the call returns true and leaves the arguments as they were. Conditions: none. -/
import Derived.Test.YtemghikeolikpaaRows
import Derived.Test.YtemghikeolikpaaKit
import Derived.Test.YtemghikeolikpaaToks
namespace Go.Proofs.Ytemghikeolikpaa.fnExactIsWord
open Go.ChangeShapes Go.WideShapes Go.ChangeAt Go.RowKit
set_option linter.unusedVariables false

theorem own : ownKnob Try.prog.godebug = none := by kernel_rfl

theorem walk (w : World) (t : Tok) (ht : t.ok) (a1 : ByteArray) (w1 : a1.size ≤ maxLen) : Calls Try.prog 4 #[.agg t.cells.toArray, .string a1] w fun e w' => e = .returned (.bool true) ∧ Below w.heap.size w w' := by
  obtain ⟨k, n, a, s⟩ := t
  have hs := ht.text
  simp only at hs
  show Calls _ _ #[.agg #[.int .i64 k, .int .i64 n, .int .i64 a, .string s], .string a1] w _
  by_cases hb : 1048576 < (a1.size : Int)
  · go_enter Try.func4, Try.ntmps4
    go_wp2_with fail
    go_ret
    exact ⟨rfl, (Below.refl _ _).alloc (Nat.le_refl _) _⟩
  · have C1 := CellsAt.new w [.int .i64 k, .int .i64 n, .int .i64 a, .string s] 24
    have HC := hide C1
    clear C1
    go_enter Try.func4, Try.ntmps4
    go_wp2_with fail
    refine (l_szToken k n a 1048576 s hs (by omega) (by omega) _).mono ?_
    rintro e w2 ⟨rfl, hb2⟩
    rw [World.size_alloc] at hb2
    obtain ⟨c0, c1, c2, c3⟩ := (HC.out.below hb2 (by omega)).four0
    by_cases h : (1048576 : Int) < s.size
    · rw [if_pos h]
      go_wp2_with fail
      go_ret
      exact ⟨rfl, box_below hb2⟩
    · rw [if_neg h]
      go_wp2_with fail
      refine (l_toToken k n a s _).mono ?_
      rintro e w3 ⟨rfl, hb3⟩
      have hB3 := hb2.trans (hb3.mono (by have := hb2.size; rw [World.size_alloc] at this; omega))
      go_wp2_with fail
      refine (s_IsWord k n a s a1 _).mono ?_
      rintro e w4 ⟨rfl, hb4⟩
      have hB4 := hB3.trans (hb4.mono (by have := hB3.size; rw [World.size_alloc] at this; omega))
      obtain ⟨c0, c1, c2, c3⟩ := (HC.out.below hB4 (by omega)).four0
      go_wp2_with fail
      refine (l_toToken k n a s _).mono ?_
      rintro e w5 ⟨rfl, hb5⟩
      have hB5 := hB4.trans (hb5.mono (by have := hB4.size; rw [World.size_alloc] at this; omega))
      go_wp2_with fail
      refine (i_IsWord k n a s a1 _).mono ?_
      rintro e w6 ⟨rfl, hb6⟩
      have hB6 := hB5.trans (hb6.mono (by have := hB5.size; rw [World.size_alloc] at this; omega))
      go_wp2_with fail
      go_ret
      exact ⟨rfl, box_below hB6⟩

set_option maxRecDepth 100000 in
theorem lifted (os : Os) (started : os.Started) (H : Type) (enc : TypeId × Value → H) :
    ReturnsInHanded {} Try.checked os 4 .any (Rows.fnExactIsWordSpec.pre6 enc Try.prog Try.f4 Rows.fnExactIsWordRow.domain false) (Rows.fnExactIsWordSpec.post enc Try.prog Try.f4 false true false false) := by
  refine returnsInHanded_of_change (C := Try.checked) own started (by kernel_rfl) Try.func4
    (ChangeSpec.witness6 (enc := enc) (C := Try.checked) false ⟨#[], #[.agg #[.int .i64 0, .int .i64 0, .int .i64 0, .string ByteArray.empty], .string ByteArray.empty], []⟩ 12 (by kernel_rfl) (by kernel_rfl) (by kernel_rfl) (by kernel_rfl)) ?_
  intro W base args ds gs before hval0 hW hcnd _
  have hval : ∀ (j : Nat) t v, Try.f4.params[j]? = some t → args[j]? = some v → Value.okWide Try.prog W .any base t v := hval0
  have hW' := hW
  obtain ⟨p, q, hA0, hV, rfl, hfz, hnd⟩ := hW
  have hA : DataW.TrodAll enc Try.prog W 0 (fun _ => true) true Try.f4.params.toList args.toList ds p := hA0
  rw [Try.params4] at hA hval
  obtain ⟨v0, vs0, d0, ds0, p0, q0, hargs, rfl, rfl, h0, r0x⟩ := trodAll_cons hA
  obtain ⟨v1, vs1, d1, ds1, p1, q1, rfl, rfl, rfl, h1, r1x⟩ := trodAll_cons r0x
  obtain ⟨rfl, rfl, rfl⟩ := trodAll_nil r1x
  obtain rfl : args = #[v0, v1] := by cases args; simp_all
  obtain ⟨rfl, rfl⟩ := trodVars_none hV
  obtain ⟨a0, rfl, w0⟩ := open_Tok (hval 0 24 v0 rfl rfl) h0
  obtain ⟨a1, rfl, rfl, rfl, w1⟩ := ChangeMaps.open_string Try.underlying9 (hval 1 9 v1 rfl rfl) h1
  clear hA0 hval0
  refine (walk W a0 w0 a1 w1).mono fun e W' ⟨he, hb⟩ => ?_
  exact ⟨_, he, law_post (gs := []) hW' hb (by kernel_rfl) (by kernel_rfl) (by kernel_rfl) Try.underlying4 rfl rfl⟩

theorem over : Rows.fnExactIsWordRow.holds Try.pinned (OpenSpec.ofChange Rows.fnExactIsWordSpec) :=
  OpenClaim.holds_of_wide 4 Try.f4 rfl rfl rfl rfl rfl rfl rfl ⟨rfl, rfl, rfl, rfl, rfl⟩ rfl rfl rfl rfl rfl (by kernel_rfl) Try.func4 (by kernel_rfl)
    (of_decide_eq_true (by kernel_rfl)) (by unfold Func.isWrapper; first | (rw [if_pos (by decide +kernel)]; kernel_rfl) | (rw [if_neg (by decide +kernel)]; exact ⟨rfl, rfl⟩))
    (fun os started H enc _ => lifted os started H enc)

/-- The statement. -/
theorem proved : Rows.FnExactIsWordSaid := over
#print axioms proved
end Go.Proofs.Ytemghikeolikpaa.fnExactIsWord
