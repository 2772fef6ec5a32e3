/- The law FnSets: whatever the arguments, the call returns true and leaves the arguments as they were. Conditions: none. -/
import Derived.Test.YtglmmmhfomjdjaaRows
import Derived.Test.YtglmmmhfomjdjaaKit
import Derived.Test.YtglmmmhfomjdjaaOps
namespace Go.Proofs.Ytglmmmhfomjdjaa.fnSets
open Go.ChangeShapes Go.WideShapes Go.ChangeAt Go.RowKit
set_option linter.unusedVariables false

theorem own : ownKnob Try.prog.godebug = none := by kernel_rfl

theorem l_at0 (A : Option Addr) (n c B : Nat) (zs : List Int) (w : World) (hr : Rd w B A n (zs.map (Value.int .u8))) (hz : ∀ z ∈ zs, (Lit.int .u8 z).wf = true) (hm : n ≤ 1048576) :
    Calls Try.prog 12 #[.slice A n c, .int .i64 0] w fun e w' => ∃ k : Nat, e = .returned (.int .i64 k) ∧ k < 256 ∧ w = w' := by
  by_cases hn : 0 < n
  · obtain ⟨b, off, x, rfl, _, hx, hc⟩ := hr.get hn
    have hw := hz x (List.mem_of_getElem? hx)
    have hx0 : 0 ≤ x ∧ x < 256 := by simp [Lit.wf, IntKind.min, IntKind.max, IntKind.signed, IntKind.bits] at hw; omega
    obtain ⟨k, rfl⟩ := Int.eq_ofNat_of_zero_le hx0.1
    have hk : k < 256 := by omega
    rw [Nat.add_zero] at hc
    clear hr hz hx hw hx0
    go_enter Try.func12, Try.ntmps12
    go_wp2
    go_ret
    exact ⟨k, rfl, hk, rfl⟩
  · obtain rfl : n = 0 := by omega
    go_enter Try.func12, Try.ntmps12
    go_wp2
    go_ret
    exact ⟨0, rfl, by omega, rfl⟩
set_option maxHeartbeats 2000000 in
theorem walk (w : World) (A : Option Addr) (n c : Nat) (zs : List Int) (l : n ≤ c) (m : c ≤ maxLen) (hr : Rd w w.heap.size A n (zs.map (Value.int .u8))) (hz : ∀ z ∈ zs, (Lit.int .u8 z).wf = true) :
    Calls Try.prog 4 #[.slice A n c] w fun e w' => e = .returned (.bool true) ∧ Below w.heap.size w w' := by
  have hm : n ≤ 9223372036854775807 := by unfold maxLen at m; omega
  clear l m
  by_cases hn : n ≤ 1048576
  · go_enter Try.func4, Try.ntmps4
    go_wp2_with (first | (go_at_call 5; go_in) | fail)
    refine (s_DrawApplyOp A n c zs w hr hz hn).mono ?_
    rintro e w1 ⟨op, a, b, rfl, hb⟩
    go_wp2_with fail
    refine (l_at0 A n c w.heap.size zs w1 (hr.below hb) hz hn).mono ?_
    rintro e w2 ⟨k, rfl, hk, rfl⟩
    have hU := split_union a b
    have hM := split_meet a b
    by_cases hk1 : k % 14 ≤ 11
    · have h1 := with_has (a := a) hk1
      rw [show ((k % 14 : Nat) : Int) = (k : Int) % 14 by omega] at h1
      have h2 : ((k : Int) % 14) ≤ 11 := by omega
      clear hk1 hr hz
      go_wp2_with (first
      | (go_at_call 7; refine (i_ApplyOp _ _ _ _).mono ?_; rintro e w' ⟨rfl, rfl⟩)
      | (go_at_call 9; refine (s_ApplyOp _ _ _ _).mono ?_; rintro e w' ⟨rfl, rfl⟩)
      | (go_at_call 13; refine (s_Coerce _ _ _).mono ?_; rintro e w' ⟨rfl, rfl⟩))
      go_ret
      exact ⟨rfl, hb⟩
    · have h2 : ¬ ((k : Int) % 14) ≤ 11 := by omega
      have h2' : 11 < ((k : Int) % 14) := by omega
      clear hk1 hr hz
      go_wp2_with (first
      | (go_at_call 7; refine (i_ApplyOp _ _ _ _).mono ?_; rintro e w' ⟨rfl, rfl⟩)
      | (go_at_call 9; refine (s_ApplyOp _ _ _ _).mono ?_; rintro e w' ⟨rfl, rfl⟩)
      | (go_at_call 13; refine (s_Coerce _ _ _).mono ?_; rintro e w' ⟨rfl, rfl⟩))
      go_ret
      exact ⟨rfl, hb⟩
  · go_enter Try.func4, Try.ntmps4
    go_wp2
    go_ret
    exact ⟨rfl, Below.refl _ _⟩

set_option maxRecDepth 100000 in
theorem lifted (os : Os) (started : os.Started) (H : Type) (enc : TypeId × Value → H) :
    ReturnsInHanded {} Try.checked os 4 .any (Rows.fnSetsSpec.pre6 enc Try.prog Try.f4 Rows.fnSetsRow.domain false) (Rows.fnSetsSpec.post enc Try.prog Try.f4 false true false false) := by
  refine returnsInHanded_of_change (C := Try.checked) own started (by kernel_rfl) Try.func4
    (ChangeSpec.witness6 (enc := enc) (C := Try.checked) false ⟨#[], #[.slice none 0 0], []⟩ 12 (by kernel_rfl) (by kernel_rfl) (by kernel_rfl) (by kernel_rfl)) ?_
  intro W base args ds gs before hval0 hW hcnd _
  have hval : ∀ (j : Nat) t v, Try.f4.params[j]? = some t → args[j]? = some v → Value.okWide Try.prog W .any base t v := hval0
  have hW' := hW
  obtain ⟨p, q, hA0, hV, rfl, hfz, hnd⟩ := hW
  have hA : DataW.TrodAll enc Try.prog W 0 (fun _ => true) true Try.f4.params.toList args.toList ds p := hA0
  rw [Try.params4] at hA hval
  obtain ⟨v0, vs0, d0, ds0, p0, q0, hargs, rfl, rfl, h0, r0x⟩ := trodAll_cons hA
  obtain ⟨rfl, rfl, rfl⟩ := trodAll_nil r0x
  obtain rfl : args = #[v0] := by cases args; simp_all
  obtain ⟨rfl, rfl⟩ := trodVars_none hV
  obtain ⟨A0, n0, c0, z0, rfl, l0, m0, r0, w0⟩ := open_intsR Try.underlying22 Try.underlying5 (by kernel_rfl) (hval 0 22 v0 rfl rfl) h0
  clear hA0 hval0
  refine (walk W A0 n0 c0 z0 l0 m0 r0 w0).mono fun e W' ⟨he, hb⟩ => ?_
  exact ⟨_, he, law_post (gs := []) hW' hb (by kernel_rfl) (by kernel_rfl) (by kernel_rfl) Try.underlying4 rfl rfl⟩

theorem over : Rows.fnSetsRow.holds Try.pinned (OpenSpec.ofChange Rows.fnSetsSpec) :=
  OpenClaim.holds_of_wide 4 Try.f4 rfl rfl rfl rfl rfl rfl rfl ⟨rfl, rfl, rfl, rfl, rfl⟩ rfl rfl rfl rfl rfl (by kernel_rfl) Try.func4 (by kernel_rfl)
    (of_decide_eq_true (by kernel_rfl)) (by unfold Func.isWrapper; first | (rw [if_pos (by decide +kernel)]; kernel_rfl) | (rw [if_neg (by decide +kernel)]; exact ⟨rfl, rfl⟩))
    (fun os started H enc _ => lifted os started H enc)

/-- The statement. -/
theorem proved : Rows.FnSetsSaid := over
#print axioms proved
end Go.Proofs.Ytglmmmhfomjdjaa.fnSets
