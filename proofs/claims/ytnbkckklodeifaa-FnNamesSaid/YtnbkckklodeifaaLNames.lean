/- The law FnNames: whatever the arguments, the call returns true and leaves the arguments as they were. Conditions: none. -/
import Derived.Test.YtnbkckklodeifaaRows
import Derived.Test.YtnbkckklodeifaaKit
import Derived.Test.YtnbkckklodeifaaNmL
import Derived.Test.YtnbkckklodeifaaDrawM
namespace Go.Proofs.Ytnbkckklodeifaa.fnNames
set_option maxRecDepth 100000
open Go.ChangeShapes Go.WideShapes Go.ChangeAt Go.RowKit
set_option linter.unusedVariables false

theorem own : ownKnob Try.prog.godebug = none := by kernel_rfl

set_option maxRecDepth 100000 in
set_option maxHeartbeats 4000000 in
theorem walk (w : World) (A : Option Addr) (n c : Nat) (zs : List Int) (l : n ≤ c) (m : c ≤ maxLen) (hr : Rd w w.heap.size A n (zs.map (Value.int .u8))) (hz : ∀ z ∈ zs, (Lit.int .u8 z).wf = true) :
    Calls Try.prog 3 #[.slice A n c] w fun e w' => e = .returned (.bool true) ∧ Below w.heap.size w w' := by
  unfold maxLen at m
  by_cases hn : n ≤ 1048576
  case neg =>
    go_enter Try.func3, Try.ntmps3
    go_wp2_with (go_at_call 4; go_in)
    go_ret
    exact ⟨rfl, Below.refl _ _⟩
  have Hr := hide hr
  have Hz := hide hz
  clear hr hz
  go_enter Try.func3, Try.ntmps3
  go_wp2_with (go_at_call 4; go_in)
  refine Calls.mono (s_DrawSortNames A n c zs w Hr.out Hz.out hn) ?_
  rintro e w1 ⟨xs, v, F, rfl, hx5, hx32, hsl, hfr, hb1⟩
  obtain ⟨A1, k1, rfl, hc1, hm1⟩ := hsl.form
  have Hs1 := hide hsl
  have HF1 := hide (hsl.lt (StrR.good 0))
  have Hb1 := hide hb1
  have Hm1 := hide hm1
  clear hsl hfr hb1 hm1 hx32
  go_wp2_with fail
  refine Calls.mono (i_SortNames 0 xs _ F w1 Hs1.out (by omega)) ?_
  rintro e w2 ⟨v2, F2, rfl, hsl, hfr, hb2⟩
  have Hb2 := hide (Hb1.out.trans (hb2.mono Hb1.out.size))
  have Hs12 := hide (SlR.below (StrR.good 0) Hs1.out hb2 HF1.out)
  have HF12 : Hid (∀ k ∈ F, k < w2.heap.size) := hide fun k hk => Nat.lt_of_lt_of_le (HF1.out k hk) hb2.size
  have hyl := sortN_len xs
  have Hless : Hid (∀ (i : Nat) (x y : ByteArray), (sortN xs)[i]? = some x → (sortN xs)[i + 1]? = some y → x.data.toList < y.data.toList) := hide fun i x y => sortN_less
  have Hidem := hide (sortN_idem xs)
  have Hdist := hide (sortN_dist xs)
  have Hidx : Hid (∀ x ∈ xs, 0 ≤ idxS (sortN xs) x) := hide fun x h => idx_in h
  have Hwo := hide (without_sort xs)
  generalize sortN xs = ys at hsl hyl Hless Hidem Hdist Hidx Hwo
  obtain ⟨A2, k2, rfl, hc2, hm2⟩ := hsl.form
  have Hs2 := hide hsl
  have HF2 := hide (hsl.lt (StrR.good 0))
  have Hm2 := hide hm2
  clear hsl hfr hb2 hm2
  go_wp2_with fail
  refine Calls.mono (l_rising A2 _ k2 ys w2.heap.size w2 Hs2.out.strs.1 (by omega) Hless.out) ?_
  rintro e w3 ⟨rfl, hb3⟩
  have Hb3 := hide hb3
  clear hb3
  go_wp2_with fail
  refine Calls.mono (i_SortNames 0 ys _ F2 w3 (SlR.below (StrR.good 0) Hs2.out Hb3.out HF2.out) (by omega)) ?_
  rintro e w4 ⟨v4, F4, rfl, hsl, hfr, hb4⟩
  rw [Hidem.out] at hsl
  obtain ⟨A4, k4, rfl, hc4, hm4⟩ := hsl.form
  have Hs4 := hide hsl
  have Hb4 := hide (Hb3.out.trans (hb4.mono Hb3.out.size))
  clear hsl hfr hb4 hm4
  go_wp2_with fail
  refine Calls.mono (l_sameTexts A4 A2 _ _ k4 k2 ys ys w4.heap.size w2.heap.size w4 Hs4.out.strs.1 (Hs2.out.strs.1.below Hb4.out) (by omega) (by omega)) ?_
  rintro e w5 ⟨rfl, hb5⟩
  have Hb5 := hide (Hb4.out.trans (hb5.mono Hb4.out.size))
  have hyy : decide (ys = ys) = true := decide_eq_true rfl
  rw [hyy]
  clear hb5
  go_wp2_with fail
  refine Calls.mono (i_AllDistinct 0 ys _ F2 w5 (SlR.below (StrR.good 0) Hs2.out Hb5.out HF2.out) (by omega)) ?_
  rintro e w6 ⟨rfl, hb6⟩
  have Hb6 := hide (Hb5.out.trans (hb6.mono Hb5.out.size))
  rw [Hdist.out]
  clear hb6
  go_wp2_with fail
  go_loopw [5] (fun i wr => ∃ j : Nat, j ≤ xs.length ∧ i = .int .i64 j ∧ Hid (Below w2.heap.size w2 wr)) (fun i _ => xs.length - (intOf i).toNat)
  case atStart => exact ⟨0, by omega, rfl, Hb6⟩
  case round =>
    obtain ⟨j, hj, rfl, Hb⟩ := hrel
    by_cases hlt : j < xs.length
    · obtain ⟨b, off, x, hA, hbl, hx, hc⟩ := (Hs12.out.strs.1.below Hb.out).get hlt
      subst hA
      have hix := Hidx.out x (List.mem_of_getElem? hx)
      have hix2 : ¬ idxS ys x < 0 := by omega
      have hj0 : (0 : Int) ≤ (j : Int) := by omega
      have hj1 : (j : Int) < (xs.length : Int) := by omega
      clear hx
      go_wp2_with (go_at_call 10; refine (i_IndexOf _ _ _ x ys w2.heap.size _ (Hs2.out.strs.1.below Hb.out) (by omega)).mono ?_; rintro e w' ⟨rfl, rfl⟩)
      go_roundw
      case rel => exact ⟨j + 1, by omega, by go_num, Hb⟩
      case measure => simp [intOf]; omega
    · have hHr : Rd wr wr.heap.size A n (zs.map (Value.int .u8)) := (Hr.out.below (Hb2.out.trans (Hb.out.mono Hb2.out.size))).more (Nat.le_trans Hb2.out.size Hb.out.size)
      have HHr := hide hHr
      clear hHr
      go_wp2_with fail
      refine Calls.mono (s_DrawIsValidName A n c zs wr HHr.out Hz.out hn) ?_
      rintro e w7 ⟨s, rfl, hs32, hb7⟩
      have Hb7 := hide (Hb.out.trans (hb7.mono Hb.out.size))
      clear hb7
      have hsm : s.size ≤ maxLen := by unfold maxLen; omega
      have Hfin : Hid (∀ W : World, Below w2.heap.size w2 W → Calls Try.prog 15 #[.slice A2 ys.length k2, .slice A1 xs.length k1] W fun en w' => ∃ k : Nat, ∃ A', en = .returned (.slice A' 0 k) ∧ Below W.heap.size W w') := hide fun W hW => by
        refine Calls.mono (i_Without 0 ys xs _ _ F2 F W (SlR.below (StrR.good 0) Hs2.out hW HF2.out) (SlR.below (StrR.good 0) Hs12.out hW HF12.out) (by omega)) ?_
        rintro en w' ⟨u, G, rfl, hu, _, hbb⟩
        rw [Hwo.out] at hu
        obtain ⟨A', k', rfl, _, _⟩ := hu.form
        exact ⟨k', A', rfl, hbb⟩
      cases hv : validN s
      · go_wp2_with (first
          | (go_at_call 12; refine (i_IsValidName s _ hsm).mono ?_; rintro e w' ⟨rfl, rfl⟩; rw [hv])
          | (go_at_call 13; refine (s_IsValidName s _ hsm).mono ?_; rintro e w8 ⟨rfl, hb8⟩; rw [hv]; have Hb8 := hide (Hb7.out.trans (hb8.mono Hb7.out.size)); clear hb8))
        refine Calls.mono (Hfin.out _ Hb8.out) ?_
        rintro e w9 ⟨k, A', rfl, hb9⟩
        go_wp2_with fail
        go_ret
        exact ⟨rfl, Hb2.out.trans ((Hb8.out.trans (hb9.mono Hb8.out.size)).mono Hb2.out.size)⟩
      · have hres : resv s = false := valid_free hv
        go_wp2_with (first
          | (go_at_call 12; refine (i_IsValidName s _ hsm).mono ?_; rintro e w' ⟨rfl, rfl⟩; rw [hv])
          | (go_at_call 14; refine (i_IsReserved s _).mono ?_; rintro e w' ⟨rfl, rfl⟩; rw [hres])
          | (go_at_call 13; refine (s_IsValidName s _ hsm).mono ?_; rintro e w8 ⟨rfl, hb8⟩; rw [hv]; have Hb8 := hide (Hb7.out.trans (hb8.mono Hb7.out.size)); clear hb8))
        refine Calls.mono (Hfin.out _ Hb8.out) ?_
        rintro e w9 ⟨k, A', rfl, hb9⟩
        go_wp2_with fail
        go_ret
        exact ⟨rfl, Hb2.out.trans ((Hb8.out.trans (hb9.mono Hb8.out.size)).mono Hb2.out.size)⟩

set_option maxRecDepth 100000 in
theorem lifted (os : Os) (started : os.Started) (H : Type) (enc : TypeId × Value → H) :
    ReturnsInHanded {} Try.checked os 3 .any (Rows.fnNamesSpec.pre6 enc Try.prog Try.f3 Rows.fnNamesRow.domain false) (Rows.fnNamesSpec.post enc Try.prog Try.f3 false true false false) := by
  refine returnsInHanded_of_change (C := Try.checked) own started (by kernel_rfl) Try.func3
    (ChangeSpec.witness6 (enc := enc) (C := Try.checked) false ⟨#[], #[.slice none 0 0], []⟩ 12 (by kernel_rfl) (by kernel_rfl) (by kernel_rfl) (by kernel_rfl)) ?_
  intro W base args ds gs before hval0 hW hcnd _
  have hval : ∀ (j : Nat) t v, Try.f3.params[j]? = some t → args[j]? = some v → Value.okWide Try.prog W .any base t v := hval0
  have hW' := hW
  obtain ⟨p, q, hA0, hV, rfl, hfz, hnd⟩ := hW
  have hA : DataW.TrodAll enc Try.prog W 0 (fun _ => true) true Try.f3.params.toList args.toList ds p := hA0
  rw [Try.params3] at hA hval
  obtain ⟨v0, vs0, d0, ds0, p0, q0, hargs, rfl, rfl, h0, r0x⟩ := trodAll_cons hA
  obtain ⟨rfl, rfl, rfl⟩ := trodAll_nil r0x
  obtain rfl : args = #[v0] := by cases args; simp_all
  obtain ⟨rfl, rfl⟩ := trodVars_none hV
  obtain ⟨A0, n0, c0, z0, rfl, l0, m0, r0, w0⟩ := open_intsR Try.underlying22 Try.underlying5 (by kernel_rfl) (hval 0 22 v0 rfl rfl) h0
  clear hA0 hval0
  refine (walk W A0 n0 c0 z0 l0 m0 r0 w0).mono fun e W' ⟨he, hb⟩ => ?_
  exact ⟨_, he, law_post (gs := []) hW' hb (by kernel_rfl) (by kernel_rfl) (by kernel_rfl) Try.underlying4 rfl rfl⟩

set_option maxHeartbeats 4000000 in
theorem over : Rows.fnNamesRow.holds Try.pinned (OpenSpec.ofChange Rows.fnNamesSpec) :=
  OpenClaim.holds_of_wide 3 Try.f3 rfl rfl rfl rfl rfl rfl rfl ⟨rfl, rfl, rfl, rfl, rfl⟩ rfl rfl rfl rfl rfl (by as_aux_lemma => kernel_rfl) Try.func3 (by as_aux_lemma => kernel_rfl)
    (of_decide_eq_true (by as_aux_lemma => kernel_rfl)) (by unfold Func.isWrapper; first | (rw [if_pos (by as_aux_lemma => decide +kernel)]; as_aux_lemma => kernel_rfl) | (rw [if_neg (by as_aux_lemma => decide +kernel)]; exact ⟨rfl, rfl⟩))
    (fun os started H enc _ => lifted os started H enc)

/-- The statement. -/
theorem proved : Rows.FnNamesSaid := over
#print axioms proved
end Go.Proofs.Ytnbkckklodeifaa.fnNames
