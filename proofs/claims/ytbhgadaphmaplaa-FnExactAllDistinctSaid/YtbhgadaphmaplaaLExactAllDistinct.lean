/- The law FnExactAllDistinct: whatever the arguments, the call returns true and leaves the arguments as they were. Conditions: none. -/
import Derived.Test.YtbhgadaphmaplaaRows
import Derived.Test.YtbhgadaphmaplaaKit
import Derived.Test.YtbhgadaphmaplaaDistinct
import Derived.Test.YtbhgadaphmaplaaMark
namespace Go.Proofs.Ytbhgadaphmaplaa.fnExactAllDistinct
set_option maxRecDepth 100000
open Go.ChangeShapes Go.WideShapes Go.ChangeAt Go.RowKit
set_option linter.unusedVariables false

theorem own : ownKnob Try.prog.godebug = none := by kernel_rfl

set_option maxRecDepth 100000 in
set_option maxHeartbeats 4000000 in
theorem walk (w : World) (D0 : Nat) (x0 : List ByteArray) (v0 : Value) (F0 : List Nat) (h0 : SlR 1 (StrR D0) w x0 v0 F0) : Calls Try.prog 4 #[v0] w fun en w' => en = .returned (.bool true) ∧ Below w.heap.size w w' := by
  have h0 := h0.mono (fun x cs F (hx : StrR D0 w x cs F) => hx.up (D0) (by omega))
  generalize D0 = D at h0
  have A0 := hide h0
  have LA0 := hide (h0.lt (StrR.good D))
  clear h0
  go_enter Try.func4, Try.ntmps4
  go_wp2_with fail
  refine Calls.mono (zs_Str D x0 v0 F0 _ 1048576 A0.out (by omega) (by omega)) ?_
  rintro en W1 ⟨⟨r0, rfl, hr⟩, hb⟩
  have z1 : w.heap.size ≤ W1.heap.size := hb.size
  have B1 := hide hb
  have Hw1 : Hid (Below w.heap.size w W1) := hide (hb)
  clear hb
  rcases hr with rfl | ⟨hr0, hq⟩
  · go_wp2_with fail
    go_ret
    exact ⟨rfl, Hw1.out⟩
  have hnn := bulkS_nonneg x0
  have Hb0 : Hid (x0.length ≤ 1048576 ∧ bulkS x0 ≤ 1048576) := hide (by omega)
  have hn0 : x0.length ≤ 1048576 := by omega
  have hl0 : r0 ≤ 1048576 := by omega
  clear hq hnn
  go_wp2_with fail
  clear hr0 hl0
  refine Calls.mono (cs_Str D x0 v0 F0 _ (A0.out.below (StrR.good D) Hw1.out LA0.out) Hb0.out.1 Hb0.out.2) ?_
  rintro en W2 ⟨vp0, Gp0, rfl, hR, hf, hb⟩
  have z2 : W1.heap.size ≤ W2.heap.size := hb.size
  have B2 := hide hb
  have Hw2 : Hid (Below w.heap.size w W2) := hide (Hw1.out.trans (hb.mono Hw1.out.size))
  clear hb
  have Op0 := hide hR
  have Lp0 := hide hf.lt
  have Rp0 := hide hf
  clear hR hf
  go_wp2_with fail
  refine Calls.mono (s_AllDistinct D x0 _ Gp0 _ Op0.out hn0) ?_
  rintro en W3 ⟨rfl, hb⟩
  have z3 : W2.heap.size ≤ W3.heap.size := hb.size
  have B3 := hide hb
  have Hw3 : Hid (Below w.heap.size w W3) := hide (Hw2.out.trans (hb.mono Hw2.out.size))
  clear hb
  go_wp2_with fail
  refine Calls.mono (cs_Str D x0 v0 F0 _ (A0.out.below (StrR.good D) Hw3.out LA0.out) Hb0.out.1 Hb0.out.2) ?_
  rintro en W4 ⟨vx0, Gx0, rfl, hR, hf, hb⟩
  have z4 : W3.heap.size ≤ W4.heap.size := hb.size
  have B4 := hide hb
  have Hw4 : Hid (Below w.heap.size w W4) := hide (Hw3.out.trans (hb.mono Hw3.out.size))
  clear hb
  have Ox0 := hide hR
  have Lx0 := hide hf.lt
  have Rx0 := hide hf
  clear hR hf
  go_wp2_with fail
  refine Calls.mono (i_AllDistinct D x0 _ Gx0 _ Ox0.out hn0) ?_
  rintro en W5 ⟨rfl, hb⟩
  have z5 : W4.heap.size ≤ W5.heap.size := hb.size
  have B5 := hide hb
  have Hw5 : Hid (Below w.heap.size w W5) := hide (Hw4.out.trans (hb.mono Hw4.out.size))
  clear hb
  go_wp2_with fail
  refine Calls.mono (cs_Str D x0 v0 F0 _ (A0.out.below (StrR.good D) Hw5.out LA0.out) Hb0.out.1 Hb0.out.2) ?_
  rintro en W6 ⟨vq0, Gq0, rfl, hR, hf, hb⟩
  have z6 : W5.heap.size ≤ W6.heap.size := hb.size
  have B6 := hide hb
  have Hw6 : Hid (Below w.heap.size w W6) := hide (Hw5.out.trans (hb.mono Hw5.out.size))
  clear hb
  have Oq0 := hide hR
  have Lq0 := hide hf.lt
  have Rq0 := hide hf
  clear hR hf
  go_wp2_with fail
  refine Calls.mono (es_Str D x0 _ _ Gx0 Gq0 _ (Ox0.out.below (StrR.good D) (below_step B5.out (Nat.le_refl _) B6.out) (fun b hb => Nat.lt_of_lt_of_le (Lx0.out b hb) (by omega))) Oq0.out) ?_
  rintro en W7 ⟨rfl, hb⟩
  have z7 : W6.heap.size ≤ W7.heap.size := hb.size
  have B7 := hide hb
  have Hw7 : Hid (Below w.heap.size w W7) := hide (Hw6.out.trans (hb.mono Hw6.out.size))
  clear hb
  go_wp2_with fail
  go_ret
  exact ⟨rfl, Hw7.out⟩

set_option maxRecDepth 100000 in
theorem lifted (os : Os) (started : os.Started) (H : Type) (enc : TypeId × Value → H) :
    ReturnsInHanded {} Try.checked os 4 .any (Rows.fnExactAllDistinctSpec.pre6 enc Try.prog Try.f4 Rows.fnExactAllDistinctRow.domain false) (Rows.fnExactAllDistinctSpec.post enc Try.prog Try.f4 false true false false) := by
  refine returnsInHanded_of_change (C := Try.checked) own started (by kernel_rfl) Try.func4
    (ChangeSpec.witness6 (enc := enc) (C := Try.checked) false ⟨#[], #[.slice none 0 0], []⟩ 12 (by kernel_rfl) (by kernel_rfl) (by kernel_rfl) (by kernel_rfl)) ?_
  intro W base args ds gs before hval0 hW hcnd _
  have hval : ∀ (j : Nat) t v, Try.f4.params[j]? = some t → args[j]? = some v → Value.okWide Try.prog W .any base t v := hval0
  have hW' := hW
  obtain ⟨p, q, hA0, hV, rfl, hfz, hnd⟩ := hW
  have hA : DataW.TrodAll enc Try.prog W 0 (fun _ => true) true Try.f4.params.toList args.toList ds p := hA0
  rw [Try.params4] at hA hval
  obtain ⟨v0, vs0, d0, ds0, p0, q0, hargs, rfl, rfl, h0, r0x⟩ := trodAll_cons hA
  obtain ⟨rfl, rfl, rfl⟩ := trodAll_nil r0x
  obtain rfl : args = #[v0] := by cases args; simp_all
  obtain ⟨rfl, rfl⟩ := trodVars_none hV
  obtain ⟨D0, a0, F0, w0⟩ := open_StrL (hval 0 22 v0 rfl rfl) h0
  clear hA0 hval0
  refine (walk W D0 a0 v0 F0 w0).mono fun e W' ⟨he, hb⟩ => ?_
  exact ⟨_, he, law_post (gs := []) hW' hb (by kernel_rfl) (by kernel_rfl) (by kernel_rfl) Try.underlying4 rfl rfl⟩

set_option maxHeartbeats 4000000 in
theorem over : Rows.fnExactAllDistinctRow.holds Try.pinned (OpenSpec.ofChange Rows.fnExactAllDistinctSpec) :=
  OpenClaim.holds_of_wide 4 Try.f4 rfl rfl rfl rfl rfl rfl rfl ⟨rfl, rfl, rfl, rfl, rfl⟩ rfl rfl rfl rfl rfl (by as_aux_lemma => kernel_rfl) Try.func4 (by as_aux_lemma => kernel_rfl)
    (of_decide_eq_true (by as_aux_lemma => kernel_rfl)) (by unfold Func.isWrapper; first | (rw [if_pos (by as_aux_lemma => decide +kernel)]; as_aux_lemma => kernel_rfl) | (rw [if_neg (by as_aux_lemma => decide +kernel)]; exact ⟨rfl, rfl⟩))
    (fun os started H enc _ => lifted os started H enc)

/-- The statement. -/
theorem proved : Rows.FnExactAllDistinctSaid := over
#print axioms proved
end Go.Proofs.Ytbhgadaphmaplaa.fnExactAllDistinct
