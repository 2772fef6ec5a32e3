/- The law FnExactSortNames: whatever the arguments, the call returns true and leaves the arguments as they were. Conditions: none. -/
import Derived.Test.YtbhgadaphmaplaaRows
import Derived.Test.YtbhgadaphmaplaaKit
import Derived.Test.YtbhgadaphmaplaaSort
import Derived.Test.YtbhgadaphmaplaaMark
namespace Go.Proofs.Ytbhgadaphmaplaa.fnExactSortNames
set_option maxRecDepth 100000
open Go.ChangeShapes Go.WideShapes Go.ChangeAt Go.RowKit
set_option linter.unusedVariables false

theorem own : ownKnob Try.prog.godebug = none := by kernel_rfl

set_option maxRecDepth 100000 in
set_option maxHeartbeats 4000000 in
theorem walk (w : World) (D0 : Nat) (x0 : List ByteArray) (v0 : Value) (F0 : List Nat) (h0 : SlR 1 (StrR D0) w x0 v0 F0) : Calls Try.prog 5 #[v0] w fun en w' => en = .returned (.bool true) ∧ Below w.heap.size w w' := by
  have h0 := h0.mono (fun x cs F (hx : StrR D0 w x cs F) => hx.up (D0) (by omega))
  generalize D0 = D at h0
  have A0 := hide h0
  have LA0 := hide (h0.lt (StrR.good D))
  clear h0
  go_enter Try.func5, Try.ntmps5
  go_wp2_with fail
  refine Calls.mono (zs_Str D x0 v0 F0 _ 1048576 A0.out (by omega) (by omega)) ?_
  rintro en W1 ⟨⟨r0, rfl, hr⟩, hb⟩
  have z1 : w.heap.size ≤ W1.heap.size := hb.size
  have B1 := hide hb
  have Hw1 : Hid (Below w.heap.size w W1) := hide (hb)
  clear hb
  rcases hr with rfl | ⟨hr0, hq⟩
  · go_wp2_with fail
    go_ret
    exact ⟨rfl, Hw1.out⟩
  have hnn := bulkS_nonneg x0
  have Hb0 : Hid (x0.length ≤ 1048576 ∧ bulkS x0 ≤ 1048576) := hide (by omega)
  have hn0 : x0.length ≤ 1048576 := by omega
  have hl0 : r0 ≤ 1048576 := by omega
  clear hq hnn
  go_wp2_with fail
  clear hr0 hl0
  refine Calls.mono (cs_Str D x0 v0 F0 _ (A0.out.below (StrR.good D) Hw1.out LA0.out) Hb0.out.1 Hb0.out.2) ?_
  rintro en W2 ⟨vp0, Gp0, rfl, hR, hf, hb⟩
  have z2 : W1.heap.size ≤ W2.heap.size := hb.size
  have B2 := hide hb
  have Hw2 : Hid (Below w.heap.size w W2) := hide (Hw1.out.trans (hb.mono Hw1.out.size))
  clear hb
  have Op0 := hide hR
  have Lp0 := hide hf.lt
  have Rp0 := hide hf
  clear hR hf
  go_wp2_with fail
  refine Calls.mono (s_SortNames D x0 _ Gp0 _ Op0.out hn0) ?_
  rintro en W3 ⟨vw, Gw, rfl, hR, hf, hb⟩
  have z3 : W2.heap.size ≤ W3.heap.size := hb.size
  have B3 := hide hb
  have Hw3 : Hid (Below w.heap.size w W3) := hide (Hw2.out.trans (hb.mono Hw2.out.size))
  clear hb
  have Ow := hide hR
  have Lw := hide hf.lt
  have Rw := hide hf
  clear hR hf
  go_wp2_with fail
  refine Calls.mono (cs_Str D x0 v0 F0 _ (A0.out.below (StrR.good D) Hw3.out LA0.out) Hb0.out.1 Hb0.out.2) ?_
  rintro en W4 ⟨vx0, Gx0, rfl, hR, hf, hb⟩
  have z4 : W3.heap.size ≤ W4.heap.size := hb.size
  have B4 := hide hb
  have Hw4 : Hid (Below w.heap.size w W4) := hide (Hw3.out.trans (hb.mono Hw3.out.size))
  clear hb
  have Ox0 := hide hR
  have Lx0 := hide hf.lt
  have Rx0 := hide hf
  clear hR hf
  go_wp2_with fail
  refine Calls.mono (i_SortNames D x0 _ Gx0 _ Ox0.out hn0) ?_
  rintro en W5 ⟨vg, Gg, rfl, hR, hf, hb⟩
  have z5 : W4.heap.size ≤ W5.heap.size := hb.size
  have B5 := hide hb
  have Hw5 : Hid (Below w.heap.size w W5) := hide (Hw4.out.trans (hb.mono Hw4.out.size))
  clear hb
  have Og := hide hR
  have Lg := hide hf.lt
  have Rg := hide hf
  clear hR hf
  go_wp2_with fail
  refine Calls.mono (es_Str D (sortN x0) _ _ Gg Gw _ Og.out (Ow.out.below (StrR.good D) (below_step B4.out (Nat.le_refl _) B5.out) (fun b hb => Nat.lt_of_lt_of_le (Lw.out b hb) (by omega)))) ?_
  rintro en W6 ⟨rfl, hb⟩
  have z6 : W5.heap.size ≤ W6.heap.size := hb.size
  have B6 := hide hb
  have Hw6 : Hid (Below w.heap.size w W6) := hide (Hw5.out.trans (hb.mono Hw5.out.size))
  clear hb
  go_wp2_with fail
  refine Calls.mono (cs_Str D x0 v0 F0 _ (A0.out.below (StrR.good D) Hw6.out LA0.out) Hb0.out.1 Hb0.out.2) ?_
  rintro en W7 ⟨vq0, Gq0, rfl, hR, hf, hb⟩
  have z7 : W6.heap.size ≤ W7.heap.size := hb.size
  have B7 := hide hb
  have Hw7 : Hid (Below w.heap.size w W7) := hide (Hw6.out.trans (hb.mono Hw6.out.size))
  clear hb
  have Oq0 := hide hR
  have Lq0 := hide hf.lt
  have Rq0 := hide hf
  clear hR hf
  go_wp2_with fail
  refine Calls.mono (es_Str D x0 _ _ Gx0 Gq0 _ (Ox0.out.below (StrR.good D) (below_step (below_step B5.out (Nat.le_refl _) B6.out) (Nat.le_refl _) B7.out) (fun b hb => Nat.lt_of_lt_of_le (Lx0.out b hb) (by omega))) Oq0.out) ?_
  rintro en W8 ⟨rfl, hb⟩
  have z8 : W7.heap.size ≤ W8.heap.size := hb.size
  have B8 := hide hb
  have Hw8 : Hid (Below w.heap.size w W8) := hide (Hw7.out.trans (hb.mono Hw7.out.size))
  clear hb
  go_wp2_with fail
  have hfm : ∀ b ∈ Gx0, w.heap.size ≤ b := fun b hb => by have := Rx0.out.from_ b hb; have := Hw3.out.size; omega
  have Hfm := hide hfm
  clear hfm
  refine Calls.mono (m_Str D _ 1 x0 _ Gx0 _ (Ox0.out.below (StrR.good D) (below_step (below_step (below_step B5.out (Nat.le_refl _) B6.out) (Nat.le_refl _) B7.out) (Nat.le_refl _) B8.out) (fun b hb => Nat.lt_of_lt_of_le (Lx0.out b hb) (by omega))) (Rx0.out.below (below_step (below_step (below_step B5.out (Nat.le_refl _) B6.out) (Nat.le_refl _) B7.out) (Nat.le_refl _) B8.out)) (by omega) (by omega)) ?_
  rintro en W9 ⟨rfl, hR, hf, ha⟩
  have z9 : W8.heap.size ≤ W9.heap.size := ha.size
  have Hw9 : Hid (Below w.heap.size w W9) := hide (Hw8.out.trans (ha.below Hfm.out Hw8.out.size))
  have hd : ∀ b ∈ Gw, b ∉ Gx0 := fun b h1 h2 => by have := Lw.out b h1; have := Rx0.out.from_ b h2; omega
  have hO := (Ow.out.below (StrR.good D) (below_step (below_step (below_step (below_step B4.out (Nat.le_refl _) B5.out) (Nat.le_refl _) B6.out) (Nat.le_refl _) B7.out) (Nat.le_refl _) B8.out) (fun b hb => Nat.lt_of_lt_of_le (Lw.out b hb) (by omega))).apart (StrR.good D) ha hd
  have hFr := (Rw.out.below (below_step (below_step (below_step (below_step B4.out (Nat.le_refl _) B5.out) (Nat.le_refl _) B6.out) (Nat.le_refl _) B7.out) (Nat.le_refl _) B8.out)).apart ha hd
  clear Ow Rw
  have Ow := hide hO
  have Rw := hide hFr
  clear hO hFr hd
  have hd : ∀ b ∈ Gg, b ∉ Gx0 := fun b h1 h2 => by have := Lx0.out b h2; have := Rg.out.from_ b h1; omega
  have hO := (Og.out.below (StrR.good D) (below_step (below_step B6.out (Nat.le_refl _) B7.out) (Nat.le_refl _) B8.out) (fun b hb => Nat.lt_of_lt_of_le (Lg.out b hb) (by omega))).apart (StrR.good D) ha hd
  have hFr := (Rg.out.below (below_step (below_step B6.out (Nat.le_refl _) B7.out) (Nat.le_refl _) B8.out)).apart ha hd
  clear Og Rg
  have Og := hide hO
  have Rg := hide hFr
  clear hO hFr hd
  clear Ox0 Rx0 ha
  have Ox0 := hide hR
  have Rx0 := hide hf
  clear hR hf Hfm
  go_wp2_with fail
  refine Calls.mono (es_Str D (sortN x0) _ _ Gg Gw _ Og.out Ow.out) ?_
  rintro en W10 ⟨rfl, hb⟩
  have z10 : W9.heap.size ≤ W10.heap.size := hb.size
  have B10 := hide hb
  have Hw10 : Hid (Below w.heap.size w W10) := hide (Hw9.out.trans (hb.mono Hw9.out.size))
  clear hb
  go_wp2_with fail
  have hcnt : (sortN x0).length ≤ 1099511627774 := by have := sortN_len x0; omega
  have hfm : ∀ b ∈ Gg, w.heap.size ≤ b := fun b hb => by have := Rg.out.from_ b hb; have := Hw4.out.size; omega
  have Hfm := hide hfm
  clear hfm
  refine Calls.mono (m_Str D _ 1 (sortN x0) _ Gg _ (Og.out.below (StrR.good D) B10.out (fun b hb => Nat.lt_of_lt_of_le (Lg.out b hb) (by omega))) (Rg.out.below B10.out) (by omega) (by omega)) ?_
  rintro en W11 ⟨rfl, hR, hf, ha⟩
  have z11 : W10.heap.size ≤ W11.heap.size := ha.size
  have Hw11 : Hid (Below w.heap.size w W11) := hide (Hw10.out.trans (ha.below Hfm.out Hw10.out.size))
  have hd : ∀ b ∈ Gw, b ∉ Gg := fun b h1 h2 => by have := Lw.out b h1; have := Rg.out.from_ b h2; omega
  have hO := (Ow.out.below (StrR.good D) B10.out (fun b hb => Nat.lt_of_lt_of_le (Lw.out b hb) (by omega))).apart (StrR.good D) ha hd
  have hFr := (Rw.out.below B10.out).apart ha hd
  clear Ow Rw
  have Ow := hide hO
  have Rw := hide hFr
  clear hO hFr hd
  have hd : ∀ b ∈ Gx0, b ∉ Gg := fun b h1 h2 => by have := Lx0.out b h1; have := Rg.out.from_ b h2; omega
  have hO := (Ox0.out.below (StrR.good D) B10.out (fun b hb => Nat.lt_of_lt_of_le (Lx0.out b hb) (by omega))).apart (StrR.good D) ha hd
  have hFr := (Rx0.out.below B10.out).apart ha hd
  clear Ox0 Rx0
  have Ox0 := hide hO
  have Rx0 := hide hFr
  clear hO hFr hd
  clear Og Rg ha
  have Og := hide hR
  have Rg := hide hf
  clear hR hf Hfm
  go_wp2_with fail
  refine Calls.mono (hd_Str D 1 (sortN x0).length _ Gg _ Og.out (by omega) (by omega)) ?_
  rintro en W12 ⟨rfl, hb⟩
  have z12 : W11.heap.size ≤ W12.heap.size := hb.size
  have B12 := hide hb
  have Hw12 : Hid (Below w.heap.size w W12) := hide (Hw11.out.trans (hb.mono Hw11.out.size))
  clear hb
  go_wp2_with fail
  refine Calls.mono (cs_Str D x0 v0 F0 _ (A0.out.below (StrR.good D) Hw12.out LA0.out) Hb0.out.1 Hb0.out.2) ?_
  rintro en W13 ⟨vy0, Gy0, rfl, hR, hf, hb⟩
  have z13 : W12.heap.size ≤ W13.heap.size := hb.size
  have B13 := hide hb
  have Hw13 : Hid (Below w.heap.size w W13) := hide (Hw12.out.trans (hb.mono Hw12.out.size))
  clear hb
  have Oy0 := hide hR
  have Ly0 := hide hf.lt
  have Ry0 := hide hf
  clear hR hf
  go_wp2_with fail
  refine Calls.mono (i_SortNames D x0 _ Gy0 _ Oy0.out hn0) ?_
  rintro en W14 ⟨vh, Gh, rfl, hR, hf, hb⟩
  have z14 : W13.heap.size ≤ W14.heap.size := hb.size
  have B14 := hide hb
  have Hw14 : Hid (Below w.heap.size w W14) := hide (Hw13.out.trans (hb.mono Hw13.out.size))
  clear hb
  have Oh := hide hR
  have Lh := hide hf.lt
  have Rh := hide hf
  clear hR hf
  go_wp2_with fail
  refine Calls.mono (es_Str D (sortN x0) _ _ Gh Gw _ Oh.out (Ow.out.below (StrR.good D) (below_step (below_step B12.out (Nat.le_refl _) B13.out) (Nat.le_refl _) B14.out) (fun b hb => Nat.lt_of_lt_of_le (Lw.out b hb) (by omega)))) ?_
  rintro en W15 ⟨rfl, hb⟩
  have z15 : W14.heap.size ≤ W15.heap.size := hb.size
  have B15 := hide hb
  have Hw15 : Hid (Below w.heap.size w W15) := hide (Hw14.out.trans (hb.mono Hw14.out.size))
  clear hb
  go_wp2_with fail
  refine Calls.mono (hd_Str D 1 (sortN x0).length _ Gg _ (Og.out.below (StrR.good D) (below_step (below_step (below_step B12.out (Nat.le_refl _) B13.out) (Nat.le_refl _) B14.out) (Nat.le_refl _) B15.out) (fun b hb => Nat.lt_of_lt_of_le (Lg.out b hb) (by omega))) (by omega) (by omega)) ?_
  rintro en W16 ⟨rfl, hb⟩
  have z16 : W15.heap.size ≤ W16.heap.size := hb.size
  have B16 := hide hb
  have Hw16 : Hid (Below w.heap.size w W16) := hide (Hw15.out.trans (hb.mono Hw15.out.size))
  clear hb
  go_wp2_with fail
  go_ret
  exact ⟨rfl, Hw16.out⟩

set_option maxRecDepth 100000 in
theorem lifted (os : Os) (started : os.Started) (H : Type) (enc : TypeId × Value → H) :
    ReturnsInHanded {} Try.checked os 5 .any (Rows.fnExactSortNamesSpec.pre6 enc Try.prog Try.f5 Rows.fnExactSortNamesRow.domain false) (Rows.fnExactSortNamesSpec.post enc Try.prog Try.f5 false true false false) := by
  refine returnsInHanded_of_change (C := Try.checked) own started (by kernel_rfl) Try.func5
    (ChangeSpec.witness6 (enc := enc) (C := Try.checked) false ⟨#[], #[.slice none 0 0], []⟩ 12 (by kernel_rfl) (by kernel_rfl) (by kernel_rfl) (by kernel_rfl)) ?_
  intro W base args ds gs before hval0 hW hcnd _
  have hval : ∀ (j : Nat) t v, Try.f5.params[j]? = some t → args[j]? = some v → Value.okWide Try.prog W .any base t v := hval0
  have hW' := hW
  obtain ⟨p, q, hA0, hV, rfl, hfz, hnd⟩ := hW
  have hA : DataW.TrodAll enc Try.prog W 0 (fun _ => true) true Try.f5.params.toList args.toList ds p := hA0
  rw [Try.params5] at hA hval
  obtain ⟨v0, vs0, d0, ds0, p0, q0, hargs, rfl, rfl, h0, r0x⟩ := trodAll_cons hA
  obtain ⟨rfl, rfl, rfl⟩ := trodAll_nil r0x
  obtain rfl : args = #[v0] := by cases args; simp_all
  obtain ⟨rfl, rfl⟩ := trodVars_none hV
  obtain ⟨D0, a0, F0, w0⟩ := open_StrL (hval 0 22 v0 rfl rfl) h0
  clear hA0 hval0
  refine (walk W D0 a0 v0 F0 w0).mono fun e W' ⟨he, hb⟩ => ?_
  exact ⟨_, he, law_post (gs := []) hW' hb (by kernel_rfl) (by kernel_rfl) (by kernel_rfl) Try.underlying4 rfl rfl⟩

set_option maxHeartbeats 4000000 in
theorem over : Rows.fnExactSortNamesRow.holds Try.pinned (OpenSpec.ofChange Rows.fnExactSortNamesSpec) :=
  OpenClaim.holds_of_wide 5 Try.f5 rfl rfl rfl rfl rfl rfl rfl ⟨rfl, rfl, rfl, rfl, rfl⟩ rfl rfl rfl rfl rfl (by as_aux_lemma => kernel_rfl) Try.func5 (by as_aux_lemma => kernel_rfl)
    (of_decide_eq_true (by as_aux_lemma => kernel_rfl)) (by unfold Func.isWrapper; first | (rw [if_pos (by as_aux_lemma => decide +kernel)]; as_aux_lemma => kernel_rfl) | (rw [if_neg (by as_aux_lemma => decide +kernel)]; exact ⟨rfl, rfl⟩))
    (fun os started H enc _ => lifted os started H enc)

/-- The statement. -/
theorem proved : Rows.FnExactSortNamesSaid := over
#print axioms proved
end Go.Proofs.Ytbhgadaphmaplaa.fnExactSortNames
