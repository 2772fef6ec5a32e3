/- The law FnExactWithout: whatever the arguments, the call returns true and leaves the arguments as they were. Conditions: none. -/
import Derived.Test.YtemghikeolikpaaRows
import Derived.Test.YtemghikeolikpaaKit
import Derived.Test.YtemghikeolikpaaWithout
import Derived.Test.YtemghikeolikpaaMark
namespace Go.Proofs.Ytemghikeolikpaa.fnExactWithout
open Go.ChangeShapes Go.WideShapes Go.ChangeAt Go.RowKit
set_option linter.unusedVariables false

theorem own : ownKnob Try.prog.godebug = none := by kernel_rfl

set_option maxRecDepth 100000 in
set_option maxHeartbeats 4000000 in
theorem walk (w : World) (D0 : Nat) (x0 : List ByteArray) (v0 : Value) (F0 : List Nat) (h0 : SlR 1 (StrR D0) w x0 v0 F0) (D1 : Nat) (x1 : List ByteArray) (v1 : Value) (F1 : List Nat) (h1 : SlR 1 (StrR D1) w x1 v1 F1) : Calls Try.prog 8 #[v0, v1] w fun en w' => en = .returned (.bool true) ∧ Below w.heap.size w w' := by
  have h0 := h0.mono (fun x cs F (hx : StrR D0 w x cs F) => hx.up (D0 + D1) (by omega))
  have h1 := h1.mono (fun x cs F (hx : StrR D1 w x cs F) => hx.up (D0 + D1) (by omega))
  generalize D0 + D1 = D at h0 h1
  have A0 := hide h0
  have LA0 := hide (h0.lt (StrR.good D))
  clear h0
  have A1 := hide h1
  have LA1 := hide (h1.lt (StrR.good D))
  clear h1
  go_enter Try.func8, Try.ntmps8
  go_wp2_with fail
  refine Calls.mono (zs_Str D x0 v0 F0 _ 1048576 A0.out (by omega) (by omega)) ?_
  rintro en W1 ⟨⟨r0, rfl, hr⟩, hb⟩
  have z1 : w.heap.size ≤ W1.heap.size := hb.size
  have B1 := hide hb
  have Hw1 : Hid (Below w.heap.size w W1) := hide (hb)
  clear hb
  rcases hr with rfl | ⟨hr0, hq⟩
  · go_wp2_with fail
    go_ret
    exact ⟨rfl, Hw1.out⟩
  have hnn := bulkS_nonneg x0
  have Hb0 : Hid (x0.length ≤ 1048576 ∧ bulkS x0 ≤ 1048576) := hide (by omega)
  have hn0 : x0.length ≤ 1048576 := by omega
  have hl0 : r0 ≤ 1048576 := by omega
  clear hq hnn
  go_wp2_with fail
  refine Calls.mono (zs_Str D x1 v1 F1 _ r0 (A1.out.below (StrR.good D) Hw1.out LA1.out) (by omega) (by omega)) ?_
  rintro en W2 ⟨⟨r1, rfl, hr⟩, hb⟩
  have z2 : W1.heap.size ≤ W2.heap.size := hb.size
  have B2 := hide hb
  have Hw2 : Hid (Below w.heap.size w W2) := hide (Hw1.out.trans (hb.mono Hw1.out.size))
  clear hb
  rcases hr with rfl | ⟨hr1, hq⟩
  · go_wp2_with fail
    go_ret
    exact ⟨rfl, Hw2.out⟩
  have hnn := bulkS_nonneg x1
  have Hb1 : Hid (x1.length ≤ 1048576 ∧ bulkS x1 ≤ 1048576) := hide (by omega)
  have hn1 : x1.length ≤ 1048576 := by omega
  have hl1 : r1 ≤ 1048576 := by omega
  clear hq hnn
  go_wp2_with fail
  clear hr0 hl0 hr1 hl1
  refine Calls.mono (cs_Str D x0 v0 F0 _ (A0.out.below (StrR.good D) Hw2.out LA0.out) Hb0.out.1 Hb0.out.2) ?_
  rintro en W3 ⟨vp0, Gp0, rfl, hR, hf, hb⟩
  have z3 : W2.heap.size ≤ W3.heap.size := hb.size
  have B3 := hide hb
  have Hw3 : Hid (Below w.heap.size w W3) := hide (Hw2.out.trans (hb.mono Hw2.out.size))
  clear hb
  have Op0 := hide hR
  have Lp0 := hide hf.lt
  have Rp0 := hide hf
  clear hR hf
  go_wp2_with fail
  refine Calls.mono (cs_Str D x1 v1 F1 _ (A1.out.below (StrR.good D) Hw3.out LA1.out) Hb1.out.1 Hb1.out.2) ?_
  rintro en W4 ⟨vp1, Gp1, rfl, hR, hf, hb⟩
  have z4 : W3.heap.size ≤ W4.heap.size := hb.size
  have B4 := hide hb
  have Hw4 : Hid (Below w.heap.size w W4) := hide (Hw3.out.trans (hb.mono Hw3.out.size))
  clear hb
  have Op1 := hide hR
  have Lp1 := hide hf.lt
  have Rp1 := hide hf
  clear hR hf
  go_wp2_with fail
  refine Calls.mono (s_Without D x0 x1 _ _ Gp0 Gp1 _ (Op0.out.below (StrR.good D) B4.out (fun b hb => Nat.lt_of_lt_of_le (Lp0.out b hb) (by omega))) Op1.out hn0) ?_
  rintro en W5 ⟨vw, Gw, rfl, hR, hf, hb⟩
  have z5 : W4.heap.size ≤ W5.heap.size := hb.size
  have B5 := hide hb
  have Hw5 : Hid (Below w.heap.size w W5) := hide (Hw4.out.trans (hb.mono Hw4.out.size))
  clear hb
  have Ow := hide hR
  have Lw := hide hf.lt
  have Rw := hide hf
  clear hR hf
  go_wp2_with fail
  refine Calls.mono (cs_Str D x0 v0 F0 _ (A0.out.below (StrR.good D) Hw5.out LA0.out) Hb0.out.1 Hb0.out.2) ?_
  rintro en W6 ⟨vx0, Gx0, rfl, hR, hf, hb⟩
  have z6 : W5.heap.size ≤ W6.heap.size := hb.size
  have B6 := hide hb
  have Hw6 : Hid (Below w.heap.size w W6) := hide (Hw5.out.trans (hb.mono Hw5.out.size))
  clear hb
  have Ox0 := hide hR
  have Lx0 := hide hf.lt
  have Rx0 := hide hf
  clear hR hf
  go_wp2_with fail
  refine Calls.mono (cs_Str D x1 v1 F1 _ (A1.out.below (StrR.good D) Hw6.out LA1.out) Hb1.out.1 Hb1.out.2) ?_
  rintro en W7 ⟨vx1, Gx1, rfl, hR, hf, hb⟩
  have z7 : W6.heap.size ≤ W7.heap.size := hb.size
  have B7 := hide hb
  have Hw7 : Hid (Below w.heap.size w W7) := hide (Hw6.out.trans (hb.mono Hw6.out.size))
  clear hb
  have Ox1 := hide hR
  have Lx1 := hide hf.lt
  have Rx1 := hide hf
  clear hR hf
  go_wp2_with fail
  refine Calls.mono (i_Without D x0 x1 _ _ Gx0 Gx1 _ (Ox0.out.below (StrR.good D) B7.out (fun b hb => Nat.lt_of_lt_of_le (Lx0.out b hb) (by omega))) Ox1.out hn0) ?_
  rintro en W8 ⟨vg, Gg, rfl, hR, hf, hb⟩
  have z8 : W7.heap.size ≤ W8.heap.size := hb.size
  have B8 := hide hb
  have Hw8 : Hid (Below w.heap.size w W8) := hide (Hw7.out.trans (hb.mono Hw7.out.size))
  clear hb
  have Og := hide hR
  have Lg := hide hf.lt
  have Rg := hide hf
  clear hR hf
  go_wp2_with fail
  refine Calls.mono (es_Str D (without x0 x1) _ _ Gg Gw _ Og.out (Ow.out.below (StrR.good D) (below_step (below_step B6.out (Nat.le_refl _) B7.out) (Nat.le_refl _) B8.out) (fun b hb => Nat.lt_of_lt_of_le (Lw.out b hb) (by omega)))) ?_
  rintro en W9 ⟨rfl, hb⟩
  have z9 : W8.heap.size ≤ W9.heap.size := hb.size
  have B9 := hide hb
  have Hw9 : Hid (Below w.heap.size w W9) := hide (Hw8.out.trans (hb.mono Hw8.out.size))
  clear hb
  go_wp2_with fail
  refine Calls.mono (cs_Str D x0 v0 F0 _ (A0.out.below (StrR.good D) Hw9.out LA0.out) Hb0.out.1 Hb0.out.2) ?_
  rintro en W10 ⟨vq0, Gq0, rfl, hR, hf, hb⟩
  have z10 : W9.heap.size ≤ W10.heap.size := hb.size
  have B10 := hide hb
  have Hw10 : Hid (Below w.heap.size w W10) := hide (Hw9.out.trans (hb.mono Hw9.out.size))
  clear hb
  have Oq0 := hide hR
  have Lq0 := hide hf.lt
  have Rq0 := hide hf
  clear hR hf
  go_wp2_with fail
  refine Calls.mono (es_Str D x0 _ _ Gx0 Gq0 _ (Ox0.out.below (StrR.good D) (below_step (below_step (below_step B7.out (Nat.le_refl _) B8.out) (Nat.le_refl _) B9.out) (Nat.le_refl _) B10.out) (fun b hb => Nat.lt_of_lt_of_le (Lx0.out b hb) (by omega))) Oq0.out) ?_
  rintro en W11 ⟨rfl, hb⟩
  have z11 : W10.heap.size ≤ W11.heap.size := hb.size
  have B11 := hide hb
  have Hw11 : Hid (Below w.heap.size w W11) := hide (Hw10.out.trans (hb.mono Hw10.out.size))
  clear hb
  go_wp2_with fail
  refine Calls.mono (cs_Str D x1 v1 F1 _ (A1.out.below (StrR.good D) Hw11.out LA1.out) Hb1.out.1 Hb1.out.2) ?_
  rintro en W12 ⟨vq1, Gq1, rfl, hR, hf, hb⟩
  have z12 : W11.heap.size ≤ W12.heap.size := hb.size
  have B12 := hide hb
  have Hw12 : Hid (Below w.heap.size w W12) := hide (Hw11.out.trans (hb.mono Hw11.out.size))
  clear hb
  have Oq1 := hide hR
  have Lq1 := hide hf.lt
  have Rq1 := hide hf
  clear hR hf
  go_wp2_with fail
  refine Calls.mono (es_Str D x1 _ _ Gx1 Gq1 _ (Ox1.out.below (StrR.good D) (below_step (below_step (below_step (below_step B8.out (Nat.le_refl _) B9.out) (Nat.le_refl _) B10.out) (Nat.le_refl _) B11.out) (Nat.le_refl _) B12.out) (fun b hb => Nat.lt_of_lt_of_le (Lx1.out b hb) (by omega))) Oq1.out) ?_
  rintro en W13 ⟨rfl, hb⟩
  have z13 : W12.heap.size ≤ W13.heap.size := hb.size
  have B13 := hide hb
  have Hw13 : Hid (Below w.heap.size w W13) := hide (Hw12.out.trans (hb.mono Hw12.out.size))
  clear hb
  go_wp2_with fail
  have hfm : ∀ b ∈ Gx0, w.heap.size ≤ b := fun b hb => by have := Rx0.out.from_ b hb; have := Hw5.out.size; omega
  have Hfm := hide hfm
  clear hfm
  refine Calls.mono (m_Str D _ 1 x0 _ Gx0 _ (Ox0.out.below (StrR.good D) (below_step (below_step (below_step (below_step (below_step (below_step B7.out (Nat.le_refl _) B8.out) (Nat.le_refl _) B9.out) (Nat.le_refl _) B10.out) (Nat.le_refl _) B11.out) (Nat.le_refl _) B12.out) (Nat.le_refl _) B13.out) (fun b hb => Nat.lt_of_lt_of_le (Lx0.out b hb) (by omega))) (Rx0.out.below (below_step (below_step (below_step (below_step (below_step (below_step B7.out (Nat.le_refl _) B8.out) (Nat.le_refl _) B9.out) (Nat.le_refl _) B10.out) (Nat.le_refl _) B11.out) (Nat.le_refl _) B12.out) (Nat.le_refl _) B13.out)) (by omega) (by omega)) ?_
  rintro en W14 ⟨rfl, hR, hf, ha⟩
  have z14 : W13.heap.size ≤ W14.heap.size := ha.size
  have Hw14 : Hid (Below w.heap.size w W14) := hide (Hw13.out.trans (ha.below Hfm.out Hw13.out.size))
  have hd : ∀ b ∈ Gw, b ∉ Gx0 := fun b h1 h2 => by have := Lw.out b h1; have := Rx0.out.from_ b h2; omega
  have hO := (Ow.out.below (StrR.good D) (below_step (below_step (below_step (below_step (below_step (below_step (below_step B6.out (Nat.le_refl _) B7.out) (Nat.le_refl _) B8.out) (Nat.le_refl _) B9.out) (Nat.le_refl _) B10.out) (Nat.le_refl _) B11.out) (Nat.le_refl _) B12.out) (Nat.le_refl _) B13.out) (fun b hb => Nat.lt_of_lt_of_le (Lw.out b hb) (by omega))).apart (StrR.good D) ha hd
  have hFr := (Rw.out.below (below_step (below_step (below_step (below_step (below_step (below_step (below_step B6.out (Nat.le_refl _) B7.out) (Nat.le_refl _) B8.out) (Nat.le_refl _) B9.out) (Nat.le_refl _) B10.out) (Nat.le_refl _) B11.out) (Nat.le_refl _) B12.out) (Nat.le_refl _) B13.out)).apart ha hd
  clear Ow Rw
  have Ow := hide hO
  have Rw := hide hFr
  clear hO hFr hd
  have hd : ∀ b ∈ Gx1, b ∉ Gx0 := fun b h1 h2 => by have := Lx0.out b h2; have := Rx1.out.from_ b h1; omega
  have hO := (Ox1.out.below (StrR.good D) (below_step (below_step (below_step (below_step (below_step B8.out (Nat.le_refl _) B9.out) (Nat.le_refl _) B10.out) (Nat.le_refl _) B11.out) (Nat.le_refl _) B12.out) (Nat.le_refl _) B13.out) (fun b hb => Nat.lt_of_lt_of_le (Lx1.out b hb) (by omega))).apart (StrR.good D) ha hd
  have hFr := (Rx1.out.below (below_step (below_step (below_step (below_step (below_step B8.out (Nat.le_refl _) B9.out) (Nat.le_refl _) B10.out) (Nat.le_refl _) B11.out) (Nat.le_refl _) B12.out) (Nat.le_refl _) B13.out)).apart ha hd
  clear Ox1 Rx1
  have Ox1 := hide hO
  have Rx1 := hide hFr
  clear hO hFr hd
  have hd : ∀ b ∈ Gg, b ∉ Gx0 := fun b h1 h2 => by have := Lx0.out b h2; have := Rg.out.from_ b h1; omega
  have hO := (Og.out.below (StrR.good D) (below_step (below_step (below_step (below_step B9.out (Nat.le_refl _) B10.out) (Nat.le_refl _) B11.out) (Nat.le_refl _) B12.out) (Nat.le_refl _) B13.out) (fun b hb => Nat.lt_of_lt_of_le (Lg.out b hb) (by omega))).apart (StrR.good D) ha hd
  have hFr := (Rg.out.below (below_step (below_step (below_step (below_step B9.out (Nat.le_refl _) B10.out) (Nat.le_refl _) B11.out) (Nat.le_refl _) B12.out) (Nat.le_refl _) B13.out)).apart ha hd
  clear Og Rg
  have Og := hide hO
  have Rg := hide hFr
  clear hO hFr hd
  clear Ox0 Rx0 ha
  have Ox0 := hide hR
  have Rx0 := hide hf
  clear hR hf Hfm
  go_wp2_with fail
  have hfm : ∀ b ∈ Gx1, w.heap.size ≤ b := fun b hb => by have := Rx1.out.from_ b hb; have := Hw6.out.size; omega
  have Hfm := hide hfm
  clear hfm
  refine Calls.mono (m_Str D _ (1 + x0.length) x1 _ Gx1 _ Ox1.out Rx1.out (by omega) (by omega)) ?_
  rintro en W15 ⟨rfl, hR, hf, ha⟩
  have z15 : W14.heap.size ≤ W15.heap.size := ha.size
  have Hw15 : Hid (Below w.heap.size w W15) := hide (Hw14.out.trans (ha.below Hfm.out Hw14.out.size))
  have hd : ∀ b ∈ Gw, b ∉ Gx1 := fun b h1 h2 => by have := Lw.out b h1; have := Rx1.out.from_ b h2; omega
  have hO := Ow.out.apart (StrR.good D) ha hd
  have hFr := Rw.out.apart ha hd
  clear Ow Rw
  have Ow := hide hO
  have Rw := hide hFr
  clear hO hFr hd
  have hd : ∀ b ∈ Gx0, b ∉ Gx1 := fun b h1 h2 => by have := Lx0.out b h1; have := Rx1.out.from_ b h2; omega
  have hO := Ox0.out.apart (StrR.good D) ha hd
  have hFr := Rx0.out.apart ha hd
  clear Ox0 Rx0
  have Ox0 := hide hO
  have Rx0 := hide hFr
  clear hO hFr hd
  have hd : ∀ b ∈ Gg, b ∉ Gx1 := fun b h1 h2 => by have := Lx1.out b h2; have := Rg.out.from_ b h1; omega
  have hO := Og.out.apart (StrR.good D) ha hd
  have hFr := Rg.out.apart ha hd
  clear Og Rg
  have Og := hide hO
  have Rg := hide hFr
  clear hO hFr hd
  clear Ox1 Rx1 ha
  have Ox1 := hide hR
  have Rx1 := hide hf
  clear hR hf Hfm
  go_wp2_with fail
  refine Calls.mono (es_Str D (without x0 x1) _ _ Gg Gw _ Og.out Ow.out) ?_
  rintro en W16 ⟨rfl, hb⟩
  have z16 : W15.heap.size ≤ W16.heap.size := hb.size
  have B16 := hide hb
  have Hw16 : Hid (Below w.heap.size w W16) := hide (Hw15.out.trans (hb.mono Hw15.out.size))
  clear hb
  go_wp2_with fail
  have hcnt : (without x0 x1).length ≤ 1099511627774 := by have := without_len x0 x1 x0.length; rw [List.take_length] at this; omega
  have hfm : ∀ b ∈ Gg, w.heap.size ≤ b := fun b hb => by have := Rg.out.from_ b hb; have := Hw7.out.size; omega
  have Hfm := hide hfm
  clear hfm
  refine Calls.mono (m_Str D _ 1 (without x0 x1) _ Gg _ (Og.out.below (StrR.good D) B16.out (fun b hb => Nat.lt_of_lt_of_le (Lg.out b hb) (by omega))) (Rg.out.below B16.out) (by omega) (by omega)) ?_
  rintro en W17 ⟨rfl, hR, hf, ha⟩
  have z17 : W16.heap.size ≤ W17.heap.size := ha.size
  have Hw17 : Hid (Below w.heap.size w W17) := hide (Hw16.out.trans (ha.below Hfm.out Hw16.out.size))
  have hd : ∀ b ∈ Gw, b ∉ Gg := fun b h1 h2 => by have := Lw.out b h1; have := Rg.out.from_ b h2; omega
  have hO := (Ow.out.below (StrR.good D) B16.out (fun b hb => Nat.lt_of_lt_of_le (Lw.out b hb) (by omega))).apart (StrR.good D) ha hd
  have hFr := (Rw.out.below B16.out).apart ha hd
  clear Ow Rw
  have Ow := hide hO
  have Rw := hide hFr
  clear hO hFr hd
  have hd : ∀ b ∈ Gx0, b ∉ Gg := fun b h1 h2 => by have := Lx0.out b h1; have := Rg.out.from_ b h2; omega
  have hO := (Ox0.out.below (StrR.good D) B16.out (fun b hb => Nat.lt_of_lt_of_le (Lx0.out b hb) (by omega))).apart (StrR.good D) ha hd
  have hFr := (Rx0.out.below B16.out).apart ha hd
  clear Ox0 Rx0
  have Ox0 := hide hO
  have Rx0 := hide hFr
  clear hO hFr hd
  have hd : ∀ b ∈ Gx1, b ∉ Gg := fun b h1 h2 => by have := Lx1.out b h1; have := Rg.out.from_ b h2; omega
  have hO := (Ox1.out.below (StrR.good D) B16.out (fun b hb => Nat.lt_of_lt_of_le (Lx1.out b hb) (by omega))).apart (StrR.good D) ha hd
  have hFr := (Rx1.out.below B16.out).apart ha hd
  clear Ox1 Rx1
  have Ox1 := hide hO
  have Rx1 := hide hFr
  clear hO hFr hd
  clear Og Rg ha
  have Og := hide hR
  have Rg := hide hf
  clear hR hf Hfm
  go_wp2_with fail
  refine Calls.mono (hd_Str D 1 (without x0 x1).length _ Gg _ Og.out (by omega) (by omega)) ?_
  rintro en W18 ⟨rfl, hb⟩
  have z18 : W17.heap.size ≤ W18.heap.size := hb.size
  have B18 := hide hb
  have Hw18 : Hid (Below w.heap.size w W18) := hide (Hw17.out.trans (hb.mono Hw17.out.size))
  clear hb
  go_wp2_with fail
  refine Calls.mono (cs_Str D x0 v0 F0 _ (A0.out.below (StrR.good D) Hw18.out LA0.out) Hb0.out.1 Hb0.out.2) ?_
  rintro en W19 ⟨vy0, Gy0, rfl, hR, hf, hb⟩
  have z19 : W18.heap.size ≤ W19.heap.size := hb.size
  have B19 := hide hb
  have Hw19 : Hid (Below w.heap.size w W19) := hide (Hw18.out.trans (hb.mono Hw18.out.size))
  clear hb
  have Oy0 := hide hR
  have Ly0 := hide hf.lt
  have Ry0 := hide hf
  clear hR hf
  go_wp2_with fail
  refine Calls.mono (cs_Str D x1 v1 F1 _ (A1.out.below (StrR.good D) Hw19.out LA1.out) Hb1.out.1 Hb1.out.2) ?_
  rintro en W20 ⟨vy1, Gy1, rfl, hR, hf, hb⟩
  have z20 : W19.heap.size ≤ W20.heap.size := hb.size
  have B20 := hide hb
  have Hw20 : Hid (Below w.heap.size w W20) := hide (Hw19.out.trans (hb.mono Hw19.out.size))
  clear hb
  have Oy1 := hide hR
  have Ly1 := hide hf.lt
  have Ry1 := hide hf
  clear hR hf
  go_wp2_with fail
  refine Calls.mono (i_Without D x0 x1 _ _ Gy0 Gy1 _ (Oy0.out.below (StrR.good D) B20.out (fun b hb => Nat.lt_of_lt_of_le (Ly0.out b hb) (by omega))) Oy1.out hn0) ?_
  rintro en W21 ⟨vh, Gh, rfl, hR, hf, hb⟩
  have z21 : W20.heap.size ≤ W21.heap.size := hb.size
  have B21 := hide hb
  have Hw21 : Hid (Below w.heap.size w W21) := hide (Hw20.out.trans (hb.mono Hw20.out.size))
  clear hb
  have Oh := hide hR
  have Lh := hide hf.lt
  have Rh := hide hf
  clear hR hf
  go_wp2_with fail
  refine Calls.mono (es_Str D (without x0 x1) _ _ Gh Gw _ Oh.out (Ow.out.below (StrR.good D) (below_step (below_step (below_step B18.out (Nat.le_refl _) B19.out) (Nat.le_refl _) B20.out) (Nat.le_refl _) B21.out) (fun b hb => Nat.lt_of_lt_of_le (Lw.out b hb) (by omega)))) ?_
  rintro en W22 ⟨rfl, hb⟩
  have z22 : W21.heap.size ≤ W22.heap.size := hb.size
  have B22 := hide hb
  have Hw22 : Hid (Below w.heap.size w W22) := hide (Hw21.out.trans (hb.mono Hw21.out.size))
  clear hb
  go_wp2_with fail
  refine Calls.mono (hd_Str D 1 (without x0 x1).length _ Gg _ (Og.out.below (StrR.good D) (below_step (below_step (below_step (below_step B18.out (Nat.le_refl _) B19.out) (Nat.le_refl _) B20.out) (Nat.le_refl _) B21.out) (Nat.le_refl _) B22.out) (fun b hb => Nat.lt_of_lt_of_le (Lg.out b hb) (by omega))) (by omega) (by omega)) ?_
  rintro en W23 ⟨rfl, hb⟩
  have z23 : W22.heap.size ≤ W23.heap.size := hb.size
  have B23 := hide hb
  have Hw23 : Hid (Below w.heap.size w W23) := hide (Hw22.out.trans (hb.mono Hw22.out.size))
  clear hb
  go_wp2_with fail
  go_ret
  exact ⟨rfl, Hw23.out⟩

set_option maxRecDepth 100000 in
theorem lifted (os : Os) (started : os.Started) (H : Type) (enc : TypeId × Value → H) :
    ReturnsInHanded {} Try.checked os 8 .any (Rows.fnExactWithoutSpec.pre6 enc Try.prog Try.f8 Rows.fnExactWithoutRow.domain false) (Rows.fnExactWithoutSpec.post enc Try.prog Try.f8 false true false false) := by
  refine returnsInHanded_of_change (C := Try.checked) own started (by kernel_rfl) Try.func8
    (ChangeSpec.witness6 (enc := enc) (C := Try.checked) false ⟨#[], #[.slice none 0 0, .slice none 0 0], []⟩ 12 (by kernel_rfl) (by kernel_rfl) (by kernel_rfl) (by kernel_rfl)) ?_
  intro W base args ds gs before hval0 hW hcnd _
  have hval : ∀ (j : Nat) t v, Try.f8.params[j]? = some t → args[j]? = some v → Value.okWide Try.prog W .any base t v := hval0
  have hW' := hW
  obtain ⟨p, q, hA0, hV, rfl, hfz, hnd⟩ := hW
  have hA : DataW.TrodAll enc Try.prog W 0 (fun _ => true) true Try.f8.params.toList args.toList ds p := hA0
  rw [Try.params8] at hA hval
  obtain ⟨v0, vs0, d0, ds0, p0, q0, hargs, rfl, rfl, h0, r0x⟩ := trodAll_cons hA
  obtain ⟨v1, vs1, d1, ds1, p1, q1, rfl, rfl, rfl, h1, r1x⟩ := trodAll_cons r0x
  obtain ⟨rfl, rfl, rfl⟩ := trodAll_nil r1x
  obtain rfl : args = #[v0, v1] := by cases args; simp_all
  obtain ⟨rfl, rfl⟩ := trodVars_none hV
  obtain ⟨D0, a0, F0, w0⟩ := open_StrL (hval 0 30 v0 rfl rfl) h0
  obtain ⟨D1, a1, F1, w1⟩ := open_StrL (hval 1 30 v1 rfl rfl) h1
  clear hA0 hval0
  refine (walk W D0 a0 v0 F0 w0 D1 a1 v1 F1 w1).mono fun e W' ⟨he, hb⟩ => ?_
  exact ⟨_, he, law_post (gs := []) hW' hb (by kernel_rfl) (by kernel_rfl) (by kernel_rfl) Try.underlying4 rfl rfl⟩

theorem over : Rows.fnExactWithoutRow.holds Try.pinned (OpenSpec.ofChange Rows.fnExactWithoutSpec) :=
  OpenClaim.holds_of_wide 8 Try.f8 rfl rfl rfl rfl rfl rfl rfl ⟨rfl, rfl, rfl, rfl, rfl⟩ rfl rfl rfl rfl rfl (by kernel_rfl) Try.func8 (by kernel_rfl)
    (of_decide_eq_true (by kernel_rfl)) (by unfold Func.isWrapper; first | (rw [if_pos (by decide +kernel)]; kernel_rfl) | (rw [if_neg (by decide +kernel)]; exact ⟨rfl, rfl⟩))
    (fun os started H enc _ => lifted os started H enc)

/-- The statement. -/
theorem proved : Rows.FnExactWithoutSaid := over
#print axioms proved
end Go.Proofs.Ytemghikeolikpaa.fnExactWithout
