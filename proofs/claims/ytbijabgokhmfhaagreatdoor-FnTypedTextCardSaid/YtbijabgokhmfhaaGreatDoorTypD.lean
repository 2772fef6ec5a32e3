/- Values with types drawn, and texts of them. Conditions: the bytes drawn from can be read. -/
import Derived.Test.YtbijabgokhmfhaaGreatDoorTypQ
import Derived.Test.YtbijabgokhmfhaaGreatDoorDrawT
import Derived.Test.YtbijabgokhmfhaaGreatDoorTurned
import Derived.Deep.RegionHeld3
namespace Go.Proofs.YtbijabgokhmfhaaGreatDoor
set_option maxRecDepth 100000
open Go.RowKit Go.WideShapes Go.Lib
set_option linter.unusedVariables false

theorem joinT_size (v : Int) : (joinL (wordsT v 12) sp1).length ≤ 264 := by
  have h1 := words_bulk v
  have h2 := wordsT_len v 12
  generalize wordsT v 12 = l at h1 h2
  cases l with
  | nil => simp [joinL, Lib.join, List.intercalate]
  | cons x r =>
    have h3 := lens_bulk (x :: r)
    unfold joinL
    rw [List.map_cons, join_length]
    rw [List.map_cons] at h3
    have h4 : sp1.data.toList.length = 1 := rfl
    rw [h4, List.length_map]
    rw [List.length_cons] at h2
    omega
theorem fmt_size {v : Int} (k : Int) (h0 : -9223372036854775808 ≤ v) (h1 : v ≤ 9223372036854775807) : (fmtTyped v k).size ≤ 300 := by
  have hn := num_size h0 h1
  have hj := joinT_size v
  unfold fmtTyped
  (repeat' split)
  · show (0 : Nat) ≤ 300; omega
  · omega
  · decide
  · decide
  · decide
  · rw [size_data, cat_data, List.length_append, ← size_data (num v)]
    show 1 + (num v).size ≤ 300
    omega
  · rw [size_data, cat_data, cat_data, List.length_append, List.length_append]
    show 1 + (joinL (wordsT v 12) sp1).length + 1 ≤ 300
    omega
theorem fmt_full {v k : Int} (t : ofT v k = true) : (fmtTyped v k).size ≠ 0 := by
  obtain ⟨k0, k1⟩ := ofT_kinds t
  unfold fmtTyped
  rw [if_neg (by rw [t]; decide)]
  have hi : (num v).size ≠ 0 := fun h => itoa_ne v (List.length_eq_zero_iff.1 (by rw [← num_data, ← size_data]; exact h))
  (repeat' split)
  · exact hi
  · decide
  · decide
  · decide
  · rw [size_data, cat_data, List.length_append]
    show 1 + _ ≠ 0
    omega
  · rw [size_data, cat_data, cat_data, List.length_append, List.length_append]
    show 1 + _ + 1 ≠ 0
    omega
theorem parseT_of (v k : Int) : parseT (fmtTyped v k) k = if ofT v k = true then (v, true) else (0, false) := by
  by_cases h : ofT v k = true
  · rw [if_pos h, parseT_fmt h (fmt_full h)]
  · rw [if_neg h]
    unfold fmtTyped
    rw [if_pos (by simpa using h)]
    unfold parseT parseW
    rw [if_neg fun q => q.1 rfl]
set_option maxRecDepth 100000 in
theorem s_DrawTypedB (A : Option Addr) (n c : Nat) (zs : List Int) (w : World) (hr : Rd w w.heap.size A n (zs.map (Value.int .u8))) (hz : ∀ z ∈ zs, (Lit.int .u8 z).wf = true) (hn : n ≤ 1048576) :
    Calls Tryz.prog 25 #[.slice A n c] w fun e w' => ∃ v k : Int, e = .returned (.tuple #[.int .i64 v, .int .i64 k]) ∧ -9223372036854775808 ≤ v ∧ v ≤ 9223372036854775807 ∧ Below w.heap.size w w' := by
  go_enter Tryz.func25, Tryz.ntmps25
  go_wp2_with fail
  refine (s_l1New A n c zs w hr hz hn).mono ?_
  rintro e w1 ⟨rfl, hc1, hb1, hl1⟩
  go_wp2_with fail
  refine (s_l3Kind hc1).mono ?_
  rintro e w2 ⟨kind, rfl, _, _, hc2, hg2⟩
  go_wp2_with fail
  refine (s_l1Once hc2 2 (by omega) (by omega)).mono ?_
  rintro e w3 ⟨x, rfl, hc3, hg3⟩
  cases x
  · go_wp2_with fail
    refine (s_l3Value hc3 kind).mono ?_
    rintro e w4 ⟨v, rfl, hv0, hv1, hc4, hg4⟩
    go_wp2_with fail
    go_ret2
    exact ⟨v, kind, rfl, hv0, hv1, hb1.trans (below_grown (grown_trans2 (grown_trans2 hg2 hg3) hg4) hl1)⟩
  · go_wp2_with fail
    refine (s_l3Any hc3).mono ?_
    rintro e w4 ⟨v, rfl, hv0, hv1, hc4, hg4⟩
    go_wp2_with fail
    go_ret2
    exact ⟨v, kind, rfl, hv0, hv1, hb1.trans (below_grown (grown_trans2 (grown_trans2 hg2 hg3) hg4) hl1)⟩
set_option maxRecDepth 100000 in
theorem s_DrawFormatTyped (A : Option Addr) (n c : Nat) (zs : List Int) (w : World) (hr : Rd w w.heap.size A n (zs.map (Value.int .u8))) (hz : ∀ z ∈ zs, (Lit.int .u8 z).wf = true) (hn : n ≤ 1048576) :
    Calls Tryz.prog 8 #[.slice A n c] w fun e w' => ∃ v k : Int, e = .returned (.tuple #[.int .i64 v, .int .i64 k]) ∧ -9223372036854775808 ≤ v ∧ v ≤ 9223372036854775807 ∧ Below w.heap.size w w' := by
  go_enter Tryz.func8, Tryz.ntmps8
  go_wp2_with fail
  refine (s_DrawTypedB A n c zs w hr hz hn).mono ?_
  rintro e w1 ⟨v, kind, rfl, hv0, hv1, hb⟩
  go_wp2_with fail
  go_ret2
  exact ⟨v, kind, rfl, hv0, hv1, hb⟩
set_option maxRecDepth 100000 in
set_option maxHeartbeats 2000000 in
theorem s_DrawParseTyped (A : Option Addr) (n c : Nat) (zs : List Int) (w : World) (hr : Rd w w.heap.size A n (zs.map (Value.int .u8))) (hz : ∀ z ∈ zs, (Lit.int .u8 z).wf = true) (hn : n ≤ 1048576) :
    Calls Tryz.prog 12 #[.slice A n c] w fun e w' => ∃ (x : ByteArray) (k : Int), e = .returned (.tuple #[.string x, .int .i64 k]) ∧ x.size ≤ 10100 ∧ Below w.heap.size w w' := by
  go_enter Tryz.func12, Tryz.ntmps12
  go_wp2_with fail
  refine (s_l1New A n c zs w hr hz hn).mono ?_
  rintro e w1 ⟨rfl, hc1, hb1, hl1⟩
  go_wp2_with fail
  refine (s_l1Below hc1 4 (by omega) (by omega)).mono ?_
  rintro e w2 ⟨m, rfl, hm0, hm1, hc2, hg2⟩
  go_wp2_with fail
  refine (s_l3Value hc2 _).mono ?_
  rintro e w3 ⟨v, rfl, hv0, hv1, hc3, hg3⟩
  go_wp2_with fail
  refine (s_FormatTyped v _ hv0 hv1 w3).mono ?_
  rintro e w4 ⟨rfl, hb4⟩
  have hc4 := hc3.below hb4
  have hz4 := fmt_size (1 + m) hv0 hv1
  have hBl : Below w.heap.size w w4 := (hb1.trans (below_grown (grown_trans2 hg2 hg3) hl1)).trans (hb4.mono ((hb1.trans (below_grown (grown_trans2 hg2 hg3) hl1)).size))
  generalize fmtTyped v (1 + m) = T at hz4 ⊢
  have hp := s_turnNewS hc4 T (by omega) [⟨#[32]⟩, ⟨#[49]⟩, ⟨#[123]⟩, ⟨#[125]⟩, ⟨#[35]⟩, ⟨#[45]⟩] (by decide) (by decide) (by decide)
  simp only [List.map_cons, List.map_nil, List.length_cons, List.length_nil] at hp
  have Hp := hide hp
  have HB := hide hBl
  have hl4 := hc4.lt
  clear hp hBl hb1 hb4 hg2 hg3 hc1 hc2 hc3
  go_wp2_with (go_at_call 34; refine Calls.mono Hp.out ?_; rintro e w5 ⟨z, rfl, hz5, hc5, hg5⟩)
  go_ret2
  exact ⟨z, _, rfl, hz5, HB.out.trans (below_grown hg5 hl4)⟩
end Go.Proofs.YtbijabgokhmfhaaGreatDoor
