/- Drawing numbers and texts: what the reference's generator hands out is an int, or a short text. Conditions: the code is at most 2^20 bytes. -/
import Derived.Test.YtfeddokldidjeaaDoorDraw
import Derived.Test.YtfeddokldidjeaaDoorItoa
namespace Go.Proofs.YtfeddokldidjeaaDoor
set_option maxRecDepth 100000
open Go.RowKit Go.Lib
set_option linter.unusedVariables false

def DrawnS (b : Nat) (w : World) (e : Ending) (w' : World) : Prop := ∃ x : ByteArray, e = .returned (.string x) ∧ x.size ≤ 32 ∧ Cur w' b ∧ w.grownBy w' (some b)
theorem pick_cellS {b B bl off n : Nat} {zs : List ByteArray} {w w' : World} (hr : Rd w B (some ⟨bl, off, none⟩) n (zs.map Value.string)) (hlt : bl < w.heap.size) (hne : bl ≠ b) (hg : w.grownBy w' (some b)) (x : Int) (h0 : 0 ≤ x) (h1 : x ≤ n - 1) :
    ∃ z, z ∈ zs ∧ w'.cell? ⟨bl, off + x.toNat, none⟩ = some (.string z) := by
  obtain ⟨bl', off', z, hA, _, hxz, hc⟩ := hr.get (k := x.toNat) (by omega)
  injection hA with hA
  injection hA with e1 e2 _
  subst e1 e2
  exact ⟨z, List.mem_of_getElem? hxz, (World.cell?_of_block (hg.block bl hlt (fun e => hne (by injection e)))).trans hc⟩
theorem s_l1Pick {b : Nat} {w : World} (hc : Cur w b) (B : Nat) (A : Option Addr) (n c : Nat) (zs : List ByteArray) (hr : Rd w B A n (zs.map Value.string)) (h0 : 1 ≤ n) (h1 : n ≤ 256)
    (hne : ∀ bl off, A = some ⟨bl, off, none⟩ → bl ≠ b) (hz : ∀ z ∈ zs, z.size ≤ 32) :
    Calls Tryd.prog 39 #[.pointer (some ⟨b, 0, none⟩), .slice A n c] w (DrawnS b w) := by
  obtain ⟨bl, off, hA, hB, hcells⟩ := hr.2 (by omega)
  subst hA
  have hlt := cell_lt (hcells 0 _ (List.getElem?_eq_getElem (by have := hr.1; omega)))
  have hne' := hne bl off rfl
  go_enter Tryd.func39, Tryd.ntmps39
  go_wp2_with (go_at_call 50; refine (s_l1Below hc n (by omega) (by omega)).mono ?_; rintro e w' ⟨x, rfl, hx0, hx1, hc1, hg1⟩; obtain ⟨z, hzm, hcz⟩ := pick_cellS hr hlt hne' hg1 x hx0 hx1)
  go_ret
  exact ⟨_, rfl, hz z hzm, hc1, hg1⟩
/-- One of a list of texts that has just been laid. -/
theorem s_pickNewS {b : Nat} {w : World} (hc : Cur w b) (zs : List ByteArray) (h0 : 1 ≤ zs.length) (h1 : zs.length ≤ 256) (hz : zs.all (fun z => decide (z.size ≤ 32)) = true) :
    Calls Tryd.prog 39 #[.pointer (some ⟨b, 0, none⟩), .slice (some ⟨w.heap.size, 0, none⟩) zs.length zs.length] (w.alloc (.cells (zs.map Value.string).toArray 9)) (DrawnS b w) := by
  have hlt := hc.lt
  have hb : Below w.heap.size w (w.alloc (.cells (zs.map Value.string).toArray 9)) := (Below.refl _ _).alloc (Nat.le_refl _) _
  have hn := Rd.new w 9 (zs.map Value.string)
  rw [List.length_map] at hn
  refine (s_l1Pick (hc.below hb) _ _ _ _ zs hn h0 h1 (fun bl off e => by injection e with e; injection e with e1 _ _; omega) (fun z hzm => by simpa using List.all_eq_true.1 hz z hzm)).mono ?_
  rintro e w' ⟨x, rfl, hx, hc1, hg⟩
  exact ⟨x, rfl, hx, hc1, grown_below hb hg⟩
set_option maxRecDepth 100000 in
theorem s_l1Whole {b : Nat} {w : World} (hc : Cur w b) : Calls Tryd.prog 36 #[.pointer (some ⟨b, 0, none⟩)] w (Drawn (-9223372036854775808) 9223372036854775807 b w) := by
  go_enter Tryd.func36, Tryd.ntmps36
  go_wp2_with fail
  refine (s_l1Below hc 3 (by omega) (by omega)).mono ?_
  rintro e w1 ⟨x, rfl, hx0, hx1, hc1, hg1⟩
  by_cases h0 : x = 0
  · subst h0
    have hp := s_pickNew hc1 [0, 1, -1, 9, 10, 999999, 1000000, 999999999999, 1000000000000, -999999999999, 9223372036854775807, -9223372036854775808] (-9223372036854775808) 9223372036854775807 (by decide) (by decide) (by decide)
    simp only [List.map_cons, List.map_nil, List.length_cons, List.length_nil] at hp
    have Hp := hide hp
    clear hp
    go_wp2_with (go_at_call 40; refine Calls.mono Hp.out ?_; rintro e w' ⟨y, rfl, hy0, hy1, hc2, hg2⟩)
    go_ret
    exact Drawn.mk hy0 hy1 hc2 (grown_trans2 hg1 hg2)
  by_cases h1 : x = 1
  · subst h1
    go_wp2_with fail
    refine (s_l1BelowBig hc1 1000000 (by omega) (by omega)).mono ?_
    rintro e w2 ⟨y, rfl, hy0, hy1, hc2, hg2⟩
    go_wp2_with fail
    go_ret
    exact Drawn.mk (by omega) (by omega) hc2 (grown_trans2 hg1 hg2)
  · have e0 : (x == 0) = false := by simpa using h0
    have e1 : (x == 1) = false := by simpa using h1
    go_wp2_with fail
    refine (s_l1Below hc1 20 (by omega) (by omega)).mono ?_
    rintro e w2 ⟨y, rfl, hy0, hy1, hc2, hg2⟩
    go_wp2_with fail
    go_ret
    exact Drawn.mk (by omega) (by omega) hc2 (grown_trans2 hg1 hg2)
theorem s_DrawFormatInt (A : Option Addr) (n c : Nat) (zs : List Int) (w : World) (hr : Rd w w.heap.size A n (zs.map (Value.int .u8))) (hz : ∀ z ∈ zs, (Lit.int .u8 z).wf = true) (hn : n ≤ 1048576) :
    Calls Tryd.prog 24 #[.slice A n c] w fun e w' => ∃ x : Int, e = .returned (.int .i64 x) ∧ -9223372036854775808 ≤ x ∧ x ≤ 9223372036854775807 ∧ Below w.heap.size w w' := by
  go_enter Tryd.func24, Tryd.ntmps24
  go_wp2_with fail
  refine (s_l1New A n c zs w hr hz hn).mono ?_
  rintro e w1 ⟨rfl, hc1, hb1, hl1⟩
  go_wp2_with fail
  refine (s_l1Whole hc1).mono ?_
  rintro e w2 ⟨x, rfl, hx0, hx1, hc2, hg2⟩
  go_wp2_with fail
  go_ret
  exact ⟨x, rfl, hx0, hx1, hb1.trans (below_grown hg2 hl1)⟩
set_option maxRecDepth 100000 in
theorem s_DrawParseNumber (A : Option Addr) (n c : Nat) (zs : List Int) (w : World) (hr : Rd w w.heap.size A n (zs.map (Value.int .u8))) (hz : ∀ z ∈ zs, (Lit.int .u8 z).wf = true) (hn : n ≤ 1048576) :
    Calls Tryd.prog 25 #[.slice A n c] w fun e w' => ∃ x : ByteArray, e = .returned (.string x) ∧ x.size ≤ 32 ∧ Below w.heap.size w w' := by
  go_enter Tryd.func25, Tryd.ntmps25
  go_wp2_with fail
  refine (s_l1New A n c zs w hr hz hn).mono ?_
  rintro e w1 ⟨rfl, hc1, hb1, hl1⟩
  go_wp2_with fail
  refine (s_l1Once hc1 2 (by omega) (by omega)).mono ?_
  rintro e w2 ⟨x, rfl, hc2, hg2⟩
  cases x
  · have hp := s_pickNewS hc2 [⟨#[]⟩, ⟨#[48, 48]⟩, ⟨#[48, 49]⟩, ⟨#[45, 49]⟩, ⟨#[43, 49]⟩, ⟨#[120]⟩, ⟨#[57, 57, 57, 57, 57, 57]⟩, ⟨#[49, 48, 48, 48, 48, 48, 48]⟩, ⟨#[45, 48]⟩, ⟨#[45]⟩, ⟨#[32, 49]⟩, ⟨#[49, 32]⟩] (by decide) (by decide) (by decide)
    simp only [List.map_cons, List.map_nil, List.length_cons, List.length_nil] at hp
    have Hp := hide hp
    clear hp
    go_wp2_with (go_at_call 39; refine Calls.mono Hp.out ?_; rintro e w' ⟨y, rfl, hy, hc3, hg3⟩)
    go_ret
    exact ⟨y, rfl, hy, hb1.trans (below_grown (grown_trans2 hg2 hg3) hl1)⟩
  · go_wp2_with fail
    refine (s_l1Whole hc2).mono ?_
    rintro e w3 ⟨y, rfl, hy0, hy1, hc3, hg3⟩
    go_wp2_with fail
    refine (s_FormatInt y hy0 hy1 w3).mono ?_
    rintro e w4 ⟨rfl, hb4⟩
    have hbl : Below w.heap.size w w3 := hb1.trans (below_grown (grown_trans2 hg2 hg3) hl1)
    have hsz := itoa_length_le y hy0 hy1
    go_wp2_with fail
    go_ret
    exact ⟨_, rfl, by simp [ByteArray.size]; omega, hbl.trans (hb4.mono hbl.size)⟩
end Go.Proofs.YtfeddokldidjeaaDoor
