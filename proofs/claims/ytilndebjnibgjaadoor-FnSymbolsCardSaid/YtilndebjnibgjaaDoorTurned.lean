/- A text drawn out of another one: letters put in, left out, changed. Conditions: the text has at most 10000 bytes. -/
import Derived.Test.YtilndebjnibgjaaDoorDrawN
import Derived.Deep.RegionHeld3
namespace Go.Proofs.YtilndebjnibgjaaDoor
set_option maxRecDepth 100000
open Go.RowKit Go.WideShapes Go.Lib
set_option linter.unusedVariables false

theorem Cur.baseT {w w' : World} {b B : Nat} (h : Cur w b) (hb : Below B w w') (hB : b < B) : Cur w' b := by
  obtain ⟨A, n, c, zs, i, x, hh, h1, h2, hr, hz⟩ := h
  exact ⟨A, n, c, zs, i, x, (hb.block b hB).trans hh, h1, h2, hr.keep fun p hp => hb.cell (by omega), hz⟩
theorem grown_baseT {w w1 w2 : World} {b B : Nat} (h : w.grownBy w1 (some b)) (hg : Below B w1 w2) (hB : w.heap.size ≤ B) : w.grownBy w2 (some b) :=
  ⟨hg.os.trans h.os, hg.tape.trans h.tape, hg.output.trans h.output, Nat.le_trans h.size hg.size, fun k hk hne => (hg.block k (by omega)).trans (h.block k hk hne)⟩
/-- A text drawn, of some length at most. -/
def DrawnZ (m b : Nat) (w : World) (e : Ending) (w' : World) : Prop := ∃ x : ByteArray, e = .returned (.string x) ∧ x.size ≤ m ∧ Cur w' b ∧ w.grownBy w' (some b)
theorem rd_grown {B b n : Nat} {A : Option Addr} {xs : List Value} {w w' : World} (hr : Rd w B A n xs) (h0 : 1 ≤ n) (hne : ∀ bl off, A = some ⟨bl, off, none⟩ → bl ≠ b) (hg : w.grownBy w' (some b)) : Rd w' B A n xs :=
  ⟨hr.1, fun hn => by
    obtain ⟨bl, off, e, hB, hc⟩ := hr.2 hn
    have hlt : bl < w.heap.size := cell_lt (hc 0 _ (List.getElem?_eq_getElem (by have := hr.1; omega)))
    exact ⟨bl, off, e, hB, fun j u hu => (World.cell?_of_block (hg.block bl hlt (fun e2 => hne bl off e (by injection e2)))).trans (hc j u hu)⟩⟩
set_option maxRecDepth 100000 in
set_option maxHeartbeats 2000000 in
theorem s_l1Turned {b : Nat} {w : World} (hc : Cur w b) (s : ByteArray) (hs : s.size ≤ 10000) (B : Nat) (A : Option Addr) (n c : Nat) (zs : List ByteArray) (hr : Rd w B A n (zs.map Value.string)) (h0 : 1 ≤ n) (h1 : n ≤ 256)
    (hne : ∀ bl off, A = some ⟨bl, off, none⟩ → bl ≠ b) (hz : ∀ z ∈ zs, z.size ≤ 32) :
    Calls Tryd.prog 28 #[.pointer (some ⟨b, 0, none⟩), .string s, .slice A n c] w (DrawnZ 10100 b w) := by
  have hbel : Calls Tryd.prog 35 #[.pointer (some ⟨b, 0, none⟩), .int .i64 ((s.size : Int) + 1)] w (Drawn 0 ((s.size : Int) + 1 - 1) b w) := by
    by_cases h : (s.size : Int) + 1 ≤ 256
    · exact s_l1Below hc _ (by omega) h
    · exact s_l1BelowBig hc _ (by omega) (by omega)
  have Hbel := hide hbel
  have Hr := hide hr
  have Hne := hide hne
  have Hz := hide hz
  have hsI : (s.size : Int) ≤ 10000 := by omega
  clear hbel hr hne hz
  go_enter Tryd.func28, Tryd.ntmps28
  go_wp2_with fail
  refine Calls.mono Hbel.out ?_
  rintro e w1 ⟨x, rfl, hx0, hx1, hc1, hg1⟩
  obtain ⟨a, rfl⟩ := Int.eq_ofNat_of_zero_le hx0
  have ha : a ≤ s.size := by omega
  have haI : (a : Int) ≤ (s.size : Int) := by omega
  clear hx1
  go_wp2_with fail
  refine (s_l1Below hc1 6 (by omega) (by omega)).mono ?_
  rintro e w2 ⟨y, rfl, hy0, hy1, hc2, hg2⟩
  have hg := grown_trans2 hg1 hg2
  have Hr2 := hide (rd_grown Hr.out h0 Hne.out hg)
  have Hg := hide hg
  have Hc2 := hide hc2
  clear hg hg1 hg2 hc1 hc2
  have Hz1 : Hid ((s.extract 0 a).size = a) := hide (by rw [ByteArray.size_extract]; omega)
  have Hz2 : Hid ((s.extract a s.size).size = s.size - a) := hide (by rw [ByteArray.size_extract]; omega)
  by_cases hy : y = 0
  · subst hy
    go_wp2_with fail
    have hgd : w.grownBy w2.drew (some b) := grown_baseT Hg.out ((Below.refl w2.heap.size w2).drew) Hg.out.size
    have Hgd := hide hgd
    clear hgd
    go_region_held3 (fun W => True) (exact trivial)
      ((go_at_call 34; refine (s_l1Pick (w := w2.drew) (by exact Hc2.out) B A n c zs (by exact Hr2.out) h0 h1 Hne.out Hz.out).mono ?_; rintro e w3 ⟨z, rfl, hz3, hc3, hg3⟩; have q0 : ¬ 9223372036854775807 < a + z.size := (by omega); have q1 : ¬ 9223372036854775807 < a + z.size + (s.size - a) := (by omega); have q2 : ¬ 9223372036854775807 < (s.extract 0 a).size + z.size := (by rw [Hz1.out]; omega); have q3 : ¬ 9223372036854775807 < (s.extract 0 a).size + z.size + (s.extract a s.size).size := (by rw [Hz1.out, Hz2.out]; omega)))
    go_wp2_with fail
    go_ret
    exact ⟨_, rfl, by simp only [ByteArray.size_append, Hz1.out, Hz2.out]; omega, hc3, grown_trans2 Hgd.out hg3⟩
  by_cases hy : y = 1
  · subst hy
    go_wp2_with fail
    go_ret
    exact ⟨_, rfl, by rw [Hz1.out]; omega, Hc2.out, Hg.out⟩
  · have hy' : ¬ y = 0 := by assumption
    go_wp2_with fail
    go_ret
    exact ⟨_, rfl, by omega, Hc2.out, Hg.out⟩
theorem s_turnNewS {b : Nat} {w : World} (hc : Cur w b) (s : ByteArray) (hs : s.size ≤ 10000) (zs : List ByteArray) (h0 : 1 ≤ zs.length) (h1 : zs.length ≤ 256) (hz : zs.all (fun z => decide (z.size ≤ 32)) = true) :
    Calls Tryd.prog 28 #[.pointer (some ⟨b, 0, none⟩), .string s, .slice (some ⟨w.heap.size, 0, none⟩) zs.length zs.length] (w.alloc (.cells (zs.map Value.string).toArray 9)) (DrawnZ 10100 b w) := by
  have hlt := hc.lt
  have hb : Below w.heap.size w (w.alloc (.cells (zs.map Value.string).toArray 9)) := (Below.refl _ _).alloc (Nat.le_refl _) _
  have hn := Rd.new w 9 (zs.map Value.string)
  rw [List.length_map] at hn
  refine (s_l1Turned (hc.below hb) s hs _ _ _ _ zs hn h0 h1 (fun bl off e => by injection e with e; injection e with e1 _ _; omega) (fun z hzm => by simpa using List.all_eq_true.1 hz z hzm)).mono ?_
  rintro e w' ⟨x, rfl, hx, hc1, hg⟩
  exact ⟨x, rfl, hx, hc1, grown_below hb hg⟩
end Go.Proofs.YtilndebjnibgjaaDoor
