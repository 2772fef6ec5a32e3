/- Tokens drawn: a text turned a little, a text of tokens. Conditions: the bytes drawn from can be read. -/
import Derived.Test.YtigdciegnpejoaaDoorTokD
import Derived.Test.YtigdciegnpejoaaDoorTokW
import Derived.Deep.RegionHeld3
namespace Go.Proofs.YtigdciegnpejoaaDoor
set_option maxRecDepth 100000
open Go.RowKit Go.WideShapes Go.Lib
set_option linter.unusedVariables false

/-- A text drawn, of some length at most. -/
def DrawnZ (m b : Nat) (w : World) (e : Ending) (w' : World) : Prop := ∃ x : ByteArray, e = .returned (.string x) ∧ x.size ≤ m ∧ Cur w' b ∧ w.grownBy w' (some b)
theorem rd_grown {B b n : Nat} {A : Option Addr} {xs : List Value} {w w' : World} (hr : Rd w B A n xs) (h0 : 1 ≤ n) (hne : ∀ bl off, A = some ⟨bl, off, none⟩ → bl ≠ b) (hg : w.grownBy w' (some b)) : Rd w' B A n xs :=
  ⟨hr.1, fun hn => by
    obtain ⟨bl, off, e, hB, hc⟩ := hr.2 hn
    have hlt : bl < w.heap.size := cell_lt (hc 0 _ (List.getElem?_eq_getElem (by have := hr.1; omega)))
    exact ⟨bl, off, e, hB, fun j u hu => (World.cell?_of_block (hg.block bl hlt (fun e2 => hne bl off e (by injection e2)))).trans (hc j u hu)⟩⟩
set_option maxRecDepth 100000 in
set_option maxHeartbeats 2000000 in
theorem s_l1Turned {b : Nat} {w : World} (hc : Cur w b) (s : ByteArray) (hs : s.size ≤ 10000) (B : Nat) (A : Option Addr) (n c : Nat) (zs : List ByteArray) (hr : Rd w B A n (zs.map Value.string)) (h0 : 1 ≤ n) (h1 : n ≤ 256)
    (hne : ∀ bl off, A = some ⟨bl, off, none⟩ → bl ≠ b) (hz : ∀ z ∈ zs, z.size ≤ 32) :
    Calls Tryd.prog 47 #[.pointer (some ⟨b, 0, none⟩), .string s, .slice A n c] w (DrawnZ 10100 b w) := by
  have hbel : Calls Tryd.prog 63 #[.pointer (some ⟨b, 0, none⟩), .int .i64 ((s.size : Int) + 1)] w (Drawn 0 ((s.size : Int) + 1 - 1) b w) := by
    by_cases h : (s.size : Int) + 1 ≤ 256
    · exact s_l1Below hc _ (by omega) h
    · exact s_l1BelowBig hc _ (by omega) (by omega)
  have Hbel := hide hbel
  have Hr := hide hr
  have Hne := hide hne
  have Hz := hide hz
  have hsI : (s.size : Int) ≤ 10000 := by omega
  clear hbel hr hne hz
  go_enter Tryd.func47, Tryd.ntmps47
  go_wp2_with fail
  refine Calls.mono Hbel.out ?_
  rintro e w1 ⟨x, rfl, hx0, hx1, hc1, hg1⟩
  obtain ⟨a, rfl⟩ := Int.eq_ofNat_of_zero_le hx0
  have ha : a ≤ s.size := by omega
  have haI : (a : Int) ≤ (s.size : Int) := by omega
  clear hx1
  go_wp2_with fail
  refine (s_l1Below hc1 6 (by omega) (by omega)).mono ?_
  rintro e w2 ⟨y, rfl, hy0, hy1, hc2, hg2⟩
  have hg := grown_trans2 hg1 hg2
  have Hr2 := hide (rd_grown Hr.out h0 Hne.out hg)
  have Hg := hide hg
  have Hc2 := hide hc2
  clear hg hg1 hg2 hc1 hc2
  have Hz1 : Hid ((s.extract 0 a).size = a) := hide (by rw [ByteArray.size_extract]; omega)
  have Hz2 : Hid ((s.extract a s.size).size = s.size - a) := hide (by rw [ByteArray.size_extract]; omega)
  by_cases hy : y = 0
  · subst hy
    go_wp2_with fail
    have hgd : w.grownBy w2.drew (some b) := grown_base2 Hg.out ((Below.refl w2.heap.size w2).drew) Hg.out.size
    have Hgd := hide hgd
    clear hgd
    go_region_held3 (fun W => True) (exact trivial)
      ((go_at_call 62; refine (s_l1Pick (w := w2.drew) (by exact Hc2.out) B A n c zs (by exact Hr2.out) h0 h1 Hne.out Hz.out).mono ?_; rintro e w3 ⟨z, rfl, hz3, hc3, hg3⟩; have q0 : ¬ 9223372036854775807 < a + z.size := (by omega); have q1 : ¬ 9223372036854775807 < a + z.size + (s.size - a) := (by omega); have q2 : ¬ 9223372036854775807 < (s.extract 0 a).size + z.size := (by rw [Hz1.out]; omega); have q3 : ¬ 9223372036854775807 < (s.extract 0 a).size + z.size + (s.extract a s.size).size := (by rw [Hz1.out, Hz2.out]; omega)))
    go_wp2_with fail
    go_ret
    exact ⟨_, rfl, by simp only [ByteArray.size_append, Hz1.out, Hz2.out]; omega, hc3, grown_trans2 Hgd.out hg3⟩
  by_cases hy : y = 1
  · subst hy
    go_wp2_with fail
    go_ret
    exact ⟨_, rfl, by rw [Hz1.out]; omega, Hc2.out, Hg.out⟩
  · have hy' : ¬ y = 0 := by assumption
    go_wp2_with fail
    go_ret
    exact ⟨_, rfl, by omega, Hc2.out, Hg.out⟩
theorem s_turnNewS {b : Nat} {w : World} (hc : Cur w b) (s : ByteArray) (hs : s.size ≤ 10000) (zs : List ByteArray) (h0 : 1 ≤ zs.length) (h1 : zs.length ≤ 256) (hz : zs.all (fun z => decide (z.size ≤ 32)) = true) :
    Calls Tryd.prog 47 #[.pointer (some ⟨b, 0, none⟩), .string s, .slice (some ⟨w.heap.size, 0, none⟩) zs.length zs.length] (w.alloc (.cells (zs.map Value.string).toArray 9)) (DrawnZ 10100 b w) := by
  have hlt := hc.lt
  have hb : Below w.heap.size w (w.alloc (.cells (zs.map Value.string).toArray 9)) := (Below.refl _ _).alloc (Nat.le_refl _) _
  have hn := Rd.new w 9 (zs.map Value.string)
  rw [List.length_map] at hn
  refine (s_l1Turned (hc.below hb) s hs _ _ _ _ zs hn h0 h1 (fun bl off e => by injection e with e; injection e with e1 _ _; omega) (fun z hzm => by simpa using List.all_eq_true.1 hz z hzm)).mono ?_
  rintro e w' ⟨x, rfl, hx, hc1, hg⟩
  exact ⟨x, rfl, hx, hc1, grown_below hb hg⟩
theorem join_le : ∀ xs : List ByteArray, (∀ x ∈ xs, x.size ≤ 32) → (joinL xs sp1).length ≤ 33 * xs.length
  | [], _ => by show (0 : Nat) ≤ _; omega
  | [x], h => by
    rw [joinL_one]
    have := h x (by simp)
    have hz : x.data.toList.length = x.size := by rw [Array.length_toList]; rfl
    simp only [List.length_cons, List.length_nil]
    omega
  | x :: y :: r, h => by
    rw [joinL_cons, List.length_append, List.length_cons]
    have h1 := h x (by simp)
    have h2 := join_le (y :: r) fun z hz => h z (by simp only [List.mem_cons] at hz ⊢; exact .inr hz)
    have hz : x.data.toList.length = x.size := by rw [Array.length_toList]; rfl
    simp only [List.length_cons] at h2 ⊢
    omega
theorem fmtToks_le {xs : List Tkn} (h : ∀ x ∈ xs, x.ok ∧ x.text.size ≤ 32) (hl : xs.length ≤ 81) : (fmtToks xs).size ≤ 10000 := by
  have h1 := join_le (xs.map tokB) (fun y hy => by
    obtain ⟨x, hx, rfl⟩ := List.mem_map.1 hy
    have hk := h x hx
    obtain ⟨n0, n1⟩ := wf_i64 hk.1.n
    have hn := num_size n0 n1
    unfold tokB
    split
    · exact hk.2
    · split
      · omega
      · decide)
  rw [List.length_map] at h1
  have e2 : (fmtToks xs).size = (joinL (xs.map tokB) sp1).length := by unfold fmtToks; simp [ByteArray.size]
  omega
theorem toks_sum {D : Nat} : ∀ {xs : List Tkn}, (∀ x ∈ xs, x.ok ∧ x.text.size ≤ 32) → sumBy (bulkTkn D) xs ≤ 32 * xs.length
  | [], _ => by simp [sumBy]
  | x :: r, h => by
    have h1 := toks_sum (D := D) (xs := r) fun y hy => h y (by simp [hy])
    have h2 := (h x (by simp)).2
    simp only [sumBy, bulkTkn, List.length_cons] at h1 ⊢
    omega
set_option maxRecDepth 100000 in
set_option maxHeartbeats 2000000 in
theorem s_l5Text {b : Nat} {w : World} (hc : Cur w b) : Calls Tryd.prog 55 #[.pointer (some ⟨b, 0, none⟩)] w (DrawnZ 10100 b w) := by
  go_enter Tryd.func55, Tryd.ntmps55
  go_wp2_with fail
  refine (s_l5Tokens hc).mono ?_
  rintro e w1 ⟨xs, v, G, rfl, hl, hx, hs, hc1, hg1⟩
  go_wp2_with fail
  refine (s_FormatTokens 0 xs v G w1 hs (by omega) (by have := toks_sum (D := 0) hx; omega)).mono ?_
  rintro e w2 ⟨rfl, hb2⟩
  have hc2 := hc1.below hb2
  have hg2 := grown_base2 hg1 hb2 hg1.size
  have hz := fmtToks_le hx hl
  generalize fmtToks xs = T at hz ⊢
  clear hs hx hc1 hg1 hb2
  go_wp2_with fail
  refine (s_l1Below hc2 4 (by omega) (by omega)).mono ?_
  rintro e w3 ⟨y, rfl, hy0, hy1, hc3, hg3⟩
  have hg := grown_trans2 hg2 hg3
  by_cases h0 : y = 0
  · subst h0
    have hp := s_turnNewS hc3 T hz [⟨#[61]⟩, ⟨#[120]⟩, ⟨#[48]⟩, ⟨#[65]⟩, ⟨#[32, 32]⟩, ⟨#[10]⟩, ⟨#[57, 57, 57, 57, 57, 57, 57, 57, 57, 57, 57]⟩] (by decide) (by decide) (by decide)
    simp only [List.map_cons, List.map_nil, List.length_cons, List.length_nil] at hp
    have Hp := hide hp
    clear hp
    go_wp2_with (go_at_call 47; refine Calls.mono Hp.out ?_; rintro e w4 ⟨z, rfl, hz4, hc4, hg4⟩)
    go_ret
    exact ⟨z, rfl, hz4, hc4, grown_trans2 hg hg4⟩
  by_cases h1 : y = 1
  · subst h1
    have hp := s_pickNewS hc3 [⟨#[]⟩, ⟨#[32]⟩, ⟨#[97, 43, 49]⟩, ⟨#[97, 61, 61, 98]⟩, ⟨#[97, 61, 98]⟩, ⟨#[97, 98, 99, 100, 101, 102, 103, 104, 105]⟩, ⟨#[48, 48]⟩, ⟨#[49, 48, 48, 48, 48, 48, 49]⟩, ⟨#[36, 49, 46, 97]⟩, ⟨#[35]⟩, ⟨#[97, 10]⟩, ⟨#[123, 49, 32, 50, 125]⟩] (by decide) (by decide) (by decide)
    simp only [List.map_cons, List.map_nil, List.length_cons, List.length_nil] at hp
    have Hp := hide hp
    clear hp
    go_wp2_with (go_at_call 62; refine Calls.mono Hp.out ?_; rintro e w4 ⟨z, rfl, hz4, hc4, hg4⟩)
    go_ret
    exact ⟨z, rfl, by omega, hc4, grown_trans2 hg hg4⟩
  go_wp2_with fail
  go_ret
  exact ⟨T, rfl, by omega, hc3, hg⟩
theorem s_DrawTokenize (A : Option Addr) (n c : Nat) (zs : List Int) (w : World) (hr : Rd w w.heap.size A n (zs.map (Value.int .u8))) (hz : ∀ z ∈ zs, (Lit.int .u8 z).wf = true) (hn : n ≤ 1048576) :
    Calls Tryd.prog 26 #[.slice A n c] w fun e w' => ∃ x : ByteArray, e = .returned (.string x) ∧ x.size ≤ 10100 ∧ Below w.heap.size w w' := by
  go_enter Tryd.func26, Tryd.ntmps26
  go_wp2_with fail
  refine (s_l1New A n c zs w hr hz hn).mono ?_
  rintro e w1 ⟨rfl, hc1, hb1, hl1⟩
  go_wp2_with fail
  refine (s_l5Text hc1).mono ?_
  rintro e w2 ⟨x, rfl, hx, hc2, hg2⟩
  go_wp2_with fail
  go_ret
  exact ⟨x, rfl, hx, hb1.trans (below_grown hg2 hl1)⟩
end Go.Proofs.YtigdciegnpejoaaDoor
