/- Texts of a slice without some: contracts of both sides; how an owned row of texts is told as a slice. Conditions: the slice has at most 2^20 texts. -/
import Derived.Test.YtnbkckklodeifaaStrSl
import Derived.Test.YtnbkckklodeifaaApp
import Derived.Laws.IdiomStrings
namespace Go.Proofs.Ytnbkckklodeifaa
set_option maxRecDepth 100000
open Go.RowKit Go.WideShapes
set_option linter.unusedVariables false

/-- An owned row of texts, told as a slice. -/
theorem own_strs {D : Nat} {w : World} {base e n : Nat} {v : Value} {xs : List ByteArray} (h : w.ownsRow base e 1 v n (xs.map Value.string)) (hx : ∀ x ∈ xs, x.size ≤ maxLen) :
    ∃ F, SlR 1 (StrR D) w xs v F ∧ Fresh base w F := by
  obtain ⟨h1, h2⟩ := h
  have hl : xs.length = n := by simpa using h1
  rcases h2 with ⟨rfl, h0⟩ | ⟨g, cap, cur, rfl, hg, hb, hn, hm, hc, ht⟩
  · have hx0 : xs = [] := List.length_eq_zero_iff.1 (by omega)
    subst hx0
    exact ⟨[], ⟨none, 0, rfl, Nat.le_refl _, by simp [maxLen], .inl ⟨rfl, rfl⟩⟩, Fresh.nil _ _⟩
  · subst hl
    have hcell : ∀ (j : Nat) (u : Value), (xs.map Value.string)[j]? = some u → w.cell? ⟨g, 0 + j, none⟩ = some u := fun j u hu => by
      rw [cell_of_row _ _ _ _ _ _ hb, Nat.zero_add]
      rw [← ht] at hu
      have hj := (List.getElem?_eq_some_iff.1 hu).1
      rw [List.getElem?_take] at hu
      split at hu
      · simpa using hu
      · cases hu
    exact ⟨[g], ⟨some ⟨g, 0, none⟩, cap, rfl, hn, hm, .inr ⟨g, 0, [], rfl, blk_lt hb, rfl, ElR.of_strs hx hcell⟩⟩, ⟨by simp, fun b hb' => by simp at hb'; omega, fun b hb' => by simp at hb'; subst hb'; exact ⟨cur, e, hb⟩⟩⟩
def without (xs rm : List ByteArray) : List ByteArray := xs.filter fun x => !hasS rm x
theorem without_keep {xs rm : List ByteArray} {j : Nat} {x : ByteArray} (hx : xs[j]? = some x) (h : hasS rm x = false) : without (xs.take (j + 1)) rm = without (xs.take j) rm ++ [x] := by
  unfold without
  rw [take_snoc hx, List.filter_append]
  simp [List.filter, h]
theorem without_drop {xs rm : List ByteArray} {j : Nat} {x : ByteArray} (hx : xs[j]? = some x) (h : hasS rm x = true) : without (xs.take (j + 1)) rm = without (xs.take j) rm := by
  unfold without
  rw [take_snoc hx, List.filter_append]
  simp [List.filter, h]
theorem without_len (xs rm : List ByteArray) (j : Nat) : (without (xs.take j) rm).length ≤ j := by
  unfold without
  exact Nat.le_trans (List.length_filter_le _ _) (List.length_take_le _ _)
theorem infoStr : (Try.prog.info? 9).map (fun i => (i.zero, i.size, i.bytes)) = some (some (.string ByteArray.empty), 1, 16) := by kernel_rfl
theorem i_Contains (A : Option Addr) (n c : Nat) (s : ByteArray) (xs : List ByteArray) (B : Nat) (w : World) (hr : Rd w B A n (xs.map Value.string)) (hm : n ≤ 9223372036854775807) :
    Calls Try.prog 28 #[.slice A n c, .string s] w fun e w' => e = .returned (.bool (hasS xs s)) ∧ w = w' := by
  have hq : hasS xs s = decide (0 ≤ idxS xs s) := by
    cases h : hasS xs s
    · rw [idxS_none h]; rfl
    · unfold idxS
      have : (xs.findIdx? (fun x => x.toList == s.toList)).isSome = true := by rw [List.findIdx?_isSome]; exact h
      obtain ⟨i, hi⟩ := Option.isSome_iff_exists.1 this
      rw [hi]
      simp
  rw [hq]
  go_enter Try.func28, Try.ntmps28
  go_wp2_with (go_at_call 21; refine (i_Index A n c s xs B _ hr hm).mono ?_; rintro e w' ⟨rfl, rfl⟩)
  go_ret
  exact ⟨rfl, rfl⟩
set_option maxRecDepth 100000 in
set_option maxHeartbeats 800000 in
theorem i_Without (D : Nat) (xs rm : List ByteArray) (v v' : Value) (F F' : List Nat) (w : World) (hs : SlR 1 (StrR D) w xs v F) (hs' : SlR 1 (StrR D) w rm v' F') (hn : xs.length ≤ 1048576) :
    Calls Try.prog 15 #[v, v'] w fun en w' => ∃ u G, en = .returned u ∧ SlR 1 (StrR D) w' (without xs rm) u G ∧ Fresh w.heap.size w' G ∧ Below w.heap.size w w' := by
  obtain ⟨A, cap, rfl, _, _⟩ := hs.form
  obtain ⟨A', cap', rfl, hlc', hm'⟩ := hs'.form
  obtain ⟨hr, hx⟩ := hs.strs
  obtain ⟨hr', _⟩ := hs'.strs
  have HF := hide (hs.lt (StrR.good D))
  have Hs := hide hs
  have Hx := hide hx
  have Hr' := hide hr'
  unfold maxLen at hm'
  have Hlm' := hide (show rm.length ≤ 9223372036854775807 by omega)
  have hlm : xs.length ≤ 9223372036854775807 := by omega
  obtain ⟨i0, hi, hz0, hz1, hz2⟩ := info_parts infoStr
  clear hs hs' hr hr' hx hlc' hm'
  go_enter Try.func15, Try.ntmps15
  go_wp2_with fail
  go_loopw [5, 11] (fun o i wr => ∃ j : Nat, j ≤ xs.length ∧ i = .int .i64 j ∧ Hid (wr.ownsRow w.heap.size 9 1 o (without (xs.take j) rm).length ((without (xs.take j) rm).map Value.string)) ∧ Hid (Below w.heap.size w wr)) (fun _ i _ => xs.length - (intOf i).toNat)
  case atStart => exact ⟨0, by omega, rfl, hide ⟨rfl, .inr ⟨w.heap.size, 0, #[], rfl, Nat.le_refl _, heap_alloc_new w _, Nat.le_refl _, by simp [maxLen], rfl, rfl⟩⟩, hide ((Below.refl _ _).alloc (Nat.le_refl _) _)⟩
  case round =>
    obtain ⟨j, hj, rfl, Ho, Hb⟩ := hrel
    by_cases hlt : j < xs.length
    · have hx : xs[j]? = some xs[j] := List.getElem?_eq_getElem hlt
      generalize xs[j] = x at hx
      obtain ⟨b, off, cs, Fk, hA, _, hbF, hFk, hcl, hcat, hR⟩ := SlR.get (StrR.good D) (Hs.out.below (StrR.good D) Hb.out HF.out) hx
      subst hA
      obtain ⟨rfl, _, _⟩ := hR
      have e0 : wr.cell? ⟨b, off + j, none⟩ = some (.string x) := by
        have := hcat 0 _ rfl
        rwa [Nat.mul_one, Nat.add_zero] at this
      have hblt := Nat.lt_of_lt_of_le (HF.out b hbF) Hb.out.size
      have hj0 : (0 : Int) ≤ (j : Int) := by omega
      have hj1 : (j : Int) < (xs.length : Int) := by omega
      have HX := hide hx
      have hRr : Rd wr w.heap.size A' rm.length (rm.map Value.string) := Hr'.out.below Hb.out
      have HRr := hide hRr
      have hbz := Hb.out.size
      have hwl := without_len xs rm j
      clear hx hcat hFk hbF hcl hRr
      cases hq : hasS rm x
      · have Hk := hide (without_keep HX.out hq)
        go_wp2_with (first | (go_at_call 28; refine (i_Contains A' rm.length cap' x rm w.heap.size _ HRr.out Hlm'.out).mono ?_; rintro e w' ⟨rfl, rfl⟩; rw [hq]) | (at_builtin; refine app_own rfl (.tmp 19) (.tmp 21) 24 9 rfl Try.underlying24 infoStr rfl (by decide) wr w.heap.size _ _ _ Ho.out rfl [.string x] rfl (fun u hu => by simp at hu; subst hu; rfl) rfl (by omega) (by omega) hbz ?_; intro v1 w1 hown hbl))
        have Hown := hide hown
        have Hbl := hide hbl
        clear hown hbl
        go_wp2_with fail
        go_roundw
        case rel =>
          refine ⟨j + 1, by omega, by go_num, hide ?_, hide (Hb.out.trans Hbl.out)⟩
          rw [Hk.out]
          simpa using Hown.out
        case measure => simp [intOf]; omega
      · have Hk := hide (without_drop HX.out hq)
        go_wp2_with (go_at_call 28; refine (i_Contains A' rm.length cap' x rm w.heap.size _ HRr.out Hlm'.out).mono ?_; rintro e w' ⟨rfl, rfl⟩; rw [hq])
        go_roundw
        case rel => exact ⟨j + 1, by omega, by go_num, hide (by rw [Hk.out]; exact Ho.out), Hb⟩
        case measure => simp [intOf]; omega
    · have hjl : j = xs.length := by omega
      subst hjl
      go_wp2_with fail
      go_ret
      have h := Ho.out
      rw [List.take_length] at h
      obtain ⟨G, h1, h2⟩ := own_strs (D := D) h (fun x hx => Hx.out x ((List.mem_filter.1 hx).1))
      exact ⟨_, G, rfl, h1, h2, Hb.out⟩
end Go.Proofs.Ytnbkckklodeifaa
