/- Valid symbols: the reference. Conditions: a symbol has at most 2^20 attributes. -/
import Derived.Test.YtilndebjnibgjaaDoorSymVal
namespace Go.Proofs.YtilndebjnibgjaaDoor
set_option maxRecDepth 100000
open Go.RowKit Go.WideShapes
set_option linter.unusedVariables false

theorem heap_new_at {w : World} {o : Obj} {k : Nat} (h : w.heap.size = k) : (w.alloc o).heap[k]? = some o := h ▸ heap_alloc_new w o
set_option maxRecDepth 100000 in
set_option maxHeartbeats 2000000 in
theorem s_IsValidSymbol (D : Nat) (x : Sym) (cs : List Value) (F : List Nat) (w : World) (h : SymR D w x cs F) (hn : x.attrs.length ≤ 1048576) :
    Calls Tryd.prog 9 #[.agg cs.toArray] w fun en w' => en = .returned (.bool (validY x)) ∧ Below w.heap.size w w' := by
  obtain ⟨c0, c1, rfl⟩ := list2 ((SymR.good D).len h)
  obtain ⟨v1, F1, _, hk, h0, ⟨h1, g1⟩, rfl⟩ := h
  obtain rfl := Option.some.inj h0
  obtain rfl := Option.some.inj h1
  obtain ⟨A, cap, rfl, hlc, hm⟩ := g1.form
  have Hname := hide hk.name
  have Hsz : Hid (∀ k ∈ x.attrs, k.name.size ≤ maxLen) := hide fun a ha => by
    obtain ⟨k, hk⟩ := List.getElem?_of_mem ha
    obtain ⟨b, off, cs, Fk, _, _, _, _, _, _, hR⟩ := SlR.get (AtrR.good D) g1 hk
    exact hR.2.1.name
  have HF := hide (g1.lt (AtrR.good D))
  have Hs := hide g1
  have hmm : x.attrs.length ≤ 9223372036854775807 := by omega
  clear hk g1 hlc hm
  obtain ⟨C, hz0, hw0⟩ := boxes1 w [.string x.name, .slice A x.attrs.length cap] 26
  go_enter Tryd.func9, Tryd.ntmps9
  go_wp2_with fail
  generalize w.alloc (Obj.cells #[.string x.name, .slice A x.attrs.length cap] 26) = W0 at C hz0 hw0 ⊢
  have hn0 : w.heap.size + 1 ≤ W0.heap.size := by omega
  have Hw : Hid (∀ W : World, Below (w.heap.size + 1) W0 W → Below w.heap.size w W) := hide fun W h => hw0.trans (h.mono (by omega))
  have e0 := cell_rule C (n := w.heap.size + 1) (by omega) 0 (v := .string x.name) rfl
  have e1 := cell_rule C (n := w.heap.size + 1) (by omega) 1 (v := .slice A x.attrs.length cap) rfl
  have hgz : w.heap.size + 1 ≤ W0.heap.size := by omega
  have Hz0 := hide hz0
  clear C hz0 hw0
  go_loopw [3, 4] (fun o i wr => ∃ j : Nat, j ≤ x.attrs.length ∧ i = .int .i64 j ∧ Hid (wr.ownsRow (w.heap.size + 1) 9 1 o ((nms x).take j).length (((nms x).take j).map Value.string)) ∧ Hid ((x.attrs.take j).all vA = true) ∧ Hid (Below (w.heap.size + 1) W0 wr)) (fun _ i _ => x.attrs.length - (intOf i).toNat)
  case atStart => exact ⟨0, by omega, rfl, hide ⟨rfl, .inr ⟨w.heap.size + 1, 0, #[], rfl, Nat.le_refl _, heap_new_at Hz0.out, Nat.le_refl _, by simp [maxLen], rfl, rfl⟩⟩, hide rfl, hide ((Below.refl _ _).alloc hgz _)⟩
  case round =>
    obtain ⟨j, hj, rfl, Ho, Hall, Hb⟩ := hrel
    have hBr := Hb.out
    have hbz : w.heap.size + 1 ≤ wr.heap.size := Nat.le_trans hn0 Hb.out.size
    by_cases hlt : j < x.attrs.length
    · have hx : x.attrs[j]? = some x.attrs[j] := List.getElem?_eq_getElem hlt
      generalize x.attrs[j] = y at hx
      have Hx := hide hx
      obtain ⟨b, off, cs, Fk, hA, _, hbF, hFk, hcl, hcat, hR⟩ := SlR.get (AtrR.good D) (Hs.out.below (AtrR.good D) (Hw.out _ Hb.out) HF.out) hx
      subst hA
      obtain ⟨c0, c1, c2, c3, rfl⟩ := list4 hcl
      obtain ⟨_, hk, h0, h1, h2, h3, rfl⟩ := hR
      obtain rfl := Option.some.inj h0
      obtain rfl := Option.some.inj h1
      obtain rfl := Option.some.inj h2
      obtain rfl := Option.some.inj h3
      have hblt := Nat.lt_of_lt_of_le (HF.out b hbF) (Hw.out _ Hb.out).size
      have g0 : ∀ W : World, Below wr.heap.size wr W → W.cell? ⟨b, off + j * 4, none⟩ = some (.string y.name) := fun W h => (hcat.below h hblt) 0 _ rfl
      have g1 : ∀ W : World, Below wr.heap.size wr W → W.cell? ⟨b, off + j * 4 + 1, none⟩ = some (.int .i64 y.type) := fun W h => (hcat.below h hblt) 1 _ rfl
      have g2 : ∀ W : World, Below wr.heap.size wr W → W.cell? ⟨b, off + j * 4 + 2, none⟩ = some (.int .i64 y.mode) := fun W h => (hcat.below h hblt) 2 _ rfl
      have g3 : ∀ W : World, Below wr.heap.size wr W → W.cell? ⟨b, off + j * 4 + 3, none⟩ = some (.bool y.circ) := fun W h => (hcat.below h hblt) 3 _ rfl
      have hrr : Below wr.heap.size wr wr := Below.refl _ _
      have Hky := hide hk.name
      have hj0 : (0 : Int) ≤ (j : Int) := by omega
      have hj1 : (j : Int) < (x.attrs.length : Int) := by omega
      have hlen : ((nms x).take j).length ≤ 1048576 := by rw [List.length_take, nms_len]; omega
      clear hx hcat hFk hbF hcl hk h0 h1 h2 h3
      go_wp2_with fail
      refine (s_IsValidAttribute y.name y.type y.mode y.circ Hky.out _).mono ?_
      rintro e w2 ⟨rfl, hb2⟩
      have hB2 : Below (w.heap.size + 1) W0 w2 := below_step Hb.out hn0 hb2
      have Ho2 : Hid (w2.ownsRow (w.heap.size + 1) 9 1 _ ((nms x).take j).length (((nms x).take j).map Value.string)) := hide (own_below Ho.out hb2)
      have hz2 : w.heap.size + 1 ≤ w2.heap.size := Nat.le_trans hn0 hB2.size
      cases hq : validA y.name y.type y.mode y.circ
      · have Hf : Hid (validY x = false) := hide (by unfold validY; rw [all_miss' (f := vA) Hx.out hq]; rfl)
        clear hq
        go_wp2_with fail
        go_ret
        exact ⟨ret_bool Hf.out.symm, Hw.out _ hB2⟩
      · have Hall2 := hide (all_take' (f := vA) Hx.out Hall.out hq)
        have Hnx := hide (nms_next Hx.out)
        clear hq
        go_wp2_with (first | (at_builtin; refine app_own rfl (.tmp 20) (.tmp 27) 43 9 rfl Tryd.underlying43 infoStr rfl (by decide) w2 (w.heap.size + 1) _ _ _ Ho2.out rfl [.string y.name] rfl (fun u hu => by simp at hu; subst hu; rfl) rfl (by omega) (by omega) hz2 ?_; intro v1 w3 hown hbl))
        have Hown := hide hown
        have HB3 : Hid (Below (w.heap.size + 1) W0 w3) := hide (hB2.trans hbl)
        clear hown hbl
        go_wp2_with fail
        go_roundw
        case rel =>
          refine ⟨j + 1, by omega, by go_num, hide ?_, Hall2, HB3⟩
          rw [Hnx.out]
          simpa using Hown.out
        case measure => simp [intOf]; omega
    · have hjl : j = x.attrs.length := by omega
      have Ho' : Hid (wr.ownsRow (w.heap.size + 1) 9 1 _ (nms x).length ((nms x).map Value.string)) := hide (by have := Ho.out; rw [hjl, ← nms_len, List.take_length] at this; exact this)
      have Hv : Hid (validY x = (validN x.name && (decide (x.attrs.length ≤ 4) && distS (nms x)))) := hide (by have := Hall.out; rw [hjl, List.take_length] at this; unfold validY; rw [this]; rfl)
      obtain ⟨G, hG, hGf⟩ := own_strs (D := D) Ho'.out (fun z hz => by
        simp only [nms, List.mem_map] at hz
        obtain ⟨a, ha, rfl⟩ := hz
        exact Hsz.out a ha)
      obtain ⟨A', cap', rfl, hlc', hm'⟩ := hG.form
      have HG := hide hG
      have Hnl := hide (nms_len x)
      have hnl1 : (nms x).length ≤ 1048576 := by have := nms_len x; omega
      clear hG hGf Ho Ho' hm'
      go_wp2_with fail
      refine (s_IsValidName x.name _ Hname.out).mono ?_
      rintro e w2 ⟨rfl, hb2⟩
      have hB2 : Below (w.heap.size + 1) W0 w2 := below_step Hb.out hn0 hb2
      have HG2 := hide (HG.out.below (StrR.good D) hb2 (HG.out.lt (StrR.good D)))
      clear hb2
      cases hq : validN x.name
      · go_wp2_with fail
        go_ret
        exact ⟨ret_bool (by rw [Hv.out, hq]; rfl), Hw.out _ hB2⟩
      · by_cases h4 : x.attrs.length ≤ 4
        · have h4' : ((nms x).length : Int) ≤ 4 := by have := Hnl.out; omega
          go_wp2_with fail
          refine (s_AllDistinct A' (nms x).length cap' (nms x) w2 HG2.out.strs.1 (by omega) hlc').mono ?_
          rintro e w3 ⟨rfl, hb3⟩
          have hB3 : Below (w.heap.size + 1) W0 w3 := below_step hB2 hn0 hb3
          clear hb3
          go_wp2_with fail
          go_ret
          exact ⟨ret_bool (by rw [Hv.out, hq, decide_eq_true h4]; rfl), Hw.out _ hB3⟩
        · have h4' : (4 : Int) < ((nms x).length : Int) := by have := Hnl.out; omega
          go_wp2_with fail
          go_ret
          exact ⟨ret_bool (by rw [Hv.out, hq, decide_eq_false h4]; rfl), Hw.out _ hB2⟩
end Go.Proofs.YtilndebjnibgjaaDoor
