/- Several texts of one proof in one file: Valid symbols: the reference. The first symbol or rule that is not valid or has an earlier name: the reference. A region that draws its order, by what is held whatever has been done so far: each operation, whenever it may come up, keeps it. Plain: no program. Regions that draw their order: a struct loaded whole, rows that stay. Plain: no program. Conditions: each theorem names its own. -/
import Derived.Test.YthlhhnnlbpecnaaGreatGcsar
import Derived.Test.YthlhhnnlbpecnaaGreatGcsaj
import Derived.Test.YthlhhnnlbpecnaaGreatGcsaq
import Derived.Test.YthlhhnnlbpecnaaGreatGcsaa
import Derived.Test.YthlhhnnlbpecnaaGreatGcsab
import Derived.OrdersHeld
import Derived.Test.YthlhhnnlbpecnaaGreatGcsah

/- Valid symbols: the reference. Conditions: a symbol has at most 2^20 attributes. -/
namespace Go.Proofs.YthlhhnnlbpecnaaGreat
set_option linter.unusedSimpArgs false
set_option linter.unusedVariables false
set_option maxRecDepth 100000
open Go.RowKit Go.WideShapes
set_option linter.unusedVariables false

theorem heap_new_at {w : World} {o : Obj} {k : Nat} (h : w.heap.size = k) : (w.alloc o).heap[k]? = some o := h ▸ heap_alloc_new w o
set_option maxRecDepth 100000 in
set_option maxHeartbeats 2000000 in
theorem s_IsValidSymbol (D : Nat) (x : Sym) (cs : List Value) (F : List Nat) (w : World) (h : SymR D w x cs F) (hn : x.attrs.length ≤ 1048576) :
    Calls Tryz.prog 28 #[.agg cs.toArray] w fun en w' => en = .returned (.bool (validY x)) ∧ Below w.heap.size w w' := by
  obtain ⟨c0, c1, rfl⟩ := list2 ((SymR.good D).len h)
  obtain ⟨v1, F1, _, hk, h0, ⟨h1, g1⟩, rfl⟩ := h
  obtain rfl := Option.some.inj h0
  obtain rfl := Option.some.inj h1
  obtain ⟨A, cap, rfl, hlc, hm⟩ := g1.form
  have Hname := hide hk.name
  have Hsz : Hid (∀ k ∈ x.attrs, k.name.size ≤ maxLen) := hide fun a ha => by
    obtain ⟨k, hk⟩ := List.getElem?_of_mem ha
    obtain ⟨b, off, cs, Fk, _, _, _, _, _, _, hR⟩ := SlR.get (AtrR.good D) g1 hk
    exact hR.2.1.name
  have HF := hide (g1.lt (AtrR.good D))
  have Hs := hide g1
  have hmm : x.attrs.length ≤ 9223372036854775807 := by omega
  clear hk g1 hlc hm
  obtain ⟨C, hz0, hw0⟩ := boxes1 w [.string x.name, .slice A x.attrs.length cap] 42
  go_enter Tryz.func28, Tryz.ntmps28
  go_wp2_with fail
  generalize w.alloc (Obj.cells #[.string x.name, .slice A x.attrs.length cap] 42) = W0 at C hz0 hw0 ⊢
  have hn0 : w.heap.size + 1 ≤ W0.heap.size := by omega
  have Hw : Hid (∀ W : World, Below (w.heap.size + 1) W0 W → Below w.heap.size w W) := hide fun W h => hw0.trans (h.mono (by omega))
  have e0 := cell_rule C (n := w.heap.size + 1) (by omega) 0 (v := .string x.name) rfl
  have e1 := cell_rule C (n := w.heap.size + 1) (by omega) 1 (v := .slice A x.attrs.length cap) rfl
  have hgz : w.heap.size + 1 ≤ W0.heap.size := by omega
  have Hz0 := hide hz0
  clear C hz0 hw0
  go_loopw [3, 4] (fun o i wr => ∃ j : Nat, j ≤ x.attrs.length ∧ i = .int .i64 j ∧ Hid (wr.ownsRow (w.heap.size + 1) 9 1 o ((nms x).take j).length (((nms x).take j).map Value.string)) ∧ Hid ((x.attrs.take j).all vA = true) ∧ Hid (Below (w.heap.size + 1) W0 wr)) (fun _ i _ => x.attrs.length - (intOf i).toNat)
  case atStart => exact ⟨0, by omega, rfl, hide ⟨rfl, .inr ⟨w.heap.size + 1, 0, #[], rfl, Nat.le_refl _, heap_new_at Hz0.out, Nat.le_refl _, by simp [maxLen], rfl, rfl⟩⟩, hide rfl, hide ((Below.refl _ _).alloc hgz _)⟩
  case round =>
    obtain ⟨j, hj, rfl, Ho, Hall, Hb⟩ := hrel
    have hBr := Hb.out
    have hbz : w.heap.size + 1 ≤ wr.heap.size := Nat.le_trans hn0 Hb.out.size
    by_cases hlt : j < x.attrs.length
    · have hx : x.attrs[j]? = some x.attrs[j] := List.getElem?_eq_getElem hlt
      generalize x.attrs[j] = y at hx
      have Hx := hide hx
      obtain ⟨b, off, cs, Fk, hA, _, hbF, hFk, hcl, hcat, hR⟩ := SlR.get (AtrR.good D) (Hs.out.below (AtrR.good D) (Hw.out _ Hb.out) HF.out) hx
      subst hA
      obtain ⟨c0, c1, c2, c3, rfl⟩ := list4 hcl
      obtain ⟨_, hk, h0, h1, h2, h3, rfl⟩ := hR
      obtain rfl := Option.some.inj h0
      obtain rfl := Option.some.inj h1
      obtain rfl := Option.some.inj h2
      obtain rfl := Option.some.inj h3
      have hblt := Nat.lt_of_lt_of_le (HF.out b hbF) (Hw.out _ Hb.out).size
      have g0 : ∀ W : World, Below wr.heap.size wr W → W.cell? ⟨b, off + j * 4, none⟩ = some (.string y.name) := fun W h => (hcat.below h hblt) 0 _ rfl
      have g1 : ∀ W : World, Below wr.heap.size wr W → W.cell? ⟨b, off + j * 4 + 1, none⟩ = some (.int .i64 y.type) := fun W h => (hcat.below h hblt) 1 _ rfl
      have g2 : ∀ W : World, Below wr.heap.size wr W → W.cell? ⟨b, off + j * 4 + 2, none⟩ = some (.int .i64 y.mode) := fun W h => (hcat.below h hblt) 2 _ rfl
      have g3 : ∀ W : World, Below wr.heap.size wr W → W.cell? ⟨b, off + j * 4 + 3, none⟩ = some (.bool y.circ) := fun W h => (hcat.below h hblt) 3 _ rfl
      have hrr : Below wr.heap.size wr wr := Below.refl _ _
      have Hky := hide hk.name
      have hj0 : (0 : Int) ≤ (j : Int) := by omega
      have hj1 : (j : Int) < (x.attrs.length : Int) := by omega
      have hlen : ((nms x).take j).length ≤ 1048576 := by rw [List.length_take, nms_len]; omega
      clear hx hcat hFk hbF hcl hk h0 h1 h2 h3
      go_wp2_with fail
      refine (s_IsValidAttribute y.name y.type y.mode y.circ Hky.out _).mono ?_
      rintro e w2 ⟨rfl, hb2⟩
      have hB2 : Below (w.heap.size + 1) W0 w2 := below_step Hb.out hn0 hb2
      have Ho2 : Hid (w2.ownsRow (w.heap.size + 1) 9 1 _ ((nms x).take j).length (((nms x).take j).map Value.string)) := hide (own_below Ho.out hb2)
      have hz2 : w.heap.size + 1 ≤ w2.heap.size := Nat.le_trans hn0 hB2.size
      cases hq : validA y.name y.type y.mode y.circ
      · have Hf : Hid (validY x = false) := hide (by unfold validY; rw [all_miss' (f := vA) Hx.out hq]; rfl)
        clear hq
        go_wp2_with fail
        go_ret
        exact ⟨ret_bool Hf.out.symm, Hw.out _ hB2⟩
      · have Hall2 := hide (all_take' (f := vA) Hx.out Hall.out hq)
        have Hnx := hide (nms_next Hx.out)
        clear hq
        go_wp2_with (first | (at_builtin; refine app_own rfl (.tmp 20) (.tmp 27) 46 9 rfl Tryz.underlying46 infoStr rfl (by decide) w2 (w.heap.size + 1) _ _ _ Ho2.out rfl [.string y.name] rfl (fun u hu => by simp at hu; subst hu; rfl) rfl (by omega) (by omega) hz2 ?_; intro v1 w3 hown hbl))
        have Hown := hide hown
        have HB3 : Hid (Below (w.heap.size + 1) W0 w3) := hide (hB2.trans hbl)
        clear hown hbl
        go_wp2_with fail
        go_roundw
        case rel =>
          refine ⟨j + 1, by omega, by go_num, hide ?_, Hall2, HB3⟩
          rw [Hnx.out]
          simpa using Hown.out
        case measure => simp [intOf]; omega
    · have hjl : j = x.attrs.length := by omega
      have Ho' : Hid (wr.ownsRow (w.heap.size + 1) 9 1 _ (nms x).length ((nms x).map Value.string)) := hide (by have := Ho.out; rw [hjl, ← nms_len, List.take_length] at this; exact this)
      have Hv : Hid (validY x = (validN x.name && (decide (x.attrs.length ≤ 4) && distS (nms x)))) := hide (by have := Hall.out; rw [hjl, List.take_length] at this; unfold validY; rw [this]; rfl)
      obtain ⟨G, hG, hGf⟩ := own_strs (D := D) Ho'.out (fun z hz => by
        simp only [nms, List.mem_map] at hz
        obtain ⟨a, ha, rfl⟩ := hz
        exact Hsz.out a ha)
      obtain ⟨A', cap', rfl, hlc', hm'⟩ := hG.form
      have HG := hide hG
      have Hnl := hide (nms_len x)
      have hnl1 : (nms x).length ≤ 1048576 := by have := nms_len x; omega
      clear hG hGf Ho Ho' hm'
      go_wp2_with fail
      refine (s_IsValidName x.name _ Hname.out).mono ?_
      rintro e w2 ⟨rfl, hb2⟩
      have hB2 : Below (w.heap.size + 1) W0 w2 := below_step Hb.out hn0 hb2
      have HG2 := hide (HG.out.below (StrR.good D) hb2 (HG.out.lt (StrR.good D)))
      clear hb2
      cases hq : validN x.name
      · go_wp2_with fail
        go_ret
        exact ⟨ret_bool (by rw [Hv.out, hq]; rfl), Hw.out _ hB2⟩
      · by_cases h4 : x.attrs.length ≤ 4
        · have h4' : ((nms x).length : Int) ≤ 4 := by have := Hnl.out; omega
          go_wp2_with fail
          refine (s_AllDistinct A' (nms x).length cap' (nms x) w2 HG2.out.strs.1 (by omega) hlc').mono ?_
          rintro e w3 ⟨rfl, hb3⟩
          have hB3 : Below (w.heap.size + 1) W0 w3 := below_step hB2 hn0 hb3
          clear hb3
          go_wp2_with fail
          go_ret
          exact ⟨ret_bool (by rw [Hv.out, hq, decide_eq_true h4]; rfl), Hw.out _ hB3⟩
        · have h4' : (4 : Int) < ((nms x).length : Int) := by have := Hnl.out; omega
          go_wp2_with fail
          go_ret
          exact ⟨ret_bool (by rw [Hv.out, hq, decide_eq_false h4]; rfl), Hw.out _ hB2⟩
end Go.Proofs.YthlhhnnlbpecnaaGreat

/- The first symbol or rule that is not valid or has an earlier name: the reference. Conditions: the grammar has at most the size 2^20. -/
namespace Go.Proofs.YthlhhnnlbpecnaaGreat
set_option linter.unusedSimpArgs false
set_option linter.unusedVariables false
set_option maxRecDepth 100000
open Go.RowKit Go.WideShapes
set_option linter.unusedVariables false

theorem name_Sym {D : Nat} {w : World} {x : Sym} {cs : List Value} {F : List Nat} (h : SymR D w x cs F) : x.name.size ≤ maxLen := by
  obtain ⟨_, _, _, hk, _⟩ := h
  exact hk.name
theorem name_Rul {D : Nat} {w : World} {x : Rul} {cs : List Value} {F : List Nat} (h : RulR D w x cs F) : x.name.size ≤ maxLen := by
  obtain ⟨_, _, _, _, _, _, _, hk, _⟩ := h
  exact hk.name
set_option maxRecDepth 100000 in
set_option maxHeartbeats 4000000 in
theorem s_l11Bad (D : Nat) (g : Grm) (cg : List Value) (Fg : List Nat) (w : World) (hg : GrmR D w g cg Fg) (hbg : bulkGrm D g ≤ 1048576) :
    Calls Tryz.prog 12 #[.agg cg.toArray] w fun en w' => en = .returned (.int .i64 (badG D g)) ∧ Below w.heap.size w w' := by
  have hls := bulk_nsyms hbg
  have hlr := bulk_nrules hbg
  obtain ⟨gc0, gc1, rfl⟩ := list2 ((GrmR.good D).len hg)
  have LG := hide ((GrmR.good D).lt hg)
  obtain ⟨A0, k0, A1, k1, F0, F1, rfl, rfl, hs0, hs1, hk0, hk1⟩ := grm_open hg
  have Hg : Hid (∀ W : World, Below w.heap.size w W → GrmR D W g [.slice A0 g.symbols.length k0, .slice A1 g.rules.length k1] Fg) := hide fun W hW => (GrmR.good D).below hg hW LG.out
  have L0 := hide (hs0.lt (SymR.good D))
  have L1 := hide (hs1.lt (RulR.good D))
  have Hs0 : Hid (∀ W : World, Below w.heap.size w W → SlR 2 (SymR D) W g.symbols (.slice A0 g.symbols.length k0) F0) := hide fun W hW => hs0.below (SymR.good D) hW L0.out
  have Hs1 : Hid (∀ W : World, Below w.heap.size w W → SlR 6 (RulR D) W g.rules (.slice A1 g.rules.length k1) F1) := hide fun W hW => hs1.below (RulR.good D) hW L1.out
  have Hig : Hid ((Tryz.prog.info? 32).map (·.size) = some 2) := hide (by kernel_rfl)
  have Hir : Hid ((Tryz.prog.info? 50).map (·.size) = some 6) := hide (by kernel_rfl)
  have His : Hid ((Tryz.prog.info? 42).map (·.size) = some 2) := hide (by kernel_rfl)
  have Hbs := hide (bulk_syms hbg)
  have Hbr := hide (bulk_rules hbg)
  have Hbg := hide hbg
  have hk0i : (g.symbols.length : Int) ≤ (k0 : Int) := by omega
  have hk1i : (g.rules.length : Int) ≤ (k1 : Int) := by omega
  obtain ⟨CG, hz0, hw0⟩ := boxes1 w [.slice A0 g.symbols.length k0, .slice A1 g.rules.length k1] 32
  show Calls _ _ #[.agg #[.slice A0 g.symbols.length k0, .slice A1 g.rules.length k1]] w _
  clear hg hs0 hs1 hbg
  go_enter Tryz.func12, Tryz.ntmps12
  go_wp2_with fail
  generalize w.alloc (Obj.cells #[.slice A0 g.symbols.length k0, .slice A1 g.rules.length k1] 32) = W0 at CG hz0 hw0 ⊢
  have hn0 : w.heap.size + 1 ≤ W0.heap.size := by omega
  have Hw : Hid (∀ W : World, Below (w.heap.size + 1) W0 W → Below w.heap.size w W) := hide fun W h => hw0.trans (h.mono (by omega))
  have HcG : Hid (∀ W : World, Below (w.heap.size + 1) W0 W → CellsAt W w.heap.size 0 [.slice A0 g.symbols.length k0, .slice A1 g.rules.length k1]) := hide fun W h => CG.below h (by omega)
  have hB0 : Below (w.heap.size + 1) W0 W0 := Below.refl _ _
  have a0 := cell_rule CG (n := w.heap.size + 1) (by omega) 0 rfl
  have a1 := cell_rule CG (n := w.heap.size + 1) (by omega) 1 rfl
  have hBa0 : ∀ (W : World) (o : Obj), Below (w.heap.size + 1) W0 W → Below (w.heap.size + 1) W0 (W.alloc o) := fun W o h => below_alloc hn0 o h
  have Hz0 := hide hz0
  clear CG hz0 hw0
  have hBy := hBa0 W0 (.cells #[] 9) hB0
  have HoA : Hid (OwnS 1 (StrR D) (w.heap.size + 1) 9 (W0.alloc (.cells #[] 9)) [] (.slice (some ⟨w.heap.size + 1, 0, none⟩) 0 0) []) := hide (by have h := OwnS.made (n := 1) (R := StrR D) (e := 9) W0 hn0; rw [Hz0.out] at h; exact h)
  go_wp2_with fail
  go_loopw [3, 4] (fun o i wr => ∃ j : Nat, j ≤ g.symbols.length ∧ i = .int .i64 j ∧ Hid (OwnS 1 (StrR D) (w.heap.size + 1) 9 wr ((g.symbols.take j).map (·.name)) o []) ∧ Hid (∀ (m : Nat) (y : Sym), m < j → g.symbols[m]? = some y → isBad validY (fun s => s.name.toList) g.symbols m y = false) ∧ Hid (Below (w.heap.size + 1) W0 wr)) (fun _ i _ => g.symbols.length - (intOf i).toNat)
  case atStart => exact ⟨0, by omega, rfl, HoA, hide (fun m y hm => absurd hm (by omega)), hide hBy⟩
  case round =>
    obtain ⟨j, hj, rfl, Ho, Hno, Hb⟩ := hrel
    have hBr := Hb.out
    have hbase : w.heap.size + 1 ≤ wr.heap.size := Nat.le_trans hn0 hBr.size
    by_cases hlt : j < g.symbols.length
    · have hX : g.symbols[j]? = some g.symbols[j] := List.getElem?_eq_getElem hlt
      generalize g.symbols[j] = X at hX
      obtain ⟨b, off, cs, Fk, hA, _, hbF, hFk, hcl, hcat, hR⟩ := SlR.get (SymR.good D) (Hs0.out W0 (Hw.out W0 hB0)) hX
      subst hA
      obtain ⟨c0, c1, rfl⟩ := list2 hcl
      obtain rfl : c0 = .string X.name := Option.some.inj (by simpa using SymR.name hR)
      have HX := hide hX
      have hlb2 : b < w.heap.size + 1 := by have := L0.out b hbF; omega
      have HFk : Hid (∀ m ∈ Fk, m < w.heap.size + 1) := hide fun m hm => by have := L0.out m (hFk m hm); omega
      have HRV := hide ((SymR.good D).below hR hBr HFk.out)
      have HbX := hide (Hbs.out X (List.mem_of_getElem? hX))
      have Hok : Hid (X.name.size ≤ maxLen) := hide (name_Sym hR)
      have ex0 : ∀ W : World, Below (w.heap.size + 1) W0 W → W.cell? ⟨b, off + j * 2, none⟩ = some (.string X.name) := fun W h => (hcat.below h hlb2) 0 _ rfl
      have ex1 : ∀ W : World, Below (w.heap.size + 1) W0 W → W.cell? ⟨b, off + j * 2 + 1, none⟩ = some c1 := fun W h => (hcat.below h hlb2) 1 _ rfl
      have hj0 : (0 : Int) ≤ (j : Int) := by omega
      have hj1 : (j : Int) < (g.symbols.length : Int) := by omega
      have Hmap : Hid ((g.symbols.take (j + 1)).map (·.name) = (g.symbols.take j).map (·.name) ++ [X.name]) := hide (by rw [take_snoc hX, List.map_append]; rfl)
      have Hhm : Hid (hasS ((g.symbols.take j).map (·.name)) X.name = ((g.symbols.take j).any fun y => y.name.toList == X.name.toList)) := hide (by unfold hasS; rw [List.any_map]; rfl)
      have hmlen : ((g.symbols.take j).map (·.name)).length ≤ 1048576 := by rw [List.length_map, List.length_take]; omega
      generalize (g.symbols.take j).map (·.name) = M at Ho Hmap Hhm hmlen
      clear hX hFk hbF hcl hcat hR
      go_wp2_with fail
      refine Calls.mono (s_IsValidSymbol D X _ Fk wr HRV.out (bulk_attrs HbX.out)) ?_
      rintro en w2 ⟨rfl, hb2⟩
      have hw2 : Below (w.heap.size + 1) W0 w2 := below_step hBr hn0 hb2
      have Ho2 := hide (Ho.out.below (StrR.good D) hb2)
      clear hb2
      cases hq : validY X
      · have Hyes := hide (badG_s (D := D) (badAt_hit Hno.out HX.out (by unfold isBad; rw [hq]; rfl)))
        clear hq
        go_wp2_with fail
        go_ret
        exact ⟨ret_int Hyes.out.symm, Hw.out _ hw2⟩
      · have Hex : Hid (isBad validY (fun s => s.name.toList) g.symbols j X = hasS M X.name) := hide (by rw [Hhm.out]; unfold isBad; rw [hq]; rfl)
        clear hq
        obtain ⟨A', cap', rfl, hlc', hm'⟩ := Ho.out.form
        obtain ⟨Gm, hsm, _⟩ := Ho2.out.slr (StrR.good D)
        have HCo := hide (s_l1Has A' M.length cap' X.name M _ w2 hsm.strs.1 (by omega))
        clear hsm hm'
        generalize hasS M X.name = q at Hex HCo
        cases q
        all_goals
          go_wp2_with fail
          refine Calls.mono HCo.out ?_
          rintro en w3 ⟨rfl, rfl⟩
        · have Hno2 := hide (bad_next Hno.out HX.out Hex.out)
          have hbq : w.heap.size + 1 ≤ w2.heap.size := Nat.le_trans hn0 hw2.size
          go_wp2_with (at_builtin; refine app_ownS rfl (.tmp 32) (.tmp 39) 46 9 rfl Tryz.underlying46 infoStr3 rfl (by decide) (StrR.good D) w2 w2 (w.heap.size + 1) _ M [] Ho2.out rfl (Below.refl _ _) X.name [.string X.name] [] ⟨rfl, Hok.out, rfl⟩ (Fresh.nil _ _) (by simp [Value.oneCell']) rfl (by omega) (by omega) hbq ?_; intro v1 w4 hown hbl; have Hown := hide hown; have Hbl := hide hbl; clear hown hbl)
          go_roundw
          case rel => exact ⟨j + 1, by omega, by go_num, hide (by rw [Hmap.out]; exact Hown.out), Hno2, hide (hw2.trans Hbl.out)⟩
          case measure => simp [intOf]; omega
        · have Hyes := hide (badG_s (D := D) (badAt_hit Hno.out HX.out Hex.out))
          go_wp2_with fail
          go_ret
          exact ⟨ret_int Hyes.out.symm, Hw.out _ hw2⟩
    · have hjl : j = g.symbols.length := by omega
      have hj1 : ¬ (j : Int) < (g.symbols.length : Int) := by omega
      have HnoS : Hid (badS g = none) := hide (bad_all Hno.out hjl)
      obtain ⟨wo, rfl⟩ : ∃ wo, wo = wr := ⟨_, rfl⟩
      have hBz := hBa0 wo (.cells #[] 9) hBr
      have HoB : Hid (OwnS 1 (StrR D) (w.heap.size + 1) 9 (wo.alloc (.cells #[] 9)) [] (.slice (some ⟨wo.heap.size, 0, none⟩) 0 0) []) := hide (OwnS.made wo hbase)
      clear Hno Ho
      go_wp2_with fail
      go_loopw [3, 5] (fun o i wr => ∃ j : Nat, j ≤ g.rules.length ∧ i = .int .i64 j ∧ Hid (OwnS 1 (StrR D) (w.heap.size + 1) 9 wr ((g.rules.take j).map (·.name)) o []) ∧ Hid (∀ (m : Nat) (y : Rul), m < j → g.rules[m]? = some y → isBad (validRul D) (fun s => s.name.toList) g.rules m y = false) ∧ Hid (Below (w.heap.size + 1) W0 wr)) (fun _ i _ => g.rules.length - (intOf i).toNat)
      case atStart => exact ⟨0, by omega, rfl, HoB, hide (fun m y hm => absurd hm (by omega)), hide hBz⟩
      case round =>
        clear hj hjl hj1 hbase hBr
        obtain ⟨j, hj, rfl, Ho, Hno, Hb⟩ := hrel
        have hBr := Hb.out
        have hbase : w.heap.size + 1 ≤ wr.heap.size := Nat.le_trans hn0 hBr.size
        by_cases hlt : j < g.rules.length
        · have hX : g.rules[j]? = some g.rules[j] := List.getElem?_eq_getElem hlt
          generalize g.rules[j] = X at hX
          obtain ⟨b, off, cs, Fk, hA, _, hbF, hFk, hcl, hcat, hR⟩ := SlR.get (RulR.good D) (Hs1.out W0 (Hw.out W0 hB0)) hX
          subst hA
          obtain ⟨c0, c1, c2, c3, c4, c5, rfl⟩ := list_6 hcl
          obtain rfl : c0 = .string X.name := Option.some.inj (by simpa using RulR.name hR)
          have HX := hide hX
          have hlb2 : b < w.heap.size + 1 := by have := L1.out b hbF; omega
          have HFk : Hid (∀ m ∈ Fk, m < w.heap.size + 1) := hide fun m hm => by have := L1.out m (hFk m hm); omega
          have HRV := hide ((RulR.good D).below hR hBr HFk.out)
          have HbX := hide (Hbr.out X (List.mem_of_getElem? hX))
          have Hok : Hid (X.name.size ≤ maxLen) := hide (name_Rul hR)
          have ex0 : ∀ W : World, Below (w.heap.size + 1) W0 W → W.cell? ⟨b, off + j * 6, none⟩ = some (.string X.name) := fun W h => (hcat.below h hlb2) 0 _ rfl
          have ex1 : ∀ W : World, Below (w.heap.size + 1) W0 W → W.cell? ⟨b, off + j * 6 + 1, none⟩ = some c1 := fun W h => (hcat.below h hlb2) 1 _ rfl
          have ex2 : ∀ W : World, Below (w.heap.size + 1) W0 W → W.cell? ⟨b, off + j * 6 + 2, none⟩ = some c2 := fun W h => (hcat.below h hlb2) 2 _ rfl
          have ex3 : ∀ W : World, Below (w.heap.size + 1) W0 W → W.cell? ⟨b, off + j * 6 + 3, none⟩ = some c3 := fun W h => (hcat.below h hlb2) 3 _ rfl
          have ex4 : ∀ W : World, Below (w.heap.size + 1) W0 W → W.cell? ⟨b, off + j * 6 + 4, none⟩ = some c4 := fun W h => (hcat.below h hlb2) 4 _ rfl
          have ex5 : ∀ W : World, Below (w.heap.size + 1) W0 W → W.cell? ⟨b, off + j * 6 + 5, none⟩ = some c5 := fun W h => (hcat.below h hlb2) 5 _ rfl
          have hj0 : (0 : Int) ≤ (j : Int) := by omega
          have hj1 : (j : Int) < (g.rules.length : Int) := by omega
          have Hmap : Hid ((g.rules.take (j + 1)).map (·.name) = (g.rules.take j).map (·.name) ++ [X.name]) := hide (by rw [take_snoc hX, List.map_append]; rfl)
          have Hhm : Hid (hasS ((g.rules.take j).map (·.name)) X.name = ((g.rules.take j).any fun y => y.name.toList == X.name.toList)) := hide (by unfold hasS; rw [List.any_map]; rfl)
          have hmlen : ((g.rules.take j).map (·.name)).length ≤ 1048576 := by rw [List.length_map, List.length_take]; omega
          generalize (g.rules.take j).map (·.name) = M at Ho Hmap Hhm hmlen
          clear hX hFk hbF hcl hcat hR
          go_wp2_with fail
          refine Calls.mono (s_IsValidRule D X _ Fk wr HRV.out HbX.out) ?_
          rintro en w2 ⟨rfl, hb2⟩
          have hw2 : Below (w.heap.size + 1) W0 w2 := below_step hBr hn0 hb2
          have Ho2 := hide (Ho.out.below (StrR.good D) hb2)
          clear hb2
          cases hq : (validRul D) X
          · have Hyes := hide (badG_r HnoS.out (D := D) (badAt_hit Hno.out HX.out (by unfold isBad; rw [hq]; rfl)))
            clear hq
            go_wp2_with fail
            go_ret
            exact ⟨ret_int Hyes.out.symm, Hw.out _ hw2⟩
          · have Hex : Hid (isBad (validRul D) (fun s => s.name.toList) g.rules j X = hasS M X.name) := hide (by rw [Hhm.out]; unfold isBad; rw [hq]; rfl)
            clear hq
            obtain ⟨A', cap', rfl, hlc', hm'⟩ := Ho.out.form
            obtain ⟨Gm, hsm, _⟩ := Ho2.out.slr (StrR.good D)
            have HCo := hide (s_l1Has A' M.length cap' X.name M _ w2 hsm.strs.1 (by omega))
            clear hsm hm'
            generalize hasS M X.name = q at Hex HCo
            cases q
            all_goals
              go_wp2_with fail
              refine Calls.mono HCo.out ?_
              rintro en w3 ⟨rfl, rfl⟩
            · have Hno2 := hide (bad_next Hno.out HX.out Hex.out)
              have hbq : w.heap.size + 1 ≤ w2.heap.size := Nat.le_trans hn0 hw2.size
              go_wp2_with (at_builtin; refine app_ownS rfl (.tmp 67) (.tmp 74) 46 9 rfl Tryz.underlying46 infoStr3 rfl (by decide) (StrR.good D) w2 w2 (w.heap.size + 1) _ M [] Ho2.out rfl (Below.refl _ _) X.name [.string X.name] [] ⟨rfl, Hok.out, rfl⟩ (Fresh.nil _ _) (by simp [Value.oneCell']) rfl (by omega) (by omega) hbq ?_; intro v1 w4 hown hbl; have Hown := hide hown; have Hbl := hide hbl; clear hown hbl)
              go_roundw
              case rel => exact ⟨j + 1, by omega, by go_num, hide (by rw [Hmap.out]; exact Hown.out), Hno2, hide (hw2.trans Hbl.out)⟩
              case measure => simp [intOf]; omega
            · have Hyes := hide (badG_r HnoS.out (D := D) (badAt_hit Hno.out HX.out Hex.out))
              go_wp2_with fail
              go_ret
              exact ⟨ret_int Hyes.out.symm, Hw.out _ hw2⟩
        · have hjl : j = g.rules.length := by omega
          have hj1 : ¬ (j : Int) < (g.rules.length : Int) := by omega
          have Hres := hide (badG_n (D := D) HnoS.out (bad_all Hno.out hjl))
          go_wp2_with fail
          go_ret
          exact ⟨ret_int Hres.out.symm, Hw.out _ hBr⟩
end Go.Proofs.YthlhhnnlbpecnaaGreat

/- A region that draws its order, by what is held whatever has been done so far: each operation, whenever it may come up, keeps it. Plain: no program. -/
namespace Go.Proofs.YthlhhnnlbpecnaaGreat
set_option linter.unusedSimpArgs false
set_option linter.unusedVariables false
set_option maxRecDepth 100000
open Go.RowKit
set_option linter.unusedVariables false

/-- Operation i is done too. -/
def updL (l : Nat → Bool) (i : Nat) : Nat → Bool := fun j => l j || j == i
theorem updL_ne {l : Nat → Bool} {i j : Nat} (h : updL l i j = true) (hj : j ≠ i) : l j = true := by
  unfold updL at h
  rw [show (j == i) = false from beq_eq_false_iff_ne.2 hj, Bool.or_false] at h
  exact h
theorem updL_self (l : Nat → Bool) (i : Nat) : updL l i i = true := by unfold updL; simp
theorem upd_last {l : Nat → Bool} {i z : Nat} (h : l z = true → ∀ i, i < z → l i = true) (hi : l i = false) (hz : i < z) : l z = false := by
  cases hl : l z with
  | false => rfl
  | true => have := h hl i hz; rw [hi] at this; cases this
/-- The operation waits for operation j. -/
def waitsFor (A : Array Edge) (j : Nat) : Bool := A.any fun e => Region.binds .any e && e.on == j
theorem waits_spec {A : Array Edge} {l : Nat → Bool} (h : ∀ e ∈ A, Region.binds .any e = true → l e.on = true) {j : Nat} (hj : waitsFor A j = true) : l j = true := by
  unfold waitsFor at hj
  rw [Array.any_eq_true] at hj
  obtain ⟨k, hk, h2⟩ := hj
  simp only [Bool.and_eq_true, beq_iff_eq] at h2
  rw [← h2.2]
  exact h _ (Array.getElem_mem hk) h2.1
theorem waits_all {A : Array Edge} {l : Nat → Bool} (h : ∀ j, waitsFor A j = true → l j = true) {z : Nat} (hz : (List.range z).all (waitsFor A) = true) (k : Nat) : ∀ i, i < z → updL l k i = true := fun i hi => by
  have := h i (List.all_eq_true.1 hz i (List.mem_range.2 hi))
  unfold updL
  rw [this]
  rfl
/-- A block made since (from n on) stays as it is. -/
def New (n : Nat) (w : World) (g : Nat) (o : Obj) : Prop := n ≤ g ∧ w.heap[g]? = some o
theorem New.lt {n g : Nat} {w : World} {o : Obj} (h : New n w g o) : g < w.heap.size := (Array.getElem?_eq_some_iff.1 h.2).1
theorem New.made {n : Nat} {w : World} (h : n ≤ w.heap.size) (cs : Array Value) (t : TypeId) : New n (w.alloc (.cells cs t)) w.heap.size (.cells cs t (0, 0)) := ⟨h, heap_alloc_new w _⟩
/-- Every block made since stays. -/
def Stay (n : Nat) (w w' : World) : Prop := ∀ g o, New n w g o → New n w' g o
theorem Stay.alloc (n : Nat) (w : World) (o : Obj) : Stay n w (w.alloc o) := fun g o' h => ⟨h.1, by rw [Below.heap_alloc _ _ _ h.lt]; exact h.2⟩
theorem Stay.grown {n b : Nat} {w w' : World} (hb : b < n) (hg : w.grownBy w' (some b)) : Stay n w w' := fun g o h => ⟨h.1, (hg.block g h.lt (by intro e; injection e; have := h.1; omega)).trans h.2⟩
theorem Stay.below {n : Nat} {w w' : World} (hb : Below w.heap.size w w') : Stay n w w' := fun g o h => ⟨h.1, (hb.block g h.lt).trans h.2⟩
/-- A slice of a block made since; a pointer into one. -/
def SlN (n : Nat) (w : World) (x : Value) (cs : Array Value) (t : TypeId) (k : Nat) : Prop := ∃ g, x = .slice (some ⟨g, 0, none⟩) k k ∧ New n w g (.cells cs t (0, 0))
def PtN (n : Nat) (w : World) (x : Value) (cs : Array Value) (t : TypeId) (off : Nat) : Prop := ∃ g, x = .pointer (some ⟨g, off, none⟩) ∧ New n w g (.cells cs t (0, 0))
theorem SlN.mono {n k : Nat} {w w' : World} {x : Value} {cs : Array Value} {t : TypeId} (s : Stay n w w') (h : SlN n w x cs t k) : SlN n w' x cs t k := h.imp fun _ h => ⟨h.1, s _ _ h.2⟩
theorem PtN.mono {n k : Nat} {w w' : World} {x : Value} {cs : Array Value} {t : TypeId} (s : Stay n w w') (h : PtN n w x cs t k) : PtN n w' x cs t k := h.imp fun _ h => ⟨h.1, s _ _ h.2⟩
/-- A block written whole. -/
theorem put_whole {w w' : World} {g : Nat} {cs : List Value} {old : Array Value} {t : TypeId} (h : Put w g 0 cs old t w') (hs : old.size = cs.length) : w'.heap[g]? = some (.cells cs.toArray t (0, 0)) := by
  obtain ⟨cs', hb, hz, _, hin⟩ := h.blk
  have e : cs' = cs.toArray := by
    apply Array.ext
    · rw [hz, hs]; simp
    · intro i h1 h2
      have hi : i < cs.length := by simpa using h2
      have := hin i cs[i] (List.getElem?_eq_getElem hi)
      rw [Nat.zero_add, Array.getElem?_eq_getElem h1] at this
      simpa using Option.some.inj this
  rw [hb, e]
section
variable {P : Program} {ops : Array Oper} {Q : Exit → Act → World → Prop} {md : Region.Mode}
/-- Each operation waits for earlier ones alone. -/
def Forward (ops : Array Oper) : Bool := (List.range ops.size).all fun i => ((ops[i]?).map fun o => o.after.all fun e => !Region.binds .any e || decide (e.on < i)).getD true
theorem forward_spec (h : Forward ops = true) {i : Nat} {o : Oper} (hi : ops[i]? = some o) {e : Edge} (he : e ∈ o.after) (hb : Region.binds .any e = true) : e.on < i := by
  unfold Forward at h
  rw [List.all_eq_true] at h
  have h1 := h i (List.mem_range.2 (Array.getElem?_eq_some_iff.1 hi).1)
  rw [hi] at h1
  simp only [Option.map_some, Option.getD_some, Array.all_eq_true_iff_forall_mem] at h1
  have h2 := h1 e he
  rw [hb] at h2
  exact of_decide_eq_true (by simpa using h2)
theorem ready_nil (hf : Forward ops = true) {listed : Array Bool} (hs : listed.size = ops.size) (h : Region.ready .any ops listed = []) : ∀ i, i < ops.size → listed.getD i false = true := by
  intro i
  induction i using Nat.strongRecOn with
  | _ i ih =>
    intro hi
    by_cases hl : listed.getD i false = true
    · exact hl
    · exfalso
      have hm : i ∈ Region.ready .any ops listed := mem_ready.2 ⟨by
        rw [Array.getD_eq_getD_getElem?] at hl ⊢
        rw [Array.getElem?_eq_getElem (by omega)] at hl ⊢
        simpa using hl, ops[i], Array.getElem?_eq_getElem hi, fun e he hb => ih e.on (forward_spec hf (Array.getElem?_eq_getElem hi) he hb) (Nat.lt_trans (forward_spec hf (Array.getElem?_eq_getElem hi) he hb) hi)⟩
      rw [h] at hm
      cases hm
/-- How many are left. -/
def leftN (listed : Array Bool) : Nat := (listed.toList.filter (fun b => !b)).length
theorem left_upd {listed : Array Bool} {i : Nat} (h : listed.getD i true = false) : leftN (listed.setIfInBounds i true) + 1 = leftN listed := by
  have hlt : i < listed.size := by
    rcases Nat.lt_or_ge i listed.size with h' | h'
    · exact h'
    · rw [Array.getD_eq_getD_getElem?, Array.getElem?_eq_none h'] at h; cases h
  have hv : listed[i] = false := by
    rw [Array.getD_eq_getD_getElem?, Array.getElem?_eq_getElem hlt] at h
    simpa using h
  unfold leftN
  rw [Array.toList_setIfInBounds]
  have key : ∀ (l : List Bool) (i : Nat) (hi : i < l.length), l[i] = false → ((l.set i true).filter (fun b => !b)).length + 1 = (l.filter (fun b => !b)).length := by
    intro l
    induction l with
    | nil => intro i hi; simp at hi
    | cons b r ih =>
      intro i hi hb
      cases i with
      | zero =>
        simp only [List.getElem_cons_zero] at hb
        subst hb
        simp
      | succ i =>
        simp only [List.getElem_cons_succ] at hb
        have := ih i (by simpa using hi) hb
        cases b <;> simp [List.filter] <;> simpa using this
  exact key listed.toList i (by simpa using hlt) (by simpa using hv)
theorem any_inv (J : (Nat → Bool) → Act → World → Prop) (hf : Forward ops = true)
    (hstep : ∀ (i : Nat) (o : Oper), ops[i]? = some o → ∀ (l : Nat → Bool) a w, l i = false → (∀ e ∈ o.after, Region.binds .any e = true → l e.on = true) → J l a w →
      ∀ K : Act → World → Prop, Hid (∀ a' w', J (updL l i) a' w' → K a' w') → if Region.wanted o (yielded ops a.tmps) = true then Oper.wp P o a w K Q else K (a.put o.dst undef) w)
    (hend : ∀ l a w, (∀ i, i < ops.size → l i = true) → J l a w → Q .normal a w) :
    ∀ (fuel : Nat) (listed : Array Bool) (a : Act) (w : World), listed.size = ops.size → leftN listed ≤ fuel → J (fun i => listed.getD i false) a w → wpAny P .any ops Q fuel listed a w
  | 0, listed, a, w, hs, hl, hJ => by
    have hr : Region.ready .any ops listed = [] := by
      cases hq : Region.ready .any ops listed with
      | nil => rfl
      | cons i r =>
        have := left_upd (mem_ready.1 (show i ∈ Region.ready .any ops listed by rw [hq]; simp)).1
        omega
    exact ⟨hr, hend _ a w (ready_nil hf hs hr) hJ⟩
  | fuel + 1, listed, a, w, hs, hl, hJ => by
    refine ⟨fun hr => hend _ a w (ready_nil hf hs hr) hJ, fun i hi => ?_⟩
    obtain ⟨hun, o, ho, hall⟩ := mem_ready.1 hi
    have hlf : listed.getD i false = false := by
      rw [Array.getD_eq_getD_getElem?] at hun ⊢
      cases hg : listed[i]? with
      | none => rfl
      | some b => rw [hg] at hun; exact hun
    have h := hstep i o ho (fun j => listed.getD j false) a w hlf hall hJ (wpAny P .any ops Q fuel (listed.setIfInBounds i true)) (hide fun a' w' hJ' => any_inv J hf hstep hend fuel _ a' w' (by rw [Array.size_setIfInBounds]; exact hs) (by have := left_upd hun; omega) (by
      have e : (fun j => (listed.setIfInBounds i true).getD j false) = updL (fun j => listed.getD j false) i := by
        funext j
        unfold updL
        by_cases hj : i = j
        · subst hj
          have hlt : i < listed.size := by rw [hs]; exact (Array.getElem?_eq_some_iff.1 ho).1
          simp [Array.getD_eq_getD_getElem?, hlt]
        · rw [getD_set_ne false hj]
          have hji : (j == i) = false := by rw [beq_eq_false_iff_ne]; exact fun e => hj e.symm
          simp only [hji, Bool.or_false]
      rw [e]
      exact hJ'))
    unfold wpOp
    simp only [ho]
    by_cases hw : Region.wanted o (yielded ops a.tmps) = true
    · rw [if_pos hw] at h ⊢
      exact .inl h
    · rw [if_neg hw] at h ⊢
      exact h
theorem region_inv {id : Nat} {a : Act} {w : World} (J : (Nat → Bool) → Act → World → Prop) (hm : P.follows .mixedOrders = true) (hf : Forward ops = true) (h0 : J (fun _ => false) a w.drew)
    (hstep : ∀ (i : Nat) (o : Oper), ops[i]? = some o → ∀ (l : Nat → Bool) a w, l i = false → (∀ e ∈ o.after, Region.binds .any e = true → l e.on = true) → J l a w →
      ∀ K : Act → World → Prop, Hid (∀ a' w', J (updL l i) a' w' → K a' w') → if Region.wanted o (yielded ops a.tmps) = true then Oper.wp P o a w K Q else K (a.put o.dst undef) w)
    (hend : ∀ l a w, (∀ i, i < ops.size → l i = true) → J l a w → Q .normal a w) : (Code.region id ops true).wp P Q a w :=
  wp_region_any hm (any_inv J hf hstep hend ops.size (Array.replicate ops.size false) a w.drew (by simp) (by unfold leftN; rw [Array.toList_replicate]; exact Nat.le_trans (List.length_filter_le _ _) (by simp)) (by
    have e : (fun i => (Array.replicate ops.size false).getD i false) = fun _ => false := by
      funext i
      rw [Array.getD_eq_getD_getElem?, Array.getElem?_replicate]
      split <;> rfl
    rw [e]
    exact h0))
/-- The same, told from the frame that the region is entered with, operation by operation. -/
def EachOp (p : Nat → Oper → Prop) : Nat → List Oper → Prop
  | _, [] => True
  | k, o :: r => p k o ∧ EachOp p (k + 1) r
theorem eachOp_spec {p : Nat → Oper → Prop} : ∀ (l : List Oper) (k i : Nat) (o : Oper), EachOp p k l → l[i]? = some o → p (k + i) o
  | [], _, _, _, _, h => by cases h
  | x :: r, k, 0, o, h, hi => by
    obtain rfl : x = o := by simpa using hi
    exact h.1
  | x :: r, k, i + 1, o, h, hi => by
    have := eachOp_spec r (k + 1) i o h.2 (by simpa using hi)
    rwa [show k + 1 + i = k + (i + 1) by omega] at this
/-- Operation i waits for operation j, if only through others. -/
def deepW (ops : Array Oper) : Nat → Nat → Nat → Bool
  | 0, _, _ => false
  | f + 1, i, j => match ops[i]? with
    | none => false
    | some o => waitsFor o.after j || (List.range i).any fun m => waitsFor o.after m && deepW ops f m j
def Closed (ops : Array Oper) (l : Nat → Bool) : Prop := ∀ i o, ops[i]? = some o → l i = true → ∀ j, waitsFor o.after j = true → l j = true
theorem deep_spec {l : Nat → Bool} (hc : Closed ops l) : ∀ (f i j : Nat) (o : Oper), ops[i]? = some o → (∀ j, waitsFor o.after j = true → l j = true) → deepW ops f i j = true → l j = true
  | 0, _, _, _, _, _, h => by cases h
  | f + 1, i, j, o, ho, hw, h => by
    unfold deepW at h
    rw [ho] at h
    simp only [Bool.or_eq_true, List.any_eq_true, Bool.and_eq_true] at h
    rcases h with h | ⟨m, _, h1, h2⟩
    · exact hw j h
    · have hm := hw m h1
      cases hom : ops[m]? with
      | none =>
        cases f with
        | zero => cases h2
        | succ f => unfold deepW at h2; rw [hom] at h2; cases h2
      | some om => exact deep_spec hc f m j om hom (hc m om hom hm) h2
theorem deep_all {l : Nat → Bool} {i : Nat} (h : ∀ j, deepW ops ops.size i j = true → l j = true) {z : Nat} (hz : (List.range z).all (deepW ops ops.size i) = true) (k : Nat) : ∀ i, i < z → updL l k i = true := fun i hi => by
  have := h i (List.all_eq_true.1 hz i (List.mem_range.2 hi))
  unfold updL
  rw [this]
  rfl
def StepOp (P : Program) (ops : Array Oper) (Q : Exit → Act → World → Prop) (J : (Nat → Bool) → Act → World → Prop) (i : Nat) (o : Oper) : Prop :=
  ∀ (l : Nat → Bool) a' w', l i = false → (∀ j, deepW ops ops.size i j = true → l j = true) → J l a' w' →
      ∀ K : Act → World → Prop, Hid (∀ a'' w'', J (updL l i) a'' w'' → K a'' w'') → if Region.wanted o (yielded ops a'.tmps) = true then Oper.wp P o a' w' K Q else K (a'.put o.dst undef) w'
theorem region_invA {id : Nat} {a : Act} {w : World} (J : Act → (Nat → Bool) → Act → World → Prop) (hm : P.follows .mixedOrders = true) (hf : Forward ops = true) (h0 : J a (fun _ => false) a w.drew)
    (hstep : EachOp (StepOp P ops Q (J a)) 0 ops.toList)
    (hend : ∀ l a' w', (∀ i, i < ops.size → l i = true) → J a l a' w' → Q .normal a' w') : (Code.region id ops true).wp P Q a w :=
  region_inv (fun l a' w' => Closed ops l ∧ J a l a' w') hm hf ⟨fun _ _ _ h => (by cases h), h0⟩ (fun i o ho l a' w' h1 h2 hJ K hK => by
    have := eachOp_spec ops.toList 0 i o hstep (by rw [Array.getElem?_toList]; exact ho)
    rw [Nat.zero_add] at this
    have hd : ∀ j, waitsFor o.after j = true → l j = true := fun j hj => waits_spec h2 hj
    refine this l a' w' h1 (fun j hj => deep_spec hJ.1 _ i j o ho hd hj) hJ.2 K (hide fun a'' w'' h => hK.out a'' w'' ⟨fun k ok hk hl j hj => ?_, h⟩)
    unfold updL at hl ⊢
    by_cases hki : k = i
    · subst hki
      rw [ho] at hk
      obtain rfl := Option.some.inj hk
      rw [hd j hj]
      rfl
    · rw [show (k == i) = false from beq_eq_false_iff_ne.2 hki, Bool.or_false] at hl
      rw [hJ.1 k ok hk hl j hj]
      rfl) fun l a' w' hl hJ => hend l a' w' hl hJ.2
end
end Go.Proofs.YthlhhnnlbpecnaaGreat

/- Regions that draw their order: a struct loaded whole, rows that stay. Plain: no program. -/
namespace Go.Proofs.YthlhhnnlbpecnaaGreat
set_option linter.unusedSimpArgs false
set_option linter.unusedVariables false
set_option maxRecDepth 100000
open Go.RowKit
set_option linter.unusedVariables false

theorem updK {l : Nat → Bool} {i j : Nat} (h : l j = false) (hj : j ≠ i) : updL l i j = false := by
  unfold updL
  rw [h, show (j == i) = false from beq_eq_false_iff_ne.2 hj]
  rfl
/-- A struct loaded whole inside a region that draws its order. -/
theorem step_load {P : Program} {ops : Array Oper} {o : Oper} {a : Act} {w : World} {K : Act → World → Prop} {Q : Exit → Act → World → Prop} {E : Prop} (hgd : o.guard = none) (ty : TypeId) (x : Operand) (ho : o.op = .load ty x)
    {d : TypeDesc} (hu : P.underlying ty = some d) (hd : (match d with | .struct _ | .array _ _ => true | _ => false) = true)
    {b off n : Nat} {cs : List Value} (hi : (P.info? ty).map (·.size) = some n) (hx : a.eval x = .pointer (some ⟨b, off, none⟩)) (hn : cs.length = n) (hc : CellsAt w b off cs)
    (h : K (a.put o.dst (.agg cs.toArray)) w) : if Region.wanted o (yielded ops a.tmps) = true then Oper.wp P o a w K Q else E := by
  have hw : Region.wanted o (yielded ops a.tmps) = true := by simp [Region.wanted, hgd]
  rw [if_pos hw]
  subst hn
  unfold Oper.wp execOp
  simp only [ho, hx, Instr.loadAt, Instr.sureAddr, Sem.run_bind, Sem.run_pure, Result.andThen_ok, run_loadVar_at hu hd hi hc]
  exact h
theorem Stay.row {n : Nat} {w w' : World} {r : Option Nat} (hg : w.grownBy w' r) (hr : ∀ k, r = some k → k < n) : Stay n w w' := fun g o h => ⟨h.1, (hg.block g h.lt (fun e => by have := hr g e.symm; have := h.1; omega)).trans h.2⟩
theorem updL_f {l : Nat → Bool} {i j : Nat} (h : updL l i j = false) : l j = false := by
  unfold updL at h
  cases hl : l j with
  | false => rfl
  | true => rw [hl] at h; cases h
theorem updL_up {l : Nat → Bool} {i j : Nat} (h : l j = true) : updL l i j = true := by
  unfold updL
  rw [h]
  rfl
end Go.Proofs.YthlhhnnlbpecnaaGreat
