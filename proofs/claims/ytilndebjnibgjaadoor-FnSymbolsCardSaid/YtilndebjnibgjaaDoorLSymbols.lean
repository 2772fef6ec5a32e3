/- The law FnSymbols: whatever the arguments, the call returns true and leaves the arguments as they were. Conditions: the listed variables of Go's library hold what its text lays (the card ties them). -/
import Derived.Test.YtilndebjnibgjaaDoorRows
import Derived.Test.YtilndebjnibgjaaDoorCards
import Derived.Test.YtilndebjnibgjaaDoorTie
import Derived.Test.YtilndebjnibgjaaDoorKit
import Derived.Test.YtilndebjnibgjaaDoorLaid
import Derived.Test.YtilndebjnibgjaaDoorVars
import Derived.Test.YtilndebjnibgjaaDoorSymK
import Derived.SevenTiedAt
import Derived.Deep.RegionHeld3
import Derived.Deep.QuietTactic
import Derived.Sort.AtCall
namespace Go.Proofs.YtilndebjnibgjaaDoor.fnSymbols
set_option maxRecDepth 100000
open Go.ChangeShapes Go.WideShapes Go.ChangeAt Go.RowKit Go.Lib
set_option linter.unusedVariables false

theorem own : ownKnob Tryd.prog.godebug = none := by kernel_rfl

set_option maxRecDepth 100000 in
set_option maxHeartbeats 8000000 in
theorem walk0 (w : World) (A : Option Addr) (n c : Nat) (zs : List Int) (l : n ≤ c) (m : c ≤ maxLen) (hr : Rd w w.heap.size A n (zs.map (Value.int .u8))) (hz : ∀ z ∈ zs, (Lit.int .u8 z).wf = true) (hSh : w.ShapedOpen Tryd.prog) (hMw : WordsIs w 0 modeWs) (hTy : WordsIs w 1 typeWs) :
    Calls Tryd.prog 3 #[.slice A n c] w fun e w' => e = .returned (.bool true) ∧ Below w.heap.size w w' := by
  have HSh : Hid (∀ W : World, Below w.heap.size w W → W.ShapedOpen Tryd.prog) := hide fun W h => shaped_below2 hSh h
  have hgM := hMw.lt (by decide)
  have hgT := hTy.lt (by decide)
  have HM : Hid (∀ W : World, Below w.heap.size w W → WordsIs W 0 modeWs) := hide fun W h => hMw.below hgM h
  have HT : Hid (∀ W : World, Below w.heap.size w W → WordsIs W 1 typeWs) := hide fun W h => hTy.below hgT h
  have His : Hid ((Tryd.prog.info? 26).map (·.size) = some 2) := hide (by kernel_rfl)
  have Hia : Hid ((Tryd.prog.info? 33).map (·.size) = some 4) := hide (by kernel_rfl)
  clear hSh hMw hTy hgM hgT
  unfold maxLen at m
  by_cases hn : n ≤ 1048576
  case neg =>
    go_enter Tryd.func3, Tryd.ntmps3
    go_wp2_with (go_at_call 4; go_in)
    go_ret
    exact ⟨rfl, Below.refl _ _⟩
  have Hr := hide hr
  have Hz := hide hz
  clear hr hz
  go_enter Tryd.func3, Tryd.ntmps3
  go_wp2_with (go_at_call 4; go_in)
  refine Calls.mono (s_DrawFormatSymbol A n c zs w Hr.out Hz.out hn) ?_
  rintro e w1 ⟨x, us, F, rfl, hX, hsh, hb1⟩
  obtain ⟨c0, c1, rfl⟩ := list2 ((SymR.good 0).len hX)
  have HX1 := hide hX
  obtain ⟨v1, F1, _, hk, h0, ⟨h1, g1⟩, rfl⟩ := hX
  obtain rfl := Option.some.inj h0
  obtain rfl := Option.some.inj h1
  obtain ⟨A1, cap1, rfl, _, _⟩ := g1.form
  have Hg1 := hide g1
  have HF1 := hide (g1.lt (AtrR.good 0))
  have Hb1 := hide hb1
  have Hsh := hide hsh
  have hxl : x.attrs.length ≤ 1048576 := by have := hsh.2.1; omega
  have HL : Hid (∀ k ∈ F, k < w1.heap.size) := hide ((SymR.good 0).lt HX1.out)
  -- the box of the drawn symbol
  have hB2 : Below w1.heap.size w1 (w1.alloc (Obj.cells #[.string x.name, .slice A1 x.attrs.length cap1] 26)) := (Below.refl _ _).alloc (Nat.le_refl _) _
  have zb2 := heap_alloc_new w1 (Obj.cells #[.string x.name, .slice A1 x.attrs.length cap1] 26)
  have HB2 := hide hB2
  have HX2 := hide ((SymR.good 0).below HX1.out hB2 HL.out)
  have Zb2 := hide zb2
  clear hB2 zb2 hk h0 h1 g1 hb1 hsh
  go_wp2_with fail
  generalize w1.alloc (Obj.cells #[.string x.name, .slice A1 x.attrs.length cap1] 26) = W2 at HB2 HX2 Zb2 ⊢
  have Hw2 : Hid (Below w.heap.size w W2) := hide (Hb1.out.trans (HB2.out.mono Hb1.out.size))
  have hb3l : w1.heap.size < W2.heap.size := blk_lt Zb2.out
  have HL2 : Hid (∀ k ∈ F, k < W2.heap.size) := hide fun k hk => Nat.lt_of_lt_of_le (HL.out k hk) HB2.out.size
  have HcS : Hid (∀ W : World, Below W2.heap.size W2 W → CellsAt W w1.heap.size 0 [.string x.name, .slice A1 x.attrs.length cap1]) := hide fun W h i u hu => by
    rw [cell_of_row _ _ _ _ _ _ (blk_below Zb2.out h hb3l), Nat.zero_add]
    simpa using hu
  have HxS : Hid (∀ W : World, Below W2.heap.size W2 W → SymR 0 W x [.string x.name, .slice A1 x.attrs.length cap1] F) := hide fun W h => (SymR.good 0).below HX2.out h HL2.out
  have HwS : Hid (∀ W : World, Below W2.heap.size W2 W → Below w.heap.size w W) := hide fun W h => Hw2.out.trans (h.mono Hw2.out.size)
  have HTs := hide (fmtSym_small Hsh.out)
  have Hfs : Hid (∀ (W : World) (cs : List Value) (G : List Nat), Below w.heap.size w W → SymR 0 W x cs G → Calls Tryd.prog 6 #[.agg cs.toArray] W fun en w' => en = .returned (.string (fmtSym x)) ∧ Below W.heap.size W w') := hide fun W cs G h hS => i_FormatSymbol 0 x cs G W hS hxl (HM.out W h) (HT.out W h)
  have Hss : Hid (∀ (W : World) (cs : List Value) (G : List Nat), SymR 0 W x cs G → Calls Tryd.prog 8 #[.agg cs.toArray] W fun en w' => en = .returned (.string (fmtSym x)) ∧ Below W.heap.size W w') := hide fun W cs G hS => s_FormatSymbol 0 x cs G W hS hxl
  have Hsv : Hid (∀ (W : World) (cs : List Value) (G : List Nat), SymR 0 W x cs G → Calls Tryd.prog 9 #[.agg cs.toArray] W fun en w' => en = .returned (.bool (validY x)) ∧ Below W.heap.size W w') := hide fun W cs G hS => s_IsValidSymbol 0 x cs G W hS hxl
  have Hps : Hid (∀ W : World, Below w.heap.size w W → Calls Tryd.prog 7 #[.string (fmtSym x)] W fun en w' => ∃ us F', en = .returned (.tuple #[.agg (List.toArray us), .bool (parseY (fmtSym x)).2]) ∧ SymR 0 w' (parseY (fmtSym x)).1 us F' ∧ Fresh W.heap.size w' F' ∧ Below W.heap.size W w') := hide fun W h => i_ParseSymbol 0 (fmtSym x) (by have := HTs.out; omega) W (HSh.out W h) (HM.out W h) (HT.out W h)
  have Hgood := hide (fun h => parseY_fmt (x := x) h)
  have Hbad := hide (fun h => parseY_bad (x := x) h)
  have Hfind := hide (fun (h : validY x = true) (i : Nat) (a : Atr) (hi : x.attrs[i]? = some a) => findA_at h hi)
  generalize fmtSym x = T at Hfs Hss Hps Hgood Hbad HTs
  have hT1 : (T.toList != T.toList) = false := by simp
  refine Calls.mono (Hfs.out W2 _ F Hw2.out HX2.out) ?_
  rintro e w3 ⟨rfl, hd3⟩
  have Hd3 := hide hd3
  clear hd3
  go_wp2_with fail
  refine Calls.mono (Hps.out w3 (HwS.out _ Hd3.out)) ?_
  cases hv : validY x
  case false =>
    rw [Hbad.out hv]
    simp only [hv] at Hsv
    rintro e w4 ⟨us, F4, rfl, hY, _, hd4⟩
    obtain ⟨c4, c5, rfl⟩ := list2 ((SymR.good 0).len hY)
    obtain ⟨v4, G4, _, hk4, h40, ⟨h41, g4⟩, rfl⟩ := hY
    obtain rfl := Option.some.inj h40
    obtain rfl := Option.some.inj h41
    obtain ⟨A4, cap4, rfl, _, _⟩ := g4.form
    simp only
    have hB5 : Below w4.heap.size w4 (w4.alloc (Obj.cells #[.string zeroY.name, .slice A4 zeroY.attrs.length cap4] 26)) := (Below.refl _ _).alloc (Nat.le_refl _) _
    have D5 := hide ((Hd3.out.trans (hd4.mono Hd3.out.size)).trans (hB5.mono (Nat.le_trans Hd3.out.size hd4.size)))
    have zb5 := heap_alloc_new w4 (Obj.cells #[.string zeroY.name, .slice A4 zeroY.attrs.length cap4] 26)
    have Zb5 := hide zb5
    clear hB5 zb5 hd4 g4 hk4 h40 h41
    go_wp2_with (first | refine wpList_load_at 26 (.tmp 3) rfl Tryd.underlying26 rfl His.out rfl rfl (by rfl) (HcS.out _ D5.out) ?_)
    refine Calls.mono (Hss.out _ _ F (HxS.out _ D5.out)) ?_
    rintro e w6 ⟨rfl, hb⟩
    have D6 := hide (D5.out.trans (hb.mono D5.out.size))
    have Zb6 := hide (blk_below Zb5.out hb (blk_lt Zb5.out))
    clear hb
    go_wp2_with (first | refine wpList_load_at 26 (.tmp 3) rfl Tryd.underlying26 rfl His.out rfl rfl (by rfl) (HcS.out _ D6.out) ?_)
    refine Calls.mono (Hsv.out _ _ F (HxS.out _ D6.out)) ?_
    rintro e w7 ⟨rfl, hb⟩
    have D7 := hide (D6.out.trans (hb.mono D6.out.size))
    have Zb7 := hide (blk_below Zb6.out hb (blk_lt Zb6.out))
    clear hb
    have hzl : zeroY.attrs.length = 0 := rfl
    rw [hzl] at Zb7
    have q7 := cell_at (i := 1) Zb7.out (by simp)
    have Dw7 := hide (HwS.out _ D7.out)
    go_wp2_with fail
    go_loopw [7, 8, 9] (fun i k8 k9 wr => i = .int .i64 0 ∧ wr = w7) (fun _ _ _ _ => 0)
    case atStart => exact ⟨rfl, rfl⟩
    case round =>
      obtain ⟨rfl, rfl⟩ := hrel
      go_wp2_with fail
      refine Calls.mono (s_DrawParseSymbol A n c zs wr (Hr.out.below Dw7.out |>.more Dw7.out.size) Hz.out hn) ?_
      rintro e w20 ⟨t, rfl, ht, hb⟩
      have D20 := hide (Dw7.out.trans (hb.mono Dw7.out.size))
      have ht2 : t.size ≤ 1048576 := by omega
      have Hip := hide (i_ParseSymbol 0 t ht2 w20 (HSh.out _ D20.out) (HM.out _ D20.out) (HT.out _ D20.out))
      have Hsp : Hid (∀ W : World, Calls Tryd.prog 13 #[.string t] W fun en w' => ∃ us F', en = .returned (.tuple #[.agg (List.toArray us), .bool (parseY t).2]) ∧ SymR 0 w' (parseY t).1 us F' ∧ Fresh W.heap.size w' F' ∧ Below W.heap.size W w') := hide fun W => s_ParseSymbol 0 t ht2 W
      have Htr := hide (fun h => parseY_true (line := t) h)
      have Hln := hide (parseY_len t)
      clear hb ht ht2
      generalize (parseY t).1 = Y at Hip Hsp Htr Hln
      generalize (parseY t).2 = fine at Hip Hsp Htr Hln
      go_wp2_with fail
      refine Calls.mono Hip.out ?_
      rintro e w21 ⟨us, F21, rfl, hY, _, hd⟩
      obtain ⟨c8, c9, rfl⟩ := list2 ((SymR.good 0).len hY)
      have HY := hide hY
      have HYl := hide ((SymR.good 0).lt hY)
      obtain ⟨v8, G8, _, _, h80, ⟨h81, g8⟩, rfl⟩ := hY
      obtain rfl := Option.some.inj h80
      obtain rfl := Option.some.inj h81
      obtain ⟨A8, cap8, rfl, _, _⟩ := g8.form
      have D21 := hide (D20.out.trans (hd.mono D20.out.size))
      have hB22 : Below w21.heap.size w21 (w21.alloc (Obj.cells #[.string Y.name, .slice A8 Y.attrs.length cap8] 26)) := (Below.refl _ _).alloc (Nat.le_refl _) _
      have zb22 := heap_alloc_new w21 (Obj.cells #[.string Y.name, .slice A8 Y.attrs.length cap8] 26)
      have D22 := hide (D21.out.trans (hB22.mono D21.out.size))
      have HY22 := hide ((SymR.good 0).below HY.out hB22 HYl.out)
      have Zb22 := hide zb22
      have HYl22 := hide (fun k hk => Nat.lt_of_lt_of_le (HYl.out k hk) hB22.size)
      clear hd g8 h80 h81 hB22 zb22
      go_wp2_with fail
      generalize w21.alloc (Obj.cells #[.string Y.name, .slice A8 Y.attrs.length cap8] 26) = W22 at D22 HY22 Zb22 HYl22 ⊢
      refine Calls.mono (Hsp.out W22) ?_
      rintro e w23 ⟨us2, F23, rfl, hY2, _, hd⟩
      obtain ⟨d8, d9, rfl⟩ := list2 ((SymR.good 0).len hY2)
      obtain ⟨v9, G9, _, _, h90, ⟨h91, g9⟩, rfl⟩ := hY2
      obtain rfl := Option.some.inj h90
      obtain rfl := Option.some.inj h91
      obtain ⟨A9, cap9, rfl, _, _⟩ := g9.form
      have hBn : Below w23.heap.size w23 (w23.alloc (Obj.cells #[.string Y.name, .slice A9 Y.attrs.length cap9] 26)) := (Below.refl _ _).alloc (Nat.le_refl _) _
      replace hd := hd.trans (hBn.mono hd.size)
      have D23 := hide (D22.out.trans (hd.mono D22.out.size))
      have HY23 := hide ((SymR.good 0).below HY22.out hd HYl22.out)
      have Zb23 := hide (blk_below Zb22.out hd (blk_lt Zb22.out))
      clear hBn
      have hcY : Hid (CellsAt (w23.alloc (Obj.cells #[.string Y.name, .slice A9 Y.attrs.length cap9] 26)) w21.heap.size 0 [.string Y.name, .slice A8 Y.attrs.length cap8]) := hide fun i u hu => by
        rw [cell_of_row _ _ _ _ _ _ Zb23.out, Nat.zero_add]
        simpa using hu
      clear hd g9 h90 h91
      cases fine
      · go_wp2_with fail
        go_ret
        exact ⟨rfl, D23.out⟩
      · obtain ⟨hYv, hYf⟩ := Htr.out rfl
        have hY4 : Y.attrs.length ≤ 1048576 := by have := Hln.out rfl; omega
        have Hf := hide (i_FormatSymbol 0 Y _ _ _ HY23.out hY4 (HM.out _ D23.out) (HT.out _ D23.out))
        rw [hYf] at Hf
        have HYv := hide hYv
        have HY23l := hide ((SymR.good 0).lt HY23.out)
        have ht1 : (t.toList == t.toList) = true := by simp
        clear hYv hYf Htr
        go_wp2_with (first | refine wpList_load_at 26 (.tmp 11) rfl Tryd.underlying26 rfl His.out rfl rfl (by rfl) (hcY.out) ?_)
        refine Calls.mono Hf.out ?_
        rintro e w24 ⟨rfl, hb⟩
        have D24 := hide (D23.out.trans (hb.mono D23.out.size))
        have HY24 := hide ((SymR.good 0).below HY23.out hb HY23l.out)
        have Zb24 := hide (blk_below Zb23.out hb (blk_lt Zb23.out))
        have hcZ : Hid (CellsAt w24 w21.heap.size 0 [.string Y.name, .slice A8 Y.attrs.length cap8]) := hide fun i u hu => by
          rw [cell_of_row _ _ _ _ _ _ Zb24.out, Nat.zero_add]
          simpa using hu
        clear hb
        go_wp2_with (first | refine wpList_load_at 26 (.tmp 11) rfl Tryd.underlying26 rfl His.out rfl rfl (by rfl) (hcZ.out) ?_)
        refine Calls.mono (i_IsValidSymbol 0 Y _ _ w24 HY24.out hY4) ?_
        rintro e w25 ⟨rfl, hb⟩
        rw [HYv.out]
        have D25 := hide (D24.out.trans (hb.mono D24.out.size))
        clear hb
        go_wp2_with fail
        go_ret
        exact ⟨rfl, D25.out⟩
  case true =>
    rw [Hgood.out hv]
    simp only [hv] at Hsv
    rintro e w4 ⟨us, F4, rfl, hY, _, hd4⟩
    obtain ⟨c4, c5, rfl⟩ := list2 ((SymR.good 0).len hY)
    have HX4 := hide hY
    have HX4l := hide ((SymR.good 0).lt hY)
    obtain ⟨v4, G4, _, _, h40, ⟨h41, g4⟩, rfl⟩ := hY
    obtain rfl := Option.some.inj h40
    obtain rfl := Option.some.inj h41
    obtain ⟨A4, cap4, rfl, _, _⟩ := g4.form
    simp only at HX4 g4 ⊢
    have hB5 : Below w4.heap.size w4 (w4.alloc (Obj.cells #[.string x.name, .slice A4 x.attrs.length cap4] 26)) := (Below.refl _ _).alloc (Nat.le_refl _) _
    have D5 := hide ((Hd3.out.trans (hd4.mono Hd3.out.size)).trans (hB5.mono (Nat.le_trans Hd3.out.size hd4.size)))
    have zb5 := heap_alloc_new w4 (Obj.cells #[.string x.name, .slice A4 x.attrs.length cap4] 26)
    have Zb5 := hide zb5
    have HX5 := hide ((SymR.good 0).below HX4.out hB5 HX4l.out)
    have Hl5 := hide (fun k hk => Nat.lt_of_lt_of_le (HX4l.out k hk) hB5.size)
    clear hB5 zb5 hd4 g4 h40 h41
    go_wp2_with (first | refine wpList_load_at 26 (.tmp 3) rfl Tryd.underlying26 rfl His.out rfl rfl (by rfl) (HcS.out _ D5.out) ?_)
    refine Calls.mono (Hss.out _ _ F (HxS.out _ D5.out)) ?_
    rintro e w6 ⟨rfl, hb⟩
    have D6 := hide (D5.out.trans (hb.mono D5.out.size))
    have Zb6 := hide (blk_below Zb5.out hb (blk_lt Zb5.out))
    have HX6 := hide ((SymR.good 0).below HX5.out hb Hl5.out)
    have Hl6 := hide (fun k hk => Nat.lt_of_lt_of_le (Hl5.out k hk) hb.size)
    clear hb
    go_wp2_with (first | refine wpList_load_at 26 (.tmp 3) rfl Tryd.underlying26 rfl His.out rfl rfl (by rfl) (HcS.out _ D6.out) ?_)
    refine Calls.mono (Hsv.out _ _ F (HxS.out _ D6.out)) ?_
    rintro e w7 ⟨rfl, hb⟩
    have D7 := hide (D6.out.trans (hb.mono D6.out.size))
    have Zb7 := hide (blk_below Zb6.out hb (blk_lt Zb6.out))
    have HX7 := hide ((SymR.good 0).below HX6.out hb Hl6.out)
    have Hl7 := hide (fun k hk => Nat.lt_of_lt_of_le (Hl6.out k hk) hb.size)
    clear hb
    have hc7 : Hid (CellsAt w7 w4.heap.size 0 [.string x.name, .slice A4 x.attrs.length cap4]) := hide fun i u hu => by
      rw [cell_of_row _ _ _ _ _ _ Zb7.out, Nat.zero_add]
      simpa using hu
    go_wp2_with (first | refine wpList_load_at 26 (.tmp 5) rfl Tryd.underlying26 rfl His.out rfl rfl (by rfl) (hc7.out) ?_)
    refine Calls.mono (Hfs.out _ _ _ (HwS.out _ D7.out) HX7.out) ?_
    rintro e w8 ⟨rfl, hb⟩
    have D8 := hide (D7.out.trans (hb.mono D7.out.size))
    have Zb8 := hide (blk_below Zb7.out hb (blk_lt Zb7.out))
    have HX8 := hide ((SymR.good 0).below HX7.out hb Hl7.out)
    have Hl8 := hide (fun k hk => Nat.lt_of_lt_of_le (Hl7.out k hk) hb.size)
    clear hb
    go_wp2_with fail
    go_loopw [7, 8, 9] (fun i k8 k9 wr => ∃ j : Nat, j ≤ x.attrs.length ∧ i = .int .i64 j ∧ Hid (Below w8.heap.size w8 wr)) (fun i _ _ _ => x.attrs.length - (RowKit.intOf i).toNat)
    case atStart => exact ⟨0, by omega, rfl, hide (Below.refl _ _)⟩
    case round =>
      obtain ⟨j, hj, rfl, Hb⟩ := hrel
      have Zbr := hide (blk_below Zb8.out Hb.out (blk_lt Zb8.out))
      have qr := cell_at (i := 1) Zbr.out (by simp)
      by_cases hlt : j < x.attrs.length
      · have hxj : x.attrs[j]? = some x.attrs[j] := List.getElem?_eq_getElem hlt
        have Hfa := hide (Hfind.out hv j _ hxj)
        have hvA := validY_all hv _ (List.mem_of_getElem? hxj)
        generalize x.attrs[j] = a at hxj Hfa hvA
        have HXr := hide ((SymR.good 0).below HX8.out Hb.out Hl8.out)
        have Hlr := hide (fun k hk => Nat.lt_of_lt_of_le (Hl8.out k hk) Hb.out.size)
        obtain ⟨be, off, rfl, hbe, HcA, hbeX⟩ := sym_at HXr.out hxj
        have HcA := hide HcA
        have hj0 : (0 : Int) ≤ (j : Int) := by omega
        have hji : (j : Int) < (x.attrs.length : Int) := by omega
        go_wp2_with fail
        refine region_invA (fun a0 l a' w' => ∃ x0 x1 x2 x3 x4 x5 x6 x7 x8 x9 x10 x11 x13 : Value, a' = (((((((((((((a0.put (some 53) x0).put (some 54) x1).put (some 55) x2).put (some 56) x3).put (some 57) x4).put (some 58) x5).put (some 59) x6).put (some 60) x7).put (some 52) x8).put (some 61) x9).put (some 62) x10).put (some 8) x11).put (some 9) x13) ∧ (l 13 = true → ∀ i, i < 13 → l i = true) ∧ (l 13 = true → ∃ g, x11 = .pointer (some ⟨g, 0, none⟩) ∧ x13 = .bool true ∧ wr.heap.size ≤ g ∧ w'.heap[g]? = some (.cells [.string a.name, .int .i64 a.type, .int .i64 a.mode, .bool a.circ].toArray 33 (0, 0)) ∧ Below wr.heap.size wr w') ∧ (l 13 = false → Below wr.heap.size wr w' ∧ (l 11 = false → l 12 = false) ∧ (l 0 = true → x0 = .agg #[.string x.name, .slice (some ⟨be, off, none⟩) x.attrs.length cap4]) ∧ (l 1 = true → x1 = .pointer (some ⟨w4.heap.size, 1, none⟩)) ∧ (l 2 = true → x2 = .slice (some ⟨be, off, none⟩) x.attrs.length cap4) ∧ (l 3 = true → x3 = .int .i64 (j : Int)) ∧ (l 4 = true → x4 = .pointer (some ⟨be, off + j * 4, none⟩)) ∧ (l 5 = true → x5 = .pointer (some ⟨be, off + j * 4, none⟩)) ∧ (l 6 = true → x6 = .string a.name) ∧ (l 7 = true → x7 = .tuple #[.agg #[.string a.name, .int .i64 a.type, .int .i64 a.mode, .bool a.circ], .bool true]) ∧ (l 8 = true → x8 = .tuple #[.agg #[.string a.name, .int .i64 a.type, .int .i64 a.mode, .bool a.circ], .bool true]) ∧ (l 9 = true → x9 = .agg #[.string a.name, .int .i64 a.type, .int .i64 a.mode, .bool a.circ]) ∧ (l 10 = true → x10 = .bool true) ∧ (l 11 = true → (∃ g, x11 = .pointer (some ⟨g, 0, none⟩) ∧ wr.heap.size ≤ g ∧ (l 12 = false → w'.heap[g]? = some (.cells #[.string ⟨#[]⟩, .int .i64 0, .int .i64 0, .bool false] 33 (0, 0))) ∧ (l 12 = true → w'.heap[g]? = some (.cells [.string a.name, .int .i64 a.type, .int .i64 a.mode, .bool a.circ].toArray 33 (0, 0))))) ∧ (l 13 = true → x13 = .bool true))) rfl (by kernel_rfl) ?h0 ?hstep ?hend
        case h0 => exact ⟨u53, u54, u55, u56, u57, u58, u59, u60, u52, u61, u62, u8, u9, by kernel_rfl, fun h => absurd h (by decide), fun h => absurd h (by decide), fun _ => ⟨(Below.refl _ _).drew, fun _ => rfl, fun h => absurd h (by decide), fun h => absurd h (by decide), fun h => absurd h (by decide), fun h => absurd h (by decide), fun h => absurd h (by decide), fun h => absurd h (by decide), fun h => absurd h (by decide), fun h => absurd h (by decide), fun h => absurd h (by decide), fun h => absurd h (by decide), fun h => absurd h (by decide), fun h => absurd h (by decide), fun h => absurd h (by decide)⟩⟩
        case hstep =>
          refine ⟨?s0, ?s1, ?s2, ?s3, ?s4, ?s5, ?s6, ?s7, ?s8, ?s9, ?s10, ?s11, ?s12, ?s13, trivial⟩
          case s0 =>
            intro l a' w' hk hpre hJ K hK
            obtain ⟨x0, x1, x2, x3, x4, x5, x6, x7, x8, x9, x10, x11, x13, ha, hall, hfin, hfs⟩ := hJ
            have h12 : l 13 = false := upd_last hall hk (by decide)
            clear hall hfin
            obtain ⟨hB, hl12, f0, f1, f2, f3, f4, f5, f6, f7, f8, f9, f10, f11, f13⟩ := hfs h12
            have zb := blk_below Zbr.out hB (blk_lt Zbr.out)
            have q0 := cell_at (i := 0) zb (by simp)
            have q1 := cell_at (i := 1) zb (by simp)
            refine step_load rfl 26 (.tmp 5) rfl Tryd.underlying26 rfl (cs := [.string x.name, .slice (some ⟨be, off, none⟩) x.attrs.length cap4]) (b := w4.heap.size) (off := 0) His.out (by rw [ha]; kernel_rfl) rfl (fun i u hu => by rw [cell_of_row _ _ _ _ _ _ zb, Nat.zero_add]; simpa using hu) ?_
            subst ha
            exact hK.out _ _ ⟨.agg #[.string x.name, .slice (some ⟨be, off, none⟩) x.attrs.length cap4], x1, x2, x3, x4, x5, x6, x7, x8, x9, x10, x11, x13, by kernel_rfl, fun h => absurd (updL_ne h (by decide)) (by rw [h12]; decide), fun h => absurd (updL_ne h (by decide)) (by rw [h12]; decide), fun _ => ⟨hB, fun h => updK (hl12 (updL_f h)) (by decide), fun _ => rfl, fun h => f1 (updL_ne h (by decide)), fun h => f2 (updL_ne h (by decide)), fun h => f3 (updL_ne h (by decide)), fun h => f4 (updL_ne h (by decide)), fun h => f5 (updL_ne h (by decide)), fun h => f6 (updL_ne h (by decide)), fun h => f7 (updL_ne h (by decide)), fun h => f8 (updL_ne h (by decide)), fun h => f9 (updL_ne h (by decide)), fun h => f10 (updL_ne h (by decide)), fun h => Exists.imp (fun _ h => ⟨h.1, h.2.1, fun q => (id) (h.2.2.1 (updL_f q)), fun q => (id) (h.2.2.2 (updL_ne q (by decide)))⟩) (f11 (updL_ne h (by decide))), fun h => f13 (updL_ne h (by decide))⟩⟩
          case s1 =>
            intro l a' w' hk hpre hJ K hK
            obtain ⟨x0, x1, x2, x3, x4, x5, x6, x7, x8, x9, x10, x11, x13, ha, hall, hfin, hfs⟩ := hJ
            have h12 : l 13 = false := upd_last hall hk (by decide)
            clear hall hfin
            obtain ⟨hB, hl12, f0, f1, f2, f3, f4, f5, f6, f7, f8, f9, f10, f11, f13⟩ := hfs h12
            subst ha
            go_simp
            exact hK.out _ _ ⟨x0, .pointer (some ⟨w4.heap.size, 1, none⟩), x2, x3, x4, x5, x6, x7, x8, x9, x10, x11, x13, by kernel_rfl, fun h => absurd (updL_ne h (by decide)) (by rw [h12]; decide), fun h => absurd (updL_ne h (by decide)) (by rw [h12]; decide), fun _ => ⟨hB, fun h => updK (hl12 (updL_f h)) (by decide), fun h => f0 (updL_ne h (by decide)), fun _ => rfl, fun h => f2 (updL_ne h (by decide)), fun h => f3 (updL_ne h (by decide)), fun h => f4 (updL_ne h (by decide)), fun h => f5 (updL_ne h (by decide)), fun h => f6 (updL_ne h (by decide)), fun h => f7 (updL_ne h (by decide)), fun h => f8 (updL_ne h (by decide)), fun h => f9 (updL_ne h (by decide)), fun h => f10 (updL_ne h (by decide)), fun h => Exists.imp (fun _ h => ⟨h.1, h.2.1, fun q => (id) (h.2.2.1 (updL_f q)), fun q => (id) (h.2.2.2 (updL_ne q (by decide)))⟩) (f11 (updL_ne h (by decide))), fun h => f13 (updL_ne h (by decide))⟩⟩
          case s2 =>
            intro l a' w' hk hpre hJ K hK
            obtain ⟨x0, x1, x2, x3, x4, x5, x6, x7, x8, x9, x10, x11, x13, ha, hall, hfin, hfs⟩ := hJ
            have h12 : l 13 = false := upd_last hall hk (by decide)
            clear hall hfin
            obtain ⟨hB, hl12, f0, f1, f2, f3, f4, f5, f6, f7, f8, f9, f10, f11, f13⟩ := hfs h12
            have p1 : l 1 = true := hpre 1 (by kernel_rfl)
            obtain rfl := f1 p1
            have zb := blk_below Zbr.out hB (blk_lt Zbr.out)
            have q0 := cell_at (i := 0) zb (by simp)
            have q1 := cell_at (i := 1) zb (by simp)
            subst ha
            go_simp
            exact hK.out _ _ ⟨x0, .pointer (some ⟨w4.heap.size, 1, none⟩), .slice (some ⟨be, off, none⟩) x.attrs.length cap4, x3, x4, x5, x6, x7, x8, x9, x10, x11, x13, by kernel_rfl, fun h => absurd (updL_ne h (by decide)) (by rw [h12]; decide), fun h => absurd (updL_ne h (by decide)) (by rw [h12]; decide), fun _ => ⟨hB, fun h => updK (hl12 (updL_f h)) (by decide), fun h => f0 (updL_ne h (by decide)), fun h => f1 (updL_ne h (by decide)), fun _ => rfl, fun h => f3 (updL_ne h (by decide)), fun h => f4 (updL_ne h (by decide)), fun h => f5 (updL_ne h (by decide)), fun h => f6 (updL_ne h (by decide)), fun h => f7 (updL_ne h (by decide)), fun h => f8 (updL_ne h (by decide)), fun h => f9 (updL_ne h (by decide)), fun h => f10 (updL_ne h (by decide)), fun h => Exists.imp (fun _ h => ⟨h.1, h.2.1, fun q => (id) (h.2.2.1 (updL_f q)), fun q => (id) (h.2.2.2 (updL_ne q (by decide)))⟩) (f11 (updL_ne h (by decide))), fun h => f13 (updL_ne h (by decide))⟩⟩
          case s3 =>
            intro l a' w' hk hpre hJ K hK
            obtain ⟨x0, x1, x2, x3, x4, x5, x6, x7, x8, x9, x10, x11, x13, ha, hall, hfin, hfs⟩ := hJ
            have h12 : l 13 = false := upd_last hall hk (by decide)
            clear hall hfin
            obtain ⟨hB, hl12, f0, f1, f2, f3, f4, f5, f6, f7, f8, f9, f10, f11, f13⟩ := hfs h12
            subst ha
            go_simp
            exact hK.out _ _ ⟨x0, x1, x2, .int .i64 (j : Int), x4, x5, x6, x7, x8, x9, x10, x11, x13, by kernel_rfl, fun h => absurd (updL_ne h (by decide)) (by rw [h12]; decide), fun h => absurd (updL_ne h (by decide)) (by rw [h12]; decide), fun _ => ⟨hB, fun h => updK (hl12 (updL_f h)) (by decide), fun h => f0 (updL_ne h (by decide)), fun h => f1 (updL_ne h (by decide)), fun h => f2 (updL_ne h (by decide)), fun _ => rfl, fun h => f4 (updL_ne h (by decide)), fun h => f5 (updL_ne h (by decide)), fun h => f6 (updL_ne h (by decide)), fun h => f7 (updL_ne h (by decide)), fun h => f8 (updL_ne h (by decide)), fun h => f9 (updL_ne h (by decide)), fun h => f10 (updL_ne h (by decide)), fun h => Exists.imp (fun _ h => ⟨h.1, h.2.1, fun q => (id) (h.2.2.1 (updL_f q)), fun q => (id) (h.2.2.2 (updL_ne q (by decide)))⟩) (f11 (updL_ne h (by decide))), fun h => f13 (updL_ne h (by decide))⟩⟩
          case s4 =>
            intro l a' w' hk hpre hJ K hK
            obtain ⟨x0, x1, x2, x3, x4, x5, x6, x7, x8, x9, x10, x11, x13, ha, hall, hfin, hfs⟩ := hJ
            have h12 : l 13 = false := upd_last hall hk (by decide)
            clear hall hfin
            obtain ⟨hB, hl12, f0, f1, f2, f3, f4, f5, f6, f7, f8, f9, f10, f11, f13⟩ := hfs h12
            have p2 : l 2 = true := hpre 2 (by kernel_rfl)
            have p3 : l 3 = true := hpre 3 (by kernel_rfl)
            obtain rfl := f2 p2
            obtain rfl := f3 p3
            subst ha
            go_simp
            exact hK.out _ _ ⟨x0, x1, .slice (some ⟨be, off, none⟩) x.attrs.length cap4, .int .i64 (j : Int), .pointer (some ⟨be, off + j * 4, none⟩), x5, x6, x7, x8, x9, x10, x11, x13, by kernel_rfl, fun h => absurd (updL_ne h (by decide)) (by rw [h12]; decide), fun h => absurd (updL_ne h (by decide)) (by rw [h12]; decide), fun _ => ⟨hB, fun h => updK (hl12 (updL_f h)) (by decide), fun h => f0 (updL_ne h (by decide)), fun h => f1 (updL_ne h (by decide)), fun h => f2 (updL_ne h (by decide)), fun h => f3 (updL_ne h (by decide)), fun _ => rfl, fun h => f5 (updL_ne h (by decide)), fun h => f6 (updL_ne h (by decide)), fun h => f7 (updL_ne h (by decide)), fun h => f8 (updL_ne h (by decide)), fun h => f9 (updL_ne h (by decide)), fun h => f10 (updL_ne h (by decide)), fun h => Exists.imp (fun _ h => ⟨h.1, h.2.1, fun q => (id) (h.2.2.1 (updL_f q)), fun q => (id) (h.2.2.2 (updL_ne q (by decide)))⟩) (f11 (updL_ne h (by decide))), fun h => f13 (updL_ne h (by decide))⟩⟩
          case s5 =>
            intro l a' w' hk hpre hJ K hK
            obtain ⟨x0, x1, x2, x3, x4, x5, x6, x7, x8, x9, x10, x11, x13, ha, hall, hfin, hfs⟩ := hJ
            have h12 : l 13 = false := upd_last hall hk (by decide)
            clear hall hfin
            obtain ⟨hB, hl12, f0, f1, f2, f3, f4, f5, f6, f7, f8, f9, f10, f11, f13⟩ := hfs h12
            have p4 : l 4 = true := hpre 4 (by kernel_rfl)
            obtain rfl := f4 p4
            subst ha
            go_simp
            exact hK.out _ _ ⟨x0, x1, x2, x3, .pointer (some ⟨be, off + j * 4, none⟩), .pointer (some ⟨be, off + j * 4, none⟩), x6, x7, x8, x9, x10, x11, x13, by kernel_rfl, fun h => absurd (updL_ne h (by decide)) (by rw [h12]; decide), fun h => absurd (updL_ne h (by decide)) (by rw [h12]; decide), fun _ => ⟨hB, fun h => updK (hl12 (updL_f h)) (by decide), fun h => f0 (updL_ne h (by decide)), fun h => f1 (updL_ne h (by decide)), fun h => f2 (updL_ne h (by decide)), fun h => f3 (updL_ne h (by decide)), fun h => f4 (updL_ne h (by decide)), fun _ => rfl, fun h => f6 (updL_ne h (by decide)), fun h => f7 (updL_ne h (by decide)), fun h => f8 (updL_ne h (by decide)), fun h => f9 (updL_ne h (by decide)), fun h => f10 (updL_ne h (by decide)), fun h => Exists.imp (fun _ h => ⟨h.1, h.2.1, fun q => (id) (h.2.2.1 (updL_f q)), fun q => (id) (h.2.2.2 (updL_ne q (by decide)))⟩) (f11 (updL_ne h (by decide))), fun h => f13 (updL_ne h (by decide))⟩⟩
          case s6 =>
            intro l a' w' hk hpre hJ K hK
            obtain ⟨x0, x1, x2, x3, x4, x5, x6, x7, x8, x9, x10, x11, x13, ha, hall, hfin, hfs⟩ := hJ
            have h12 : l 13 = false := upd_last hall hk (by decide)
            clear hall hfin
            obtain ⟨hB, hl12, f0, f1, f2, f3, f4, f5, f6, f7, f8, f9, f10, f11, f13⟩ := hfs h12
            have p5 : l 5 = true := hpre 5 (by kernel_rfl)
            obtain rfl := f5 p5
            have qn := (hB.cell (p := ⟨be, off + j * 4, none⟩) hbe).trans HcA.out
            subst ha
            go_simp
            exact hK.out _ _ ⟨x0, x1, x2, x3, x4, .pointer (some ⟨be, off + j * 4, none⟩), .string a.name, x7, x8, x9, x10, x11, x13, by kernel_rfl, fun h => absurd (updL_ne h (by decide)) (by rw [h12]; decide), fun h => absurd (updL_ne h (by decide)) (by rw [h12]; decide), fun _ => ⟨hB, fun h => updK (hl12 (updL_f h)) (by decide), fun h => f0 (updL_ne h (by decide)), fun h => f1 (updL_ne h (by decide)), fun h => f2 (updL_ne h (by decide)), fun h => f3 (updL_ne h (by decide)), fun h => f4 (updL_ne h (by decide)), fun h => f5 (updL_ne h (by decide)), fun _ => rfl, fun h => f7 (updL_ne h (by decide)), fun h => f8 (updL_ne h (by decide)), fun h => f9 (updL_ne h (by decide)), fun h => f10 (updL_ne h (by decide)), fun h => Exists.imp (fun _ h => ⟨h.1, h.2.1, fun q => (id) (h.2.2.1 (updL_f q)), fun q => (id) (h.2.2.2 (updL_ne q (by decide)))⟩) (f11 (updL_ne h (by decide))), fun h => f13 (updL_ne h (by decide))⟩⟩
          case s7 =>
            intro l a' w' hk hpre hJ K hK
            obtain ⟨x0, x1, x2, x3, x4, x5, x6, x7, x8, x9, x10, x11, x13, ha, hall, hfin, hfs⟩ := hJ
            have h12 : l 13 = false := upd_last hall hk (by decide)
            clear hall hfin
            obtain ⟨hB, hl12, f0, f1, f2, f3, f4, f5, f6, f7, f8, f9, f10, f11, f13⟩ := hfs h12
            have p0 : l 0 = true := hpre 0 (by kernel_rfl)
            have p6 : l 6 = true := hpre 6 (by kernel_rfl)
            obtain rfl := f0 p0
            obtain rfl := f6 p6
            subst ha
            go_simp
            go_at_call 10
            refine Calls.mono (i_FindAttribute 0 x _ _ w' ((SymR.good 0).below HXr.out hB Hlr.out) a.name) ?_
            rintro en w2 ⟨us, Fa, rfl, hA, _, hb2⟩
            rw [Hfa.out] at hA ⊢
            obtain ⟨e0, e1, e2, e3, rfl⟩ := list4 hA.1
            obtain rfl := Option.some.inj hA.2.2.1
            obtain rfl := Option.some.inj hA.2.2.2.1
            obtain rfl := Option.some.inj hA.2.2.2.2.1
            obtain rfl := Option.some.inj hA.2.2.2.2.2.1
            exact hK.out _ _ ⟨.agg #[.string x.name, .slice (some ⟨be, off, none⟩) x.attrs.length cap4], x1, x2, x3, x4, x5, .string a.name, .tuple #[.agg #[.string a.name, .int .i64 a.type, .int .i64 a.mode, .bool a.circ], .bool true], x8, x9, x10, x11, x13, by kernel_rfl, fun h => absurd (updL_ne h (by decide)) (by rw [h12]; decide), fun h => absurd (updL_ne h (by decide)) (by rw [h12]; decide), fun _ => ⟨hB.trans (hb2.mono hB.size), fun h => updK (hl12 (updL_f h)) (by decide), fun h => f0 (updL_ne h (by decide)), fun h => f1 (updL_ne h (by decide)), fun h => f2 (updL_ne h (by decide)), fun h => f3 (updL_ne h (by decide)), fun h => f4 (updL_ne h (by decide)), fun h => f5 (updL_ne h (by decide)), fun h => f6 (updL_ne h (by decide)), fun _ => rfl, fun h => f8 (updL_ne h (by decide)), fun h => f9 (updL_ne h (by decide)), fun h => f10 (updL_ne h (by decide)), fun h => Exists.imp (fun _ h => ⟨h.1, h.2.1, fun q => (fun z => blk_below z (hb2) (blk_lt z)) (h.2.2.1 (updL_f q)), fun q => (fun z => blk_below z (hb2) (blk_lt z)) (h.2.2.2 (updL_ne q (by decide)))⟩) (f11 (updL_ne h (by decide))), fun h => f13 (updL_ne h (by decide))⟩⟩
          case s8 =>
            intro l a' w' hk hpre hJ K hK
            obtain ⟨x0, x1, x2, x3, x4, x5, x6, x7, x8, x9, x10, x11, x13, ha, hall, hfin, hfs⟩ := hJ
            have h12 : l 13 = false := upd_last hall hk (by decide)
            clear hall hfin
            obtain ⟨hB, hl12, f0, f1, f2, f3, f4, f5, f6, f7, f8, f9, f10, f11, f13⟩ := hfs h12
            have p7 : l 7 = true := hpre 7 (by kernel_rfl)
            obtain rfl := f7 p7
            subst ha
            go_simp
            exact hK.out _ _ ⟨x0, x1, x2, x3, x4, x5, x6, .tuple #[.agg #[.string a.name, .int .i64 a.type, .int .i64 a.mode, .bool a.circ], .bool true], .tuple #[.agg #[.string a.name, .int .i64 a.type, .int .i64 a.mode, .bool a.circ], .bool true], x9, x10, x11, x13, by kernel_rfl, fun h => absurd (updL_ne h (by decide)) (by rw [h12]; decide), fun h => absurd (updL_ne h (by decide)) (by rw [h12]; decide), fun _ => ⟨hB, fun h => updK (hl12 (updL_f h)) (by decide), fun h => f0 (updL_ne h (by decide)), fun h => f1 (updL_ne h (by decide)), fun h => f2 (updL_ne h (by decide)), fun h => f3 (updL_ne h (by decide)), fun h => f4 (updL_ne h (by decide)), fun h => f5 (updL_ne h (by decide)), fun h => f6 (updL_ne h (by decide)), fun h => f7 (updL_ne h (by decide)), fun _ => rfl, fun h => f9 (updL_ne h (by decide)), fun h => f10 (updL_ne h (by decide)), fun h => Exists.imp (fun _ h => ⟨h.1, h.2.1, fun q => (id) (h.2.2.1 (updL_f q)), fun q => (id) (h.2.2.2 (updL_ne q (by decide)))⟩) (f11 (updL_ne h (by decide))), fun h => f13 (updL_ne h (by decide))⟩⟩
          case s9 =>
            intro l a' w' hk hpre hJ K hK
            obtain ⟨x0, x1, x2, x3, x4, x5, x6, x7, x8, x9, x10, x11, x13, ha, hall, hfin, hfs⟩ := hJ
            have h12 : l 13 = false := upd_last hall hk (by decide)
            clear hall hfin
            obtain ⟨hB, hl12, f0, f1, f2, f3, f4, f5, f6, f7, f8, f9, f10, f11, f13⟩ := hfs h12
            have p8 : l 8 = true := hpre 8 (by kernel_rfl)
            obtain rfl := f8 p8
            subst ha
            go_simp
            exact hK.out _ _ ⟨x0, x1, x2, x3, x4, x5, x6, x7, .tuple #[.agg #[.string a.name, .int .i64 a.type, .int .i64 a.mode, .bool a.circ], .bool true], .agg #[.string a.name, .int .i64 a.type, .int .i64 a.mode, .bool a.circ], x10, x11, x13, by kernel_rfl, fun h => absurd (updL_ne h (by decide)) (by rw [h12]; decide), fun h => absurd (updL_ne h (by decide)) (by rw [h12]; decide), fun _ => ⟨hB, fun h => updK (hl12 (updL_f h)) (by decide), fun h => f0 (updL_ne h (by decide)), fun h => f1 (updL_ne h (by decide)), fun h => f2 (updL_ne h (by decide)), fun h => f3 (updL_ne h (by decide)), fun h => f4 (updL_ne h (by decide)), fun h => f5 (updL_ne h (by decide)), fun h => f6 (updL_ne h (by decide)), fun h => f7 (updL_ne h (by decide)), fun h => f8 (updL_ne h (by decide)), fun _ => rfl, fun h => f10 (updL_ne h (by decide)), fun h => Exists.imp (fun _ h => ⟨h.1, h.2.1, fun q => (id) (h.2.2.1 (updL_f q)), fun q => (id) (h.2.2.2 (updL_ne q (by decide)))⟩) (f11 (updL_ne h (by decide))), fun h => f13 (updL_ne h (by decide))⟩⟩
          case s10 =>
            intro l a' w' hk hpre hJ K hK
            obtain ⟨x0, x1, x2, x3, x4, x5, x6, x7, x8, x9, x10, x11, x13, ha, hall, hfin, hfs⟩ := hJ
            have h12 : l 13 = false := upd_last hall hk (by decide)
            clear hall hfin
            obtain ⟨hB, hl12, f0, f1, f2, f3, f4, f5, f6, f7, f8, f9, f10, f11, f13⟩ := hfs h12
            have p8 : l 8 = true := hpre 8 (by kernel_rfl)
            obtain rfl := f8 p8
            subst ha
            go_simp
            exact hK.out _ _ ⟨x0, x1, x2, x3, x4, x5, x6, x7, .tuple #[.agg #[.string a.name, .int .i64 a.type, .int .i64 a.mode, .bool a.circ], .bool true], x9, .bool true, x11, x13, by kernel_rfl, fun h => absurd (updL_ne h (by decide)) (by rw [h12]; decide), fun h => absurd (updL_ne h (by decide)) (by rw [h12]; decide), fun _ => ⟨hB, fun h => updK (hl12 (updL_f h)) (by decide), fun h => f0 (updL_ne h (by decide)), fun h => f1 (updL_ne h (by decide)), fun h => f2 (updL_ne h (by decide)), fun h => f3 (updL_ne h (by decide)), fun h => f4 (updL_ne h (by decide)), fun h => f5 (updL_ne h (by decide)), fun h => f6 (updL_ne h (by decide)), fun h => f7 (updL_ne h (by decide)), fun h => f8 (updL_ne h (by decide)), fun h => f9 (updL_ne h (by decide)), fun _ => rfl, fun h => Exists.imp (fun _ h => ⟨h.1, h.2.1, fun q => (id) (h.2.2.1 (updL_f q)), fun q => (id) (h.2.2.2 (updL_ne q (by decide)))⟩) (f11 (updL_ne h (by decide))), fun h => f13 (updL_ne h (by decide))⟩⟩
          case s11 =>
            intro l a' w' hk hpre hJ K hK
            obtain ⟨x0, x1, x2, x3, x4, x5, x6, x7, x8, x9, x10, x11, x13, ha, hall, hfin, hfs⟩ := hJ
            have h12 : l 13 = false := upd_last hall hk (by decide)
            clear hall hfin
            obtain ⟨hB, hl12, f0, f1, f2, f3, f4, f5, f6, f7, f8, f9, f10, f11, f13⟩ := hfs h12
            subst ha
            go_simp
            exact hK.out _ _ ⟨x0, x1, x2, x3, x4, x5, x6, x7, x8, x9, x10, .pointer (some ⟨w'.heap.size, 0, none⟩), x13, by kernel_rfl, fun h => absurd (updL_ne h (by decide)) (by rw [h12]; decide), fun h => absurd (updL_ne h (by decide)) (by rw [h12]; decide), fun _ => ⟨hB.alloc hB.size _, fun h => absurd h (by simp [updL]), fun h => f0 (updL_ne h (by decide)), fun h => f1 (updL_ne h (by decide)), fun h => f2 (updL_ne h (by decide)), fun h => f3 (updL_ne h (by decide)), fun h => f4 (updL_ne h (by decide)), fun h => f5 (updL_ne h (by decide)), fun h => f6 (updL_ne h (by decide)), fun h => f7 (updL_ne h (by decide)), fun h => f8 (updL_ne h (by decide)), fun h => f9 (updL_ne h (by decide)), fun h => f10 (updL_ne h (by decide)), fun _ => ⟨_, rfl, hB.size, fun _ => heap_alloc_new w' _, fun q => absurd (updL_ne q (by decide)) (by rw [hl12 hk]; decide)⟩, fun h => f13 (updL_ne h (by decide))⟩⟩
          case s12 =>
            intro l a' w' hk hpre hJ K hK
            obtain ⟨x0, x1, x2, x3, x4, x5, x6, x7, x8, x9, x10, x11, x13, ha, hall, hfin, hfs⟩ := hJ
            have h12 : l 13 = false := upd_last hall hk (by decide)
            clear hall hfin
            obtain ⟨hB, hl12, f0, f1, f2, f3, f4, f5, f6, f7, f8, f9, f10, f11, f13⟩ := hfs h12
            have p9 : l 9 = true := hpre 9 (by kernel_rfl)
            have p11 : l 11 = true := hpre 11 (by kernel_rfl)
            obtain rfl := f9 p9
            obtain ⟨g, rfl, hg, hz, _⟩ := f11 p11
            have hz := hz hk
            refine step_store rfl 33 (.tmp 8) (.tmp 61) rfl (cs := [.string a.name, .int .i64 a.type, .int .i64 a.mode, .bool a.circ]) (v := .agg #[.string a.name, .int .i64 a.type, .int .i64 a.mode, .bool a.circ]) rfl Hia.out (by rw [ha]; kernel_rfl) (g := g) (off := 0) (by rw [ha]; kernel_rfl) rfl (by simp [Value.oneCell']) hz (by decide) ?_
            intro WF hP
            subst ha
            exact hK.out _ _ ⟨x0, x1, x2, x3, x4, x5, x6, x7, x8, .agg #[.string a.name, .int .i64 a.type, .int .i64 a.mode, .bool a.circ], x10, .pointer (some ⟨g, 0, none⟩), x13, by kernel_rfl, fun h => absurd (updL_ne h (by decide)) (by rw [h12]; decide), fun h => absurd (updL_ne h (by decide)) (by rw [h12]; decide), fun _ => ⟨hB.trans (hP.below hg), fun h => absurd p11 (by rw [updL_f h]; decide), fun h => f0 (updL_ne h (by decide)), fun h => f1 (updL_ne h (by decide)), fun h => f2 (updL_ne h (by decide)), fun h => f3 (updL_ne h (by decide)), fun h => f4 (updL_ne h (by decide)), fun h => f5 (updL_ne h (by decide)), fun h => f6 (updL_ne h (by decide)), fun h => f7 (updL_ne h (by decide)), fun h => f8 (updL_ne h (by decide)), fun h => f9 (updL_ne h (by decide)), fun h => f10 (updL_ne h (by decide)), fun h => ⟨g, rfl, hg, fun q => absurd q (by simp [updL]), fun _ => put_whole hP rfl⟩, fun h => f13 (updL_ne h (by decide))⟩⟩
          case s13 =>
            intro l a' w' hk hpre hJ K hK
            obtain ⟨x0, x1, x2, x3, x4, x5, x6, x7, x8, x9, x10, x11, x13, ha, hall, hfin, hfs⟩ := hJ
            have h12 : l 13 = false := hk
            clear hall hfin
            obtain ⟨hB, hl12, f0, f1, f2, f3, f4, f5, f6, f7, f8, f9, f10, f11, f13⟩ := hfs h12
            have p10 : l 10 = true := hpre 10 (by kernel_rfl)
            have p11 : l 11 = true := hpre 11 (by kernel_rfl)
            have p12 : l 12 = true := hpre 12 (by kernel_rfl)
            obtain rfl := f10 p10
            obtain ⟨g, rfl, hg, _, hz⟩ := f11 p11
            subst ha
            go_simp
            exact hK.out _ _ ⟨x0, x1, x2, x3, x4, x5, x6, x7, x8, x9, .bool true, .pointer (some ⟨g, 0, none⟩), .bool true, by kernel_rfl, fun _ => deep_all hpre (by kernel_rfl) _, fun _ => ⟨g, rfl, rfl, hg, hz p12, hB⟩, fun h => absurd h (by simp [updL])⟩
        case hend =>
          intro l a' w' hl hJ
          obtain ⟨x0, x1, x2, x3, x4, x5, x6, x7, x8, x9, x10, x11, x13, ha, _, hfin, _⟩ := hJ
          simp [go_sem] at ha
          subst ha
          replace hfin := hfin (hl 13 (by decide))
          clear hl
          obtain ⟨g, rfl, rfl, hg, hzg, hB⟩ := hfin
          have HxD := hide (HxS.out _ ((D8.out.trans (Hb.out.mono D8.out.size)).trans (hB.mono (Nat.le_trans D8.out.size Hb.out.size))))
          have D9 := hide ((D8.out.trans (Hb.out.mono D8.out.size)).trans (hB.mono (Nat.le_trans D8.out.size Hb.out.size)))
          have Hb9 := hide (Hb.out.trans (hB.mono Hb.out.size))
          obtain ⟨ge, goff, hA1, hge, _, hgc⟩ := sym_at HxD.out hxj
          subst hA1
          have hgl : g < w'.heap.size := blk_lt hzg
          have r0 : ∀ W : World, Below w'.heap.size w' W → W.cell? ⟨g, 0, none⟩ = some (.string a.name) := fun W h => by rw [cell_of_row _ _ _ _ _ _ (blk_below hzg h hgl)]; rfl
          have r1 : ∀ W : World, Below w'.heap.size w' W → W.cell? ⟨g, 1, none⟩ = some (.int .i64 a.type) := fun W h => by rw [cell_of_row _ _ _ _ _ _ (blk_below hzg h hgl)]; rfl
          have r2 : ∀ W : World, Below w'.heap.size w' W → W.cell? ⟨g, 2, none⟩ = some (.int .i64 a.mode) := fun W h => by rw [cell_of_row _ _ _ _ _ _ (blk_below hzg h hgl)]; rfl
          have r3 : ∀ W : World, Below w'.heap.size w' W → W.cell? ⟨g, 3, none⟩ = some (.bool a.circ) := fun W h => by rw [cell_of_row _ _ _ _ _ _ (blk_below hzg h hgl)]; rfl
          have hcB := HcS.out _ D9.out
          have h1l : w1.heap.size < w'.heap.size := Nat.lt_of_lt_of_le hb3l D9.out.size
          have u1_ : ∀ W : World, Below w'.heap.size w' W → W.cell? ⟨w1.heap.size, 1, none⟩ = some (.slice (some ⟨ge, goff, none⟩) x.attrs.length cap1) := fun W h => (h.cell (p := ⟨w1.heap.size, 1, none⟩) h1l).trans (by have := hcB 1 _ rfl; simpa using this)
          have e0 : ∀ W : World, Below w'.heap.size w' W → W.cell? ⟨ge, goff + j * 4, none⟩ = some (.string a.name) := fun W h => (h.cell (p := ⟨ge, goff + j * 4, none⟩) hge).trans (hgc 0 _ rfl)
          have e1 : ∀ W : World, Below w'.heap.size w' W → W.cell? ⟨ge, goff + j * 4 + 1, none⟩ = some (.int .i64 a.type) := fun W h => (h.cell (p := ⟨ge, goff + j * 4 + 1, none⟩) hge).trans (hgc 1 _ rfl)
          have e2 : ∀ W : World, Below w'.heap.size w' W → W.cell? ⟨ge, goff + j * 4 + 2, none⟩ = some (.int .i64 a.mode) := fun W h => (h.cell (p := ⟨ge, goff + j * 4 + 2, none⟩) hge).trans (hgc 2 _ rfl)
          have e3 : ∀ W : World, Below w'.heap.size w' W → W.cell? ⟨ge, goff + j * 4 + 3, none⟩ = some (.bool a.circ) := fun W h => (h.cell (p := ⟨ge, goff + j * 4 + 3, none⟩) hge).trans (hgc 3 _ rfl)
          have N := run_neqAtrS a
          have hBr : Below w'.heap.size w' w' := Below.refl _ _
          have hvz := hide (i_IsValidAttribute a.name a.type a.mode a.circ (by have := Hsh.out.2.2.2 a (List.mem_of_getElem? hxj); exact this.1.name))
          have HvA : Hid (validA a.name a.type a.mode a.circ = true) := hide hvA
          clear hzg hgc hcB hB qr hvA hxj Hfa
          go_wp2_with fail
          go_region_held3 (fun W => Below w'.heap.size w' W)
            (first | assumption | exact Below.drew (by assumption))
            ((go_at_call 11; refine (hvz.out _).mono ?_; rintro en w3 ⟨rfl, hb3⟩; rw [HvA.out]; have hB3 : Below w'.heap.size w' w3 := below_step (by (repeat (first | assumption | apply Below.drew))) (Nat.le_refl _) hb3; clear hb3))
          go_wp2_with fail
          go_roundw
          case rel => exact ⟨j + 1, by omega, by go_num, hide (Hb9.out.trans (hB3.mono Hb9.out.size))⟩
          case measure => simp [RowKit.intOf]; omega
      · have hjl : j = x.attrs.length := by omega
        have Dwr := hide ((HwS.out _ D8.out).trans (Hb.out.mono (HwS.out _ D8.out).size))
        go_wp2_with fail
        refine Calls.mono (s_DrawParseSymbol A n c zs wr (Hr.out.below Dwr.out |>.more Dwr.out.size) Hz.out hn) ?_
        rintro e w20 ⟨t, rfl, ht, hb⟩
        have D20 := hide (Dwr.out.trans (hb.mono Dwr.out.size))
        have ht2 : t.size ≤ 1048576 := by omega
        have Hip := hide (i_ParseSymbol 0 t ht2 w20 (HSh.out _ D20.out) (HM.out _ D20.out) (HT.out _ D20.out))
        have Hsp : Hid (∀ W : World, Calls Tryd.prog 13 #[.string t] W fun en w' => ∃ us F', en = .returned (.tuple #[.agg (List.toArray us), .bool (parseY t).2]) ∧ SymR 0 w' (parseY t).1 us F' ∧ Fresh W.heap.size w' F' ∧ Below W.heap.size W w') := hide fun W => s_ParseSymbol 0 t ht2 W
        have Htr := hide (fun h => parseY_true (line := t) h)
        have Hln := hide (parseY_len t)
        clear hb ht ht2
        generalize (parseY t).1 = Y at Hip Hsp Htr Hln
        generalize (parseY t).2 = fine at Hip Hsp Htr Hln
        go_wp2_with fail
        refine Calls.mono Hip.out ?_
        rintro e w21 ⟨us, F21, rfl, hY, _, hd⟩
        obtain ⟨c8, c9, rfl⟩ := list2 ((SymR.good 0).len hY)
        have HY := hide hY
        have HYl := hide ((SymR.good 0).lt hY)
        obtain ⟨v8, G8, _, _, h80, ⟨h81, g8⟩, rfl⟩ := hY
        obtain rfl := Option.some.inj h80
        obtain rfl := Option.some.inj h81
        obtain ⟨A8, cap8, rfl, _, _⟩ := g8.form
        have D21 := hide (D20.out.trans (hd.mono D20.out.size))
        have hB22 : Below w21.heap.size w21 (w21.alloc (Obj.cells #[.string Y.name, .slice A8 Y.attrs.length cap8] 26)) := (Below.refl _ _).alloc (Nat.le_refl _) _
        have zb22 := heap_alloc_new w21 (Obj.cells #[.string Y.name, .slice A8 Y.attrs.length cap8] 26)
        have D22 := hide (D21.out.trans (hB22.mono D21.out.size))
        have HY22 := hide ((SymR.good 0).below HY.out hB22 HYl.out)
        have Zb22 := hide zb22
        have HYl22 := hide (fun k hk => Nat.lt_of_lt_of_le (HYl.out k hk) hB22.size)
        clear hd g8 h80 h81 hB22 zb22
        go_wp2_with fail
        generalize w21.alloc (Obj.cells #[.string Y.name, .slice A8 Y.attrs.length cap8] 26) = W22 at D22 HY22 Zb22 HYl22 ⊢
        refine Calls.mono (Hsp.out W22) ?_
        rintro e w23 ⟨us2, F23, rfl, hY2, _, hd⟩
        obtain ⟨d8, d9, rfl⟩ := list2 ((SymR.good 0).len hY2)
        obtain ⟨v9, G9, _, _, h90, ⟨h91, g9⟩, rfl⟩ := hY2
        obtain rfl := Option.some.inj h90
        obtain rfl := Option.some.inj h91
        obtain ⟨A9, cap9, rfl, _, _⟩ := g9.form
        have hBn : Below w23.heap.size w23 (w23.alloc (Obj.cells #[.string Y.name, .slice A9 Y.attrs.length cap9] 26)) := (Below.refl _ _).alloc (Nat.le_refl _) _
        replace hd := hd.trans (hBn.mono hd.size)
        have D23 := hide (D22.out.trans (hd.mono D22.out.size))
        have HY23 := hide ((SymR.good 0).below HY22.out hd HYl22.out)
        have Zb23 := hide (blk_below Zb22.out hd (blk_lt Zb22.out))
        clear hBn
        have hcY : Hid (CellsAt (w23.alloc (Obj.cells #[.string Y.name, .slice A9 Y.attrs.length cap9] 26)) w21.heap.size 0 [.string Y.name, .slice A8 Y.attrs.length cap8]) := hide fun i u hu => by
          rw [cell_of_row _ _ _ _ _ _ Zb23.out, Nat.zero_add]
          simpa using hu
        clear hd g9 h90 h91
        cases fine
        · go_wp2_with fail
          go_ret
          exact ⟨rfl, D23.out⟩
        · obtain ⟨hYv, hYf⟩ := Htr.out rfl
          have hY4 : Y.attrs.length ≤ 1048576 := by have := Hln.out rfl; omega
          have Hf := hide (i_FormatSymbol 0 Y _ _ _ HY23.out hY4 (HM.out _ D23.out) (HT.out _ D23.out))
          rw [hYf] at Hf
          have HYv := hide hYv
          have HY23l := hide ((SymR.good 0).lt HY23.out)
          have ht1 : (t.toList == t.toList) = true := by simp
          clear hYv hYf Htr
          go_wp2_with (first | refine wpList_load_at 26 (.tmp 11) rfl Tryd.underlying26 rfl His.out rfl rfl (by rfl) (hcY.out) ?_)
          refine Calls.mono Hf.out ?_
          rintro e w24 ⟨rfl, hb⟩
          have D24 := hide (D23.out.trans (hb.mono D23.out.size))
          have HY24 := hide ((SymR.good 0).below HY23.out hb HY23l.out)
          have Zb24 := hide (blk_below Zb23.out hb (blk_lt Zb23.out))
          have hcZ : Hid (CellsAt w24 w21.heap.size 0 [.string Y.name, .slice A8 Y.attrs.length cap8]) := hide fun i u hu => by
            rw [cell_of_row _ _ _ _ _ _ Zb24.out, Nat.zero_add]
            simpa using hu
          clear hb
          go_wp2_with (first | refine wpList_load_at 26 (.tmp 11) rfl Tryd.underlying26 rfl His.out rfl rfl (by rfl) (hcZ.out) ?_)
          refine Calls.mono (i_IsValidSymbol 0 Y _ _ w24 HY24.out hY4) ?_
          rintro e w25 ⟨rfl, hb⟩
          rw [HYv.out]
          have D25 := hide (D24.out.trans (hb.mono D24.out.size))
          clear hb
          go_wp2_with fail
          go_ret
          exact ⟨rfl, D25.out⟩
theorem walk (w : World) (A : Option Addr) (n c : Nat) (zs : List Int) (l : n ≤ c) (m : c ≤ maxLen) (hr : Rd w w.heap.size A n (zs.map (Value.int .u8))) (hz : ∀ z ∈ zs, (Lit.int .u8 z).wf = true) (hL : laidMet Tryd.prog Rows.fnSymbolsRow.laid w) (hsh : w.ShapedOpen Tryd.prog) :
    Calls Tryd.prog 3 #[.slice A n c] w fun e w' => e = .returned (.bool true) ∧ Below w.heap.size w w' := by
  have hm : WordsIs w 0 modeWs := words_of_head (P := Tryd.prog) (zs := [[105, 110, 104], [115, 121, 110], [99, 111, 108]]) (t := 41) (e := 9) (n := 3) (by kernel_rfl) (by kernel_rfl) Tryd.underlying41 Tryd.underlying9 (by kernel_rfl) (by kernel_rfl) hL.tail
  have ht : WordsIs w 1 typeWs := words_of_head (P := Tryd.prog) (zs := [[110, 117, 109], [115, 101, 116], [98, 111, 111, 108], [110, 111, 100, 101]]) (t := 42) (e := 9) (n := 4) (by kernel_rfl) (by kernel_rfl) Tryd.underlying42 Tryd.underlying9 (by kernel_rfl) (by kernel_rfl) hL.tail.tail
  exact walk0 w A n c zs l m hr hz hsh hm ht

/-- The settled world, the listed variables laid: one start that fits. -/
noncomputable def low : Nat := (World.holding Tryd.prog default ⟨#[], #[], []⟩).heap.size
noncomputable def laidWorld (os : Os) : World :=
  { World.holding Tryd.prog os ⟨#[], #[], []⟩ with heap := (((((World.holding Tryd.prog os ⟨#[], #[], []⟩).heap.modify ((Tryd.prog.globalNamed "unicode/utf8.acceptRanges").getD 0) (putG (dcells Rows.laid_unicode_utf8_acceptRanges))).modify ((Tryd.prog.globalNamed "loop.example/g00512/impl.modeWords").getD 0) (putG (dcells Rows.laid_loop_example_g00512_impl_modeWords))).modify ((Tryd.prog.globalNamed "loop.example/g00512/impl.typeWords").getD 0) (putG (dcells Rows.laid_loop_example_g00512_impl_typeWords))).modify ((Tryd.prog.globalNamed "unicode/utf8.first").getD 0) (putG (dcells Rows.laid_unicode_utf8_first))) }
set_option maxRecDepth 100000 in
theorem laid_met (os : Os) (args : Array Value) : laidMet Tryd.prog Rows.fnSymbolsRow.laid ((laidWorld os).forCall (fun _ _ => 0) ⟨#[], args, []⟩).memory :=
  laidMet_of_run' 8 (by kernel_rfl) (by kernel_rfl)
set_option maxRecDepth 100000 in
theorem lifted (os : Os) (started : os.Started) (H : Type) (enc : TypeId × Value → H) :
    ReturnsInHanded {} Tryd.checked os 3 .any (fun w args => (Rows.fnSymbolsSpec.pre enc Tryd.prog Tryd.f3 Rows.fnSymbolsRow.domain false w args ∧ laidMet Tryd.prog Rows.fnSymbolsRow.laid w) ∧ sizedMet enc Tryd.prog Tryd.f3 (OpenSpec.ofChange Rows.fnSymbolsSpec) false w args) (Rows.fnSymbolsSpec.post enc Tryd.prog Tryd.f3 false true false false) := by
  refine returns_laid (C := Tryd.checked) (X := fun w _ => laidMet Tryd.prog Rows.fnSymbolsRow.laid w) (fun _ _ _ hh h => h.of_heap hh) own started (by kernel_rfl) Tryd.func3
    (ChangeSpec.witness_at (enc := enc) (C := Tryd.checked) (os := os) (X := fun w _ => laidMet Tryd.prog Rows.fnSymbolsRow.laid w) false (laidWorld os) #[.slice none 0 0] 12 rfl (by kernel_rfl) (by kernel_rfl) (by kernel_rfl) (by kernel_rfl) (by kernel_rfl) (laid_met os _)) ?_
  intro W base args ds gs before hval0 hW hL hsh
  have hval : ∀ (j : Nat) t v, Tryd.f3.params[j]? = some t → args[j]? = some v → Value.okWide Tryd.prog W .any base t v := hval0
  have hW' := hW
  obtain ⟨p, q, hA0, hV, rfl, hfz, hnd⟩ := hW
  have hA : DataW.TrodAll enc Tryd.prog W 0 (fun _ => true) true Tryd.f3.params.toList args.toList ds p := hA0
  rw [Tryd.params3] at hA hval
  obtain ⟨v0, vs0, d0, ds0, p0, q0, hargs, rfl, rfl, h0, r0x⟩ := trodAll_cons hA
  obtain ⟨rfl, rfl, rfl⟩ := trodAll_nil r0x
  obtain rfl : args = #[v0] := by cases args; simp_all
  obtain ⟨gv0, gv1, rfl⟩ : ∃ gv0 gv1, gs = [gv0, gv1] := by have h9 := vars_len hV; match gs, h9 with | [gv0, gv1], _ => exact ⟨gv0, gv1, rfl⟩
  obtain ⟨A0, n0, c0, z0, rfl, l0, m0, r0, w0⟩ := open_intsR Tryd.underlying22 Tryd.underlying5 (by kernel_rfl) (hval 0 22 v0 rfl rfl) h0
  clear hA0 hval0
  refine (walk W A0 n0 c0 z0 l0 m0 r0 w0 hL hsh).mono fun e W' ⟨he, hb⟩ => ?_
  exact ⟨_, he, law_postV hW' hb (by kernel_rfl) (by kernel_rfl) (by kernel_rfl) Tryd.underlying4 (by kernel_rfl) rfl⟩

set_option maxHeartbeats 4000000 in
theorem over : Rows.fnSymbolsRow.holds Tryd.pinned (OpenSpec.ofChange Rows.fnSymbolsSpec) :=
  OpenClaim.holds_of_wide 3 Tryd.f3 rfl rfl rfl rfl rfl rfl rfl ⟨rfl, rfl, rfl, rfl, rfl⟩ rfl rfl rfl rfl rfl (by as_aux_lemma => kernel_rfl) Tryd.func3 (by as_aux_lemma => kernel_rfl)
    (of_decide_eq_true (by as_aux_lemma => kernel_rfl)) (by unfold Func.isWrapper; first | (rw [if_pos (by as_aux_lemma => decide +kernel)]; as_aux_lemma => kernel_rfl) | (rw [if_neg (by as_aux_lemma => decide +kernel)]; exact ⟨rfl, rfl⟩))
    (fun os started H enc _ => lifted os started H enc)

/-- The statement: the tied card. -/
theorem proved : Rows.FnSymbolsCardSaid :=
  Claim7.holds_tied_plain_at .later [] [.data, .widerDeep, .widerDeep, .pinned] true (true, "c3d15bfcbc7599679337cb06889e526c9971ca58287e17e7c68b686d80547a7c") false
    over (fun _ h => by cases h) (by kernel_rfl) (fun _ h => by cases h) fnSymbols_row_tie rfl ⟨rfl, rfl⟩ (by kernel_rfl) rfl
    (fun f fn hf hfn => by
      obtain rfl : f = 3 := Option.some.inj ((show Tryd.prog.funcNamed "loop.example/g00512/laws.FnSymbols" = some 3 by kernel_rfl).symm.trans hf) |>.symm
      obtain rfl : fn = Tryd.f3 := (Option.some.inj (Tryd.func3.symm.trans hfn)).symm
      exact ⟨by kernel_rfl, fun j t ht => by
        rw [Tryd.params3] at ht
        rcases j with _ | j
        · obtain rfl := Option.some.inj ht
          kernel_rfl
        · simp at ht⟩)
    (by kernel_rfl)
#print axioms proved
end Go.Proofs.YtilndebjnibgjaaDoor.fnSymbols
