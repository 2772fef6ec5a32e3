/- Symbols read from a line: the reference's walk. Conditions: the line has at most 2^20 bytes. -/
import Derived.Test.YtilndebjnibgjaaDoorSymPs
import Derived.Deep.RegionLaw
namespace Go.Proofs.YtilndebjnibgjaaDoor
set_option maxRecDepth 100000
open Go.RowKit Go.WideShapes Go.Lib
set_option linter.unusedVariables false

set_option maxRecDepth 100000 in
set_option maxHeartbeats 4000000 in
theorem s_ParseSymbol (D : Nat) (s : ByteArray) (hs : s.size ≤ 1048576) (w : World) :
    Calls Tryd.prog 13 #[.string s] w fun en w' => ∃ us F', en = .returned (.tuple #[.agg (List.toArray us), .bool (parseY s).2]) ∧ SymR D w' (parseY s).1 us F' ∧ Fresh w.heap.size w' F' ∧ Below w.heap.size w w' := by
  have Hi : Hid ((Tryd.prog.info? 26).map (·.size) = some 2) := hide (by kernel_rfl)
  have hsl : s.data.toList.length = s.size := by rw [Array.length_toList]; rfl
  have Hsl := hide hsl
  clear hsl
  go_enter Tryd.func13, Tryd.ntmps13
  go_wp2_with fail
  have hB0 : Below w.heap.size w (w.alloc (.cells #[.string ⟨#[]⟩, .slice none 0 0] 26)) := (Below.refl _ _).alloc (Nat.le_refl _) _
  refine Calls.mono (s_SplitByte D s 32 hs _) ?_
  rintro en w2 ⟨v2, G2, rfl, hsp, hf, hb⟩
  have zb0 : w2.heap[w.heap.size]? = some (.cells #[.string ⟨#[]⟩, .slice none 0 0] 26 (0, 0)) := blk_below (heap_alloc_new w _) hb (by rw [World.size_alloc]; omega)
  have hB2 : Below w.heap.size w w2 := hB0.trans (hb.mono (by rw [World.size_alloc]; omega))
  obtain ⟨A, cap, rfl, hlc, hm⟩ := hsp.form
  have hln : (splitS s 32).length = (wordsS s).length := by unfold splitS wordsS; simp
  have hwl : (wordsS s).length ≤ s.size + 1 := by have := splitL_len 32 s.data.toList; rw [Hsl.out] at this; exact this
  have Hzb0 := hide zb0
  have HB2 := hide hB2
  clear hf hb hB0 hlc hm zb0 hB2
  by_cases h2 : 2 ≤ (wordsS s).length
  case neg =>
    have Hp := hide (parseY_few h2)
    have hl2 : ((splitS s 32).length : Int) < 2 := by rw [hln]; omega
    clear hsp hln h2 hwl
    generalize (splitS s 32).length = n at hl2 ⊢
    go_wp2_with (refine wpList_store_at 26 (.tmp 2) (.tmp 12) (cs := [.string ⟨#[]⟩, .slice none 0 0]) rfl Hi.out rfl rfl rfl rfl (by simp [Value.oneCell']) Hzb0.out (by decide) ?_; intro WF hP; have HP := hide hP; clear hP)
    obtain ⟨x0, x1⟩ := HP.out.cellsAt.two0
    exact bodyPost_ret (v := .tuple #[.agg #[.string ⟨#[]⟩, .slice none 0 0], .bool false]) (by simp [results, Tryd.results13, go_sem, x0, x1]) rfl ⟨[.string ⟨#[]⟩, .slice none 0 0], [], by rw [Hp.out], by rw [Hp.out]; exact zeroY_R D WF, Fresh.nil _ _, HB2.out.trans (HP.out.below (Nat.le_refl _))⟩
  case pos =>
    obtain ⟨b, off, rfl, hbz, hcw⟩ := hsp.strs.1.2 (by rw [hln]; omega)
    have Hcw : Hid (∀ j p, (wordsS s)[j]? = some p → w2.cell? ⟨b, off + j, none⟩ = some (.string (toB p))) := hide fun j p hp => hcw j _ (by
      unfold splitS
      unfold wordsS at hp
      rw [List.getElem?_map, List.getElem?_map, hp]
      rfl)
    have hl2 : ¬ ((wordsS s).length : Int) < 2 := by omega
    have hw1 : (wordsS s)[1]? = some ((wordsS s).getD 1 []) := by rw [List.getD_eq_getElem?_getD, List.getElem?_eq_getElem (by omega)]; rfl
    have k1 := Hcw.out 1 _ hw1
    have Hnm : Hid ((symS s).name = toB ((wordsS s).getD 1 [])) := hide rfl
    have Hn1 : Hid ((toB ((wordsS s).getD 1 [])).size ≤ maxLen) := hide (by
      have h1 : (toB ((wordsS s).getD 1 [])).size = ((wordsS s).getD 1 []).length := by simp [toB, ByteArray.size]
      have h3 := splitL_mem 32 s.data.toList ((wordsS s).getD 1 []) (List.mem_of_getElem? hw1)
      rw [Hsl.out] at h3
      unfold maxLen
      omega)
    have Hw2 := hide h2
    have Hats : Hid ((symS s).attrs = ((wordsS s).drop 2).map attS) := hide rfl
    have Hwm : Hid (∀ p ∈ wordsS s, p.length ≤ 1048576) := hide fun p hp => by
      have h3 := splitL_mem 32 s.data.toList p hp
      rw [Hsl.out] at h3
      omega
    rw [hln]
    clear hln hcw hsp hw1
    generalize toB ((wordsS s).getD 1 []) = nm at k1 Hnm Hn1 ⊢
    obtain ⟨L, hL⟩ : ∃ L, L = (wordsS s).length := ⟨_, rfl⟩
    have HL := hide hL
    rw [← hL] at hl2 hwl ⊢
    clear hL h2
    go_wp2_with fail
    have zb5 := heap_alloc_new w2 (.cells #[.string nm, .slice none 0 0] 26)
    have hz5 := World.size_alloc w2 (Obj.cells #[.string nm, .slice none 0 0] 26)
    have hV : Below w2.heap.size w2 (w2.alloc (.cells #[.string nm, .slice none 0 0] 26)) := (Below.refl _ _).alloc (Nat.le_refl _) _
    generalize w2.alloc (.cells #[.string nm, .slice none 0 0] 26) = V at zb5 hz5 hV ⊢
    have Hzb5 := hide zb5
    have HV := hide hV
    have hVsz : w2.heap.size + 1 ≤ V.heap.size := by omega
    clear zb5 hz5 hV k1
    go_loopw [6] (fun i wr => ∃ (j : Nat) (v : Value) (F' : List Nat), 2 ≤ j ∧ j ≤ L ∧ i = .int .i64 j ∧ Hid (wr.heap[w2.heap.size]? = some (.cells #[.string nm, v] 26 (0, 0))) ∧ Hid (OwnS 4 (AtrR D) (w2.heap.size + 1) 33 wr (((wordsS s).take j).drop 2 |>.map attS) v F') ∧ Hid (Below w2.heap.size V wr) ∧ V.heap.size ≤ wr.heap.size) (fun i _ => L - (RowKit.intOf i).toNat)
    case atStart => exact ⟨2, .slice none 0 0, [], by omega, by omega, rfl, Hzb5, hide (by rw [show ((wordsS s).take 2).drop 2 = [] from List.drop_eq_nil_of_le (List.length_take_le _ _)]; exact OwnS.nil V), hide (Below.refl _ _), Nat.le_refl _⟩
    case round =>
      obtain ⟨j, v, F', hj2, hjL, rfl, Hbx, Ho, Hb, hzr⟩ := hrel
      obtain ⟨wo, hwo⟩ : ∃ W, W = wr := ⟨_, rfl⟩
      subst hwo
      have hBr := Hb.out
      obtain ⟨A, cap, rfl, hlc, hm⟩ := Ho.out.form
      clear hlc hm
      have hwlt : w2.heap.size < wo.heap.size := by omega
      by_cases hlt : j < L
      · have hp : (wordsS s)[j]? = some (wordsS s)[j] := List.getElem?_eq_getElem (by rw [← HL.out]; exact hlt)
        generalize (wordsS s)[j] = p at hp
        have hpz := Hwm.out p (List.mem_of_getElem? hp)
        have Hnx : Hid ((((wordsS s).take (j + 1)).drop 2).map attS = (((wordsS s).take j).drop 2).map attS ++ [attS p]) := hide (by
          rw [take_snoc hp, List.drop_append_of_le_length (by rw [List.length_take, ← HL.out]; omega), List.map_append]
          rfl)
        have Hok := hide (attS_ok hpz)
        have hlen : ((((wordsS s).take j).drop 2).map attS).length = j - 2 := by rw [List.length_map, List.length_drop, List.length_take, ← HL.out]; omega
        have Hlen := hide hlen
        have Hcall : Hid (∀ W : World, Calls Tryd.prog 31 #[.string (toB p)] W fun en w' => en = .returned (.agg #[.string (attS p).name, .int .i64 (attS p).type, .int .i64 (attS p).mode, .bool (attS p).circ]) ∧ Below W.heap.size W w') := hide fun W => by
          have h := s_l8Attribute (toB p) (by show p.toArray.size ≤ _; rw [List.size_toArray]; exact hpz) W
          rw [toB_data'] at h
          exact h
        have kj : ∀ W : World, Below w2.heap.size V W → W.cell? ⟨b, off + j, none⟩ = some (.string (toB p)) := fun W h => (h.cell (p := ⟨b, off + j, none⟩) hbz).trans ((HV.out.cell (p := ⟨b, off + j, none⟩) hbz).trans (Hcw.out j p hp))
        have kb : ∀ W : World, Below wo.heap.size wo W → W.cell? ⟨w2.heap.size, 1, none⟩ = some (.slice A ((((wordsS s).take j).drop 2).map attS).length cap) := fun W h => (h.cell (p := ⟨w2.heap.size, 1, none⟩) (by show w2.heap.size < _; omega)).trans (cell_at (i := 1) Hbx.out (by simp))
        have hOO : Below wo.heap.size wo wo := Below.refl _ _
        have hBa : ∀ (W : World) (o : Obj), Below wo.heap.size wo W → Below wo.heap.size wo (W.alloc o) := fun W o h => h.alloc h.size o
        have HBr : Hid (∀ W : World, Below wo.heap.size wo W → Below w2.heap.size V W) := hide fun W h => hBr.trans (h.mono (by omega))
        have hown2 := Ho.out.blk
        have Hne : Hid (∀ k, (Value.slice A ((((wordsS s).take j).drop 2).map attS).length cap).ownBlock = some k → w2.heap.size + 1 ≤ k) := hide fun k hk => (hown2 k hk).1
        generalize hx : attS p = x at Hnx Hok Hcall
        generalize ((((wordsS s).take j).drop 2).map attS) = xs at *
        clear hp hpz hx hown2 hlen
        have hj0 : (0 : Int) ≤ (j : Int) := by omega
        have hj1 : (j : Int) < (L : Int) := by omega
        have hxl : xs.length ≤ 1048576 := by have := Hlen.out; omega
        go_wp2_with fail
        go_region_law (first
          | (refine step_ownS rfl (.tmp 24) (.tmp 30) 24 33 rfl Tryd.underlying24 infoAtr2 rfl (by decide) (AtrR.good D) wo w3 _ (w2.heap.size + 1) _ xs F' Ho.out rfl hR3 x [.string x.name, .int .i64 x.type, .int .i64 x.mode, .bool x.circ] [] ⟨rfl, Hok.out, rfl, rfl, rfl, rfl, rfl⟩ (Fresh.nil _ _) (by simp [Value.oneCell']) rfl (by (repeat (first | assumption | exact Below.refl _ _ | apply Below.drew))) (by omega) (by omega) hwlt ?_
             intro v4 w4 hown4 hbl4 hfar4 hsz4 _
             obtain ⟨A4, cap4, hv4, _, _⟩ := hown4.form
             rw [show (xs ++ [x]).length = xs.length + 1 from by simp] at hv4
             subst hv4
             have hS4 : Below w2.heap.size V w4 := hBr.trans ((hbl4.mono (Nat.le_succ _)))
             have zb4 : w4.heap[w2.heap.size]? = some (.cells #[.string nm, .slice A xs.length cap] 26 (0, 0)) := (hbl4.block w2.heap.size (Nat.lt_succ_self _)).trans Hbx.out
             have q4 : w4.cell? ⟨w2.heap.size, 1, none⟩ = some (.slice A xs.length cap) := cell_at (i := 1) zb4 (by simp)
             have y4 := frozen_of_row w4 _ 1 _ _ zb4
             have Hown4 := hide hown4
             clear hown4 hfar4 hbl4)
          | (go_simp; go_at_call 31; refine Calls.mono (Hcall.out _) ?_; rintro en w3 ⟨rfl, hb⟩; have hR3 : Below wo.heap.size wo w3 := below_step (by (repeat (first | assumption | apply Below.drew | refine below_alloc (Nat.le_refl _) _ ?_))) (Nat.le_refl _) hb; clear hb))
        all_goals
          have hown5 : OwnS 4 (AtrR D) (w2.heap.size + 1) 33 (w4.setCell ⟨w2.heap.size, 1, none⟩ (.slice A4 (xs.length + 1) cap4)) (xs ++ [x]) (.slice A4 (xs.length + 1) cap4) (F' ++ []) := OwnS.same (AtrR.good D) Hown4.out (fun k hk _ => heap_setCell_other _ _ _ _ (by simp; omega)) (by simp)
          have zb5 := heap_setCell_same w4 w2.heap.size 1 _ _ (.slice A4 (xs.length + 1) cap4) zb4
          have hB5 : Below w2.heap.size V (w4.setCell ⟨w2.heap.size, 1, none⟩ (.slice A4 (xs.length + 1) cap4)) := Below.setCell (p := ⟨w2.heap.size, 1, none⟩) hS4 (Nat.le_refl _) _
          have hz5 : V.heap.size ≤ (w4.setCell ⟨w2.heap.size, 1, none⟩ (.slice A4 (xs.length + 1) cap4)).heap.size := hB5.size
          have Hown5 := hide hown5
          have Hzb5 := hide zb5
          have HB5 := hide hB5
          clear hown5 zb5 hB5 q4 y4 zb4 hS4 kb kj hOO hBa
          go_wp2_with fail
          go_roundw
          case rel => exact ⟨j + 1, _, _, by omega, by omega, by go_num, hide (by exact Hzb5.out), hide (by rw [Hnx.out]; exact Hown5.out.same (AtrR.good D) (fun _ _ _ => rfl) (Nat.le_refl _)), hide (HB5.out.trans (by (repeat (first | exact Below.refl _ _ | apply Below.drew)))), by exact hz5⟩
          case measure => simp [RowKit.intOf]; omega
      · have hjl : j = L := by omega
        subst hjl
        have hxs : (((wordsS s).take j).drop 2).map attS = (symS s).attrs := by rw [Hats.out, HL.out, List.take_length]
        rw [hxs] at Ho Hbx
        obtain ⟨G, h1, h2⟩ := Ho.out.slr (AtrR.good D)
        have hX : SymR D wo (symS s) [.string nm, .slice A (symS s).attrs.length cap] G := ⟨_, G, rfl, ⟨by rw [Hnm.out]; exact Hn1.out⟩, by rw [Hnm.out]; rfl, ⟨rfl, h1⟩, rfl⟩
        have hXn : (symS s).attrs.length ≤ 1048576 := by rw [Hats.out, List.length_map, List.length_drop, ← HL.out]; omega
        have hcS : CellsAt wo w2.heap.size 0 [.string nm, .slice A (symS s).attrs.length cap] := fun i u hu => by
          rw [cell_of_row _ _ _ _ _ _ Hbx.out, Nat.zero_add]
          simpa using hu
        have HcS := hide hcS
        have HX := hide hX
        have Hf := hide h2
        have Hlt := hide ((SymR.good D).lt hX)
        have hnlt : w.heap.size < w2.heap.size := blk_lt Hzb0.out
        clear h1 h2 hX hcS hxs
        have Hp : Hid ((fmtSym (symS s) = s → parseY s = (symS s, true)) ∧ (fmtSym (symS s) ≠ s → parseY s = (zeroY, false))) := hide ⟨parseY_yes Hw2.out, parseY_not⟩
        go_wp2_with (refine wpList_load_at 26 (.tmp 5) rfl Tryd.underlying26 rfl Hi.out rfl rfl (by rfl) HcS.out ?_)
        refine Calls.mono (s_FormatSymbol D (symS s) _ G wo HX.out hXn) ?_
        rintro en w6 ⟨rfl, hb⟩
        have z5 : w6.heap[w2.heap.size]? = some (.cells #[.string nm, .slice A (symS s).attrs.length cap] 26 (0, 0)) := (hb.block _ hwlt).trans Hbx.out
        have z0 : w6.heap[w.heap.size]? = some (.cells #[.string ⟨#[]⟩, .slice none 0 0] 26 (0, 0)) := (hb.block _ (by omega)).trans ((hBr.block _ hnlt).trans ((HV.out.block _ hnlt).trans Hzb0.out))
        have hB6 : Below w.heap.size w w6 := HB2.out.trans (((HV.out.mono (by omega)).trans (hBr.mono (by omega))).trans (hb.mono (by omega)))
        have hX6 := (SymR.good D).below HX.out hb Hlt.out
        have hf6 : Fresh (w2.heap.size + 1) w6 G := Hf.out.below hb
        have hc6 : CellsAt w6 w2.heap.size 0 [.string nm, .slice A (symS s).attrs.length cap] := fun i u hu => by
          rw [cell_of_row _ _ _ _ _ _ z5, Nat.zero_add]
          simpa using hu
        have Hc6 := hide hc6
        have Hz0 := hide z0
        have HB6 := hide hB6
        have HX6 := hide hX6
        have Hf6 := hide hf6
        clear z5 z0 hB6 hX6 hf6 hc6 hb
        by_cases he : fmtSym (symS s) = s
        · have Hq := hide (Hp.out.1 he)
          rw [he]
          clear he
          go_wp2_with (first
            | refine wpList_load_at 26 (.tmp 5) rfl Tryd.underlying26 rfl Hi.out rfl rfl (by rfl) Hc6.out ?_
            | (refine wpList_store_at 26 (.tmp 2) (.tmp 38) (cs := [.string nm, .slice A (symS s).attrs.length cap]) rfl Hi.out rfl rfl rfl rfl (by simp [Value.oneCell']) Hz0.out (by decide) ?_; intro WF hP; have HP := hide hP; clear hP))
          obtain ⟨x0, x1⟩ := HP.out.cellsAt.two0
          have hfar : ∀ k ∈ G, WF.heap[k]? = w6.heap[k]? := fun k hk => HP.out.far k (by have := Hf6.out.from_ k hk; omega)
          exact bodyPost_ret (v := .tuple #[.agg #[.string nm, .slice A (symS s).attrs.length cap], .bool true]) (by simp [results, Tryd.results13, go_sem, x0, x1]) rfl ⟨[.string nm, .slice A (symS s).attrs.length cap], G, by rw [Hq.out], by rw [Hq.out]; exact (SymR.good D).frame HX6.out hfar (by rw [HP.out.size]; exact Nat.le_refl _), (Hf6.out.keep hfar).mono (by omega), HB6.out.trans (HP.out.below (Nat.le_refl _))⟩
        · have Hq := hide (Hp.out.2 he)
          have hne : ((fmtSym (symS s)).toList == s.toList) = false := (bytes_beq_false_iff _ _).2 he
          clear he
          generalize fmtSym (symS s) = T at hne ⊢
          go_wp2_with (refine wpList_store_at 26 (.tmp 2) (.tmp 37) (cs := [.string ⟨#[]⟩, .slice none 0 0]) rfl Hi.out rfl rfl rfl rfl (by simp [Value.oneCell']) Hz0.out (by decide) ?_; intro WF hP; have HP := hide hP; clear hP)
          obtain ⟨x0, x1⟩ := HP.out.cellsAt.two0
          exact bodyPost_ret (v := .tuple #[.agg #[.string ⟨#[]⟩, .slice none 0 0], .bool false]) (by simp [results, Tryd.results13, go_sem, x0, x1]) rfl ⟨[.string ⟨#[]⟩, .slice none 0 0], [], by rw [Hq.out], by rw [Hq.out]; exact zeroY_R D WF, Fresh.nil _ _, HB6.out.trans (HP.out.below (Nat.le_refl _))⟩
end Go.Proofs.YtilndebjnibgjaaDoor
