/- Several texts of one proof in one file: The first symbol or rule that is not valid or has an earlier name: the program. All expressions of a rule: the program. AttributeUses, the program's side. Conditions: each theorem names its own. -/
import Derived.Test.YthlhhnnlbpecnaaGreatGcsar
import Derived.Test.YthlhhnnlbpecnaaGreatGcsaw
import Derived.Test.YthlhhnnlbpecnaaGreatGcsbg
import Derived.Test.YthlhhnnlbpecnaaGreatGcsaq
import Derived.Test.YthlhhnnlbpecnaaGreatGcsaz
import Derived.Test.YthlhhnnlbpecnaaGreatGcsak
import Derived.Test.YthlhhnnlbpecnaaGreatGcsbc
import Derived.Test.YthlhhnnlbpecnaaGreatGcsbb

/- The first symbol or rule that is not valid or has an earlier name: the program. Conditions: the grammar has at most the size 2^20. -/
namespace Go.Proofs.YthlhhnnlbpecnaaGreat
set_option linter.unusedSimpArgs false
set_option linter.unusedVariables false
set_option maxRecDepth 100000
open Go.RowKit Go.WideShapes
set_option linter.unusedVariables false

set_option maxRecDepth 100000 in
set_option maxHeartbeats 4000000 in
theorem i_shapeFault (D : Nat) (g : Grm) (cg : List Value) (Fg : List Nat) (w : World) (hg : GrmR D w g cg Fg) (hbg : bulkGrm D g ≤ 1048576) :
    Calls Tryz.prog 17 #[.agg cg.toArray] w fun en w' => en = .returned (.int .i64 (badG D g)) ∧ Below w.heap.size w w' := by
  have hls := bulk_nsyms hbg
  have hlr := bulk_nrules hbg
  obtain ⟨gc0, gc1, rfl⟩ := list2 ((GrmR.good D).len hg)
  have LG := hide ((GrmR.good D).lt hg)
  obtain ⟨A0, k0, A1, k1, F0, F1, rfl, rfl, hs0, hs1, hk0, hk1⟩ := grm_open hg
  have Hg : Hid (∀ W : World, Below w.heap.size w W → GrmR D W g [.slice A0 g.symbols.length k0, .slice A1 g.rules.length k1] Fg) := hide fun W hW => (GrmR.good D).below hg hW LG.out
  have L0 := hide (hs0.lt (SymR.good D))
  have L1 := hide (hs1.lt (RulR.good D))
  have Hs0 : Hid (∀ W : World, Below w.heap.size w W → SlR 2 (SymR D) W g.symbols (.slice A0 g.symbols.length k0) F0) := hide fun W hW => hs0.below (SymR.good D) hW L0.out
  have Hs1 : Hid (∀ W : World, Below w.heap.size w W → SlR 6 (RulR D) W g.rules (.slice A1 g.rules.length k1) F1) := hide fun W hW => hs1.below (RulR.good D) hW L1.out
  have Hig : Hid ((Tryz.prog.info? 32).map (·.size) = some 2) := hide (by kernel_rfl)
  have Hir : Hid ((Tryz.prog.info? 50).map (·.size) = some 6) := hide (by kernel_rfl)
  have His : Hid ((Tryz.prog.info? 42).map (·.size) = some 2) := hide (by kernel_rfl)
  have Hbs := hide (bulk_syms hbg)
  have Hbr := hide (bulk_rules hbg)
  have Hbg := hide hbg
  have hk0i : (g.symbols.length : Int) ≤ (k0 : Int) := by omega
  have hk1i : (g.rules.length : Int) ≤ (k1 : Int) := by omega
  obtain ⟨CG, hz0, hw0⟩ := boxes1 w [.slice A0 g.symbols.length k0, .slice A1 g.rules.length k1] 32
  show Calls _ _ #[.agg #[.slice A0 g.symbols.length k0, .slice A1 g.rules.length k1]] w _
  clear hg hs0 hs1 hbg
  go_enter Tryz.func17, Tryz.ntmps17
  go_wp2_with fail
  generalize w.alloc (Obj.cells #[.slice A0 g.symbols.length k0, .slice A1 g.rules.length k1] 32) = W0 at CG hz0 hw0 ⊢
  have hn0 : w.heap.size + 1 ≤ W0.heap.size := by omega
  have Hw : Hid (∀ W : World, Below (w.heap.size + 1) W0 W → Below w.heap.size w W) := hide fun W h => hw0.trans (h.mono (by omega))
  have HcG : Hid (∀ W : World, Below (w.heap.size + 1) W0 W → CellsAt W w.heap.size 0 [.slice A0 g.symbols.length k0, .slice A1 g.rules.length k1]) := hide fun W h => CG.below h (by omega)
  have hB0 : Below (w.heap.size + 1) W0 W0 := Below.refl _ _
  have a0 := cell_rule CG (n := w.heap.size + 1) (by omega) 0 rfl
  have a1 := cell_rule CG (n := w.heap.size + 1) (by omega) 1 rfl
  have hBa0 : ∀ (W : World) (o : Obj), Below (w.heap.size + 1) W0 W → Below (w.heap.size + 1) W0 (W.alloc o) := fun W o h => below_alloc hn0 o h
  have Hz0 := hide hz0
  clear CG hz0 hw0
  go_wp2_with fail
  go_loopw [10] (fun i wr => ∃ j : Nat, j ≤ g.symbols.length ∧ i = .int .i64 j ∧ Hid (∀ (m : Nat) (y : Sym), m < j → g.symbols[m]? = some y → isBad validY (fun s => s.name.toList) g.symbols m y = false) ∧ Hid (Below (w.heap.size + 1) W0 wr)) (fun i _ => g.symbols.length - (intOf i).toNat)
  case atStart => exact ⟨0, by omega, rfl, hide (fun m y hm => absurd hm (by omega)), hide hB0⟩
  case round =>
    obtain ⟨j, hj, rfl, Hno, Hb⟩ := hrel
    have hBr := Hb.out
    have hbase : w.heap.size + 1 ≤ wr.heap.size := Nat.le_trans hn0 hBr.size
    by_cases hlt : j < g.symbols.length
    · have hX : g.symbols[j]? = some g.symbols[j] := List.getElem?_eq_getElem hlt
      generalize g.symbols[j] = X at hX
      obtain ⟨b, off, cs, Fk, hA, _, hbF, hFk, hcl, hcat, hR⟩ := SlR.get (SymR.good D) (Hs0.out wr (Hw.out wr hBr)) hX
      subst hA
      have H1 := hide (SymR.one hR)
      obtain ⟨c0, c1, rfl⟩ := list2 hcl
      obtain rfl : c0 = .string X.name := Option.some.inj (by simpa using SymR.name hR)
      have HX := hide hX
      have HR := hide hR
      have HbX := hide (Hbs.out X (List.mem_of_getElem? hX))
      have hlb : b < wr.heap.size := Nat.lt_of_lt_of_le (L0.out b hbF) (Hw.out wr hBr).size
      have HFk : Hid (∀ m ∈ Fk, m < wr.heap.size) := hide ((SymR.good D).lt hR)
      have Hc := hide hcat
      have Hn : Hid (([.string X.name, c1] : List Value).length = 2) := hide rfl
      have hj0 : (0 : Int) ≤ (j : Int) := by omega
      have hj1 : (j : Int) < (g.symbols.length : Int) := by omega
      have hj2 : (j : Int) ≤ (k0 : Int) := by omega
      clear hX hFk hbF hcl hcat hR
      go_wp2_with (first
        | refine wpList_load_at 42 (.tmp 13) rfl Tryz.underlying42 rfl His.out rfl rfl Hn.out Hc.out ?_
        | (refine wpList_store_new 42 (.tmp 4) (.tmp 14) rfl His.out rfl rfl rfl rfl Hn.out H1.out rfl ?_; refine hold ?_))
      have C := CellsAt.new wr [.string X.name, c1] 42
      have hz := World.size_alloc wr (Obj.cells #[.string X.name, c1] 42)
      have hrv : Below wr.heap.size wr (wr.alloc (Obj.cells #[.string X.name, c1] 42)) := (Below.refl _ _).alloc (Nat.le_refl _) _
      generalize wr.alloc (Obj.cells #[.string X.name, c1] 42) = V1 at C hz hrv ⊢
      have HRV := hide ((SymR.good D).below HR.out hrv HFk.out)
      have hwv : Below (w.heap.size + 1) W0 V1 := below_step hBr hn0 hrv
      have HC0 := hide C
      have f0 := cell_rule C (n := wr.heap.size + 1) (by omega) 0 rfl
      have hVV : Below (wr.heap.size + 1) V1 V1 := Below.refl _ _
      have hzV : wr.heap.size + 1 ≤ V1.heap.size := by omega
      clear C hz hrv
      refine Hold.go ?_
      go_wp2_with (refine wpList_load_at 42 (.tmp 4) rfl Tryz.underlying42 rfl His.out rfl rfl Hn.out HC0.out ?_)
      refine Calls.mono (i_IsValidSymbol D X _ Fk V1 HRV.out (bulk_attrs HbX.out)) ?_
      rintro en w2 ⟨rfl, hb2⟩
      have hw2 : Below (w.heap.size + 1) W0 w2 := below_step hwv hn0 hb2
      have Hv2 : Hid (∀ W : World, Below w2.heap.size w2 W → Below (wr.heap.size + 1) V1 W) := hide fun W h => below_step (hb2.mono hzV) hzV h
      clear hb2
      cases hq : validY X
      · have Hyes := hide (badG_s (D := D) (badAt_hit Hno.out HX.out (by unfold isBad; rw [hq]; rfl)))
        clear hq
        go_wp2_with fail
        go_ret
        exact ⟨ret_int Hyes.out.symm, Hw.out _ hw2⟩
      · have HCon : Hid (Calls Tryz.prog 38 #[.slice (some ⟨b, off, none⟩) j k0, .func (.func 39) #[] #[.pointer (some ⟨wr.heap.size, 0, none⟩)]] w2 fun en w' => en = .returned (.bool ((g.symbols.take j).any fun y => y.name.toList == X.name.toList)) ∧ Below w2.heap.size w2 w') := hide
          (con_Sym1 (SymR.good D) _ ent_shapeFault_1 _ (fun y => y.name.toList == X.name.toList) g.symbols (some ⟨b, off, none⟩) k0 j F0 w2 (Hs0.out w2 (Hw.out w2 hw2)) hj fun W y cs Fk _ hW hR => clo_sf1 D y cs Fk W hR _ X.name (f0 W (Hv2.out W hW)))
        have Hex : Hid (isBad validY (fun s => s.name.toList) g.symbols j X = ((g.symbols.take j).any fun y => y.name.toList == X.name.toList)) := hide (by unfold isBad; rw [hq]; rfl)
        clear hq
        generalize ((g.symbols.take j).any fun y => y.name.toList == X.name.toList) = q at HCon Hex
        cases q
        all_goals
          go_wp2_with fail
          refine Calls.mono HCon.out ?_
          rintro en w3 ⟨rfl, hb3⟩
          have HB3 := hide (below_step hw2 hn0 hb3)
          clear hb3
          go_wp2_with fail
        · have Hno2 := hide (bad_next Hno.out HX.out Hex.out)
          go_roundw
          case rel => exact ⟨j + 1, by omega, by go_num, Hno2, HB3⟩
          case measure => simp [intOf]; omega
        · have Hyes := hide (badG_s (D := D) (badAt_hit Hno.out HX.out Hex.out))
          go_ret
          exact ⟨ret_int Hyes.out.symm, Hw.out _ HB3.out⟩
    · have hjl : j = g.symbols.length := by omega
      have hj1 : ¬ (j : Int) < (g.symbols.length : Int) := by omega
      have HnoS : Hid (badS g = none) := hide (bad_all Hno.out hjl)
      obtain ⟨wo, rfl⟩ : ∃ wo, wo = wr := ⟨_, rfl⟩
      clear Hno
      go_wp2_with fail
      go_loopw [31] (fun i wr => ∃ j : Nat, j ≤ g.rules.length ∧ i = .int .i64 j ∧ Hid (∀ (m : Nat) (y : Rul), m < j → g.rules[m]? = some y → isBad (validRul D) (fun s => s.name.toList) g.rules m y = false) ∧ Hid (Below (w.heap.size + 1) W0 wr)) (fun i _ => g.rules.length - (intOf i).toNat)
      case atStart => exact ⟨0, by omega, rfl, hide (fun m y hm => absurd hm (by omega)), hide hBr⟩
      case round =>
        obtain ⟨j, hj, rfl, Hno, Hb⟩ := hrel
        have hBr := Hb.out
        have hbase : w.heap.size + 1 ≤ wr.heap.size := Nat.le_trans hn0 hBr.size
        by_cases hlt : j < g.rules.length
        · have hX : g.rules[j]? = some g.rules[j] := List.getElem?_eq_getElem hlt
          generalize g.rules[j] = X at hX
          obtain ⟨b, off, cs, Fk, hA, _, hbF, hFk, hcl, hcat, hR⟩ := SlR.get (RulR.good D) (Hs1.out wr (Hw.out wr hBr)) hX
          subst hA
          have H1 := hide (RulR.one hR)
          obtain ⟨c0, c1, c2, c3, c4, c5, rfl⟩ := list_6 hcl
          obtain rfl : c0 = .string X.name := Option.some.inj (by simpa using RulR.name hR)
          have HX := hide hX
          have HR := hide hR
          have HbX := hide (Hbr.out X (List.mem_of_getElem? hX))
          have hlb : b < wr.heap.size := Nat.lt_of_lt_of_le (L1.out b hbF) (Hw.out wr hBr).size
          have HFk : Hid (∀ m ∈ Fk, m < wr.heap.size) := hide ((RulR.good D).lt hR)
          have Hc := hide hcat
          have Hn : Hid (([.string X.name, c1, c2, c3, c4, c5] : List Value).length = 6) := hide rfl
          have hj0 : (0 : Int) ≤ (j : Int) := by omega
          have hj1 : (j : Int) < (g.rules.length : Int) := by omega
          have hj2 : (j : Int) ≤ (k1 : Int) := by omega
          clear hX hFk hbF hcl hcat hR
          go_wp2_with (first
            | refine wpList_load_at 50 (.tmp 34) rfl Tryz.underlying50 rfl Hir.out rfl rfl Hn.out Hc.out ?_
            | (refine wpList_store_new 50 (.tmp 6) (.tmp 35) rfl Hir.out rfl rfl rfl rfl Hn.out H1.out rfl ?_; refine hold ?_))
          have C := CellsAt.new wr [.string X.name, c1, c2, c3, c4, c5] 50
          have hz := World.size_alloc wr (Obj.cells #[.string X.name, c1, c2, c3, c4, c5] 50)
          have hrv : Below wr.heap.size wr (wr.alloc (Obj.cells #[.string X.name, c1, c2, c3, c4, c5] 50)) := (Below.refl _ _).alloc (Nat.le_refl _) _
          generalize wr.alloc (Obj.cells #[.string X.name, c1, c2, c3, c4, c5] 50) = V1 at C hz hrv ⊢
          have HRV := hide ((RulR.good D).below HR.out hrv HFk.out)
          have hwv : Below (w.heap.size + 1) W0 V1 := below_step hBr hn0 hrv
          have HC0 := hide C
          have f0 := cell_rule C (n := wr.heap.size + 1) (by omega) 0 rfl
          have hVV : Below (wr.heap.size + 1) V1 V1 := Below.refl _ _
          have hzV : wr.heap.size + 1 ≤ V1.heap.size := by omega
          clear C hz hrv
          refine Hold.go ?_
          go_wp2_with (refine wpList_load_at 50 (.tmp 6) rfl Tryz.underlying50 rfl Hir.out rfl rfl Hn.out HC0.out ?_)
          refine Calls.mono (i_IsValidRule D X _ Fk V1 HRV.out HbX.out) ?_
          rintro en w2 ⟨rfl, hb2⟩
          have hw2 : Below (w.heap.size + 1) W0 w2 := below_step hwv hn0 hb2
          have Hv2 : Hid (∀ W : World, Below w2.heap.size w2 W → Below (wr.heap.size + 1) V1 W) := hide fun W h => below_step (hb2.mono hzV) hzV h
          clear hb2
          cases hq : (validRul D) X
          · have Hyes := hide (badG_r HnoS.out (D := D) (badAt_hit Hno.out HX.out (by unfold isBad; rw [hq]; rfl)))
            clear hq
            go_wp2_with fail
            go_ret
            exact ⟨ret_int Hyes.out.symm, Hw.out _ hw2⟩
          · have HCon : Hid (Calls Tryz.prog 41 #[.slice (some ⟨b, off, none⟩) j k1, .func (.func 42) #[] #[.pointer (some ⟨wr.heap.size, 0, none⟩)]] w2 fun en w' => en = .returned (.bool ((g.rules.take j).any fun y => y.name.toList == X.name.toList)) ∧ Below w2.heap.size w2 w') := hide
              (con_Rul1 (RulR.good D) _ ent_shapeFault_2 _ (fun y => y.name.toList == X.name.toList) g.rules (some ⟨b, off, none⟩) k1 j F1 w2 (Hs1.out w2 (Hw.out w2 hw2)) hj fun W y cs Fk _ hW hR => clo_sf2 D y cs Fk W hR _ X.name (f0 W (Hv2.out W hW)))
            have Hex : Hid (isBad (validRul D) (fun s => s.name.toList) g.rules j X = ((g.rules.take j).any fun y => y.name.toList == X.name.toList)) := hide (by unfold isBad; rw [hq]; rfl)
            clear hq
            generalize ((g.rules.take j).any fun y => y.name.toList == X.name.toList) = q at HCon Hex
            cases q
            all_goals
              go_wp2_with fail
              refine Calls.mono HCon.out ?_
              rintro en w3 ⟨rfl, hb3⟩
              have HB3 := hide (below_step hw2 hn0 hb3)
              clear hb3
              go_wp2_with fail
            · have Hno2 := hide (bad_next Hno.out HX.out Hex.out)
              go_roundw
              case rel => exact ⟨j + 1, by omega, by go_num, Hno2, HB3⟩
              case measure => simp [intOf]; omega
            · have Hyes := hide (badG_r HnoS.out (D := D) (badAt_hit Hno.out HX.out Hex.out))
              go_ret
              exact ⟨ret_int Hyes.out.symm, Hw.out _ HB3.out⟩
        · have hjl : j = g.rules.length := by omega
          have hj1 : ¬ (j : Int) < (g.rules.length : Int) := by omega
          have Hres := hide (badG_n (D := D) HnoS.out (bad_all Hno.out hjl))
          go_wp2_with fail
          go_ret
          exact ⟨ret_int Hres.out.symm, Hw.out _ hBr⟩
end Go.Proofs.YthlhhnnlbpecnaaGreat

/- All expressions of a rule: the program. Conditions: the rule has at most the size 2^20. -/
namespace Go.Proofs.YthlhhnnlbpecnaaGreat
set_option linter.unusedSimpArgs false
set_option linter.unusedVariables false
set_option maxRecDepth 100000
open Go.RowKit Go.WideShapes
set_option linter.unusedVariables false

set_option maxRecDepth 100000 in
set_option maxHeartbeats 4000000 in
theorem i_expressions (D : Nat) (x : Rul) (cr : List Value) (Fr : List Nat) (w : World) (hr : RulR D w x cr Fr) (hbr : bulkRul D x ≤ 1048576) :
    Calls Tryz.prog 54 #[.agg cr.toArray] w fun en w' => ∃ v' G, en = .returned v' ∧ SlR 7 (ExR D) w' (exprsR x) v' G ∧ Below w.heap.size w w' := by
  have hlq := (bulk_rul hbr).2.1
  have hlc := (bulk_rul hbr).2.2
  obtain ⟨r0, r1, r2, r3, r4, r5, rfl⟩ := list_6 ((RulR.good D).len hr)
  obtain ⟨A2, k2, A4, k4, A5, k5, F4, F5, rfl, rfl, rfl, hs4, hs5, hn4, hn5⟩ := rul_open hr
  have L4 := hide (hs4.lt (EqnR.good D))
  have L5 := hide (hs5.lt (ConR.good D))
  have Hs4 := hide hs4
  have Hs5 := hide hs5
  have Hiq : Hid ((Tryz.prog.info? 88).map (·.size) = some 9) := hide (by kernel_rfl)
  have Hic : Hid ((Tryz.prog.info? 107).map (·.size) = some 16) := hide (by kernel_rfl)
  have Hix : Hid ((Tryz.prog.info? 86).map (·.size) = some 7) := hide (by kernel_rfl)
  obtain ⟨CR, hz0, hw0⟩ := boxes1 w [r0, r1, .slice A2 x.right.length k2, r3, .slice A4 x.eqs.length k4, .slice A5 x.cons.length k5] 50
  show Calls _ _ #[.agg #[r0, r1, .slice A2 x.right.length k2, r3, .slice A4 x.eqs.length k4, .slice A5 x.cons.length k5]] w _
  clear hr hs4 hs5 hbr
  go_enter Tryz.func54, Tryz.ntmps54
  go_wp2_with fail
  generalize w.alloc (Obj.cells #[r0, r1, .slice A2 x.right.length k2, r3, .slice A4 x.eqs.length k4, .slice A5 x.cons.length k5] 50) = W0 at CR hz0 hw0 ⊢
  have hn0 : w.heap.size + 1 ≤ W0.heap.size := by omega
  have Hw : Hid (∀ W : World, Below (w.heap.size + 1) W0 W → Below w.heap.size w W) := hide fun W h => hw0.trans (h.mono (by omega))
  have hB0 : Below (w.heap.size + 1) W0 (W0.alloc (.cells #[] 86)) := (Below.refl _ _).alloc hn0 _
  have b4 := cell_rule CR (n := w.heap.size + 1) (by omega) 4 rfl
  have b5 := cell_rule CR (n := w.heap.size + 1) (by omega) 5 rfl
  have Hown0 : Hid (OwnS 7 (Ex0 D w) (w.heap.size + 1) 86 (W0.alloc (.cells #[] 86)) [] (.slice (some ⟨w.heap.size + 1, 0, none⟩) 0 0) []) := hide (by have h := OwnS.made (n := 7) (R := Ex0 D w) (e := 86) W0 hn0; rw [hz0] at h; exact h)
  clear CR hz0 hw0
  go_wp2_with fail
  go_loopw [3, 12] (fun o i wr => ∃ j : Nat, j ≤ x.eqs.length ∧ i = .int .i64 j ∧ Hid (OwnS 7 (Ex0 D w) (w.heap.size + 1) 86 wr ((x.eqs.take j).map (·.expr)) o []) ∧ Hid (Below (w.heap.size + 1) W0 wr)) (fun _ i _ => x.eqs.length - (intOf i).toNat)
  case atStart => exact ⟨0, by omega, rfl, Hown0, hide hB0⟩
  case round =>
    obtain ⟨j, hj, rfl, Ho, Hb⟩ := hrel
    have hBr := Hb.out
    have hbase : w.heap.size + 1 ≤ wr.heap.size := Nat.le_trans hn0 hBr.size
    by_cases hlt : j < x.eqs.length
    · have hX : x.eqs[j]? = some x.eqs[j] := List.getElem?_eq_getElem hlt
      generalize x.eqs[j] = X at hX
      obtain ⟨b, off, cs, Fk, hA, _, hbF, hFk, hcl, hcat, hR⟩ := SlR.get (EqnR.good D) Hs4.out hX
      subst hA
      obtain ⟨c2, c3, c4, c5, c6, c7, c8, F1, rfl, hE, h9, hF1⟩ := eqn_full hR
      have H9 := hide h9
      have hlb : b < w.heap.size := L4.out b hbF
      have hblr : b < wr.heap.size := Nat.lt_of_lt_of_le hlb (Hw.out wr hBr).size
      have Hc : Hid (CellsAt wr b (off + j * 9) [.int .i64 X.at_.pos, .string X.at_.name, c2, c3, c4, c5, c6, c7, c8]) := hide (hcat.below (Hw.out wr hBr) hlb)
      have HE : Hid (Ex0 D w wr X.expr [c2, c3, c4, c5, c6, c7, c8] []) := hide ⟨rfl, F1, hE, fun k hk => L4.out k (hFk k (hF1 k hk))⟩
      have Hn : Hid ([.int .i64 X.at_.pos, .string X.at_.name, c2, c3, c4, c5, c6, c7, c8].length = 9) := hide rfl
      have Hn7 : Hid ([c2, c3, c4, c5, c6, c7, c8].length = 7) := hide rfl
      have H7 : Hid (∀ v ∈ [c2, c3, c4, c5, c6, c7, c8], v.oneCell' = true) := hide fun v hv => h9 v (by simp only [List.mem_cons] at hv ⊢; exact .inr (.inr hv))
      have hj0 : (0 : Int) ≤ (j : Int) := by omega
      have hj1 : (j : Int) < (x.eqs.length : Int) := by omega
      have Hmap : Hid ((x.eqs.take (j + 1)).map (·.expr) = (x.eqs.take j).map (·.expr) ++ [X.expr]) := hide (by rw [take_snoc hX, List.map_append]; rfl)
      have hmlen : ((x.eqs.take j).map (·.expr)).length ≤ 1048576 := by rw [List.length_map, List.length_take]; omega
      generalize (x.eqs.take j).map (·.expr) = M at Ho Hmap hmlen
      clear hX hFk hbF hcl hE h9 hF1 hcat hR
      go_wp2_with (first
        | refine wpList_load_at 88 (.tmp 14) rfl Tryz.underlying88 rfl Hiq.out rfl rfl Hn.out Hc.out ?_
        | (refine wpList_store_new 88 (.tmp 5) (.tmp 15) rfl Hiq.out rfl rfl rfl rfl Hn.out H9.out rfl ?_; refine hold ?_))
      have C := CellsAt.new wr [.int .i64 X.at_.pos, .string X.at_.name, c2, c3, c4, c5, c6, c7, c8] 88
      have hrv : Below wr.heap.size wr (wr.alloc (Obj.cells #[.int .i64 X.at_.pos, .string X.at_.name, c2, c3, c4, c5, c6, c7, c8] 88)) := (Below.refl _ _).alloc (Nat.le_refl _) _
      generalize wr.alloc (Obj.cells #[.int .i64 X.at_.pos, .string X.at_.name, c2, c3, c4, c5, c6, c7, c8] 88) = V1 at C hrv ⊢
      have hBV := below_step hBr hn0 hrv
      have HC2 : Hid (CellsAt V1 wr.heap.size 2 [c2, c3, c4, c5, c6, c7, c8]) := hide fun i v hv => by have := C (2 + i) v (by simpa [Nat.add_comm] using hv); rwa [Nat.zero_add] at this
      have Hrv := hide hrv
      clear C hrv
      refine Hold.go ?_
      go_wp2_with (first
        | refine wpList_load_at 86 (.tmp 17) rfl Tryz.underlying86 rfl Hix.out rfl rfl Hn7.out HC2.out ?_
        | (at_builtin; refine app_ownS rfl (.tmp 16) (.tmp 19) 84 86 rfl Tryz.underlying84 infoEx rfl (by decide) (Ex0.good D w) wr V1 (w.heap.size + 1) _ M [] Ho.out rfl Hrv.out X.expr [c2, c3, c4, c5, c6, c7, c8] [] HE.out (Fresh.nil _ _) H7.out rfl (by omega) (by omega) hbase ?_; intro v1 w4 hown hbl; have Hown := hide hown; have Hbl := hide hbl; clear hown hbl))
      go_roundw
      case rel => exact ⟨j + 1, by omega, by go_num, hide (by rw [Hmap.out]; exact Hown.out), hide (Hb.out.trans Hbl.out)⟩
      case measure => simp [intOf]; omega
    · have hjl : j = x.eqs.length := by omega
      have hj1 : ¬ (j : Int) < (x.eqs.length : Int) := by omega
      have Ho0 : Hid (OwnS 7 (Ex0 D w) (w.heap.size + 1) 86 wr (x.eqs.map (·.expr)) _ []) := hide (by have := Ho.out; rw [hjl, List.take_length] at this; exact this)
      obtain ⟨wo, rfl⟩ : ∃ wo, wo = wr := ⟨_, rfl⟩
      have hMl : (x.eqs.map (·.expr)).length ≤ 1048576 := by rw [List.length_map]; omega
      have Hres : Hid (x.eqs.map (·.expr) ++ exprsC x.cons = exprsR x) := hide rfl
      generalize x.eqs.map (·.expr) = M0 at Ho0 hMl Hres
      clear Ho
      go_wp2_with fail
      go_loopw [3, 25] (fun o i wr => ∃ j : Nat, j ≤ x.cons.length ∧ i = .int .i64 j ∧ Hid (OwnS 7 (Ex0 D w) (w.heap.size + 1) 86 wr (M0 ++ exprsC (x.cons.take j)) o []) ∧ Hid (Below (w.heap.size + 1) W0 wr)) (fun _ i _ => x.cons.length - (intOf i).toNat)
      case atStart => exact ⟨0, by omega, rfl, hide (by have := Ho0.out; rw [List.take_zero]; unfold exprsC; rw [List.flatMap_nil, List.append_nil]; exact this), Hb⟩
      case round =>
        obtain ⟨i, hi, rfl, Ho, Hb2⟩ := hrel
        have hBr2 := Hb2.out
        have hbase2 : w.heap.size + 1 ≤ wr.heap.size := Nat.le_trans hn0 hBr2.size
        by_cases hli : i < x.cons.length
        · have hX : x.cons[i]? = some x.cons[i] := List.getElem?_eq_getElem hli
          generalize x.cons[i] = X at hX
          obtain ⟨b, off, cs, Fk, hA, _, hbF, hFk, hcl, hcat, hR⟩ := SlR.get (ConR.good D) Hs5.out hX
          subst hA
          obtain ⟨c0, c1, c2, c3, c4, c5, c6, c7, c8, c9, c10, c11, c12, c13, c14, c15, F2, F3, rfl, hT, hV, h16, hFF⟩ := con_open hR
          have H16 := hide h16
          have hlb : b < w.heap.size := L5.out b hbF
          have hblr : b < wr.heap.size := Nat.lt_of_lt_of_le hlb (Hw.out wr hBr2).size
          have Hc : Hid (CellsAt wr b (off + i * 16) [c0, c1, c2, c3, c4, c5, c6, c7, c8, c9, c10, c11, c12, c13, c14, c15]) := hide (hcat.below (Hw.out wr hBr2) hlb)
          have HT : Hid (Ex0 D w wr X.target [c2, c3, c4, c5, c6, c7, c8] []) := hide ⟨rfl, F2, hT, fun k hk => L5.out k (hFk k (by rw [hFF]; simp [hk]))⟩
          have HV : Hid (Ex0 D w wr X.value [c9, c10, c11, c12, c13, c14, c15] []) := hide ⟨rfl, F3, hV, fun k hk => L5.out k (hFk k (by rw [hFF]; simp [hk]))⟩
          have Hn : Hid ([c0, c1, c2, c3, c4, c5, c6, c7, c8, c9, c10, c11, c12, c13, c14, c15].length = 16) := hide rfl
          have HnT : Hid ([c2, c3, c4, c5, c6, c7, c8].length = 7) := hide rfl
          have HnV : Hid ([c9, c10, c11, c12, c13, c14, c15].length = 7) := hide rfl
          have H14 : Hid (∀ v ∈ [c2, c3, c4, c5, c6, c7, c8, c9, c10, c11, c12, c13, c14, c15], v.oneCell' = true) := hide fun v hv => h16 v (by simp only [List.mem_cons] at hv ⊢; exact .inr (.inr hv))
          have hj0 : (0 : Int) ≤ (i : Int) := by omega
          have hj1 : (i : Int) < (x.cons.length : Int) := by omega
          have Hmap : Hid (M0 ++ exprsC (x.cons.take (i + 1)) = (M0 ++ exprsC (x.cons.take i)) ++ [X.target, X.value]) := hide (by rw [exprsC_snoc hX, List.append_assoc])
          have hmlen : (M0 ++ exprsC (x.cons.take i)).length ≤ 4194304 := by rw [List.length_append, exprsC_len, List.length_take]; omega
          generalize M0 ++ exprsC (x.cons.take i) = M at Ho Hmap hmlen
          clear hX hFk hbF hcl hT hV h16 hFF hcat hR
          go_wp2_with (first
            | refine wpList_load_at 107 (.tmp 27) rfl Tryz.underlying107 rfl Hic.out rfl rfl Hn.out Hc.out ?_
            | (refine wpList_store_new 107 (.tmp 7) (.tmp 28) rfl Hic.out rfl rfl rfl rfl Hn.out H16.out rfl ?_; refine hold ?_))
          have C := CellsAt.new wr [c0, c1, c2, c3, c4, c5, c6, c7, c8, c9, c10, c11, c12, c13, c14, c15] 107
          have hrv : Below wr.heap.size wr (wr.alloc (Obj.cells #[c0, c1, c2, c3, c4, c5, c6, c7, c8, c9, c10, c11, c12, c13, c14, c15] 107)) := (Below.refl _ _).alloc (Nat.le_refl _) _
          generalize wr.alloc (Obj.cells #[c0, c1, c2, c3, c4, c5, c6, c7, c8, c9, c10, c11, c12, c13, c14, c15] 107) = V1 at C hrv ⊢
          have hBV := below_step hBr2 hn0 hrv
          have HC2 : Hid (CellsAt V1 wr.heap.size 2 [c2, c3, c4, c5, c6, c7, c8]) := hide fun i v hv => by
            have := C (2 + i) v (by rw [Nat.add_comm]; have hi : i < 7 := (List.getElem?_eq_some_iff.1 hv).1; have : i = 0 ∨ i = 1 ∨ i = 2 ∨ i = 3 ∨ i = 4 ∨ i = 5 ∨ i = 6 := by omega
                                    rcases this with rfl | rfl | rfl | rfl | rfl | rfl | rfl <;> exact hv)
            rwa [Nat.zero_add] at this
          have HC3 : Hid (CellsAt V1 wr.heap.size 9 [c9, c10, c11, c12, c13, c14, c15]) := hide fun i v hv => by have := C (9 + i) v (by simpa [Nat.add_comm] using hv); rwa [Nat.zero_add] at this
          have Hrv := hide hrv
          have HCA := hide (CellsAt.new V1 [c2, c3, c4, c5, c6, c7, c8, c9, c10, c11, c12, c13, c14, c15] 86)
          have hVA : Below V1.heap.size V1 (V1.alloc (Obj.cells #[c2, c3, c4, c5, c6, c7, c8, c9, c10, c11, c12, c13, c14, c15] 86)) := (Below.refl _ _).alloc (Nat.le_refl _) _
          have HoA := hide (Ho.out.below (Ex0.good D w) (hrv.trans (hVA.mono hrv.size)))
          have HBA := hide (hBV.trans (hVA.mono (Nat.le_trans hbase2 hrv.size)))
          have hzA : w.heap.size + 1 ≤ (V1.alloc (Obj.cells #[c2, c3, c4, c5, c6, c7, c8, c9, c10, c11, c12, c13, c14, c15] 86)).heap.size := Nat.le_trans hn0 HBA.out.size
          have HzA := hide hzA
          have HelA : Hid (ElL (Ex0 D w) (V1.alloc (Obj.cells #[c2, c3, c4, c5, c6, c7, c8, c9, c10, c11, c12, c13, c14, c15] 86)) [X.target, X.value] [c2, c3, c4, c5, c6, c7, c8, c9, c10, c11, c12, c13, c14, c15] []) := hide ⟨[c2, c3, c4, c5, c6, c7, c8], [c9, c10, c11, c12, c13, c14, c15], [], [], rfl, rfl, HT.out, [c9, c10, c11, c12, c13, c14, c15], [], [], [], rfl, rfl, HV.out, rfl, rfl⟩
          clear C hrv hVA hzA
          refine Hold.go ?_
          go_wp2_with (first
            | refine wpList_load_at 86 (.tmp 30) rfl Tryz.underlying86 rfl Hix.out rfl rfl HnT.out HC2.out ?_
            | refine wpList_load_at 86 (.tmp 32) rfl Tryz.underlying86 rfl Hix.out rfl rfl HnV.out HC3.out ?_
            | (at_builtin; refine app_allQ rfl (.tmp 29) (.tmp 34) 84 86 rfl Tryz.underlying84 infoEx rfl (by decide) (Ex0.good D w) (V1.alloc (Obj.cells #[c2, c3, c4, c5, c6, c7, c8, c9, c10, c11, c12, c13, c14, c15] 86)) (w.heap.size + 1) _ M HoA.out rfl [X.target, X.value] [c2, c3, c4, c5, c6, c7, c8, c9, c10, c11, c12, c13, c14, c15] HelA.out rfl V1.heap.size 0 2 2 rfl rfl HCA.out H14.out (by simp; omega) (by simp; omega) HzA.out ?_; intro v1 w4 hown hgr hob; have Hown := hide hown; have Hgr := hide hgr; clear hown hgr hob))
          have Hbw : Hid (Below (w.heap.size + 1) W0 w4) := hide (HBA.out.grown Hgr.out HzA.out (fun k hk => (HoA.out.blk k hk).1))
          go_roundw
          case rel => exact ⟨i + 1, by omega, by go_num, hide (by rw [Hmap.out]; exact Hown.out), Hbw⟩
          case measure => simp [intOf]; omega
        · have hil : i = x.cons.length := by omega
          have hj2 : ¬ (i : Int) < (x.cons.length : Int) := by omega
          have Hall : Hid (∃ G, SlR 7 (ExR D) wr (exprsR x) _ G) := hide (by
            have h := Ho.out
            rw [hil, List.take_length, Hres.out] at h
            obtain ⟨G, hG, _⟩ := h.slr (Ex0.good D w)
            exact hG.now (Hw.out _ hBr2))
          clear Ho
          go_wp2_with fail
          go_ret
          exact ⟨_, rfl, Hall.out, Hw.out _ hBr2⟩
end Go.Proofs.YthlhhnnlbpecnaaGreat

/- AttributeUses, the program's side. Conditions: the expression has at most the size 2^20. -/
namespace Go.Proofs.YthlhhnnlbpecnaaGreat
set_option linter.unusedSimpArgs false
set_option linter.unusedVariables false
set_option maxRecDepth 100000
open Go.RowKit Go.WideShapes
set_option linter.unusedVariables false

theorem compactUpTo_le {α : Type} [DecidableEq α] [Inhabited α] (d : Array α) : ∀ m, (Lib.compactUpTo d m).length ≤ m
  | 0 => by simp [Lib.compactUpTo]
  | m + 1 => by
    have h := compactUpTo_le d m
    rw [Lib.compactUpTo_succ, List.length_append]
    split
    · rw [List.length_singleton]; omega
    · rw [List.length_nil]; omega
theorem srt_upto (U : List Occ) : Lib.compactUpTo (srt U).toArray U.length = sortO U := by
  rw [← srt_once]
  unfold Lib.compact
  rw [srt_len]
theorem sortO_len (U : List Occ) : (sortO U).length ≤ U.length := by
  rw [← srt_upto]
  exact compactUpTo_le _ _
theorem OwnS.none0 {B n cap : Nat} {w : World} {xs : List Occ} (h : OwnS 2 (OccR 0) B 81 w xs (.slice none n cap) []) : xs = [] ∧ n = 0 ∧ cap = 0 := by
  obtain ⟨⟨cl, ⟨h1, h2⟩, hel⟩, _, _⟩ := h
  rcases h2 with ⟨h2, h3⟩ | ⟨g', cap', cur, hv, _⟩
  · injection h2 with _ h4 h5
    exact ⟨List.eq_nil_of_length_eq_zero h3, h4, h5⟩
  · injection hv with hv1
    cases hv1
set_option maxRecDepth 100000 in
set_option maxHeartbeats 2000000 in
theorem i_AttributeUses (D : Nat) (x : Ex) (cs : List Value) (F : List Nat) (w : World) (h : ExR D w x cs F) (hbk : bulkE D x ≤ 1048576) :
    Calls Tryz.prog 56 #[.agg cs.toArray] w fun en w' => ∃ v' G, en = .returned v' ∧ SlR 2 (OccR D) w' (sortO (usesE D x)) v' G ∧ Fresh w.heap.size w' G ∧ Below w.heap.size w w' := by
  have hn : (usesE D x).length ≤ 2097152 := by
    have := usesE_len D x
    have := cnt_le_bulk D x
    omega
  obtain ⟨U, hU⟩ : ∃ U, U = usesE D x := ⟨_, rfl⟩
  rw [← hU] at hn ⊢
  have HU := hide hU
  clear hU
  have HF := hide ((ExR.good D).lt h)
  have Hn7 := (ExR.good D).len h
  obtain ⟨c0, c1, c2, c3, c4, c5, c6, rfl⟩ := list7 Hn7
  have H1 := hide (ExR.one h)
  have Hn : Hid (([c0, c1, c2, c3, c4, c5, c6] : List Value).length = 7) := hide rfl
  have Hix : Hid ((Tryz.prog.info? 86).map (·.size) = some 7) := hide (by kernel_rfl)
  have ha : Below w.heap.size w (w.alloc (.cells #[c0, c1, c2, c3, c4, c5, c6] 86)) := (Below.refl _ _).alloc (Nat.le_refl _) _
  have hb : Below w.heap.size w ((w.alloc (.cells #[c0, c1, c2, c3, c4, c5, c6] 86)).alloc (.cells #[] 81)) := ha.alloc ha.size _
  have ho := OwnS.made (n := 2) (R := OccR 0) (e := 81) (w.alloc (.cells #[c0, c1, c2, c3, c4, c5, c6] 86)) (B := w.heap.size) (by simp)
  rw [World.size_alloc] at ho
  obtain ⟨Wb, hWb⟩ : ∃ W, W = (w.alloc (.cells #[c0, c1, c2, c3, c4, c5, c6] 86)).alloc (.cells #[] 81) := ⟨_, rfl⟩
  have hWz : Wb.heap.size = w.heap.size + 2 := by rw [hWb]; simp
  have hC : CellsAt Wb w.heap.size 0 [c0, c1, c2, c3, c4, c5, c6] := by
    rw [hWb]
    exact (CellsAt.new w [c0, c1, c2, c3, c4, c5, c6] 86).below ((Below.refl (w.heap.size + 1) _).alloc (by simp) _) (by omega)
  rw [← hWb] at hb ho
  have hd : Below Wb.heap.size Wb (Wb.alloc (.cells #[.slice (some ⟨w.heap.size + 1, 0, none⟩) 0 0] 79)) := (Below.refl _ _).alloc (Nat.le_refl _) _
  have hbx := heap_alloc_new Wb (.cells #[.slice (some ⟨w.heap.size + 1, 0, none⟩) 0 0] 79)
  have hw1 : Below w.heap.size w (Wb.alloc (.cells #[.slice (some ⟨w.heap.size + 1, 0, none⟩) 0 0] 79)) := hb.trans (hd.mono (by omega))
  rw [hWz, show w.heap.size + 2 = w.heap.size + 1 + 1 from rfl] at hbx
  have HSt : Hid (St w.heap.size (w.heap.size + 1 + 1) (Wb.alloc (.cells #[.slice (some ⟨w.heap.size + 1, 0, none⟩) 0 0] 79)) (.slice (some ⟨w.heap.size + 1, 0, none⟩) 0 0) []) := hide ⟨hbx, ho.below (OccR.good 0) hd, fun k hk => by
    obtain rfl := Option.some.inj (show some (w.heap.size + 1) = some k from hk)
    omega⟩
  have HE : Hid (ExR D (Wb.alloc (.cells #[.slice (some ⟨w.heap.size + 1, 0, none⟩) 0 0] 79)) x [c0, c1, c2, c3, c4, c5, c6] F) := hide ((ExR.good D).below h hw1 HF.out)
  have HC : Hid (CellsAt (Wb.alloc (.cells #[.slice (some ⟨w.heap.size + 1, 0, none⟩) 0 0] 79)) w.heap.size 0 [c0, c1, c2, c3, c4, c5, c6]) := hide (hC.below hd (by omega))
  have Hw1 := hide hw1
  have Hz := hide hWz
  show Calls _ _ #[.agg #[c0, c1, c2, c3, c4, c5, c6]] w _
  clear h ha hb ho hC hd hbx hw1 hWz Hn7 hbk
  go_enter Tryz.func56, Tryz.ntmps56
  go_wp2_with (refine wpList_load_at 86 (.tmp 1) rfl Tryz.underlying86 rfl Hix.out rfl rfl Hn.out (by first | exact HC.out | (rw [← hWb]; exact HC.out)) ?_; refine hold ?_)
  rw [← hWb]
  clear hWb
  generalize Wb.alloc (.cells #[.slice (some ⟨w.heap.size + 1, 0, none⟩) 0 0] 79) = W1 at HSt HE HC Hw1 ⊢
  refine Hold.go ?_
  go_wp2_with fail
  refine Calls.mono (evn_use (by omega) D x _ F W1 _ [] HE.out HF.out Hw1.out.size HSt.out (by rw [← HU.out]; simpa using hn)) ?_
  rintro en w2 ⟨rfl, v2, hA⟩
  rw [List.nil_append, ← HU.out] at hA
  have hdn := hA.down HSt.out (by omega) Hw1.out.size
  have Hw2 := hide (Hw1.out.trans hdn)
  have hbx := hA.st.box
  have hbl := blk_lt hbx
  have hne := hA.st.ne
  obtain ⟨A, cap, rfl, hlc, hm⟩ := hA.st.own.form
  have hcase : (A = none ∧ U = [] ∧ cap = 0) ∨ ∃ g, A = some ⟨g, 0, none⟩ ∧ RowO w2 g U.toArray ∧ (∀ x ∈ U, x.ok) ∧ w.heap.size ≤ g := by
    have hown := hA.st.own
    match A, hown with
    | none, hown =>
      obtain ⟨h0, _, h2⟩ := hown.none0
      exact .inl ⟨rfl, h0, h2⟩
    | some ⟨g, off, no⟩, hown =>
      have hno : no = none := by
        obtain ⟨⟨cl, ⟨h1, h2⟩, hel⟩, _, _⟩ := hown
        rcases h2 with ⟨h2, _⟩ | ⟨g', cap', cur, hv, _⟩
        · cases h2
        · injection hv with hv1
          injection hv1 with hv1
          injection hv1
      subst hno
      obtain ⟨rfl, h1, h2, h3⟩ := hown.rowO
      exact .inr ⟨g, rfl, h1, h2, h3⟩
  clear hdn HU
  rcases hcase with ⟨rfl, rfl, rfl⟩ | ⟨g, rfl, hrow, hok, hgB⟩
  · have q2 : w2.cell? ⟨w.heap.size + 1 + 1, 0, none⟩ = some (.slice none 0 0) := cell_at (i := 0) hbx (by simp)
    clear hA hbx hne hlc hm hbl
    go_wp2_with fail
    refine Calls.mono (t_Sort0 none 0 w2) ?_
    rintro en w3 ⟨rfl, hw3⟩
    obtain rfl := hw3.symm
    go_wp2_with fail
    refine Calls.mono (t_Compact0 none 0 w2) ?_
    rintro en w3 ⟨rfl, hw3⟩
    obtain rfl := hw3.symm
    go_wp2_with fail
    go_ret
    exact ⟨_, [], rfl, ⟨none, 0, rfl, Nat.le_refl _, by simp [maxLen], .inl ⟨rfl, rfl⟩⟩, Fresh.nil _ _, Hw2.out⟩
  · have q2 : w2.cell? ⟨w.heap.size + 1 + 1, 0, none⟩ = some (.slice (some ⟨g, 0, none⟩) U.length cap) := cell_at (i := 0) hbx (by simp)
    have hgne : g ≠ w.heap.size + 1 + 1 := hne g rfl
    have Hrow := hide hrow
    have Hok := hide hok
    have Hbx := hide hbx
    have Hm := hide hm
    clear hA hbx hne hrow hok hm
    go_wp2_with fail
    refine Calls.mono (t_SortO g cap U w2 Hrow.out hn) ?_
    rintro en w3 ⟨rfl, hg3, hr3⟩
    have hbx3 := (hg3.block (w.heap.size + 1 + 1) hbl (fun e => hgne (Option.some.inj e).symm)).trans Hbx.out
    have q3 : w3.cell? ⟨w.heap.size + 1 + 1, 0, none⟩ = some (.slice (some ⟨g, 0, none⟩) U.length cap) := cell_at (i := 0) hbx3 (by simp)
    have Hg3 := hide hg3
    have hcp := t_Compact g cap (srt U).toArray w3 hr3 (by simp [srt_len]; omega) (by simp [srt_len]; omega) (by have := Hm.out; unfold maxLen at this; omega)
    rw [show (srt U).toArray.size = U.length by simp [srt_len], srt_upto] at hcp
    have Hcp := hide hcp
    clear hg3 hr3 hbx3 hcp
    go_wp2_with fail
    refine Calls.mono Hcp.out ?_
    rintro en w4 ⟨rfl, hg4, cur, hcur, hcc⟩
    have hw4 : Below w.heap.size w w4 := (Hw2.out.grown Hg3.out Hw2.out.size (fun k hk => by obtain rfl := Option.some.inj hk; exact hgB)).grown hg4 (Nat.le_trans Hw2.out.size Hg3.out.size) (fun k hk => by obtain rfl := Option.some.inj hk; exact hgB)
    have Hw4 := hide hw4
    have Hcur := hide hcur
    have Hcc := hide hcc
    clear hw4 hg4 hcur hcc
    go_wp2_with fail
    go_ret
    have hle := sortO_len U
    have hoks : ∀ y ∈ sortO U, y.ok := fun y hy => Hok.out y (((sortO_both U).2 y).1 hy)
    by_cases h0 : sortO U = []
    · refine ⟨_, [], rfl, ⟨some ⟨g, 0, none⟩, cap, rfl, by omega, Hm.out, .inl ⟨h0, rfl⟩⟩, Fresh.nil _ _, Hw4.out⟩
    · refine ⟨_, [g], rfl, ⟨some ⟨g, 0, none⟩, cap, rfl, by omega, Hm.out, .inr ⟨g, 0, [], rfl, blk_lt Hcur.out, rfl, ElR.of_occ hoks fun j y hy => ?_⟩⟩, ⟨List.nodup_cons.2 ⟨by simp, List.nodup_nil⟩, fun k hk => ?_, fun k hk => ?_⟩, Hw4.out⟩
      · obtain ⟨e1, e2⟩ := Hcc.out j y hy
        rw [cell_of_row _ _ _ _ _ _ Hcur.out, cell_of_row _ _ _ _ _ _ Hcur.out, Nat.zero_add]
        exact ⟨e1, e2⟩
      · obtain rfl := List.mem_singleton.1 hk
        exact hgB
      · obtain rfl := List.mem_singleton.1 hk
        exact ⟨cur, _, Hcur.out⟩
end Go.Proofs.YthlhhnnlbpecnaaGreat
