/- Several texts of one proof in one file: Does an expression of a rule use what it may not: the reference. Conditions: each theorem names its own. -/
import Derived.Test.YthlhhnnlbpecnaaGreatGcsbd

/- Does an expression of a rule use what it may not: the reference. Conditions: grammar and rule have at most the size 2^20. -/
namespace Go.Proofs.YthlhhnnlbpecnaaGreat
set_option linter.unusedSimpArgs false
set_option linter.unusedVariables false
set_option maxRecDepth 100000
open Go.RowKit Go.WideShapes
set_option linter.unusedVariables false

set_option maxRecDepth 100000 in
set_option maxHeartbeats 4000000 in
theorem s_l11Misuse (D : Nat) (g : Grm) (x : Rul) (cg cr : List Value) (Fg Fr : List Nat) (w : World) (hg : GrmR D w g cg Fg) (hr : RulR D w x cr Fr) (hbg : bulkGrm D g ≤ 1048576) (hbr : bulkRul D x ≤ 1048576) :
    Calls Tryz.prog 34 #[.agg cg.toArray, .agg cr.toArray] w fun en w' => en = .returned (.bool (useB D g x)) ∧ Below w.heap.size w w' := by
  have hlq := (bulk_rul hbr).2.1
  have hlc := (bulk_rul hbr).2.2
  have LG := hide ((GrmR.good D).lt hg)
  have LR := hide ((RulR.good D).lt hr)
  obtain ⟨gc0, gc1, rfl⟩ := list2 ((GrmR.good D).len hg)
  obtain ⟨r0, r1, r2, r3, r4, r5, rfl⟩ := list_6 ((RulR.good D).len hr)
  obtain ⟨A2, k2, A4, k4, A5, k5, F4, F5, rfl, rfl, rfl, hs4, hs5, hn4, hn5⟩ := rul_open hr
  have Hg : Hid (∀ W : World, Below w.heap.size w W → GrmR D W g [gc0, gc1] Fg) := hide fun W hW => (GrmR.good D).below hg hW LG.out
  have Hr : Hid (∀ W : World, Below w.heap.size w W → RulR D W x [r0, r1, .slice A2 x.right.length k2, r3, .slice A4 x.eqs.length k4, .slice A5 x.cons.length k5] Fr) := hide fun W hW => (RulR.good D).below hr hW LR.out
  have L4 := hide (hs4.lt (EqnR.good D))
  have L5 := hide (hs5.lt (ConR.good D))
  have Hs4 : Hid (∀ W : World, Below w.heap.size w W → SlR 9 (EqnR D) W x.eqs (.slice A4 x.eqs.length k4) F4) := hide fun W hW => hs4.below (EqnR.good D) hW L4.out
  have Hs5 : Hid (∀ W : World, Below w.heap.size w W → SlR 16 (ConR D) W x.cons (.slice A5 x.cons.length k5) F5) := hide fun W hW => hs5.below (ConR.good D) hW L5.out
  have Hig : Hid ((Tryz.prog.info? 32).map (·.size) = some 2) := hide (by kernel_rfl)
  have Hir : Hid ((Tryz.prog.info? 50).map (·.size) = some 6) := hide (by kernel_rfl)
  have Hio : Hid ((Tryz.prog.info? 81).map (·.size) = some 2) := hide (by kernel_rfl)
  have Hiq : Hid ((Tryz.prog.info? 88).map (·.size) = some 9) := hide (by kernel_rfl)
  have His : Hid ((Tryz.prog.info? 42).map (·.size) = some 2) := hide (by kernel_rfl)
  have Hix : Hid ((Tryz.prog.info? 86).map (·.size) = some 7) := hide (by kernel_rfl)
  obtain ⟨CG, CR, hz0, hw0⟩ := boxes2 w [gc0, gc1] [r0, r1, .slice A2 x.right.length k2, r3, .slice A4 x.eqs.length k4, .slice A5 x.cons.length k5] 32 50
  show Calls _ _ #[.agg #[gc0, gc1], .agg #[r0, r1, .slice A2 x.right.length k2, r3, .slice A4 x.eqs.length k4, .slice A5 x.cons.length k5]] w _
  clear hg hr hs4 hs5
  go_enter Tryz.func34, Tryz.ntmps34
  go_wp2_with fail
  generalize (w.alloc (Obj.cells #[gc0, gc1] 32)).alloc (Obj.cells #[r0, r1, .slice A2 x.right.length k2, r3, .slice A4 x.eqs.length k4, .slice A5 x.cons.length k5] 50) = W0 at CG CR hz0 hw0 ⊢
  have hn0 : w.heap.size + 2 ≤ W0.heap.size := by omega
  have Hw : Hid (∀ W : World, Below (w.heap.size + 2) W0 W → Below w.heap.size w W) := hide fun W h => hw0.trans (h.mono (by omega))
  have HcG : Hid (∀ W : World, Below (w.heap.size + 2) W0 W → CellsAt W w.heap.size 0 [gc0, gc1]) := hide fun W h => CG.below h (by omega)
  have HcR : Hid (∀ W : World, Below (w.heap.size + 2) W0 W → CellsAt W (w.heap.size + 1) 0 [r0, r1, .slice A2 x.right.length k2, r3, .slice A4 x.eqs.length k4, .slice A5 x.cons.length k5]) := hide fun W h => CR.below h (by omega)
  have hB0 : Below (w.heap.size + 2) W0 W0 := Below.refl _ _
  have a0 := cell_rule CG (n := w.heap.size + 2) (by omega) 0 rfl
  have a1 := cell_rule CG (n := w.heap.size + 2) (by omega) 1 rfl
  have b0 := cell_rule CR (n := w.heap.size + 2) (by omega) 0 rfl
  have b1 := cell_rule CR (n := w.heap.size + 2) (by omega) 1 rfl
  have b2 := cell_rule CR (n := w.heap.size + 2) (by omega) 2 rfl
  have b3 := cell_rule CR (n := w.heap.size + 2) (by omega) 3 rfl
  have b4 := cell_rule CR (n := w.heap.size + 2) (by omega) 4 rfl
  have b5 := cell_rule CR (n := w.heap.size + 2) (by omega) 5 rfl
  have hBa0 : ∀ (W : World) (o : Obj), Below (w.heap.size + 2) W0 W → Below (w.heap.size + 2) W0 (W.alloc o) := fun W o h => below_alloc hn0 o h
  have Hz0 := hide hz0
  clear CG CR hz0 hw0
  have Hbg := hide hbg
  have HbE := hide (bulk_eqs hbr)
  have HbC := hide (bulk_cons hbr)
  clear hbg hbr
  go_wp2_with fail
  go_loopw [5] (fun i wr => ∃ j : Nat, j ≤ x.eqs.length ∧ i = .int .i64 j ∧ Hid (((x.eqs.take j).map (·.expr)).any (useE D g x) = false) ∧ Hid (Below (w.heap.size + 2) W0 wr)) (fun i _ => x.eqs.length - (intOf i).toNat)
  case atStart => exact ⟨0, by omega, rfl, hide rfl, hide hB0⟩
  case round =>
    obtain ⟨j, hj, rfl, Hno, Hb⟩ := hrel
    have hBr := Hb.out
    have hbase : w.heap.size + 2 ≤ wr.heap.size := Nat.le_trans hn0 hBr.size
    by_cases hlt : j < x.eqs.length
    · have hX : x.eqs[j]? = some x.eqs[j] := List.getElem?_eq_getElem hlt
      generalize x.eqs[j] = X at hX
      obtain ⟨b, off, cs, Fk, hA, _, hbF, hFk, hcl, hcat, hR⟩ := SlR.get (EqnR.good D) (Hs4.out W0 (Hw.out W0 hB0)) hX
      subst hA
      obtain ⟨c2, c3, c4, c5, c6, c7, c8, F1, rfl, hE, h9, hF1⟩ := eqn_full hR
      have hlb2 : b < w.heap.size + 2 := by have := L4.out b hbF; omega
      have hF1W : ∀ k ∈ F1, k < w.heap.size + 2 := fun k hk => by have := L4.out k (hFk k (hF1 k hk)); omega
      have HX := hide hX
      have HW : Hid (∀ W : World, Below wr.heap.size wr W → Below (w.heap.size + 2) W0 W) := hide fun W h => hBr.trans (h.mono hbase)
      have HHus : Hid (∀ W : World, Below (w.heap.size + 2) W0 W → ExR D W X.expr [c2, c3, c4, c5, c6, c7, c8] F1) := hide fun W h => (ExR.good D).below hE h hF1W
      have HcE : Hid (∀ W : World, Below wr.heap.size wr W → CellsAt W b (off + j * 9 + 2) [c2, c3, c4, c5, c6, c7, c8]) := hide fun W h i v hv => by have := (hcat.below (HW.out W h) hlb2) (2 + i) v (by simpa [Nat.add_comm] using hv); rwa [← Nat.add_assoc] at this
      have HBp := hide (HbE.out X (List.mem_of_getElem? hX))
      have hj0 : (0 : Int) ≤ (j : Int) := by omega
      have hj1 : (j : Int) < (x.eqs.length : Int) := by omega
      have Hmap : Hid ((x.eqs.take (j + 1)).map (·.expr) = (x.eqs.take j).map (·.expr) ++ [X.expr]) := hide (by rw [take_snoc hX, List.map_append]; rfl)
      obtain ⟨p, hp⟩ : ∃ p, p = !useE D g x X.expr := ⟨_, rfl⟩
      have Hp := hide hp
      have Hus : Hid (∀ W : World, Below wr.heap.size wr W → Calls Tryz.prog 74 #[.agg #[gc0, gc1], .agg #[r0, r1, .slice A2 x.right.length k2, r3, .slice (some ⟨b, off, none⟩) x.eqs.length k4, .slice A5 x.cons.length k5], .agg #[c2, c3, c4, c5, c6, c7, c8]] W fun en w' => en = .returned (.bool p) ∧ Below W.heap.size W w') := hide fun W h => hp ▸ s_l11Uses D g x X.expr _ _ _ Fg Fr F1 W (Hg.out W (Hw.out W (HW.out W h))) (Hr.out W (Hw.out W (HW.out W h))) (HHus.out W (HW.out W h)) Hbg.out HBp.out
      clear hp
      clear hX hFk hbF hcl hcat hR hE h9 hF1 hF1W
      go_wp2_with fail
      refine region_invA (fun a0 l a' w' => ∃ x0 x1 x2 x3 x4 x5 x6 x7 x8 x9 : Value, a' = ((((((((((a0.put (some 14) x0).put (some 15) x1).put (some 16) x2).put (some 17) x3).put (some 18) x4).put (some 19) x5).put (some 20) x6).put (some 21) x7).put (some 22) x8).put (some 23) x9) ∧ (l 9 = true → ∀ i, i < 9 → l i = true) ∧ (l 9 = true → x9 = .bool (!p) ∧ Below wr.heap.size wr w') ∧ (l 9 = false → Below wr.heap.size wr w' ∧ (l 0 = true → x0 = .agg #[gc0, gc1]) ∧ (l 1 = true → x1 = .agg #[r0, r1, .slice A2 x.right.length k2, r3, .slice (some ⟨b, off, none⟩) x.eqs.length k4, .slice A5 x.cons.length k5]) ∧ (l 2 = true → x2 = .pointer (some ⟨w.heap.size + 1, 4, none⟩)) ∧ (l 3 = true → x3 = .slice (some ⟨b, off, none⟩) x.eqs.length k4) ∧ (l 4 = true → x4 = .int .i64 (j : Int)) ∧ (l 5 = true → x5 = .pointer (some ⟨b, off + j * 9, none⟩)) ∧ (l 6 = true → x6 = .pointer (some ⟨b, off + j * 9 + 2, none⟩)) ∧ (l 7 = true → x7 = .agg #[c2, c3, c4, c5, c6, c7, c8]) ∧ (l 8 = true → x8 = .bool p))) rfl (by kernel_rfl) ?h0 ?hstep ?hend
      case h0 => exact ⟨u14, u15, u16, u17, u18, u19, u20, u21, u22, u23, by kernel_rfl, fun h => absurd h (by decide), fun h => absurd h (by decide), fun _ => ⟨(Below.refl _ _).drew, fun h => absurd h (by decide), fun h => absurd h (by decide), fun h => absurd h (by decide), fun h => absurd h (by decide), fun h => absurd h (by decide), fun h => absurd h (by decide), fun h => absurd h (by decide), fun h => absurd h (by decide), fun h => absurd h (by decide)⟩⟩
      case hstep =>
        refine ⟨?s0, ?s1, ?s2, ?s3, ?s4, ?s5, ?s6, ?s7, ?s8, ?s9, trivial⟩
        case s0 =>
          intro l a' w' hk hpre hJ K hK
          obtain ⟨x0, x1, x2, x3, x4, x5, x6, x7, x8, x9, ha, hall, hfin, hfs⟩ := hJ
          have h12 : l 9 = false := upd_last hall hk (by decide)
          clear hall hfin
          obtain ⟨hB, f0, f1, f2, f3, f4, f5, f6, f7, f8⟩ := hfs h12
          clear hfs
          refine step_load rfl 32 (.tmp 2) rfl Tryz.underlying32 rfl (cs := [gc0, gc1]) (b := w.heap.size) (off := 0) Hig.out (by rw [ha]; kernel_rfl) rfl (HcG.out _ (HW.out _ hB)) ?_
          subst ha
          exact hK.out _ _ ⟨.agg #[gc0, gc1], x1, x2, x3, x4, x5, x6, x7, x8, x9, by kernel_rfl, fun h => absurd (updL_ne h (by decide)) (by rw [h12]; decide), fun h => absurd (updL_ne h (by decide)) (by rw [h12]; decide), fun _ => ⟨hB, fun _ => rfl, fun h => f1 (updL_ne h (by decide)), fun h => f2 (updL_ne h (by decide)), fun h => f3 (updL_ne h (by decide)), fun h => f4 (updL_ne h (by decide)), fun h => f5 (updL_ne h (by decide)), fun h => f6 (updL_ne h (by decide)), fun h => f7 (updL_ne h (by decide)), fun h => f8 (updL_ne h (by decide))⟩⟩
        case s1 =>
          intro l a' w' hk hpre hJ K hK
          obtain ⟨x0, x1, x2, x3, x4, x5, x6, x7, x8, x9, ha, hall, hfin, hfs⟩ := hJ
          have h12 : l 9 = false := upd_last hall hk (by decide)
          clear hall hfin
          obtain ⟨hB, f0, f1, f2, f3, f4, f5, f6, f7, f8⟩ := hfs h12
          clear hfs
          refine step_load rfl 50 (.tmp 3) rfl Tryz.underlying50 rfl (cs := [r0, r1, .slice A2 x.right.length k2, r3, .slice (some ⟨b, off, none⟩) x.eqs.length k4, .slice A5 x.cons.length k5]) (b := w.heap.size + 1) (off := 0) Hir.out (by rw [ha]; kernel_rfl) rfl (HcR.out _ (HW.out _ hB)) ?_
          subst ha
          exact hK.out _ _ ⟨x0, .agg #[r0, r1, .slice A2 x.right.length k2, r3, .slice (some ⟨b, off, none⟩) x.eqs.length k4, .slice A5 x.cons.length k5], x2, x3, x4, x5, x6, x7, x8, x9, by kernel_rfl, fun h => absurd (updL_ne h (by decide)) (by rw [h12]; decide), fun h => absurd (updL_ne h (by decide)) (by rw [h12]; decide), fun _ => ⟨hB, fun h => f0 (updL_ne h (by decide)), fun _ => rfl, fun h => f2 (updL_ne h (by decide)), fun h => f3 (updL_ne h (by decide)), fun h => f4 (updL_ne h (by decide)), fun h => f5 (updL_ne h (by decide)), fun h => f6 (updL_ne h (by decide)), fun h => f7 (updL_ne h (by decide)), fun h => f8 (updL_ne h (by decide))⟩⟩
        case s2 =>
          intro l a' w' hk hpre hJ K hK
          obtain ⟨x0, x1, x2, x3, x4, x5, x6, x7, x8, x9, ha, hall, hfin, hfs⟩ := hJ
          have h12 : l 9 = false := upd_last hall hk (by decide)
          clear hall hfin
          obtain ⟨hB, f0, f1, f2, f3, f4, f5, f6, f7, f8⟩ := hfs h12
          clear hfs
          subst ha
          go_simp
          exact hK.out _ _ ⟨x0, x1, .pointer (some ⟨w.heap.size + 1, 4, none⟩), x3, x4, x5, x6, x7, x8, x9, by kernel_rfl, fun h => absurd (updL_ne h (by decide)) (by rw [h12]; decide), fun h => absurd (updL_ne h (by decide)) (by rw [h12]; decide), fun _ => ⟨hB, fun h => f0 (updL_ne h (by decide)), fun h => f1 (updL_ne h (by decide)), fun _ => rfl, fun h => f3 (updL_ne h (by decide)), fun h => f4 (updL_ne h (by decide)), fun h => f5 (updL_ne h (by decide)), fun h => f6 (updL_ne h (by decide)), fun h => f7 (updL_ne h (by decide)), fun h => f8 (updL_ne h (by decide))⟩⟩
        case s3 =>
          intro l a' w' hk hpre hJ K hK
          obtain ⟨x0, x1, x2, x3, x4, x5, x6, x7, x8, x9, ha, hall, hfin, hfs⟩ := hJ
          have h12 : l 9 = false := upd_last hall hk (by decide)
          clear hall hfin
          obtain ⟨hB, f0, f1, f2, f3, f4, f5, f6, f7, f8⟩ := hfs h12
          clear hfs
          have p2 : l 2 = true := hpre 2 (by kernel_rfl)
          obtain rfl := f2 p2
          have hB9 := HW.out _ hB
          subst ha
          go_simp
          exact hK.out _ _ ⟨x0, x1, .pointer (some ⟨w.heap.size + 1, 4, none⟩), .slice (some ⟨b, off, none⟩) x.eqs.length k4, x4, x5, x6, x7, x8, x9, by kernel_rfl, fun h => absurd (updL_ne h (by decide)) (by rw [h12]; decide), fun h => absurd (updL_ne h (by decide)) (by rw [h12]; decide), fun _ => ⟨hB, fun h => f0 (updL_ne h (by decide)), fun h => f1 (updL_ne h (by decide)), fun h => f2 (updL_ne h (by decide)), fun _ => rfl, fun h => f4 (updL_ne h (by decide)), fun h => f5 (updL_ne h (by decide)), fun h => f6 (updL_ne h (by decide)), fun h => f7 (updL_ne h (by decide)), fun h => f8 (updL_ne h (by decide))⟩⟩
        case s4 =>
          intro l a' w' hk hpre hJ K hK
          obtain ⟨x0, x1, x2, x3, x4, x5, x6, x7, x8, x9, ha, hall, hfin, hfs⟩ := hJ
          have h12 : l 9 = false := upd_last hall hk (by decide)
          clear hall hfin
          obtain ⟨hB, f0, f1, f2, f3, f4, f5, f6, f7, f8⟩ := hfs h12
          clear hfs
          subst ha
          go_simp
          exact hK.out _ _ ⟨x0, x1, x2, x3, .int .i64 (j : Int), x5, x6, x7, x8, x9, by kernel_rfl, fun h => absurd (updL_ne h (by decide)) (by rw [h12]; decide), fun h => absurd (updL_ne h (by decide)) (by rw [h12]; decide), fun _ => ⟨hB, fun h => f0 (updL_ne h (by decide)), fun h => f1 (updL_ne h (by decide)), fun h => f2 (updL_ne h (by decide)), fun h => f3 (updL_ne h (by decide)), fun _ => rfl, fun h => f5 (updL_ne h (by decide)), fun h => f6 (updL_ne h (by decide)), fun h => f7 (updL_ne h (by decide)), fun h => f8 (updL_ne h (by decide))⟩⟩
        case s5 =>
          intro l a' w' hk hpre hJ K hK
          obtain ⟨x0, x1, x2, x3, x4, x5, x6, x7, x8, x9, ha, hall, hfin, hfs⟩ := hJ
          have h12 : l 9 = false := upd_last hall hk (by decide)
          clear hall hfin
          obtain ⟨hB, f0, f1, f2, f3, f4, f5, f6, f7, f8⟩ := hfs h12
          clear hfs
          have p3 : l 3 = true := hpre 3 (by kernel_rfl)
          have p4 : l 4 = true := hpre 4 (by kernel_rfl)
          obtain rfl := f3 p3
          obtain rfl := f4 p4
          subst ha
          go_simp
          exact hK.out _ _ ⟨x0, x1, x2, .slice (some ⟨b, off, none⟩) x.eqs.length k4, .int .i64 (j : Int), .pointer (some ⟨b, off + j * 9, none⟩), x6, x7, x8, x9, by kernel_rfl, fun h => absurd (updL_ne h (by decide)) (by rw [h12]; decide), fun h => absurd (updL_ne h (by decide)) (by rw [h12]; decide), fun _ => ⟨hB, fun h => f0 (updL_ne h (by decide)), fun h => f1 (updL_ne h (by decide)), fun h => f2 (updL_ne h (by decide)), fun h => f3 (updL_ne h (by decide)), fun h => f4 (updL_ne h (by decide)), fun _ => rfl, fun h => f6 (updL_ne h (by decide)), fun h => f7 (updL_ne h (by decide)), fun h => f8 (updL_ne h (by decide))⟩⟩
        case s6 =>
          intro l a' w' hk hpre hJ K hK
          obtain ⟨x0, x1, x2, x3, x4, x5, x6, x7, x8, x9, ha, hall, hfin, hfs⟩ := hJ
          have h12 : l 9 = false := upd_last hall hk (by decide)
          clear hall hfin
          obtain ⟨hB, f0, f1, f2, f3, f4, f5, f6, f7, f8⟩ := hfs h12
          clear hfs
          have p5 : l 5 = true := hpre 5 (by kernel_rfl)
          obtain rfl := f5 p5
          subst ha
          go_simp
          exact hK.out _ _ ⟨x0, x1, x2, x3, x4, .pointer (some ⟨b, off + j * 9, none⟩), .pointer (some ⟨b, off + j * 9 + 2, none⟩), x7, x8, x9, by kernel_rfl, fun h => absurd (updL_ne h (by decide)) (by rw [h12]; decide), fun h => absurd (updL_ne h (by decide)) (by rw [h12]; decide), fun _ => ⟨hB, fun h => f0 (updL_ne h (by decide)), fun h => f1 (updL_ne h (by decide)), fun h => f2 (updL_ne h (by decide)), fun h => f3 (updL_ne h (by decide)), fun h => f4 (updL_ne h (by decide)), fun h => f5 (updL_ne h (by decide)), fun _ => rfl, fun h => f7 (updL_ne h (by decide)), fun h => f8 (updL_ne h (by decide))⟩⟩
        case s7 =>
          intro l a' w' hk hpre hJ K hK
          obtain ⟨x0, x1, x2, x3, x4, x5, x6, x7, x8, x9, ha, hall, hfin, hfs⟩ := hJ
          have h12 : l 9 = false := upd_last hall hk (by decide)
          clear hall hfin
          obtain ⟨hB, f0, f1, f2, f3, f4, f5, f6, f7, f8⟩ := hfs h12
          clear hfs
          have p6 : l 6 = true := hpre 6 (by kernel_rfl)
          obtain rfl := f6 p6
          refine step_load rfl 86 (.tmp 20) rfl Tryz.underlying86 rfl (cs := [c2, c3, c4, c5, c6, c7, c8]) (b := b) (off := off + j * 9 + 2) Hix.out (by rw [ha]; kernel_rfl) rfl (HcE.out _ hB) ?_
          subst ha
          exact hK.out _ _ ⟨x0, x1, x2, x3, x4, x5, .pointer (some ⟨b, off + j * 9 + 2, none⟩), .agg #[c2, c3, c4, c5, c6, c7, c8], x8, x9, by kernel_rfl, fun h => absurd (updL_ne h (by decide)) (by rw [h12]; decide), fun h => absurd (updL_ne h (by decide)) (by rw [h12]; decide), fun _ => ⟨hB, fun h => f0 (updL_ne h (by decide)), fun h => f1 (updL_ne h (by decide)), fun h => f2 (updL_ne h (by decide)), fun h => f3 (updL_ne h (by decide)), fun h => f4 (updL_ne h (by decide)), fun h => f5 (updL_ne h (by decide)), fun h => f6 (updL_ne h (by decide)), fun _ => rfl, fun h => f8 (updL_ne h (by decide))⟩⟩
        case s8 =>
          intro l a' w' hk hpre hJ K hK
          obtain ⟨x0, x1, x2, x3, x4, x5, x6, x7, x8, x9, ha, hall, hfin, hfs⟩ := hJ
          have h12 : l 9 = false := upd_last hall hk (by decide)
          clear hall hfin
          obtain ⟨hB, f0, f1, f2, f3, f4, f5, f6, f7, f8⟩ := hfs h12
          clear hfs
          have p0 : l 0 = true := hpre 0 (by kernel_rfl)
          have p1 : l 1 = true := hpre 1 (by kernel_rfl)
          have p7 : l 7 = true := hpre 7 (by kernel_rfl)
          obtain rfl := f0 p0
          obtain rfl := f1 p1
          obtain rfl := f7 p7
          subst ha
          go_simp
          go_at_call 74
          refine Calls.mono (Hus.out w' hB) ?_
          rintro en w2 ⟨rfl, hb2⟩
          exact hK.out _ _ ⟨.agg #[gc0, gc1], .agg #[r0, r1, .slice A2 x.right.length k2, r3, .slice (some ⟨b, off, none⟩) x.eqs.length k4, .slice A5 x.cons.length k5], x2, x3, x4, x5, x6, .agg #[c2, c3, c4, c5, c6, c7, c8], .bool p, x9, by kernel_rfl, fun h => absurd (updL_ne h (by decide)) (by rw [h12]; decide), fun h => absurd (updL_ne h (by decide)) (by rw [h12]; decide), fun _ => ⟨hB.trans (hb2.mono hB.size), fun h => f0 (updL_ne h (by decide)), fun h => f1 (updL_ne h (by decide)), fun h => f2 (updL_ne h (by decide)), fun h => f3 (updL_ne h (by decide)), fun h => f4 (updL_ne h (by decide)), fun h => f5 (updL_ne h (by decide)), fun h => f6 (updL_ne h (by decide)), fun h => f7 (updL_ne h (by decide)), fun _ => rfl⟩⟩
        case s9 =>
          intro l a' w' hk hpre hJ K hK
          obtain ⟨x0, x1, x2, x3, x4, x5, x6, x7, x8, x9, ha, hall, hfin, hfs⟩ := hJ
          have h12 : l 9 = false := hk
          clear hall hfin
          obtain ⟨hB, f0, f1, f2, f3, f4, f5, f6, f7, f8⟩ := hfs h12
          clear hfs
          have p8 : l 8 = true := hpre 8 (by kernel_rfl)
          obtain rfl := f8 p8
          subst ha
          go_simp
          exact hK.out _ _ ⟨x0, x1, x2, x3, x4, x5, x6, x7, .bool p, .bool (!p), by kernel_rfl, fun _ => deep_all hpre (by kernel_rfl) _, fun _ => ⟨rfl, hB⟩, fun h => absurd h (by simp [updL])⟩
      case hend =>
        intro l a' w' hl hJ
        obtain ⟨x0, x1, x2, x3, x4, x5, x6, x7, x8, x9, ha, _, hfin, _⟩ := hJ
        simp [go_sem] at ha
        subst ha
        replace hfin := hfin (hl 9 (by decide))
        clear hl
        obtain ⟨rfl, hB⟩ := hfin
        have HB2 := hide (HW.out _ hB)
        clear hB
        cases p
        · have Hyes : Hid (useB D g x = true) := hide (by
            unfold useB exprsR
            rw [List.any_append]
            have : (x.eqs.map (·.expr)).any (useE D g x) = true := List.any_eq_true.2 ⟨X.expr, List.mem_map.2 ⟨X, List.mem_of_getElem? HX.out, rfl⟩, bnot_f Hp.out⟩
            rw [this]
            rfl)
          go_wp2_with fail
          go_ret
          exact ⟨ret_bool (by rw [Hyes.out]), Hw.out _ HB2.out⟩
        · have Hno2 : Hid (((x.eqs.take (j + 1)).map (·.expr)).any (useE D g x) = false) := hide (by rw [Hmap.out, List.any_append, Hno.out]; simp [bnot_t Hp.out])
          go_wp2_with fail
          go_roundw
          case rel => exact ⟨j + 1, by omega, by go_num, Hno2, HB2⟩
          case measure => simp [intOf]; omega
    · have hjl : j = x.eqs.length := by omega
      have hj1 : ¬ (j : Int) < (x.eqs.length : Int) := by omega
      have Hall : Hid ((x.eqs.map (·.expr)).any (useE D g x) = false) := hide (by have := Hno.out; rw [hjl, List.take_length] at this; exact this)
      obtain ⟨wo, rfl⟩ : ∃ wo, wo = wr := ⟨_, rfl⟩
      go_wp2_with fail
      go_loopw [6] (fun i wr => ∃ j : Nat, j ≤ x.cons.length ∧ i = .int .i64 j ∧ Hid ((exprsC (x.cons.take j)).any (useE D g x) = false) ∧ Hid (Below (w.heap.size + 2) W0 wr)) (fun i _ => x.cons.length - (intOf i).toNat)
      case atStart => exact ⟨0, by omega, rfl, hide rfl, hide hBr⟩
      case round =>
        clear hj hjl hj1 hbase hBr
        obtain ⟨j, hj, rfl, Hno, Hb⟩ := hrel
        have hBr := Hb.out
        have hbase : w.heap.size + 2 ≤ wr.heap.size := Nat.le_trans hn0 hBr.size
        by_cases hlt : j < x.cons.length
        · have hX : x.cons[j]? = some x.cons[j] := List.getElem?_eq_getElem hlt
          generalize x.cons[j] = X at hX
          obtain ⟨b, off, cs, Fk, hA, _, hbF, hFk, hcl, hcat, hR⟩ := SlR.get (ConR.good D) (Hs5.out W0 (Hw.out W0 hB0)) hX
          subst hA
          obtain ⟨c0, c1, c2, c3, c4, c5, c6, c7, c8, c9, c10, c11, c12, c13, c14, c15, F2, F3, rfl, hT, hV, h16, hFF⟩ := con_open hR
          have hlb2 : b < w.heap.size + 2 := by have := L5.out b hbF; omega
          have hF2W : ∀ k ∈ F2, k < w.heap.size + 2 := fun k hk => by have := L5.out k (hFk k (by rw [hFF]; simp [hk])); omega
          have hF3W : ∀ k ∈ F3, k < w.heap.size + 2 := fun k hk => by have := L5.out k (hFk k (by rw [hFF]; simp [hk])); omega
          have HX := hide hX
          have HW : Hid (∀ W : World, Below wr.heap.size wr W → Below (w.heap.size + 2) W0 W) := hide fun W h => hBr.trans (h.mono hbase)
          have HHus : Hid (∀ W : World, Below (w.heap.size + 2) W0 W → ExR D W X.target [c2, c3, c4, c5, c6, c7, c8] F2) := hide fun W h => (ExR.good D).below hT h hF2W
          have HHut : Hid (∀ W : World, Below (w.heap.size + 2) W0 W → ExR D W X.value [c9, c10, c11, c12, c13, c14, c15] F3) := hide fun W h => (ExR.good D).below hV h hF3W
          have HcE : Hid (∀ W : World, Below wr.heap.size wr W → CellsAt W b (off + j * 16 + 2) [c2, c3, c4, c5, c6, c7, c8]) := hide fun W h i v hv => by
            have := (hcat.below (HW.out W h) hlb2) (2 + i) v (by rw [Nat.add_comm]; have hi : i < 7 := (List.getElem?_eq_some_iff.1 hv).1; have : i = 0 ∨ i = 1 ∨ i = 2 ∨ i = 3 ∨ i = 4 ∨ i = 5 ∨ i = 6 := by omega
                                                                 rcases this with rfl | rfl | rfl | rfl | rfl | rfl | rfl <;> exact hv)
            rwa [← Nat.add_assoc] at this
          have HcF : Hid (∀ W : World, Below wr.heap.size wr W → CellsAt W b (off + j * 16 + 9) [c9, c10, c11, c12, c13, c14, c15]) := hide fun W h i v hv => by have := (hcat.below (HW.out W h) hlb2) (9 + i) v (by simpa [Nat.add_comm] using hv); rwa [← Nat.add_assoc] at this
          have HBp := hide (HbC.out X (List.mem_of_getElem? hX)).1
          have HBq := hide (HbC.out X (List.mem_of_getElem? hX)).2
          have hj0 : (0 : Int) ≤ (j : Int) := by omega
          have hj1 : (j : Int) < (x.cons.length : Int) := by omega
          have Hmap : Hid (exprsC (x.cons.take (j + 1)) = exprsC (x.cons.take j) ++ [X.target, X.value]) := hide (exprsC_snoc hX)
          have Hmem : Hid (∀ e, e = X.target ∨ e = X.value → useE D g x e = true → useB D g x = true) := hide fun e he hu => by
            unfold useB exprsR exprsC
            rw [List.any_append]
            have : (x.cons.flatMap fun c => [c.target, c.value]).any (useE D g x) = true := List.any_eq_true.2 ⟨e, List.mem_flatMap.2 ⟨X, List.mem_of_getElem? hX, by rcases he with rfl | rfl <;> simp⟩, hu⟩
            rw [this, Bool.or_true]
          obtain ⟨p, hp⟩ : ∃ p, p = !useE D g x X.target := ⟨_, rfl⟩
          have Hp := hide hp
          have Hus : Hid (∀ W : World, Below wr.heap.size wr W → Calls Tryz.prog 74 #[.agg #[gc0, gc1], .agg #[r0, r1, .slice A2 x.right.length k2, r3, .slice A4 x.eqs.length k4, .slice (some ⟨b, off, none⟩) x.cons.length k5], .agg #[c2, c3, c4, c5, c6, c7, c8]] W fun en w' => en = .returned (.bool p) ∧ Below W.heap.size W w') := hide fun W h => hp ▸ s_l11Uses D g x X.target _ _ _ Fg Fr F2 W (Hg.out W (Hw.out W (HW.out W h))) (Hr.out W (Hw.out W (HW.out W h))) (HHus.out W (HW.out W h)) Hbg.out HBp.out
          clear hp
          obtain ⟨q, hq⟩ : ∃ p, p = !useE D g x X.value := ⟨_, rfl⟩
          have Hq := hide hq
          have Hut : Hid (∀ W : World, Below wr.heap.size wr W → Calls Tryz.prog 74 #[.agg #[gc0, gc1], .agg #[r0, r1, .slice A2 x.right.length k2, r3, .slice A4 x.eqs.length k4, .slice (some ⟨b, off, none⟩) x.cons.length k5], .agg #[c9, c10, c11, c12, c13, c14, c15]] W fun en w' => en = .returned (.bool q) ∧ Below W.heap.size W w') := hide fun W h => hq ▸ s_l11Uses D g x X.value _ _ _ Fg Fr F3 W (Hg.out W (Hw.out W (HW.out W h))) (Hr.out W (Hw.out W (HW.out W h))) (HHut.out W (HW.out W h)) Hbg.out HBq.out
          clear hq
          clear hX hFk hbF hcl hcat hR hT hV h16 hFF hF2W hF3W
          go_wp2_with fail
          cases p
          · refine region_invA (fun a0 l a' w' => ∃ x0 x1 x2 x3 x4 x5 x6 x7 x8 x9 x10 x11 x12 x13 x14 x15 x16 x17 x18 x19 x20 x21 : Value, a' = ((((((((((((((((((((((a0.put (some 31) x0).put (some 32) x1).put (some 33) x2).put (some 34) x3).put (some 35) x4).put (some 36) x5).put (some 37) x6).put (some 38) x7).put (some 39) x8).put (some 40) x9).put (some 41) x10).put (some 42) x11).put (some 43) x12).put (some 44) x13).put (some 45) x14).put (some 46) x15).put (some 47) x16).put (some 48) x17).put (some 49) x18).put (some 50) x19).put (some 51) x20).put (some 52) x21) ∧ (l 21 = true → ∀ i, i < 21 → l i = true) ∧ (l 21 = true → x21 = .bool true ∧ Below wr.heap.size wr w') ∧ (l 21 = false → Below wr.heap.size wr w' ∧ (l 0 = true → x0 = .agg #[gc0, gc1]) ∧ (l 1 = true → x1 = .agg #[r0, r1, .slice A2 x.right.length k2, r3, .slice A4 x.eqs.length k4, .slice (some ⟨b, off, none⟩) x.cons.length k5]) ∧ (l 2 = true → x2 = .pointer (some ⟨w.heap.size + 1, 5, none⟩)) ∧ (l 3 = true → x3 = .slice (some ⟨b, off, none⟩) x.cons.length k5) ∧ (l 4 = true → x4 = .int .i64 (j : Int)) ∧ (l 5 = true → x5 = .pointer (some ⟨b, off + j * 16, none⟩)) ∧ (l 6 = true → x6 = .pointer (some ⟨b, off + j * 16 + 2, none⟩)) ∧ (l 7 = true → x7 = .agg #[c2, c3, c4, c5, c6, c7, c8]) ∧ (l 8 = true → x8 = .bool false) ∧ (l 9 = true → x9 = .bool true) ∧ (l 10 = true → x10 = .bool true))) rfl (by kernel_rfl) ?h0 ?hstep ?hend
            case h0 => exact ⟨u31, u32, u33, u34, u35, u36, u37, u38, u39, u40, u41, u42, u43, u44, u45, u46, u47, u48, u49, u50, u51, u52, by kernel_rfl, fun h => absurd h (by decide), fun h => absurd h (by decide), fun _ => ⟨(Below.refl _ _).drew, fun h => absurd h (by decide), fun h => absurd h (by decide), fun h => absurd h (by decide), fun h => absurd h (by decide), fun h => absurd h (by decide), fun h => absurd h (by decide), fun h => absurd h (by decide), fun h => absurd h (by decide), fun h => absurd h (by decide), fun h => absurd h (by decide), fun h => absurd h (by decide)⟩⟩
            case hstep =>
              refine ⟨?s0, ?s1, ?s2, ?s3, ?s4, ?s5, ?s6, ?s7, ?s8, ?s9, ?s10, ?s11, ?s12, ?s13, ?s14, ?s15, ?s16, ?s17, ?s18, ?s19, ?s20, ?s21, trivial⟩
              case s0 =>
                intro l a' w' hk hpre hJ K hK
                obtain ⟨x0, x1, x2, x3, x4, x5, x6, x7, x8, x9, x10, x11, x12, x13, x14, x15, x16, x17, x18, x19, x20, x21, ha, hall, hfin, hfs⟩ := hJ
                have h12 : l 21 = false := upd_last hall hk (by decide)
                clear hall hfin
                obtain ⟨hB, f0, f1, f2, f3, f4, f5, f6, f7, f8, f9, f10⟩ := hfs h12
                clear hfs
                refine step_load rfl 32 (.tmp 2) rfl Tryz.underlying32 rfl (cs := [gc0, gc1]) (b := w.heap.size) (off := 0) Hig.out (by rw [ha]; kernel_rfl) rfl (HcG.out _ (HW.out _ hB)) ?_
                subst ha
                exact hK.out _ _ ⟨.agg #[gc0, gc1], x1, x2, x3, x4, x5, x6, x7, x8, x9, x10, x11, x12, x13, x14, x15, x16, x17, x18, x19, x20, x21, by kernel_rfl, fun h => absurd (updL_ne h (by decide)) (by rw [h12]; decide), fun h => absurd (updL_ne h (by decide)) (by rw [h12]; decide), fun _ => ⟨hB, fun _ => rfl, fun h => f1 (updL_ne h (by decide)), fun h => f2 (updL_ne h (by decide)), fun h => f3 (updL_ne h (by decide)), fun h => f4 (updL_ne h (by decide)), fun h => f5 (updL_ne h (by decide)), fun h => f6 (updL_ne h (by decide)), fun h => f7 (updL_ne h (by decide)), fun h => f8 (updL_ne h (by decide)), fun h => f9 (updL_ne h (by decide)), fun h => f10 (updL_ne h (by decide))⟩⟩
              case s1 =>
                intro l a' w' hk hpre hJ K hK
                obtain ⟨x0, x1, x2, x3, x4, x5, x6, x7, x8, x9, x10, x11, x12, x13, x14, x15, x16, x17, x18, x19, x20, x21, ha, hall, hfin, hfs⟩ := hJ
                have h12 : l 21 = false := upd_last hall hk (by decide)
                clear hall hfin
                obtain ⟨hB, f0, f1, f2, f3, f4, f5, f6, f7, f8, f9, f10⟩ := hfs h12
                clear hfs
                refine step_load rfl 50 (.tmp 3) rfl Tryz.underlying50 rfl (cs := [r0, r1, .slice A2 x.right.length k2, r3, .slice A4 x.eqs.length k4, .slice (some ⟨b, off, none⟩) x.cons.length k5]) (b := w.heap.size + 1) (off := 0) Hir.out (by rw [ha]; kernel_rfl) rfl (HcR.out _ (HW.out _ hB)) ?_
                subst ha
                exact hK.out _ _ ⟨x0, .agg #[r0, r1, .slice A2 x.right.length k2, r3, .slice A4 x.eqs.length k4, .slice (some ⟨b, off, none⟩) x.cons.length k5], x2, x3, x4, x5, x6, x7, x8, x9, x10, x11, x12, x13, x14, x15, x16, x17, x18, x19, x20, x21, by kernel_rfl, fun h => absurd (updL_ne h (by decide)) (by rw [h12]; decide), fun h => absurd (updL_ne h (by decide)) (by rw [h12]; decide), fun _ => ⟨hB, fun h => f0 (updL_ne h (by decide)), fun _ => rfl, fun h => f2 (updL_ne h (by decide)), fun h => f3 (updL_ne h (by decide)), fun h => f4 (updL_ne h (by decide)), fun h => f5 (updL_ne h (by decide)), fun h => f6 (updL_ne h (by decide)), fun h => f7 (updL_ne h (by decide)), fun h => f8 (updL_ne h (by decide)), fun h => f9 (updL_ne h (by decide)), fun h => f10 (updL_ne h (by decide))⟩⟩
              case s2 =>
                intro l a' w' hk hpre hJ K hK
                obtain ⟨x0, x1, x2, x3, x4, x5, x6, x7, x8, x9, x10, x11, x12, x13, x14, x15, x16, x17, x18, x19, x20, x21, ha, hall, hfin, hfs⟩ := hJ
                have h12 : l 21 = false := upd_last hall hk (by decide)
                clear hall hfin
                obtain ⟨hB, f0, f1, f2, f3, f4, f5, f6, f7, f8, f9, f10⟩ := hfs h12
                clear hfs
                subst ha
                go_simp
                exact hK.out _ _ ⟨x0, x1, .pointer (some ⟨w.heap.size + 1, 5, none⟩), x3, x4, x5, x6, x7, x8, x9, x10, x11, x12, x13, x14, x15, x16, x17, x18, x19, x20, x21, by kernel_rfl, fun h => absurd (updL_ne h (by decide)) (by rw [h12]; decide), fun h => absurd (updL_ne h (by decide)) (by rw [h12]; decide), fun _ => ⟨hB, fun h => f0 (updL_ne h (by decide)), fun h => f1 (updL_ne h (by decide)), fun _ => rfl, fun h => f3 (updL_ne h (by decide)), fun h => f4 (updL_ne h (by decide)), fun h => f5 (updL_ne h (by decide)), fun h => f6 (updL_ne h (by decide)), fun h => f7 (updL_ne h (by decide)), fun h => f8 (updL_ne h (by decide)), fun h => f9 (updL_ne h (by decide)), fun h => f10 (updL_ne h (by decide))⟩⟩
              case s3 =>
                intro l a' w' hk hpre hJ K hK
                obtain ⟨x0, x1, x2, x3, x4, x5, x6, x7, x8, x9, x10, x11, x12, x13, x14, x15, x16, x17, x18, x19, x20, x21, ha, hall, hfin, hfs⟩ := hJ
                have h12 : l 21 = false := upd_last hall hk (by decide)
                clear hall hfin
                obtain ⟨hB, f0, f1, f2, f3, f4, f5, f6, f7, f8, f9, f10⟩ := hfs h12
                clear hfs
                have p2 : l 2 = true := hpre 2 (by kernel_rfl)
                obtain rfl := f2 p2
                have hB9 := HW.out _ hB
                subst ha
                go_simp
                exact hK.out _ _ ⟨x0, x1, .pointer (some ⟨w.heap.size + 1, 5, none⟩), .slice (some ⟨b, off, none⟩) x.cons.length k5, x4, x5, x6, x7, x8, x9, x10, x11, x12, x13, x14, x15, x16, x17, x18, x19, x20, x21, by kernel_rfl, fun h => absurd (updL_ne h (by decide)) (by rw [h12]; decide), fun h => absurd (updL_ne h (by decide)) (by rw [h12]; decide), fun _ => ⟨hB, fun h => f0 (updL_ne h (by decide)), fun h => f1 (updL_ne h (by decide)), fun h => f2 (updL_ne h (by decide)), fun _ => rfl, fun h => f4 (updL_ne h (by decide)), fun h => f5 (updL_ne h (by decide)), fun h => f6 (updL_ne h (by decide)), fun h => f7 (updL_ne h (by decide)), fun h => f8 (updL_ne h (by decide)), fun h => f9 (updL_ne h (by decide)), fun h => f10 (updL_ne h (by decide))⟩⟩
              case s4 =>
                intro l a' w' hk hpre hJ K hK
                obtain ⟨x0, x1, x2, x3, x4, x5, x6, x7, x8, x9, x10, x11, x12, x13, x14, x15, x16, x17, x18, x19, x20, x21, ha, hall, hfin, hfs⟩ := hJ
                have h12 : l 21 = false := upd_last hall hk (by decide)
                clear hall hfin
                obtain ⟨hB, f0, f1, f2, f3, f4, f5, f6, f7, f8, f9, f10⟩ := hfs h12
                clear hfs
                subst ha
                go_simp
                exact hK.out _ _ ⟨x0, x1, x2, x3, .int .i64 (j : Int), x5, x6, x7, x8, x9, x10, x11, x12, x13, x14, x15, x16, x17, x18, x19, x20, x21, by kernel_rfl, fun h => absurd (updL_ne h (by decide)) (by rw [h12]; decide), fun h => absurd (updL_ne h (by decide)) (by rw [h12]; decide), fun _ => ⟨hB, fun h => f0 (updL_ne h (by decide)), fun h => f1 (updL_ne h (by decide)), fun h => f2 (updL_ne h (by decide)), fun h => f3 (updL_ne h (by decide)), fun _ => rfl, fun h => f5 (updL_ne h (by decide)), fun h => f6 (updL_ne h (by decide)), fun h => f7 (updL_ne h (by decide)), fun h => f8 (updL_ne h (by decide)), fun h => f9 (updL_ne h (by decide)), fun h => f10 (updL_ne h (by decide))⟩⟩
              case s5 =>
                intro l a' w' hk hpre hJ K hK
                obtain ⟨x0, x1, x2, x3, x4, x5, x6, x7, x8, x9, x10, x11, x12, x13, x14, x15, x16, x17, x18, x19, x20, x21, ha, hall, hfin, hfs⟩ := hJ
                have h12 : l 21 = false := upd_last hall hk (by decide)
                clear hall hfin
                obtain ⟨hB, f0, f1, f2, f3, f4, f5, f6, f7, f8, f9, f10⟩ := hfs h12
                clear hfs
                have p3 : l 3 = true := hpre 3 (by kernel_rfl)
                have p4 : l 4 = true := hpre 4 (by kernel_rfl)
                obtain rfl := f3 p3
                obtain rfl := f4 p4
                subst ha
                go_simp
                exact hK.out _ _ ⟨x0, x1, x2, .slice (some ⟨b, off, none⟩) x.cons.length k5, .int .i64 (j : Int), .pointer (some ⟨b, off + j * 16, none⟩), x6, x7, x8, x9, x10, x11, x12, x13, x14, x15, x16, x17, x18, x19, x20, x21, by kernel_rfl, fun h => absurd (updL_ne h (by decide)) (by rw [h12]; decide), fun h => absurd (updL_ne h (by decide)) (by rw [h12]; decide), fun _ => ⟨hB, fun h => f0 (updL_ne h (by decide)), fun h => f1 (updL_ne h (by decide)), fun h => f2 (updL_ne h (by decide)), fun h => f3 (updL_ne h (by decide)), fun h => f4 (updL_ne h (by decide)), fun _ => rfl, fun h => f6 (updL_ne h (by decide)), fun h => f7 (updL_ne h (by decide)), fun h => f8 (updL_ne h (by decide)), fun h => f9 (updL_ne h (by decide)), fun h => f10 (updL_ne h (by decide))⟩⟩
              case s6 =>
                intro l a' w' hk hpre hJ K hK
                obtain ⟨x0, x1, x2, x3, x4, x5, x6, x7, x8, x9, x10, x11, x12, x13, x14, x15, x16, x17, x18, x19, x20, x21, ha, hall, hfin, hfs⟩ := hJ
                have h12 : l 21 = false := upd_last hall hk (by decide)
                clear hall hfin
                obtain ⟨hB, f0, f1, f2, f3, f4, f5, f6, f7, f8, f9, f10⟩ := hfs h12
                clear hfs
                have p5 : l 5 = true := hpre 5 (by kernel_rfl)
                obtain rfl := f5 p5
                subst ha
                go_simp
                exact hK.out _ _ ⟨x0, x1, x2, x3, x4, .pointer (some ⟨b, off + j * 16, none⟩), .pointer (some ⟨b, off + j * 16 + 2, none⟩), x7, x8, x9, x10, x11, x12, x13, x14, x15, x16, x17, x18, x19, x20, x21, by kernel_rfl, fun h => absurd (updL_ne h (by decide)) (by rw [h12]; decide), fun h => absurd (updL_ne h (by decide)) (by rw [h12]; decide), fun _ => ⟨hB, fun h => f0 (updL_ne h (by decide)), fun h => f1 (updL_ne h (by decide)), fun h => f2 (updL_ne h (by decide)), fun h => f3 (updL_ne h (by decide)), fun h => f4 (updL_ne h (by decide)), fun h => f5 (updL_ne h (by decide)), fun _ => rfl, fun h => f7 (updL_ne h (by decide)), fun h => f8 (updL_ne h (by decide)), fun h => f9 (updL_ne h (by decide)), fun h => f10 (updL_ne h (by decide))⟩⟩
              case s7 =>
                intro l a' w' hk hpre hJ K hK
                obtain ⟨x0, x1, x2, x3, x4, x5, x6, x7, x8, x9, x10, x11, x12, x13, x14, x15, x16, x17, x18, x19, x20, x21, ha, hall, hfin, hfs⟩ := hJ
                have h12 : l 21 = false := upd_last hall hk (by decide)
                clear hall hfin
                obtain ⟨hB, f0, f1, f2, f3, f4, f5, f6, f7, f8, f9, f10⟩ := hfs h12
                clear hfs
                have p6 : l 6 = true := hpre 6 (by kernel_rfl)
                obtain rfl := f6 p6
                refine step_load rfl 86 (.tmp 37) rfl Tryz.underlying86 rfl (cs := [c2, c3, c4, c5, c6, c7, c8]) (b := b) (off := off + j * 16 + 2) Hix.out (by rw [ha]; kernel_rfl) rfl (HcE.out _ hB) ?_
                subst ha
                exact hK.out _ _ ⟨x0, x1, x2, x3, x4, x5, .pointer (some ⟨b, off + j * 16 + 2, none⟩), .agg #[c2, c3, c4, c5, c6, c7, c8], x8, x9, x10, x11, x12, x13, x14, x15, x16, x17, x18, x19, x20, x21, by kernel_rfl, fun h => absurd (updL_ne h (by decide)) (by rw [h12]; decide), fun h => absurd (updL_ne h (by decide)) (by rw [h12]; decide), fun _ => ⟨hB, fun h => f0 (updL_ne h (by decide)), fun h => f1 (updL_ne h (by decide)), fun h => f2 (updL_ne h (by decide)), fun h => f3 (updL_ne h (by decide)), fun h => f4 (updL_ne h (by decide)), fun h => f5 (updL_ne h (by decide)), fun h => f6 (updL_ne h (by decide)), fun _ => rfl, fun h => f8 (updL_ne h (by decide)), fun h => f9 (updL_ne h (by decide)), fun h => f10 (updL_ne h (by decide))⟩⟩
              case s8 =>
                intro l a' w' hk hpre hJ K hK
                obtain ⟨x0, x1, x2, x3, x4, x5, x6, x7, x8, x9, x10, x11, x12, x13, x14, x15, x16, x17, x18, x19, x20, x21, ha, hall, hfin, hfs⟩ := hJ
                have h12 : l 21 = false := upd_last hall hk (by decide)
                clear hall hfin
                obtain ⟨hB, f0, f1, f2, f3, f4, f5, f6, f7, f8, f9, f10⟩ := hfs h12
                clear hfs
                have p0 : l 0 = true := hpre 0 (by kernel_rfl)
                have p1 : l 1 = true := hpre 1 (by kernel_rfl)
                have p7 : l 7 = true := hpre 7 (by kernel_rfl)
                obtain rfl := f0 p0
                obtain rfl := f1 p1
                obtain rfl := f7 p7
                subst ha
                go_simp
                go_at_call 74
                refine Calls.mono (Hus.out w' hB) ?_
                rintro en w2 ⟨rfl, hb2⟩
                exact hK.out _ _ ⟨.agg #[gc0, gc1], .agg #[r0, r1, .slice A2 x.right.length k2, r3, .slice A4 x.eqs.length k4, .slice (some ⟨b, off, none⟩) x.cons.length k5], x2, x3, x4, x5, x6, .agg #[c2, c3, c4, c5, c6, c7, c8], .bool false, x9, x10, x11, x12, x13, x14, x15, x16, x17, x18, x19, x20, x21, by kernel_rfl, fun h => absurd (updL_ne h (by decide)) (by rw [h12]; decide), fun h => absurd (updL_ne h (by decide)) (by rw [h12]; decide), fun _ => ⟨hB.trans (hb2.mono hB.size), fun h => f0 (updL_ne h (by decide)), fun h => f1 (updL_ne h (by decide)), fun h => f2 (updL_ne h (by decide)), fun h => f3 (updL_ne h (by decide)), fun h => f4 (updL_ne h (by decide)), fun h => f5 (updL_ne h (by decide)), fun h => f6 (updL_ne h (by decide)), fun h => f7 (updL_ne h (by decide)), fun _ => rfl, fun h => f9 (updL_ne h (by decide)), fun h => f10 (updL_ne h (by decide))⟩⟩
              case s9 =>
                intro l a' w' hk hpre hJ K hK
                obtain ⟨x0, x1, x2, x3, x4, x5, x6, x7, x8, x9, x10, x11, x12, x13, x14, x15, x16, x17, x18, x19, x20, x21, ha, hall, hfin, hfs⟩ := hJ
                have h12 : l 21 = false := upd_last hall hk (by decide)
                clear hall hfin
                obtain ⟨hB, f0, f1, f2, f3, f4, f5, f6, f7, f8, f9, f10⟩ := hfs h12
                clear hfs
                have p8 : l 8 = true := hpre 8 (by kernel_rfl)
                obtain rfl := f8 p8
                subst ha
                go_simp
                exact hK.out _ _ ⟨x0, x1, x2, x3, x4, x5, x6, x7, .bool false, .bool true, x10, x11, x12, x13, x14, x15, x16, x17, x18, x19, x20, x21, by kernel_rfl, fun h => absurd (updL_ne h (by decide)) (by rw [h12]; decide), fun h => absurd (updL_ne h (by decide)) (by rw [h12]; decide), fun _ => ⟨hB, fun h => f0 (updL_ne h (by decide)), fun h => f1 (updL_ne h (by decide)), fun h => f2 (updL_ne h (by decide)), fun h => f3 (updL_ne h (by decide)), fun h => f4 (updL_ne h (by decide)), fun h => f5 (updL_ne h (by decide)), fun h => f6 (updL_ne h (by decide)), fun h => f7 (updL_ne h (by decide)), fun h => f8 (updL_ne h (by decide)), fun _ => rfl, fun h => f10 (updL_ne h (by decide))⟩⟩
              case s10 =>
                intro l a' w' hk hpre hJ K hK
                obtain ⟨x0, x1, x2, x3, x4, x5, x6, x7, x8, x9, x10, x11, x12, x13, x14, x15, x16, x17, x18, x19, x20, x21, ha, hall, hfin, hfs⟩ := hJ
                have h12 : l 21 = false := upd_last hall hk (by decide)
                clear hall hfin
                obtain ⟨hB, f0, f1, f2, f3, f4, f5, f6, f7, f8, f9, f10⟩ := hfs h12
                clear hfs
                have p9 : l 9 = true := hpre 9 (by kernel_rfl)
                obtain rfl := f9 p9
                subst ha
                go_simp
                exact hK.out _ _ ⟨x0, x1, x2, x3, x4, x5, x6, x7, x8, .bool true, .bool true, x11, x12, x13, x14, x15, x16, x17, x18, x19, x20, x21, by kernel_rfl, fun h => absurd (updL_ne h (by decide)) (by rw [h12]; decide), fun h => absurd (updL_ne h (by decide)) (by rw [h12]; decide), fun _ => ⟨hB, fun h => f0 (updL_ne h (by decide)), fun h => f1 (updL_ne h (by decide)), fun h => f2 (updL_ne h (by decide)), fun h => f3 (updL_ne h (by decide)), fun h => f4 (updL_ne h (by decide)), fun h => f5 (updL_ne h (by decide)), fun h => f6 (updL_ne h (by decide)), fun h => f7 (updL_ne h (by decide)), fun h => f8 (updL_ne h (by decide)), fun h => f9 (updL_ne h (by decide)), fun _ => rfl⟩⟩
              case s11 =>
                intro l a' w' hk hpre hJ K hK
                obtain ⟨x0, x1, x2, x3, x4, x5, x6, x7, x8, x9, x10, x11, x12, x13, x14, x15, x16, x17, x18, x19, x20, x21, ha, hall, hfin, hfs⟩ := hJ
                have h12 : l 21 = false := upd_last hall hk (by decide)
                clear hall hfin
                obtain ⟨hB, f0, f1, f2, f3, f4, f5, f6, f7, f8, f9, f10⟩ := hfs h12
                clear hfs
                have p10 : l 10 = true := hpre 10 (by kernel_rfl)
                obtain rfl := f10 p10
                refine wanted_no (by rw [ha]; kernel_rfl) ?_
                subst ha
                exact hK.out _ _ ⟨x0, x1, x2, x3, x4, x5, x6, x7, x8, x9, .bool true, undef, x12, x13, x14, x15, x16, x17, x18, x19, x20, x21, by kernel_rfl, fun h => absurd (updL_ne h (by decide)) (by rw [h12]; decide), fun h => absurd (updL_ne h (by decide)) (by rw [h12]; decide), fun _ => ⟨hB, fun h => f0 (updL_ne h (by decide)), fun h => f1 (updL_ne h (by decide)), fun h => f2 (updL_ne h (by decide)), fun h => f3 (updL_ne h (by decide)), fun h => f4 (updL_ne h (by decide)), fun h => f5 (updL_ne h (by decide)), fun h => f6 (updL_ne h (by decide)), fun h => f7 (updL_ne h (by decide)), fun h => f8 (updL_ne h (by decide)), fun h => f9 (updL_ne h (by decide)), fun h => f10 (updL_ne h (by decide))⟩⟩
              case s12 =>
                intro l a' w' hk hpre hJ K hK
                obtain ⟨x0, x1, x2, x3, x4, x5, x6, x7, x8, x9, x10, x11, x12, x13, x14, x15, x16, x17, x18, x19, x20, x21, ha, hall, hfin, hfs⟩ := hJ
                have h12 : l 21 = false := upd_last hall hk (by decide)
                clear hall hfin
                obtain ⟨hB, f0, f1, f2, f3, f4, f5, f6, f7, f8, f9, f10⟩ := hfs h12
                clear hfs
                have p10 : l 10 = true := hpre 10 (by kernel_rfl)
                obtain rfl := f10 p10
                refine wanted_no (by rw [ha]; kernel_rfl) ?_
                subst ha
                exact hK.out _ _ ⟨x0, x1, x2, x3, x4, x5, x6, x7, x8, x9, .bool true, x11, undef, x13, x14, x15, x16, x17, x18, x19, x20, x21, by kernel_rfl, fun h => absurd (updL_ne h (by decide)) (by rw [h12]; decide), fun h => absurd (updL_ne h (by decide)) (by rw [h12]; decide), fun _ => ⟨hB, fun h => f0 (updL_ne h (by decide)), fun h => f1 (updL_ne h (by decide)), fun h => f2 (updL_ne h (by decide)), fun h => f3 (updL_ne h (by decide)), fun h => f4 (updL_ne h (by decide)), fun h => f5 (updL_ne h (by decide)), fun h => f6 (updL_ne h (by decide)), fun h => f7 (updL_ne h (by decide)), fun h => f8 (updL_ne h (by decide)), fun h => f9 (updL_ne h (by decide)), fun h => f10 (updL_ne h (by decide))⟩⟩
              case s13 =>
                intro l a' w' hk hpre hJ K hK
                obtain ⟨x0, x1, x2, x3, x4, x5, x6, x7, x8, x9, x10, x11, x12, x13, x14, x15, x16, x17, x18, x19, x20, x21, ha, hall, hfin, hfs⟩ := hJ
                have h12 : l 21 = false := upd_last hall hk (by decide)
                clear hall hfin
                obtain ⟨hB, f0, f1, f2, f3, f4, f5, f6, f7, f8, f9, f10⟩ := hfs h12
                clear hfs
                have p10 : l 10 = true := hpre 10 (by kernel_rfl)
                obtain rfl := f10 p10
                refine wanted_no (by rw [ha]; kernel_rfl) ?_
                subst ha
                exact hK.out _ _ ⟨x0, x1, x2, x3, x4, x5, x6, x7, x8, x9, .bool true, x11, x12, undef, x14, x15, x16, x17, x18, x19, x20, x21, by kernel_rfl, fun h => absurd (updL_ne h (by decide)) (by rw [h12]; decide), fun h => absurd (updL_ne h (by decide)) (by rw [h12]; decide), fun _ => ⟨hB, fun h => f0 (updL_ne h (by decide)), fun h => f1 (updL_ne h (by decide)), fun h => f2 (updL_ne h (by decide)), fun h => f3 (updL_ne h (by decide)), fun h => f4 (updL_ne h (by decide)), fun h => f5 (updL_ne h (by decide)), fun h => f6 (updL_ne h (by decide)), fun h => f7 (updL_ne h (by decide)), fun h => f8 (updL_ne h (by decide)), fun h => f9 (updL_ne h (by decide)), fun h => f10 (updL_ne h (by decide))⟩⟩
              case s14 =>
                intro l a' w' hk hpre hJ K hK
                obtain ⟨x0, x1, x2, x3, x4, x5, x6, x7, x8, x9, x10, x11, x12, x13, x14, x15, x16, x17, x18, x19, x20, x21, ha, hall, hfin, hfs⟩ := hJ
                have h12 : l 21 = false := upd_last hall hk (by decide)
                clear hall hfin
                obtain ⟨hB, f0, f1, f2, f3, f4, f5, f6, f7, f8, f9, f10⟩ := hfs h12
                clear hfs
                have p10 : l 10 = true := hpre 10 (by kernel_rfl)
                obtain rfl := f10 p10
                refine wanted_no (by rw [ha]; kernel_rfl) ?_
                subst ha
                exact hK.out _ _ ⟨x0, x1, x2, x3, x4, x5, x6, x7, x8, x9, .bool true, x11, x12, x13, undef, x15, x16, x17, x18, x19, x20, x21, by kernel_rfl, fun h => absurd (updL_ne h (by decide)) (by rw [h12]; decide), fun h => absurd (updL_ne h (by decide)) (by rw [h12]; decide), fun _ => ⟨hB, fun h => f0 (updL_ne h (by decide)), fun h => f1 (updL_ne h (by decide)), fun h => f2 (updL_ne h (by decide)), fun h => f3 (updL_ne h (by decide)), fun h => f4 (updL_ne h (by decide)), fun h => f5 (updL_ne h (by decide)), fun h => f6 (updL_ne h (by decide)), fun h => f7 (updL_ne h (by decide)), fun h => f8 (updL_ne h (by decide)), fun h => f9 (updL_ne h (by decide)), fun h => f10 (updL_ne h (by decide))⟩⟩
              case s15 =>
                intro l a' w' hk hpre hJ K hK
                obtain ⟨x0, x1, x2, x3, x4, x5, x6, x7, x8, x9, x10, x11, x12, x13, x14, x15, x16, x17, x18, x19, x20, x21, ha, hall, hfin, hfs⟩ := hJ
                have h12 : l 21 = false := upd_last hall hk (by decide)
                clear hall hfin
                obtain ⟨hB, f0, f1, f2, f3, f4, f5, f6, f7, f8, f9, f10⟩ := hfs h12
                clear hfs
                have p10 : l 10 = true := hpre 10 (by kernel_rfl)
                obtain rfl := f10 p10
                refine wanted_no (by rw [ha]; kernel_rfl) ?_
                subst ha
                exact hK.out _ _ ⟨x0, x1, x2, x3, x4, x5, x6, x7, x8, x9, .bool true, x11, x12, x13, x14, undef, x16, x17, x18, x19, x20, x21, by kernel_rfl, fun h => absurd (updL_ne h (by decide)) (by rw [h12]; decide), fun h => absurd (updL_ne h (by decide)) (by rw [h12]; decide), fun _ => ⟨hB, fun h => f0 (updL_ne h (by decide)), fun h => f1 (updL_ne h (by decide)), fun h => f2 (updL_ne h (by decide)), fun h => f3 (updL_ne h (by decide)), fun h => f4 (updL_ne h (by decide)), fun h => f5 (updL_ne h (by decide)), fun h => f6 (updL_ne h (by decide)), fun h => f7 (updL_ne h (by decide)), fun h => f8 (updL_ne h (by decide)), fun h => f9 (updL_ne h (by decide)), fun h => f10 (updL_ne h (by decide))⟩⟩
              case s16 =>
                intro l a' w' hk hpre hJ K hK
                obtain ⟨x0, x1, x2, x3, x4, x5, x6, x7, x8, x9, x10, x11, x12, x13, x14, x15, x16, x17, x18, x19, x20, x21, ha, hall, hfin, hfs⟩ := hJ
                have h12 : l 21 = false := upd_last hall hk (by decide)
                clear hall hfin
                obtain ⟨hB, f0, f1, f2, f3, f4, f5, f6, f7, f8, f9, f10⟩ := hfs h12
                clear hfs
                have p10 : l 10 = true := hpre 10 (by kernel_rfl)
                obtain rfl := f10 p10
                refine wanted_no (by rw [ha]; kernel_rfl) ?_
                subst ha
                exact hK.out _ _ ⟨x0, x1, x2, x3, x4, x5, x6, x7, x8, x9, .bool true, x11, x12, x13, x14, x15, undef, x17, x18, x19, x20, x21, by kernel_rfl, fun h => absurd (updL_ne h (by decide)) (by rw [h12]; decide), fun h => absurd (updL_ne h (by decide)) (by rw [h12]; decide), fun _ => ⟨hB, fun h => f0 (updL_ne h (by decide)), fun h => f1 (updL_ne h (by decide)), fun h => f2 (updL_ne h (by decide)), fun h => f3 (updL_ne h (by decide)), fun h => f4 (updL_ne h (by decide)), fun h => f5 (updL_ne h (by decide)), fun h => f6 (updL_ne h (by decide)), fun h => f7 (updL_ne h (by decide)), fun h => f8 (updL_ne h (by decide)), fun h => f9 (updL_ne h (by decide)), fun h => f10 (updL_ne h (by decide))⟩⟩
              case s17 =>
                intro l a' w' hk hpre hJ K hK
                obtain ⟨x0, x1, x2, x3, x4, x5, x6, x7, x8, x9, x10, x11, x12, x13, x14, x15, x16, x17, x18, x19, x20, x21, ha, hall, hfin, hfs⟩ := hJ
                have h12 : l 21 = false := upd_last hall hk (by decide)
                clear hall hfin
                obtain ⟨hB, f0, f1, f2, f3, f4, f5, f6, f7, f8, f9, f10⟩ := hfs h12
                clear hfs
                have p10 : l 10 = true := hpre 10 (by kernel_rfl)
                obtain rfl := f10 p10
                refine wanted_no (by rw [ha]; kernel_rfl) ?_
                subst ha
                exact hK.out _ _ ⟨x0, x1, x2, x3, x4, x5, x6, x7, x8, x9, .bool true, x11, x12, x13, x14, x15, x16, undef, x18, x19, x20, x21, by kernel_rfl, fun h => absurd (updL_ne h (by decide)) (by rw [h12]; decide), fun h => absurd (updL_ne h (by decide)) (by rw [h12]; decide), fun _ => ⟨hB, fun h => f0 (updL_ne h (by decide)), fun h => f1 (updL_ne h (by decide)), fun h => f2 (updL_ne h (by decide)), fun h => f3 (updL_ne h (by decide)), fun h => f4 (updL_ne h (by decide)), fun h => f5 (updL_ne h (by decide)), fun h => f6 (updL_ne h (by decide)), fun h => f7 (updL_ne h (by decide)), fun h => f8 (updL_ne h (by decide)), fun h => f9 (updL_ne h (by decide)), fun h => f10 (updL_ne h (by decide))⟩⟩
              case s18 =>
                intro l a' w' hk hpre hJ K hK
                obtain ⟨x0, x1, x2, x3, x4, x5, x6, x7, x8, x9, x10, x11, x12, x13, x14, x15, x16, x17, x18, x19, x20, x21, ha, hall, hfin, hfs⟩ := hJ
                have h12 : l 21 = false := upd_last hall hk (by decide)
                clear hall hfin
                obtain ⟨hB, f0, f1, f2, f3, f4, f5, f6, f7, f8, f9, f10⟩ := hfs h12
                clear hfs
                have p10 : l 10 = true := hpre 10 (by kernel_rfl)
                obtain rfl := f10 p10
                refine wanted_no (by rw [ha]; kernel_rfl) ?_
                subst ha
                exact hK.out _ _ ⟨x0, x1, x2, x3, x4, x5, x6, x7, x8, x9, .bool true, x11, x12, x13, x14, x15, x16, x17, undef, x19, x20, x21, by kernel_rfl, fun h => absurd (updL_ne h (by decide)) (by rw [h12]; decide), fun h => absurd (updL_ne h (by decide)) (by rw [h12]; decide), fun _ => ⟨hB, fun h => f0 (updL_ne h (by decide)), fun h => f1 (updL_ne h (by decide)), fun h => f2 (updL_ne h (by decide)), fun h => f3 (updL_ne h (by decide)), fun h => f4 (updL_ne h (by decide)), fun h => f5 (updL_ne h (by decide)), fun h => f6 (updL_ne h (by decide)), fun h => f7 (updL_ne h (by decide)), fun h => f8 (updL_ne h (by decide)), fun h => f9 (updL_ne h (by decide)), fun h => f10 (updL_ne h (by decide))⟩⟩
              case s19 =>
                intro l a' w' hk hpre hJ K hK
                obtain ⟨x0, x1, x2, x3, x4, x5, x6, x7, x8, x9, x10, x11, x12, x13, x14, x15, x16, x17, x18, x19, x20, x21, ha, hall, hfin, hfs⟩ := hJ
                have h12 : l 21 = false := upd_last hall hk (by decide)
                clear hall hfin
                obtain ⟨hB, f0, f1, f2, f3, f4, f5, f6, f7, f8, f9, f10⟩ := hfs h12
                clear hfs
                have p10 : l 10 = true := hpre 10 (by kernel_rfl)
                obtain rfl := f10 p10
                refine wanted_no (by rw [ha]; kernel_rfl) ?_
                subst ha
                exact hK.out _ _ ⟨x0, x1, x2, x3, x4, x5, x6, x7, x8, x9, .bool true, x11, x12, x13, x14, x15, x16, x17, x18, undef, x20, x21, by kernel_rfl, fun h => absurd (updL_ne h (by decide)) (by rw [h12]; decide), fun h => absurd (updL_ne h (by decide)) (by rw [h12]; decide), fun _ => ⟨hB, fun h => f0 (updL_ne h (by decide)), fun h => f1 (updL_ne h (by decide)), fun h => f2 (updL_ne h (by decide)), fun h => f3 (updL_ne h (by decide)), fun h => f4 (updL_ne h (by decide)), fun h => f5 (updL_ne h (by decide)), fun h => f6 (updL_ne h (by decide)), fun h => f7 (updL_ne h (by decide)), fun h => f8 (updL_ne h (by decide)), fun h => f9 (updL_ne h (by decide)), fun h => f10 (updL_ne h (by decide))⟩⟩
              case s20 =>
                intro l a' w' hk hpre hJ K hK
                obtain ⟨x0, x1, x2, x3, x4, x5, x6, x7, x8, x9, x10, x11, x12, x13, x14, x15, x16, x17, x18, x19, x20, x21, ha, hall, hfin, hfs⟩ := hJ
                have h12 : l 21 = false := upd_last hall hk (by decide)
                clear hall hfin
                obtain ⟨hB, f0, f1, f2, f3, f4, f5, f6, f7, f8, f9, f10⟩ := hfs h12
                clear hfs
                have p10 : l 10 = true := hpre 10 (by kernel_rfl)
                obtain rfl := f10 p10
                refine wanted_no (by rw [ha]; kernel_rfl) ?_
                subst ha
                exact hK.out _ _ ⟨x0, x1, x2, x3, x4, x5, x6, x7, x8, x9, .bool true, x11, x12, x13, x14, x15, x16, x17, x18, x19, undef, x21, by kernel_rfl, fun h => absurd (updL_ne h (by decide)) (by rw [h12]; decide), fun h => absurd (updL_ne h (by decide)) (by rw [h12]; decide), fun _ => ⟨hB, fun h => f0 (updL_ne h (by decide)), fun h => f1 (updL_ne h (by decide)), fun h => f2 (updL_ne h (by decide)), fun h => f3 (updL_ne h (by decide)), fun h => f4 (updL_ne h (by decide)), fun h => f5 (updL_ne h (by decide)), fun h => f6 (updL_ne h (by decide)), fun h => f7 (updL_ne h (by decide)), fun h => f8 (updL_ne h (by decide)), fun h => f9 (updL_ne h (by decide)), fun h => f10 (updL_ne h (by decide))⟩⟩
              case s21 =>
                intro l a' w' hk hpre hJ K hK
                obtain ⟨x0, x1, x2, x3, x4, x5, x6, x7, x8, x9, x10, x11, x12, x13, x14, x15, x16, x17, x18, x19, x20, x21, ha, hall, hfin, hfs⟩ := hJ
                have h12 : l 21 = false := hk
                clear hall hfin
                obtain ⟨hB, f0, f1, f2, f3, f4, f5, f6, f7, f8, f9, f10⟩ := hfs h12
                clear hfs
                have p10 : l 10 = true := hpre 10 (by kernel_rfl)
                obtain rfl := f10 p10
                subst ha
                go_simp
                exact hK.out _ _ ⟨x0, x1, x2, x3, x4, x5, x6, x7, x8, x9, .bool true, x11, x12, x13, x14, x15, x16, x17, x18, x19, x20, .bool true, by kernel_rfl, fun _ => deep_all hpre (by kernel_rfl) _, fun _ => ⟨rfl, hB⟩, fun h => absurd h (by simp [updL])⟩
            case hend =>
              intro l a' w' hl hJ
              obtain ⟨x0, x1, x2, x3, x4, x5, x6, x7, x8, x9, x10, x11, x12, x13, x14, x15, x16, x17, x18, x19, x20, x21, ha, _, hfin, _⟩ := hJ
              simp [go_sem] at ha
              subst ha
              replace hfin := hfin (hl 21 (by decide))
              clear hl
              obtain ⟨rfl, hB⟩ := hfin
              have HB2 := hide (HW.out _ hB)
              clear hB
              have Hyes : Hid (useB D g x = true) := hide (Hmem.out _ (.inl rfl) (bnot_f Hp.out))
              go_wp2_with fail
              go_ret
              exact ⟨ret_bool (by rw [Hyes.out]), Hw.out _ HB2.out⟩
          · refine region_invA (fun a0 l a' w' => ∃ x0 x1 x2 x3 x4 x5 x6 x7 x8 x9 x10 x11 x12 x13 x14 x15 x16 x17 x18 x19 x20 x21 : Value, a' = ((((((((((((((((((((((a0.put (some 31) x0).put (some 32) x1).put (some 33) x2).put (some 34) x3).put (some 35) x4).put (some 36) x5).put (some 37) x6).put (some 38) x7).put (some 39) x8).put (some 40) x9).put (some 41) x10).put (some 42) x11).put (some 43) x12).put (some 44) x13).put (some 45) x14).put (some 46) x15).put (some 47) x16).put (some 48) x17).put (some 49) x18).put (some 50) x19).put (some 51) x20).put (some 52) x21) ∧ (l 21 = true → ∀ i, i < 21 → l i = true) ∧ (l 21 = true → x21 = .bool (!q) ∧ Below wr.heap.size wr w') ∧ (l 21 = false → Below wr.heap.size wr w' ∧ (l 0 = true → x0 = .agg #[gc0, gc1]) ∧ (l 1 = true → x1 = .agg #[r0, r1, .slice A2 x.right.length k2, r3, .slice A4 x.eqs.length k4, .slice (some ⟨b, off, none⟩) x.cons.length k5]) ∧ (l 2 = true → x2 = .pointer (some ⟨w.heap.size + 1, 5, none⟩)) ∧ (l 3 = true → x3 = .slice (some ⟨b, off, none⟩) x.cons.length k5) ∧ (l 4 = true → x4 = .int .i64 (j : Int)) ∧ (l 5 = true → x5 = .pointer (some ⟨b, off + j * 16, none⟩)) ∧ (l 6 = true → x6 = .pointer (some ⟨b, off + j * 16 + 2, none⟩)) ∧ (l 7 = true → x7 = .agg #[c2, c3, c4, c5, c6, c7, c8]) ∧ (l 8 = true → x8 = .bool true) ∧ (l 9 = true → x9 = .bool false) ∧ (l 10 = true → x10 = .bool false) ∧ (l 11 = true → x11 = .agg #[gc0, gc1]) ∧ (l 12 = true → x12 = .agg #[r0, r1, .slice A2 x.right.length k2, r3, .slice A4 x.eqs.length k4, .slice (some ⟨b, off, none⟩) x.cons.length k5]) ∧ (l 13 = true → x13 = .pointer (some ⟨w.heap.size + 1, 5, none⟩)) ∧ (l 14 = true → x14 = .slice (some ⟨b, off, none⟩) x.cons.length k5) ∧ (l 15 = true → x15 = .int .i64 (j : Int)) ∧ (l 16 = true → x16 = .pointer (some ⟨b, off + j * 16, none⟩)) ∧ (l 17 = true → x17 = .pointer (some ⟨b, off + j * 16 + 9, none⟩)) ∧ (l 18 = true → x18 = .agg #[c9, c10, c11, c12, c13, c14, c15]) ∧ (l 19 = true → x19 = .bool q) ∧ (l 20 = true → x20 = .bool (!q)))) rfl (by kernel_rfl) ?h0 ?hstep ?hend
            case h0 => exact ⟨u31, u32, u33, u34, u35, u36, u37, u38, u39, u40, u41, u42, u43, u44, u45, u46, u47, u48, u49, u50, u51, u52, by kernel_rfl, fun h => absurd h (by decide), fun h => absurd h (by decide), fun _ => ⟨(Below.refl _ _).drew, fun h => absurd h (by decide), fun h => absurd h (by decide), fun h => absurd h (by decide), fun h => absurd h (by decide), fun h => absurd h (by decide), fun h => absurd h (by decide), fun h => absurd h (by decide), fun h => absurd h (by decide), fun h => absurd h (by decide), fun h => absurd h (by decide), fun h => absurd h (by decide), fun h => absurd h (by decide), fun h => absurd h (by decide), fun h => absurd h (by decide), fun h => absurd h (by decide), fun h => absurd h (by decide), fun h => absurd h (by decide), fun h => absurd h (by decide), fun h => absurd h (by decide), fun h => absurd h (by decide), fun h => absurd h (by decide)⟩⟩
            case hstep =>
              refine ⟨?s0, ?s1, ?s2, ?s3, ?s4, ?s5, ?s6, ?s7, ?s8, ?s9, ?s10, ?s11, ?s12, ?s13, ?s14, ?s15, ?s16, ?s17, ?s18, ?s19, ?s20, ?s21, trivial⟩
              case s0 =>
                intro l a' w' hk hpre hJ K hK
                obtain ⟨x0, x1, x2, x3, x4, x5, x6, x7, x8, x9, x10, x11, x12, x13, x14, x15, x16, x17, x18, x19, x20, x21, ha, hall, hfin, hfs⟩ := hJ
                have h12 : l 21 = false := upd_last hall hk (by decide)
                clear hall hfin
                obtain ⟨hB, f0, f1, f2, f3, f4, f5, f6, f7, f8, f9, f10, f11, f12, f13, f14, f15, f16, f17, f18, f19, f20⟩ := hfs h12
                clear hfs
                refine step_load rfl 32 (.tmp 2) rfl Tryz.underlying32 rfl (cs := [gc0, gc1]) (b := w.heap.size) (off := 0) Hig.out (by rw [ha]; kernel_rfl) rfl (HcG.out _ (HW.out _ hB)) ?_
                subst ha
                exact hK.out _ _ ⟨.agg #[gc0, gc1], x1, x2, x3, x4, x5, x6, x7, x8, x9, x10, x11, x12, x13, x14, x15, x16, x17, x18, x19, x20, x21, by kernel_rfl, fun h => absurd (updL_ne h (by decide)) (by rw [h12]; decide), fun h => absurd (updL_ne h (by decide)) (by rw [h12]; decide), fun _ => ⟨hB, fun _ => rfl, fun h => f1 (updL_ne h (by decide)), fun h => f2 (updL_ne h (by decide)), fun h => f3 (updL_ne h (by decide)), fun h => f4 (updL_ne h (by decide)), fun h => f5 (updL_ne h (by decide)), fun h => f6 (updL_ne h (by decide)), fun h => f7 (updL_ne h (by decide)), fun h => f8 (updL_ne h (by decide)), fun h => f9 (updL_ne h (by decide)), fun h => f10 (updL_ne h (by decide)), fun h => f11 (updL_ne h (by decide)), fun h => f12 (updL_ne h (by decide)), fun h => f13 (updL_ne h (by decide)), fun h => f14 (updL_ne h (by decide)), fun h => f15 (updL_ne h (by decide)), fun h => f16 (updL_ne h (by decide)), fun h => f17 (updL_ne h (by decide)), fun h => f18 (updL_ne h (by decide)), fun h => f19 (updL_ne h (by decide)), fun h => f20 (updL_ne h (by decide))⟩⟩
              case s1 =>
                intro l a' w' hk hpre hJ K hK
                obtain ⟨x0, x1, x2, x3, x4, x5, x6, x7, x8, x9, x10, x11, x12, x13, x14, x15, x16, x17, x18, x19, x20, x21, ha, hall, hfin, hfs⟩ := hJ
                have h12 : l 21 = false := upd_last hall hk (by decide)
                clear hall hfin
                obtain ⟨hB, f0, f1, f2, f3, f4, f5, f6, f7, f8, f9, f10, f11, f12, f13, f14, f15, f16, f17, f18, f19, f20⟩ := hfs h12
                clear hfs
                refine step_load rfl 50 (.tmp 3) rfl Tryz.underlying50 rfl (cs := [r0, r1, .slice A2 x.right.length k2, r3, .slice A4 x.eqs.length k4, .slice (some ⟨b, off, none⟩) x.cons.length k5]) (b := w.heap.size + 1) (off := 0) Hir.out (by rw [ha]; kernel_rfl) rfl (HcR.out _ (HW.out _ hB)) ?_
                subst ha
                exact hK.out _ _ ⟨x0, .agg #[r0, r1, .slice A2 x.right.length k2, r3, .slice A4 x.eqs.length k4, .slice (some ⟨b, off, none⟩) x.cons.length k5], x2, x3, x4, x5, x6, x7, x8, x9, x10, x11, x12, x13, x14, x15, x16, x17, x18, x19, x20, x21, by kernel_rfl, fun h => absurd (updL_ne h (by decide)) (by rw [h12]; decide), fun h => absurd (updL_ne h (by decide)) (by rw [h12]; decide), fun _ => ⟨hB, fun h => f0 (updL_ne h (by decide)), fun _ => rfl, fun h => f2 (updL_ne h (by decide)), fun h => f3 (updL_ne h (by decide)), fun h => f4 (updL_ne h (by decide)), fun h => f5 (updL_ne h (by decide)), fun h => f6 (updL_ne h (by decide)), fun h => f7 (updL_ne h (by decide)), fun h => f8 (updL_ne h (by decide)), fun h => f9 (updL_ne h (by decide)), fun h => f10 (updL_ne h (by decide)), fun h => f11 (updL_ne h (by decide)), fun h => f12 (updL_ne h (by decide)), fun h => f13 (updL_ne h (by decide)), fun h => f14 (updL_ne h (by decide)), fun h => f15 (updL_ne h (by decide)), fun h => f16 (updL_ne h (by decide)), fun h => f17 (updL_ne h (by decide)), fun h => f18 (updL_ne h (by decide)), fun h => f19 (updL_ne h (by decide)), fun h => f20 (updL_ne h (by decide))⟩⟩
              case s2 =>
                intro l a' w' hk hpre hJ K hK
                obtain ⟨x0, x1, x2, x3, x4, x5, x6, x7, x8, x9, x10, x11, x12, x13, x14, x15, x16, x17, x18, x19, x20, x21, ha, hall, hfin, hfs⟩ := hJ
                have h12 : l 21 = false := upd_last hall hk (by decide)
                clear hall hfin
                obtain ⟨hB, f0, f1, f2, f3, f4, f5, f6, f7, f8, f9, f10, f11, f12, f13, f14, f15, f16, f17, f18, f19, f20⟩ := hfs h12
                clear hfs
                subst ha
                go_simp
                exact hK.out _ _ ⟨x0, x1, .pointer (some ⟨w.heap.size + 1, 5, none⟩), x3, x4, x5, x6, x7, x8, x9, x10, x11, x12, x13, x14, x15, x16, x17, x18, x19, x20, x21, by kernel_rfl, fun h => absurd (updL_ne h (by decide)) (by rw [h12]; decide), fun h => absurd (updL_ne h (by decide)) (by rw [h12]; decide), fun _ => ⟨hB, fun h => f0 (updL_ne h (by decide)), fun h => f1 (updL_ne h (by decide)), fun _ => rfl, fun h => f3 (updL_ne h (by decide)), fun h => f4 (updL_ne h (by decide)), fun h => f5 (updL_ne h (by decide)), fun h => f6 (updL_ne h (by decide)), fun h => f7 (updL_ne h (by decide)), fun h => f8 (updL_ne h (by decide)), fun h => f9 (updL_ne h (by decide)), fun h => f10 (updL_ne h (by decide)), fun h => f11 (updL_ne h (by decide)), fun h => f12 (updL_ne h (by decide)), fun h => f13 (updL_ne h (by decide)), fun h => f14 (updL_ne h (by decide)), fun h => f15 (updL_ne h (by decide)), fun h => f16 (updL_ne h (by decide)), fun h => f17 (updL_ne h (by decide)), fun h => f18 (updL_ne h (by decide)), fun h => f19 (updL_ne h (by decide)), fun h => f20 (updL_ne h (by decide))⟩⟩
              case s3 =>
                intro l a' w' hk hpre hJ K hK
                obtain ⟨x0, x1, x2, x3, x4, x5, x6, x7, x8, x9, x10, x11, x12, x13, x14, x15, x16, x17, x18, x19, x20, x21, ha, hall, hfin, hfs⟩ := hJ
                have h12 : l 21 = false := upd_last hall hk (by decide)
                clear hall hfin
                obtain ⟨hB, f0, f1, f2, f3, f4, f5, f6, f7, f8, f9, f10, f11, f12, f13, f14, f15, f16, f17, f18, f19, f20⟩ := hfs h12
                clear hfs
                have p2 : l 2 = true := hpre 2 (by kernel_rfl)
                obtain rfl := f2 p2
                have hB9 := HW.out _ hB
                subst ha
                go_simp
                exact hK.out _ _ ⟨x0, x1, .pointer (some ⟨w.heap.size + 1, 5, none⟩), .slice (some ⟨b, off, none⟩) x.cons.length k5, x4, x5, x6, x7, x8, x9, x10, x11, x12, x13, x14, x15, x16, x17, x18, x19, x20, x21, by kernel_rfl, fun h => absurd (updL_ne h (by decide)) (by rw [h12]; decide), fun h => absurd (updL_ne h (by decide)) (by rw [h12]; decide), fun _ => ⟨hB, fun h => f0 (updL_ne h (by decide)), fun h => f1 (updL_ne h (by decide)), fun h => f2 (updL_ne h (by decide)), fun _ => rfl, fun h => f4 (updL_ne h (by decide)), fun h => f5 (updL_ne h (by decide)), fun h => f6 (updL_ne h (by decide)), fun h => f7 (updL_ne h (by decide)), fun h => f8 (updL_ne h (by decide)), fun h => f9 (updL_ne h (by decide)), fun h => f10 (updL_ne h (by decide)), fun h => f11 (updL_ne h (by decide)), fun h => f12 (updL_ne h (by decide)), fun h => f13 (updL_ne h (by decide)), fun h => f14 (updL_ne h (by decide)), fun h => f15 (updL_ne h (by decide)), fun h => f16 (updL_ne h (by decide)), fun h => f17 (updL_ne h (by decide)), fun h => f18 (updL_ne h (by decide)), fun h => f19 (updL_ne h (by decide)), fun h => f20 (updL_ne h (by decide))⟩⟩
              case s4 =>
                intro l a' w' hk hpre hJ K hK
                obtain ⟨x0, x1, x2, x3, x4, x5, x6, x7, x8, x9, x10, x11, x12, x13, x14, x15, x16, x17, x18, x19, x20, x21, ha, hall, hfin, hfs⟩ := hJ
                have h12 : l 21 = false := upd_last hall hk (by decide)
                clear hall hfin
                obtain ⟨hB, f0, f1, f2, f3, f4, f5, f6, f7, f8, f9, f10, f11, f12, f13, f14, f15, f16, f17, f18, f19, f20⟩ := hfs h12
                clear hfs
                subst ha
                go_simp
                exact hK.out _ _ ⟨x0, x1, x2, x3, .int .i64 (j : Int), x5, x6, x7, x8, x9, x10, x11, x12, x13, x14, x15, x16, x17, x18, x19, x20, x21, by kernel_rfl, fun h => absurd (updL_ne h (by decide)) (by rw [h12]; decide), fun h => absurd (updL_ne h (by decide)) (by rw [h12]; decide), fun _ => ⟨hB, fun h => f0 (updL_ne h (by decide)), fun h => f1 (updL_ne h (by decide)), fun h => f2 (updL_ne h (by decide)), fun h => f3 (updL_ne h (by decide)), fun _ => rfl, fun h => f5 (updL_ne h (by decide)), fun h => f6 (updL_ne h (by decide)), fun h => f7 (updL_ne h (by decide)), fun h => f8 (updL_ne h (by decide)), fun h => f9 (updL_ne h (by decide)), fun h => f10 (updL_ne h (by decide)), fun h => f11 (updL_ne h (by decide)), fun h => f12 (updL_ne h (by decide)), fun h => f13 (updL_ne h (by decide)), fun h => f14 (updL_ne h (by decide)), fun h => f15 (updL_ne h (by decide)), fun h => f16 (updL_ne h (by decide)), fun h => f17 (updL_ne h (by decide)), fun h => f18 (updL_ne h (by decide)), fun h => f19 (updL_ne h (by decide)), fun h => f20 (updL_ne h (by decide))⟩⟩
              case s5 =>
                intro l a' w' hk hpre hJ K hK
                obtain ⟨x0, x1, x2, x3, x4, x5, x6, x7, x8, x9, x10, x11, x12, x13, x14, x15, x16, x17, x18, x19, x20, x21, ha, hall, hfin, hfs⟩ := hJ
                have h12 : l 21 = false := upd_last hall hk (by decide)
                clear hall hfin
                obtain ⟨hB, f0, f1, f2, f3, f4, f5, f6, f7, f8, f9, f10, f11, f12, f13, f14, f15, f16, f17, f18, f19, f20⟩ := hfs h12
                clear hfs
                have p3 : l 3 = true := hpre 3 (by kernel_rfl)
                have p4 : l 4 = true := hpre 4 (by kernel_rfl)
                obtain rfl := f3 p3
                obtain rfl := f4 p4
                subst ha
                go_simp
                exact hK.out _ _ ⟨x0, x1, x2, .slice (some ⟨b, off, none⟩) x.cons.length k5, .int .i64 (j : Int), .pointer (some ⟨b, off + j * 16, none⟩), x6, x7, x8, x9, x10, x11, x12, x13, x14, x15, x16, x17, x18, x19, x20, x21, by kernel_rfl, fun h => absurd (updL_ne h (by decide)) (by rw [h12]; decide), fun h => absurd (updL_ne h (by decide)) (by rw [h12]; decide), fun _ => ⟨hB, fun h => f0 (updL_ne h (by decide)), fun h => f1 (updL_ne h (by decide)), fun h => f2 (updL_ne h (by decide)), fun h => f3 (updL_ne h (by decide)), fun h => f4 (updL_ne h (by decide)), fun _ => rfl, fun h => f6 (updL_ne h (by decide)), fun h => f7 (updL_ne h (by decide)), fun h => f8 (updL_ne h (by decide)), fun h => f9 (updL_ne h (by decide)), fun h => f10 (updL_ne h (by decide)), fun h => f11 (updL_ne h (by decide)), fun h => f12 (updL_ne h (by decide)), fun h => f13 (updL_ne h (by decide)), fun h => f14 (updL_ne h (by decide)), fun h => f15 (updL_ne h (by decide)), fun h => f16 (updL_ne h (by decide)), fun h => f17 (updL_ne h (by decide)), fun h => f18 (updL_ne h (by decide)), fun h => f19 (updL_ne h (by decide)), fun h => f20 (updL_ne h (by decide))⟩⟩
              case s6 =>
                intro l a' w' hk hpre hJ K hK
                obtain ⟨x0, x1, x2, x3, x4, x5, x6, x7, x8, x9, x10, x11, x12, x13, x14, x15, x16, x17, x18, x19, x20, x21, ha, hall, hfin, hfs⟩ := hJ
                have h12 : l 21 = false := upd_last hall hk (by decide)
                clear hall hfin
                obtain ⟨hB, f0, f1, f2, f3, f4, f5, f6, f7, f8, f9, f10, f11, f12, f13, f14, f15, f16, f17, f18, f19, f20⟩ := hfs h12
                clear hfs
                have p5 : l 5 = true := hpre 5 (by kernel_rfl)
                obtain rfl := f5 p5
                subst ha
                go_simp
                exact hK.out _ _ ⟨x0, x1, x2, x3, x4, .pointer (some ⟨b, off + j * 16, none⟩), .pointer (some ⟨b, off + j * 16 + 2, none⟩), x7, x8, x9, x10, x11, x12, x13, x14, x15, x16, x17, x18, x19, x20, x21, by kernel_rfl, fun h => absurd (updL_ne h (by decide)) (by rw [h12]; decide), fun h => absurd (updL_ne h (by decide)) (by rw [h12]; decide), fun _ => ⟨hB, fun h => f0 (updL_ne h (by decide)), fun h => f1 (updL_ne h (by decide)), fun h => f2 (updL_ne h (by decide)), fun h => f3 (updL_ne h (by decide)), fun h => f4 (updL_ne h (by decide)), fun h => f5 (updL_ne h (by decide)), fun _ => rfl, fun h => f7 (updL_ne h (by decide)), fun h => f8 (updL_ne h (by decide)), fun h => f9 (updL_ne h (by decide)), fun h => f10 (updL_ne h (by decide)), fun h => f11 (updL_ne h (by decide)), fun h => f12 (updL_ne h (by decide)), fun h => f13 (updL_ne h (by decide)), fun h => f14 (updL_ne h (by decide)), fun h => f15 (updL_ne h (by decide)), fun h => f16 (updL_ne h (by decide)), fun h => f17 (updL_ne h (by decide)), fun h => f18 (updL_ne h (by decide)), fun h => f19 (updL_ne h (by decide)), fun h => f20 (updL_ne h (by decide))⟩⟩
              case s7 =>
                intro l a' w' hk hpre hJ K hK
                obtain ⟨x0, x1, x2, x3, x4, x5, x6, x7, x8, x9, x10, x11, x12, x13, x14, x15, x16, x17, x18, x19, x20, x21, ha, hall, hfin, hfs⟩ := hJ
                have h12 : l 21 = false := upd_last hall hk (by decide)
                clear hall hfin
                obtain ⟨hB, f0, f1, f2, f3, f4, f5, f6, f7, f8, f9, f10, f11, f12, f13, f14, f15, f16, f17, f18, f19, f20⟩ := hfs h12
                clear hfs
                have p6 : l 6 = true := hpre 6 (by kernel_rfl)
                obtain rfl := f6 p6
                refine step_load rfl 86 (.tmp 37) rfl Tryz.underlying86 rfl (cs := [c2, c3, c4, c5, c6, c7, c8]) (b := b) (off := off + j * 16 + 2) Hix.out (by rw [ha]; kernel_rfl) rfl (HcE.out _ hB) ?_
                subst ha
                exact hK.out _ _ ⟨x0, x1, x2, x3, x4, x5, .pointer (some ⟨b, off + j * 16 + 2, none⟩), .agg #[c2, c3, c4, c5, c6, c7, c8], x8, x9, x10, x11, x12, x13, x14, x15, x16, x17, x18, x19, x20, x21, by kernel_rfl, fun h => absurd (updL_ne h (by decide)) (by rw [h12]; decide), fun h => absurd (updL_ne h (by decide)) (by rw [h12]; decide), fun _ => ⟨hB, fun h => f0 (updL_ne h (by decide)), fun h => f1 (updL_ne h (by decide)), fun h => f2 (updL_ne h (by decide)), fun h => f3 (updL_ne h (by decide)), fun h => f4 (updL_ne h (by decide)), fun h => f5 (updL_ne h (by decide)), fun h => f6 (updL_ne h (by decide)), fun _ => rfl, fun h => f8 (updL_ne h (by decide)), fun h => f9 (updL_ne h (by decide)), fun h => f10 (updL_ne h (by decide)), fun h => f11 (updL_ne h (by decide)), fun h => f12 (updL_ne h (by decide)), fun h => f13 (updL_ne h (by decide)), fun h => f14 (updL_ne h (by decide)), fun h => f15 (updL_ne h (by decide)), fun h => f16 (updL_ne h (by decide)), fun h => f17 (updL_ne h (by decide)), fun h => f18 (updL_ne h (by decide)), fun h => f19 (updL_ne h (by decide)), fun h => f20 (updL_ne h (by decide))⟩⟩
              case s8 =>
                intro l a' w' hk hpre hJ K hK
                obtain ⟨x0, x1, x2, x3, x4, x5, x6, x7, x8, x9, x10, x11, x12, x13, x14, x15, x16, x17, x18, x19, x20, x21, ha, hall, hfin, hfs⟩ := hJ
                have h12 : l 21 = false := upd_last hall hk (by decide)
                clear hall hfin
                obtain ⟨hB, f0, f1, f2, f3, f4, f5, f6, f7, f8, f9, f10, f11, f12, f13, f14, f15, f16, f17, f18, f19, f20⟩ := hfs h12
                clear hfs
                have p0 : l 0 = true := hpre 0 (by kernel_rfl)
                have p1 : l 1 = true := hpre 1 (by kernel_rfl)
                have p7 : l 7 = true := hpre 7 (by kernel_rfl)
                obtain rfl := f0 p0
                obtain rfl := f1 p1
                obtain rfl := f7 p7
                subst ha
                go_simp
                go_at_call 74
                refine Calls.mono (Hus.out w' hB) ?_
                rintro en w2 ⟨rfl, hb2⟩
                exact hK.out _ _ ⟨.agg #[gc0, gc1], .agg #[r0, r1, .slice A2 x.right.length k2, r3, .slice A4 x.eqs.length k4, .slice (some ⟨b, off, none⟩) x.cons.length k5], x2, x3, x4, x5, x6, .agg #[c2, c3, c4, c5, c6, c7, c8], .bool true, x9, x10, x11, x12, x13, x14, x15, x16, x17, x18, x19, x20, x21, by kernel_rfl, fun h => absurd (updL_ne h (by decide)) (by rw [h12]; decide), fun h => absurd (updL_ne h (by decide)) (by rw [h12]; decide), fun _ => ⟨hB.trans (hb2.mono hB.size), fun h => f0 (updL_ne h (by decide)), fun h => f1 (updL_ne h (by decide)), fun h => f2 (updL_ne h (by decide)), fun h => f3 (updL_ne h (by decide)), fun h => f4 (updL_ne h (by decide)), fun h => f5 (updL_ne h (by decide)), fun h => f6 (updL_ne h (by decide)), fun h => f7 (updL_ne h (by decide)), fun _ => rfl, fun h => f9 (updL_ne h (by decide)), fun h => f10 (updL_ne h (by decide)), fun h => f11 (updL_ne h (by decide)), fun h => f12 (updL_ne h (by decide)), fun h => f13 (updL_ne h (by decide)), fun h => f14 (updL_ne h (by decide)), fun h => f15 (updL_ne h (by decide)), fun h => f16 (updL_ne h (by decide)), fun h => f17 (updL_ne h (by decide)), fun h => f18 (updL_ne h (by decide)), fun h => f19 (updL_ne h (by decide)), fun h => f20 (updL_ne h (by decide))⟩⟩
              case s9 =>
                intro l a' w' hk hpre hJ K hK
                obtain ⟨x0, x1, x2, x3, x4, x5, x6, x7, x8, x9, x10, x11, x12, x13, x14, x15, x16, x17, x18, x19, x20, x21, ha, hall, hfin, hfs⟩ := hJ
                have h12 : l 21 = false := upd_last hall hk (by decide)
                clear hall hfin
                obtain ⟨hB, f0, f1, f2, f3, f4, f5, f6, f7, f8, f9, f10, f11, f12, f13, f14, f15, f16, f17, f18, f19, f20⟩ := hfs h12
                clear hfs
                have p8 : l 8 = true := hpre 8 (by kernel_rfl)
                obtain rfl := f8 p8
                subst ha
                go_simp
                exact hK.out _ _ ⟨x0, x1, x2, x3, x4, x5, x6, x7, .bool true, .bool false, x10, x11, x12, x13, x14, x15, x16, x17, x18, x19, x20, x21, by kernel_rfl, fun h => absurd (updL_ne h (by decide)) (by rw [h12]; decide), fun h => absurd (updL_ne h (by decide)) (by rw [h12]; decide), fun _ => ⟨hB, fun h => f0 (updL_ne h (by decide)), fun h => f1 (updL_ne h (by decide)), fun h => f2 (updL_ne h (by decide)), fun h => f3 (updL_ne h (by decide)), fun h => f4 (updL_ne h (by decide)), fun h => f5 (updL_ne h (by decide)), fun h => f6 (updL_ne h (by decide)), fun h => f7 (updL_ne h (by decide)), fun h => f8 (updL_ne h (by decide)), fun _ => rfl, fun h => f10 (updL_ne h (by decide)), fun h => f11 (updL_ne h (by decide)), fun h => f12 (updL_ne h (by decide)), fun h => f13 (updL_ne h (by decide)), fun h => f14 (updL_ne h (by decide)), fun h => f15 (updL_ne h (by decide)), fun h => f16 (updL_ne h (by decide)), fun h => f17 (updL_ne h (by decide)), fun h => f18 (updL_ne h (by decide)), fun h => f19 (updL_ne h (by decide)), fun h => f20 (updL_ne h (by decide))⟩⟩
              case s10 =>
                intro l a' w' hk hpre hJ K hK
                obtain ⟨x0, x1, x2, x3, x4, x5, x6, x7, x8, x9, x10, x11, x12, x13, x14, x15, x16, x17, x18, x19, x20, x21, ha, hall, hfin, hfs⟩ := hJ
                have h12 : l 21 = false := upd_last hall hk (by decide)
                clear hall hfin
                obtain ⟨hB, f0, f1, f2, f3, f4, f5, f6, f7, f8, f9, f10, f11, f12, f13, f14, f15, f16, f17, f18, f19, f20⟩ := hfs h12
                clear hfs
                have p9 : l 9 = true := hpre 9 (by kernel_rfl)
                obtain rfl := f9 p9
                subst ha
                go_simp
                exact hK.out _ _ ⟨x0, x1, x2, x3, x4, x5, x6, x7, x8, .bool false, .bool false, x11, x12, x13, x14, x15, x16, x17, x18, x19, x20, x21, by kernel_rfl, fun h => absurd (updL_ne h (by decide)) (by rw [h12]; decide), fun h => absurd (updL_ne h (by decide)) (by rw [h12]; decide), fun _ => ⟨hB, fun h => f0 (updL_ne h (by decide)), fun h => f1 (updL_ne h (by decide)), fun h => f2 (updL_ne h (by decide)), fun h => f3 (updL_ne h (by decide)), fun h => f4 (updL_ne h (by decide)), fun h => f5 (updL_ne h (by decide)), fun h => f6 (updL_ne h (by decide)), fun h => f7 (updL_ne h (by decide)), fun h => f8 (updL_ne h (by decide)), fun h => f9 (updL_ne h (by decide)), fun _ => rfl, fun h => f11 (updL_ne h (by decide)), fun h => f12 (updL_ne h (by decide)), fun h => f13 (updL_ne h (by decide)), fun h => f14 (updL_ne h (by decide)), fun h => f15 (updL_ne h (by decide)), fun h => f16 (updL_ne h (by decide)), fun h => f17 (updL_ne h (by decide)), fun h => f18 (updL_ne h (by decide)), fun h => f19 (updL_ne h (by decide)), fun h => f20 (updL_ne h (by decide))⟩⟩
              case s11 =>
                intro l a' w' hk hpre hJ K hK
                obtain ⟨x0, x1, x2, x3, x4, x5, x6, x7, x8, x9, x10, x11, x12, x13, x14, x15, x16, x17, x18, x19, x20, x21, ha, hall, hfin, hfs⟩ := hJ
                have h12 : l 21 = false := upd_last hall hk (by decide)
                clear hall hfin
                obtain ⟨hB, f0, f1, f2, f3, f4, f5, f6, f7, f8, f9, f10, f11, f12, f13, f14, f15, f16, f17, f18, f19, f20⟩ := hfs h12
                clear hfs
                have p10 : l 10 = true := hpre 10 (by kernel_rfl)
                obtain rfl := f10 p10
                refine step_loadG (by rw [ha]; kernel_rfl) 32 (.tmp 2) rfl Tryz.underlying32 rfl (cs := [gc0, gc1]) (b := w.heap.size) (off := 0) Hig.out (by rw [ha]; kernel_rfl) rfl (HcG.out _ (HW.out _ hB)) ?_
                subst ha
                exact hK.out _ _ ⟨x0, x1, x2, x3, x4, x5, x6, x7, x8, x9, .bool false, .agg #[gc0, gc1], x12, x13, x14, x15, x16, x17, x18, x19, x20, x21, by kernel_rfl, fun h => absurd (updL_ne h (by decide)) (by rw [h12]; decide), fun h => absurd (updL_ne h (by decide)) (by rw [h12]; decide), fun _ => ⟨hB, fun h => f0 (updL_ne h (by decide)), fun h => f1 (updL_ne h (by decide)), fun h => f2 (updL_ne h (by decide)), fun h => f3 (updL_ne h (by decide)), fun h => f4 (updL_ne h (by decide)), fun h => f5 (updL_ne h (by decide)), fun h => f6 (updL_ne h (by decide)), fun h => f7 (updL_ne h (by decide)), fun h => f8 (updL_ne h (by decide)), fun h => f9 (updL_ne h (by decide)), fun h => f10 (updL_ne h (by decide)), fun _ => rfl, fun h => f12 (updL_ne h (by decide)), fun h => f13 (updL_ne h (by decide)), fun h => f14 (updL_ne h (by decide)), fun h => f15 (updL_ne h (by decide)), fun h => f16 (updL_ne h (by decide)), fun h => f17 (updL_ne h (by decide)), fun h => f18 (updL_ne h (by decide)), fun h => f19 (updL_ne h (by decide)), fun h => f20 (updL_ne h (by decide))⟩⟩
              case s12 =>
                intro l a' w' hk hpre hJ K hK
                obtain ⟨x0, x1, x2, x3, x4, x5, x6, x7, x8, x9, x10, x11, x12, x13, x14, x15, x16, x17, x18, x19, x20, x21, ha, hall, hfin, hfs⟩ := hJ
                have h12 : l 21 = false := upd_last hall hk (by decide)
                clear hall hfin
                obtain ⟨hB, f0, f1, f2, f3, f4, f5, f6, f7, f8, f9, f10, f11, f12, f13, f14, f15, f16, f17, f18, f19, f20⟩ := hfs h12
                clear hfs
                have p10 : l 10 = true := hpre 10 (by kernel_rfl)
                obtain rfl := f10 p10
                refine step_loadG (by rw [ha]; kernel_rfl) 50 (.tmp 3) rfl Tryz.underlying50 rfl (cs := [r0, r1, .slice A2 x.right.length k2, r3, .slice A4 x.eqs.length k4, .slice (some ⟨b, off, none⟩) x.cons.length k5]) (b := w.heap.size + 1) (off := 0) Hir.out (by rw [ha]; kernel_rfl) rfl (HcR.out _ (HW.out _ hB)) ?_
                subst ha
                exact hK.out _ _ ⟨x0, x1, x2, x3, x4, x5, x6, x7, x8, x9, .bool false, x11, .agg #[r0, r1, .slice A2 x.right.length k2, r3, .slice A4 x.eqs.length k4, .slice (some ⟨b, off, none⟩) x.cons.length k5], x13, x14, x15, x16, x17, x18, x19, x20, x21, by kernel_rfl, fun h => absurd (updL_ne h (by decide)) (by rw [h12]; decide), fun h => absurd (updL_ne h (by decide)) (by rw [h12]; decide), fun _ => ⟨hB, fun h => f0 (updL_ne h (by decide)), fun h => f1 (updL_ne h (by decide)), fun h => f2 (updL_ne h (by decide)), fun h => f3 (updL_ne h (by decide)), fun h => f4 (updL_ne h (by decide)), fun h => f5 (updL_ne h (by decide)), fun h => f6 (updL_ne h (by decide)), fun h => f7 (updL_ne h (by decide)), fun h => f8 (updL_ne h (by decide)), fun h => f9 (updL_ne h (by decide)), fun h => f10 (updL_ne h (by decide)), fun h => f11 (updL_ne h (by decide)), fun _ => rfl, fun h => f13 (updL_ne h (by decide)), fun h => f14 (updL_ne h (by decide)), fun h => f15 (updL_ne h (by decide)), fun h => f16 (updL_ne h (by decide)), fun h => f17 (updL_ne h (by decide)), fun h => f18 (updL_ne h (by decide)), fun h => f19 (updL_ne h (by decide)), fun h => f20 (updL_ne h (by decide))⟩⟩
              case s13 =>
                intro l a' w' hk hpre hJ K hK
                obtain ⟨x0, x1, x2, x3, x4, x5, x6, x7, x8, x9, x10, x11, x12, x13, x14, x15, x16, x17, x18, x19, x20, x21, ha, hall, hfin, hfs⟩ := hJ
                have h12 : l 21 = false := upd_last hall hk (by decide)
                clear hall hfin
                obtain ⟨hB, f0, f1, f2, f3, f4, f5, f6, f7, f8, f9, f10, f11, f12, f13, f14, f15, f16, f17, f18, f19, f20⟩ := hfs h12
                clear hfs
                have p10 : l 10 = true := hpre 10 (by kernel_rfl)
                obtain rfl := f10 p10
                refine wanted_go (by rw [ha]; kernel_rfl) ?_
                subst ha
                go_simp
                exact hK.out _ _ ⟨x0, x1, x2, x3, x4, x5, x6, x7, x8, x9, .bool false, x11, x12, .pointer (some ⟨w.heap.size + 1, 5, none⟩), x14, x15, x16, x17, x18, x19, x20, x21, by kernel_rfl, fun h => absurd (updL_ne h (by decide)) (by rw [h12]; decide), fun h => absurd (updL_ne h (by decide)) (by rw [h12]; decide), fun _ => ⟨hB, fun h => f0 (updL_ne h (by decide)), fun h => f1 (updL_ne h (by decide)), fun h => f2 (updL_ne h (by decide)), fun h => f3 (updL_ne h (by decide)), fun h => f4 (updL_ne h (by decide)), fun h => f5 (updL_ne h (by decide)), fun h => f6 (updL_ne h (by decide)), fun h => f7 (updL_ne h (by decide)), fun h => f8 (updL_ne h (by decide)), fun h => f9 (updL_ne h (by decide)), fun h => f10 (updL_ne h (by decide)), fun h => f11 (updL_ne h (by decide)), fun h => f12 (updL_ne h (by decide)), fun _ => rfl, fun h => f14 (updL_ne h (by decide)), fun h => f15 (updL_ne h (by decide)), fun h => f16 (updL_ne h (by decide)), fun h => f17 (updL_ne h (by decide)), fun h => f18 (updL_ne h (by decide)), fun h => f19 (updL_ne h (by decide)), fun h => f20 (updL_ne h (by decide))⟩⟩
              case s14 =>
                intro l a' w' hk hpre hJ K hK
                obtain ⟨x0, x1, x2, x3, x4, x5, x6, x7, x8, x9, x10, x11, x12, x13, x14, x15, x16, x17, x18, x19, x20, x21, ha, hall, hfin, hfs⟩ := hJ
                have h12 : l 21 = false := upd_last hall hk (by decide)
                clear hall hfin
                obtain ⟨hB, f0, f1, f2, f3, f4, f5, f6, f7, f8, f9, f10, f11, f12, f13, f14, f15, f16, f17, f18, f19, f20⟩ := hfs h12
                clear hfs
                have p10 : l 10 = true := hpre 10 (by kernel_rfl)
                have p13 : l 13 = true := hpre 13 (by kernel_rfl)
                obtain rfl := f10 p10
                obtain rfl := f13 p13
                have hB9 := HW.out _ hB
                refine wanted_go (by rw [ha]; kernel_rfl) ?_
                subst ha
                go_simp
                exact hK.out _ _ ⟨x0, x1, x2, x3, x4, x5, x6, x7, x8, x9, .bool false, x11, x12, .pointer (some ⟨w.heap.size + 1, 5, none⟩), .slice (some ⟨b, off, none⟩) x.cons.length k5, x15, x16, x17, x18, x19, x20, x21, by kernel_rfl, fun h => absurd (updL_ne h (by decide)) (by rw [h12]; decide), fun h => absurd (updL_ne h (by decide)) (by rw [h12]; decide), fun _ => ⟨hB, fun h => f0 (updL_ne h (by decide)), fun h => f1 (updL_ne h (by decide)), fun h => f2 (updL_ne h (by decide)), fun h => f3 (updL_ne h (by decide)), fun h => f4 (updL_ne h (by decide)), fun h => f5 (updL_ne h (by decide)), fun h => f6 (updL_ne h (by decide)), fun h => f7 (updL_ne h (by decide)), fun h => f8 (updL_ne h (by decide)), fun h => f9 (updL_ne h (by decide)), fun h => f10 (updL_ne h (by decide)), fun h => f11 (updL_ne h (by decide)), fun h => f12 (updL_ne h (by decide)), fun h => f13 (updL_ne h (by decide)), fun _ => rfl, fun h => f15 (updL_ne h (by decide)), fun h => f16 (updL_ne h (by decide)), fun h => f17 (updL_ne h (by decide)), fun h => f18 (updL_ne h (by decide)), fun h => f19 (updL_ne h (by decide)), fun h => f20 (updL_ne h (by decide))⟩⟩
              case s15 =>
                intro l a' w' hk hpre hJ K hK
                obtain ⟨x0, x1, x2, x3, x4, x5, x6, x7, x8, x9, x10, x11, x12, x13, x14, x15, x16, x17, x18, x19, x20, x21, ha, hall, hfin, hfs⟩ := hJ
                have h12 : l 21 = false := upd_last hall hk (by decide)
                clear hall hfin
                obtain ⟨hB, f0, f1, f2, f3, f4, f5, f6, f7, f8, f9, f10, f11, f12, f13, f14, f15, f16, f17, f18, f19, f20⟩ := hfs h12
                clear hfs
                have p10 : l 10 = true := hpre 10 (by kernel_rfl)
                obtain rfl := f10 p10
                refine wanted_go (by rw [ha]; kernel_rfl) ?_
                subst ha
                go_simp
                exact hK.out _ _ ⟨x0, x1, x2, x3, x4, x5, x6, x7, x8, x9, .bool false, x11, x12, x13, x14, .int .i64 (j : Int), x16, x17, x18, x19, x20, x21, by kernel_rfl, fun h => absurd (updL_ne h (by decide)) (by rw [h12]; decide), fun h => absurd (updL_ne h (by decide)) (by rw [h12]; decide), fun _ => ⟨hB, fun h => f0 (updL_ne h (by decide)), fun h => f1 (updL_ne h (by decide)), fun h => f2 (updL_ne h (by decide)), fun h => f3 (updL_ne h (by decide)), fun h => f4 (updL_ne h (by decide)), fun h => f5 (updL_ne h (by decide)), fun h => f6 (updL_ne h (by decide)), fun h => f7 (updL_ne h (by decide)), fun h => f8 (updL_ne h (by decide)), fun h => f9 (updL_ne h (by decide)), fun h => f10 (updL_ne h (by decide)), fun h => f11 (updL_ne h (by decide)), fun h => f12 (updL_ne h (by decide)), fun h => f13 (updL_ne h (by decide)), fun h => f14 (updL_ne h (by decide)), fun _ => rfl, fun h => f16 (updL_ne h (by decide)), fun h => f17 (updL_ne h (by decide)), fun h => f18 (updL_ne h (by decide)), fun h => f19 (updL_ne h (by decide)), fun h => f20 (updL_ne h (by decide))⟩⟩
              case s16 =>
                intro l a' w' hk hpre hJ K hK
                obtain ⟨x0, x1, x2, x3, x4, x5, x6, x7, x8, x9, x10, x11, x12, x13, x14, x15, x16, x17, x18, x19, x20, x21, ha, hall, hfin, hfs⟩ := hJ
                have h12 : l 21 = false := upd_last hall hk (by decide)
                clear hall hfin
                obtain ⟨hB, f0, f1, f2, f3, f4, f5, f6, f7, f8, f9, f10, f11, f12, f13, f14, f15, f16, f17, f18, f19, f20⟩ := hfs h12
                clear hfs
                have p10 : l 10 = true := hpre 10 (by kernel_rfl)
                have p14 : l 14 = true := hpre 14 (by kernel_rfl)
                have p15 : l 15 = true := hpre 15 (by kernel_rfl)
                obtain rfl := f10 p10
                obtain rfl := f14 p14
                obtain rfl := f15 p15
                refine wanted_go (by rw [ha]; kernel_rfl) ?_
                subst ha
                go_simp
                exact hK.out _ _ ⟨x0, x1, x2, x3, x4, x5, x6, x7, x8, x9, .bool false, x11, x12, x13, .slice (some ⟨b, off, none⟩) x.cons.length k5, .int .i64 (j : Int), .pointer (some ⟨b, off + j * 16, none⟩), x17, x18, x19, x20, x21, by kernel_rfl, fun h => absurd (updL_ne h (by decide)) (by rw [h12]; decide), fun h => absurd (updL_ne h (by decide)) (by rw [h12]; decide), fun _ => ⟨hB, fun h => f0 (updL_ne h (by decide)), fun h => f1 (updL_ne h (by decide)), fun h => f2 (updL_ne h (by decide)), fun h => f3 (updL_ne h (by decide)), fun h => f4 (updL_ne h (by decide)), fun h => f5 (updL_ne h (by decide)), fun h => f6 (updL_ne h (by decide)), fun h => f7 (updL_ne h (by decide)), fun h => f8 (updL_ne h (by decide)), fun h => f9 (updL_ne h (by decide)), fun h => f10 (updL_ne h (by decide)), fun h => f11 (updL_ne h (by decide)), fun h => f12 (updL_ne h (by decide)), fun h => f13 (updL_ne h (by decide)), fun h => f14 (updL_ne h (by decide)), fun h => f15 (updL_ne h (by decide)), fun _ => rfl, fun h => f17 (updL_ne h (by decide)), fun h => f18 (updL_ne h (by decide)), fun h => f19 (updL_ne h (by decide)), fun h => f20 (updL_ne h (by decide))⟩⟩
              case s17 =>
                intro l a' w' hk hpre hJ K hK
                obtain ⟨x0, x1, x2, x3, x4, x5, x6, x7, x8, x9, x10, x11, x12, x13, x14, x15, x16, x17, x18, x19, x20, x21, ha, hall, hfin, hfs⟩ := hJ
                have h12 : l 21 = false := upd_last hall hk (by decide)
                clear hall hfin
                obtain ⟨hB, f0, f1, f2, f3, f4, f5, f6, f7, f8, f9, f10, f11, f12, f13, f14, f15, f16, f17, f18, f19, f20⟩ := hfs h12
                clear hfs
                have p10 : l 10 = true := hpre 10 (by kernel_rfl)
                have p16 : l 16 = true := hpre 16 (by kernel_rfl)
                obtain rfl := f10 p10
                obtain rfl := f16 p16
                refine wanted_go (by rw [ha]; kernel_rfl) ?_
                subst ha
                go_simp
                exact hK.out _ _ ⟨x0, x1, x2, x3, x4, x5, x6, x7, x8, x9, .bool false, x11, x12, x13, x14, x15, .pointer (some ⟨b, off + j * 16, none⟩), .pointer (some ⟨b, off + j * 16 + 9, none⟩), x18, x19, x20, x21, by kernel_rfl, fun h => absurd (updL_ne h (by decide)) (by rw [h12]; decide), fun h => absurd (updL_ne h (by decide)) (by rw [h12]; decide), fun _ => ⟨hB, fun h => f0 (updL_ne h (by decide)), fun h => f1 (updL_ne h (by decide)), fun h => f2 (updL_ne h (by decide)), fun h => f3 (updL_ne h (by decide)), fun h => f4 (updL_ne h (by decide)), fun h => f5 (updL_ne h (by decide)), fun h => f6 (updL_ne h (by decide)), fun h => f7 (updL_ne h (by decide)), fun h => f8 (updL_ne h (by decide)), fun h => f9 (updL_ne h (by decide)), fun h => f10 (updL_ne h (by decide)), fun h => f11 (updL_ne h (by decide)), fun h => f12 (updL_ne h (by decide)), fun h => f13 (updL_ne h (by decide)), fun h => f14 (updL_ne h (by decide)), fun h => f15 (updL_ne h (by decide)), fun h => f16 (updL_ne h (by decide)), fun _ => rfl, fun h => f18 (updL_ne h (by decide)), fun h => f19 (updL_ne h (by decide)), fun h => f20 (updL_ne h (by decide))⟩⟩
              case s18 =>
                intro l a' w' hk hpre hJ K hK
                obtain ⟨x0, x1, x2, x3, x4, x5, x6, x7, x8, x9, x10, x11, x12, x13, x14, x15, x16, x17, x18, x19, x20, x21, ha, hall, hfin, hfs⟩ := hJ
                have h12 : l 21 = false := upd_last hall hk (by decide)
                clear hall hfin
                obtain ⟨hB, f0, f1, f2, f3, f4, f5, f6, f7, f8, f9, f10, f11, f12, f13, f14, f15, f16, f17, f18, f19, f20⟩ := hfs h12
                clear hfs
                have p10 : l 10 = true := hpre 10 (by kernel_rfl)
                have p17 : l 17 = true := hpre 17 (by kernel_rfl)
                obtain rfl := f10 p10
                obtain rfl := f17 p17
                refine step_loadG (by rw [ha]; kernel_rfl) 86 (.tmp 48) rfl Tryz.underlying86 rfl (cs := [c9, c10, c11, c12, c13, c14, c15]) (b := b) (off := off + j * 16 + 9) Hix.out (by rw [ha]; kernel_rfl) rfl (HcF.out _ hB) ?_
                subst ha
                exact hK.out _ _ ⟨x0, x1, x2, x3, x4, x5, x6, x7, x8, x9, .bool false, x11, x12, x13, x14, x15, x16, .pointer (some ⟨b, off + j * 16 + 9, none⟩), .agg #[c9, c10, c11, c12, c13, c14, c15], x19, x20, x21, by kernel_rfl, fun h => absurd (updL_ne h (by decide)) (by rw [h12]; decide), fun h => absurd (updL_ne h (by decide)) (by rw [h12]; decide), fun _ => ⟨hB, fun h => f0 (updL_ne h (by decide)), fun h => f1 (updL_ne h (by decide)), fun h => f2 (updL_ne h (by decide)), fun h => f3 (updL_ne h (by decide)), fun h => f4 (updL_ne h (by decide)), fun h => f5 (updL_ne h (by decide)), fun h => f6 (updL_ne h (by decide)), fun h => f7 (updL_ne h (by decide)), fun h => f8 (updL_ne h (by decide)), fun h => f9 (updL_ne h (by decide)), fun h => f10 (updL_ne h (by decide)), fun h => f11 (updL_ne h (by decide)), fun h => f12 (updL_ne h (by decide)), fun h => f13 (updL_ne h (by decide)), fun h => f14 (updL_ne h (by decide)), fun h => f15 (updL_ne h (by decide)), fun h => f16 (updL_ne h (by decide)), fun h => f17 (updL_ne h (by decide)), fun _ => rfl, fun h => f19 (updL_ne h (by decide)), fun h => f20 (updL_ne h (by decide))⟩⟩
              case s19 =>
                intro l a' w' hk hpre hJ K hK
                obtain ⟨x0, x1, x2, x3, x4, x5, x6, x7, x8, x9, x10, x11, x12, x13, x14, x15, x16, x17, x18, x19, x20, x21, ha, hall, hfin, hfs⟩ := hJ
                have h12 : l 21 = false := upd_last hall hk (by decide)
                clear hall hfin
                obtain ⟨hB, f0, f1, f2, f3, f4, f5, f6, f7, f8, f9, f10, f11, f12, f13, f14, f15, f16, f17, f18, f19, f20⟩ := hfs h12
                clear hfs
                have p10 : l 10 = true := hpre 10 (by kernel_rfl)
                have p11 : l 11 = true := hpre 11 (by kernel_rfl)
                have p12 : l 12 = true := hpre 12 (by kernel_rfl)
                have p18 : l 18 = true := hpre 18 (by kernel_rfl)
                obtain rfl := f10 p10
                obtain rfl := f11 p11
                obtain rfl := f12 p12
                obtain rfl := f18 p18
                refine wanted_go (by rw [ha]; kernel_rfl) ?_
                subst ha
                go_simp
                go_at_call 74
                refine Calls.mono (Hut.out w' hB) ?_
                rintro en w2 ⟨rfl, hb2⟩
                exact hK.out _ _ ⟨x0, x1, x2, x3, x4, x5, x6, x7, x8, x9, .bool false, .agg #[gc0, gc1], .agg #[r0, r1, .slice A2 x.right.length k2, r3, .slice A4 x.eqs.length k4, .slice (some ⟨b, off, none⟩) x.cons.length k5], x13, x14, x15, x16, x17, .agg #[c9, c10, c11, c12, c13, c14, c15], .bool q, x20, x21, by kernel_rfl, fun h => absurd (updL_ne h (by decide)) (by rw [h12]; decide), fun h => absurd (updL_ne h (by decide)) (by rw [h12]; decide), fun _ => ⟨hB.trans (hb2.mono hB.size), fun h => f0 (updL_ne h (by decide)), fun h => f1 (updL_ne h (by decide)), fun h => f2 (updL_ne h (by decide)), fun h => f3 (updL_ne h (by decide)), fun h => f4 (updL_ne h (by decide)), fun h => f5 (updL_ne h (by decide)), fun h => f6 (updL_ne h (by decide)), fun h => f7 (updL_ne h (by decide)), fun h => f8 (updL_ne h (by decide)), fun h => f9 (updL_ne h (by decide)), fun h => f10 (updL_ne h (by decide)), fun h => f11 (updL_ne h (by decide)), fun h => f12 (updL_ne h (by decide)), fun h => f13 (updL_ne h (by decide)), fun h => f14 (updL_ne h (by decide)), fun h => f15 (updL_ne h (by decide)), fun h => f16 (updL_ne h (by decide)), fun h => f17 (updL_ne h (by decide)), fun h => f18 (updL_ne h (by decide)), fun _ => rfl, fun h => f20 (updL_ne h (by decide))⟩⟩
              case s20 =>
                intro l a' w' hk hpre hJ K hK
                obtain ⟨x0, x1, x2, x3, x4, x5, x6, x7, x8, x9, x10, x11, x12, x13, x14, x15, x16, x17, x18, x19, x20, x21, ha, hall, hfin, hfs⟩ := hJ
                have h12 : l 21 = false := upd_last hall hk (by decide)
                clear hall hfin
                obtain ⟨hB, f0, f1, f2, f3, f4, f5, f6, f7, f8, f9, f10, f11, f12, f13, f14, f15, f16, f17, f18, f19, f20⟩ := hfs h12
                clear hfs
                have p10 : l 10 = true := hpre 10 (by kernel_rfl)
                have p19 : l 19 = true := hpre 19 (by kernel_rfl)
                obtain rfl := f10 p10
                obtain rfl := f19 p19
                refine wanted_go (by rw [ha]; kernel_rfl) ?_
                subst ha
                go_simp
                exact hK.out _ _ ⟨x0, x1, x2, x3, x4, x5, x6, x7, x8, x9, .bool false, x11, x12, x13, x14, x15, x16, x17, x18, .bool q, .bool (!q), x21, by kernel_rfl, fun h => absurd (updL_ne h (by decide)) (by rw [h12]; decide), fun h => absurd (updL_ne h (by decide)) (by rw [h12]; decide), fun _ => ⟨hB, fun h => f0 (updL_ne h (by decide)), fun h => f1 (updL_ne h (by decide)), fun h => f2 (updL_ne h (by decide)), fun h => f3 (updL_ne h (by decide)), fun h => f4 (updL_ne h (by decide)), fun h => f5 (updL_ne h (by decide)), fun h => f6 (updL_ne h (by decide)), fun h => f7 (updL_ne h (by decide)), fun h => f8 (updL_ne h (by decide)), fun h => f9 (updL_ne h (by decide)), fun h => f10 (updL_ne h (by decide)), fun h => f11 (updL_ne h (by decide)), fun h => f12 (updL_ne h (by decide)), fun h => f13 (updL_ne h (by decide)), fun h => f14 (updL_ne h (by decide)), fun h => f15 (updL_ne h (by decide)), fun h => f16 (updL_ne h (by decide)), fun h => f17 (updL_ne h (by decide)), fun h => f18 (updL_ne h (by decide)), fun h => f19 (updL_ne h (by decide)), fun _ => rfl⟩⟩
              case s21 =>
                intro l a' w' hk hpre hJ K hK
                obtain ⟨x0, x1, x2, x3, x4, x5, x6, x7, x8, x9, x10, x11, x12, x13, x14, x15, x16, x17, x18, x19, x20, x21, ha, hall, hfin, hfs⟩ := hJ
                have h12 : l 21 = false := hk
                clear hall hfin
                obtain ⟨hB, f0, f1, f2, f3, f4, f5, f6, f7, f8, f9, f10, f11, f12, f13, f14, f15, f16, f17, f18, f19, f20⟩ := hfs h12
                clear hfs
                have p10 : l 10 = true := hpre 10 (by kernel_rfl)
                have p20 : l 20 = true := hpre 20 (by kernel_rfl)
                obtain rfl := f10 p10
                obtain rfl := f20 p20
                subst ha
                go_simp
                exact hK.out _ _ ⟨x0, x1, x2, x3, x4, x5, x6, x7, x8, x9, .bool false, x11, x12, x13, x14, x15, x16, x17, x18, x19, .bool (!q), .bool (!q), by kernel_rfl, fun _ => deep_all hpre (by kernel_rfl) _, fun _ => ⟨rfl, hB⟩, fun h => absurd h (by simp [updL])⟩
            case hend =>
              intro l a' w' hl hJ
              obtain ⟨x0, x1, x2, x3, x4, x5, x6, x7, x8, x9, x10, x11, x12, x13, x14, x15, x16, x17, x18, x19, x20, x21, ha, _, hfin, _⟩ := hJ
              simp [go_sem] at ha
              subst ha
              replace hfin := hfin (hl 21 (by decide))
              clear hl
              obtain ⟨rfl, hB⟩ := hfin
              have HB2 := hide (HW.out _ hB)
              clear hB
              cases q
              · have Hyes : Hid (useB D g x = true) := hide (Hmem.out _ (.inr rfl) (bnot_f Hq.out))
                go_wp2_with fail
                go_ret
                exact ⟨ret_bool (by rw [Hyes.out]), Hw.out _ HB2.out⟩
              · have Hno2 : Hid ((exprsC (x.cons.take (j + 1))).any (useE D g x) = false) := hide (by rw [Hmap.out, List.any_append, Hno.out]; simp [bnot_t Hp.out, bnot_t Hq.out])
                go_wp2_with fail
                go_roundw
                case rel => exact ⟨j + 1, by omega, by go_num, Hno2, HB2⟩
                case measure => simp [intOf]; omega
        · have hjl : j = x.cons.length := by omega
          have hj1 : ¬ (j : Int) < (x.cons.length : Int) := by omega
          have Hz : Hid (useB D g x = false) := hide (by
            have := Hno.out
            rw [hjl, List.take_length] at this
            unfold useB exprsR
            rw [List.any_append, Hall.out, this]
            rfl)
          go_wp2_with fail
          go_ret
          exact ⟨ret_bool (by rw [Hz.out]), Hw.out _ hBr⟩
end Go.Proofs.YthlhhnnlbpecnaaGreat
