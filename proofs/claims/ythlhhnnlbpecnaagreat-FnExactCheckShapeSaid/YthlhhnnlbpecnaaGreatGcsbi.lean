/- Several texts of one proof in one file: Does an expression use what it may not: the program. Is an equation not required, or a second one: the program. The shape check: the program. Conditions: each theorem names its own. -/
import Derived.Test.YthlhhnnlbpecnaaGreatGcsbh
import Derived.Test.YthlhhnnlbpecnaaGreatGcsav
import Derived.Test.YthlhhnnlbpecnaaGreatGcsak
import Derived.Test.YthlhhnnlbpecnaaGreatGcsaz
import Derived.Test.YthlhhnnlbpecnaaGreatGcsaw
import Derived.Test.YthlhhnnlbpecnaaGreatGcsau
import Derived.Test.YthlhhnnlbpecnaaGreatGcsar
import Derived.Test.YthlhhnnlbpecnaaGreatGcsay

/- Does an expression use what it may not: the program. Conditions: grammar and rule have at most the size 2^20. -/
namespace Go.Proofs.YthlhhnnlbpecnaaGreat
set_option linter.unusedSimpArgs false
set_option linter.unusedVariables false
set_option maxRecDepth 100000
open Go.RowKit Go.WideShapes
set_option linter.unusedVariables false

set_option maxRecDepth 100000 in
theorem clo_mu11 (D : Nat) (g : Grm) (x : Rul) (y : Occ) (cs : List Value) (F : List Nat) (w : World) (h : OccR D w y cs F) (cg cr : List Value) (Fg Fr : List Nat) (B1 B2 : Nat) (hg : GrmR D w g cg Fg) (hr : RulR D w x cr Fr) (C1 : CellsAt w B1 0 cg) (C2 : CellsAt w B2 0 cr) (hb1 : B1 < w.heap.size) (hb2 : B2 < w.heap.size) :
    Calls Tryz.prog 57 #[.agg cs.toArray, .pointer (some ⟨B1, 0, none⟩), .pointer (some ⟨B2, 0, none⟩)] w fun en w' => en = .returned (.bool (!mayU g x y)) ∧ Below w.heap.size w w' := by
  have Hg : Hid (∀ W : World, Below w.heap.size w W → GrmR D W g cg Fg) := hide fun W hW => (GrmR.good D).below hg hW ((GrmR.good D).lt hg)
  have Hr : Hid (∀ W : World, Below w.heap.size w W → RulR D W x cr Fr) := hide fun W hW => (RulR.good D).below hr hW ((RulR.good D).lt hr)
  have Ho : Hid (∀ W : World, Below w.heap.size w W → OccR D W y cs F) := hide fun W hW => (OccR.good D).below h hW ((OccR.good D).lt h)
  obtain ⟨c0, c1, rfl⟩ := list2 ((OccR.good D).len h)
  obtain ⟨gc0, gc1, rfl⟩ := list2 ((GrmR.good D).len hg)
  obtain ⟨r0, r1, r2, r3, r4, r5, rfl⟩ := list_6 ((RulR.good D).len hr)
  have H1 := hide (OccR.one h)
  obtain ⟨C, hz0, hw0⟩ := boxes1 w [c0, c1] 81
  have HC1 := hide (C1.below hw0 hb1)
  have HC2 := hide (C2.below hw0 hb2)
  have HC := hide C
  have Hw0 := hide hw0
  have Hig : Hid ((Tryz.prog.info? 32).map (·.size) = some 2) := hide (by kernel_rfl)
  have Hir : Hid ((Tryz.prog.info? 50).map (·.size) = some 6) := hide (by kernel_rfl)
  have Hio : Hid ((Tryz.prog.info? 81).map (·.size) = some 2) := hide (by kernel_rfl)
  have a0 := cell_rule C1 (n := w.heap.size) hb1 0 rfl
  have a1 := cell_rule C1 (n := w.heap.size) hb1 1 rfl
  have b0 := cell_rule C2 (n := w.heap.size) hb2 0 rfl
  have b1 := cell_rule C2 (n := w.heap.size) hb2 1 rfl
  have b2 := cell_rule C2 (n := w.heap.size) hb2 2 rfl
  have b3 := cell_rule C2 (n := w.heap.size) hb2 3 rfl
  have b4 := cell_rule C2 (n := w.heap.size) hb2 4 rfl
  have b5 := cell_rule C2 (n := w.heap.size) hb2 5 rfl
  clear C h hg hr C1 C2
  show Calls _ _ #[.agg #[c0, c1], .pointer (some ⟨B1, 0, none⟩), .pointer (some ⟨B2, 0, none⟩)] w _
  go_enter Tryz.func57, Tryz.ntmps57
  go_wp2_with fail
  generalize w.alloc (Obj.cells #[c0, c1] 81) = W0 at HC1 HC2 HC Hw0 hw0 hz0 ⊢
  have Hcall := hide (i_MayUse D g x y _ _ _ Fg Fr F W0 (Hg.out _ Hw0.out) (Hr.out _ Hw0.out) (Ho.out _ Hw0.out))
  refine Calls.mono Hcall.out ?_
  rintro en w2 ⟨rfl, hb⟩
  have HB := hide (Hw0.out.trans (hb.mono Hw0.out.size))
  clear hb
  go_wp2_with fail
  go_ret
  exact ⟨rfl, HB.out⟩
set_option maxRecDepth 100000 in
theorem clo_mu1 (D : Nat) (g : Grm) (x : Rul) (y : Ex) (cs : List Value) (F : List Nat) (w : World) (h : ExR D w y cs F) (hbk : bulkE D y ≤ 1048576) (cg cr : List Value) (Fg Fr : List Nat) (B1 B2 : Nat) (hg : GrmR D w g cg Fg) (hr : RulR D w x cr Fr) (C1 : CellsAt w B1 0 cg) (C2 : CellsAt w B2 0 cr) (hb1 : B1 < w.heap.size) (hb2 : B2 < w.heap.size) :
    Calls Tryz.prog 55 #[.agg cs.toArray, .pointer (some ⟨B1, 0, none⟩), .pointer (some ⟨B2, 0, none⟩)] w fun en w' => en = .returned (.bool (useE D g x y)) ∧ Below w.heap.size w w' := by
  have Hg : Hid (∀ W : World, Below w.heap.size w W → GrmR D W g cg Fg) := hide fun W hW => (GrmR.good D).below hg hW ((GrmR.good D).lt hg)
  have Hr : Hid (∀ W : World, Below w.heap.size w W → RulR D W x cr Fr) := hide fun W hW => (RulR.good D).below hr hW ((RulR.good D).lt hr)
  have HC1 : Hid (∀ W : World, Below w.heap.size w W → CellsAt W B1 0 cg) := hide fun W hW => C1.below hW hb1
  have HC2 : Hid (∀ W : World, Below w.heap.size w W → CellsAt W B2 0 cr) := hide fun W hW => C2.below hW hb2
  have He : Hid (∀ W : World, Below w.heap.size w W → ExR D W y cs F) := hide fun W hW => (ExR.good D).below h hW ((ExR.good D).lt h)
  obtain ⟨c0, c1, c2, c3, c4, c5, c6, rfl⟩ := list7 ((ExR.good D).len h)
  have H1 := hide (ExR.one h)
  obtain ⟨C, hz0, hw0⟩ := boxes1 w [c0, c1, c2, c3, c4, c5, c6] 86
  have HC := hide C
  have Hw0 := hide hw0
  have Hix : Hid ((Tryz.prog.info? 86).map (·.size) = some 7) := hide (by kernel_rfl)
  clear C hw0 h hg hr C1 C2
  show Calls _ _ #[.agg #[c0, c1, c2, c3, c4, c5, c6], .pointer (some ⟨B1, 0, none⟩), .pointer (some ⟨B2, 0, none⟩)] w _
  go_enter Tryz.func55, Tryz.ntmps55
  go_wp2_with fail
  generalize w.alloc (Obj.cells #[c0, c1, c2, c3, c4, c5, c6] 86) = W0 at HC Hw0 hz0 ⊢
  have Hcall := hide (i_AttributeUses D y _ F W0 (He.out _ Hw0.out) hbk)
  go_wp2_with (refine wpList_load_at 86 (.tmp 3) rfl Tryz.underlying86 rfl Hix.out rfl rfl rfl HC.out ?_)
  refine Calls.mono Hcall.out ?_
  rintro en w2 ⟨v', G, rfl, hs, _, hb⟩
  obtain ⟨A, cap, rfl, _, _⟩ := hs.form
  have HB := hide (Hw0.out.trans (hb.mono Hw0.out.size))
  have HBs : Hid (∀ W : World, Below w2.heap.size w2 W → Below w.heap.size w W) := hide fun W hW => HB.out.trans (hW.mono HB.out.size)
  have HCon : Hid (Calls Tryz.prog 46 #[.slice A (sortO (usesE D y)).length cap, .func (.func 57) #[] #[.pointer (some ⟨B1, 0, none⟩), .pointer (some ⟨B2, 0, none⟩)]] w2 fun en w' => en = .returned (.bool (useE D g x y)) ∧ Below w2.heap.size w2 w') := hide
    (conA_Occ2 (OccR.good D) _ ent_misuses_1_1 _ _ (fun o => !mayU g x o) (sortO (usesE D y)) A cap G w2 hs fun W o cs Fk _ hW hR =>
      clo_mu11 D g x o cs Fk W hR cg cr Fg Fr B1 B2 (Hg.out W (HBs.out W hW)) (Hr.out W (HBs.out W hW)) (HC1.out W (HBs.out W hW)) (HC2.out W (HBs.out W hW)) (Nat.lt_of_lt_of_le hb1 (HBs.out W hW).size) (Nat.lt_of_lt_of_le hb2 (HBs.out W hW).size))
  clear hs hb
  go_wp2_with fail
  refine Calls.mono HCon.out ?_
  rintro en w3 ⟨rfl, hb⟩
  have HB3 := hide (HBs.out _ hb)
  clear hb
  go_wp2_with fail
  go_ret
  exact ⟨rfl, HB3.out⟩
set_option maxRecDepth 100000 in
set_option maxHeartbeats 4000000 in
theorem i_misuses (D : Nat) (g : Grm) (x : Rul) (cg cr : List Value) (Fg Fr : List Nat) (w : World) (hg : GrmR D w g cg Fg) (hr : RulR D w x cr Fr) (hbg : bulkGrm D g ≤ 1048576) (hbr : bulkRul D x ≤ 1048576) :
    Calls Tryz.prog 23 #[.agg cg.toArray, .agg cr.toArray] w fun en w' => en = .returned (.bool (useB D g x)) ∧ Below w.heap.size w w' := by
  have LG := hide ((GrmR.good D).lt hg)
  have LR := hide ((RulR.good D).lt hr)
  obtain ⟨gc0, gc1, rfl⟩ := list2 ((GrmR.good D).len hg)
  obtain ⟨r0, r1, r2, r3, r4, r5, rfl⟩ := list_6 ((RulR.good D).len hr)
  obtain ⟨A2, k2, A4, k4, A5, k5, F4, F5, rfl, rfl, rfl, hs4, hs5, hn4, hn5⟩ := rul_open hr
  have Hg : Hid (∀ W : World, Below w.heap.size w W → GrmR D W g [gc0, gc1] Fg) := hide fun W hW => (GrmR.good D).below hg hW LG.out
  have Hr : Hid (∀ W : World, Below w.heap.size w W → RulR D W x [r0, r1, .slice A2 x.right.length k2, r3, .slice A4 x.eqs.length k4, .slice A5 x.cons.length k5] Fr) := hide fun W hW => (RulR.good D).below hr hW LR.out
  have L4 := hide (hs4.lt (EqnR.good D))
  have L5 := hide (hs5.lt (ConR.good D))
  have Hs4 : Hid (∀ W : World, Below w.heap.size w W → SlR 9 (EqnR D) W x.eqs (.slice A4 x.eqs.length k4) F4) := hide fun W hW => hs4.below (EqnR.good D) hW L4.out
  have Hs5 : Hid (∀ W : World, Below w.heap.size w W → SlR 16 (ConR D) W x.cons (.slice A5 x.cons.length k5) F5) := hide fun W hW => hs5.below (ConR.good D) hW L5.out
  have Hig : Hid ((Tryz.prog.info? 32).map (·.size) = some 2) := hide (by kernel_rfl)
  have Hir : Hid ((Tryz.prog.info? 50).map (·.size) = some 6) := hide (by kernel_rfl)
  have Hio : Hid ((Tryz.prog.info? 81).map (·.size) = some 2) := hide (by kernel_rfl)
  have Hiq : Hid ((Tryz.prog.info? 88).map (·.size) = some 9) := hide (by kernel_rfl)
  have His : Hid ((Tryz.prog.info? 42).map (·.size) = some 2) := hide (by kernel_rfl)
  have Hix : Hid ((Tryz.prog.info? 86).map (·.size) = some 7) := hide (by kernel_rfl)
  obtain ⟨CG, CR, hz0, hw0⟩ := boxes2 w [gc0, gc1] [r0, r1, .slice A2 x.right.length k2, r3, .slice A4 x.eqs.length k4, .slice A5 x.cons.length k5] 32 50
  show Calls _ _ #[.agg #[gc0, gc1], .agg #[r0, r1, .slice A2 x.right.length k2, r3, .slice A4 x.eqs.length k4, .slice A5 x.cons.length k5]] w _
  clear hg hr hs4 hs5
  go_enter Tryz.func23, Tryz.ntmps23
  go_wp2_with fail
  generalize (w.alloc (Obj.cells #[gc0, gc1] 32)).alloc (Obj.cells #[r0, r1, .slice A2 x.right.length k2, r3, .slice A4 x.eqs.length k4, .slice A5 x.cons.length k5] 50) = W0 at CG CR hz0 hw0 ⊢
  have hn0 : w.heap.size + 2 ≤ W0.heap.size := by omega
  have Hw : Hid (∀ W : World, Below (w.heap.size + 2) W0 W → Below w.heap.size w W) := hide fun W h => hw0.trans (h.mono (by omega))
  have HcG : Hid (∀ W : World, Below (w.heap.size + 2) W0 W → CellsAt W w.heap.size 0 [gc0, gc1]) := hide fun W h => CG.below h (by omega)
  have HcR : Hid (∀ W : World, Below (w.heap.size + 2) W0 W → CellsAt W (w.heap.size + 1) 0 [r0, r1, .slice A2 x.right.length k2, r3, .slice A4 x.eqs.length k4, .slice A5 x.cons.length k5]) := hide fun W h => CR.below h (by omega)
  have hB0 : Below (w.heap.size + 2) W0 W0 := Below.refl _ _
  have a0 := cell_rule CG (n := w.heap.size + 2) (by omega) 0 rfl
  have a1 := cell_rule CG (n := w.heap.size + 2) (by omega) 1 rfl
  have b0 := cell_rule CR (n := w.heap.size + 2) (by omega) 0 rfl
  have b1 := cell_rule CR (n := w.heap.size + 2) (by omega) 1 rfl
  have b2 := cell_rule CR (n := w.heap.size + 2) (by omega) 2 rfl
  have b3 := cell_rule CR (n := w.heap.size + 2) (by omega) 3 rfl
  have b4 := cell_rule CR (n := w.heap.size + 2) (by omega) 4 rfl
  have b5 := cell_rule CR (n := w.heap.size + 2) (by omega) 5 rfl
  have hBa0 : ∀ (W : World) (o : Obj), Below (w.heap.size + 2) W0 W → Below (w.heap.size + 2) W0 (W.alloc o) := fun W o h => below_alloc hn0 o h
  have Hz0 := hide hz0
  clear CG CR hz0 hw0
  have Hbr := hide hbr
  have Hbg := hide hbg
  have HcG0 := hide (HcG.out _ hB0)
  have HcR0 := hide (HcR.out _ hB0)
  clear hbr hbg
  go_wp2_with fail
  refine Calls.mono (i_expressions D x _ Fr _ (Hr.out _ (Hw.out _ hB0)) Hbr.out) ?_
  rintro en W1 ⟨v', G, rfl, h1, h3⟩
  obtain ⟨A, cap, rfl, hlc, hm⟩ := h1.form
  have hB1 : Below (w.heap.size + 2) W0 W1 := below_step hB0 hn0 h3
  have HCon : Hid (Calls Tryz.prog 53 #[.slice A (exprsR x).length cap, .func (.func 55) #[] #[.pointer (some ⟨w.heap.size, 0, none⟩), .pointer (some ⟨w.heap.size + 1, 0, none⟩)]] W1 fun en w' => en = .returned (.bool (useB D g x)) ∧ Below W1.heap.size W1 w') := hide
    (conA_Ex2 (ExR.good D) _ ent_misuses_1 _ _ (useE D g x) (exprsR x) A cap G W1 h1 fun W y cs Fk hy hW hR =>
      clo_mu1 D g x y cs Fk W hR (exprs_bulk Hbr.out y hy) _ _ Fg Fr _ _ (Hg.out W (Hw.out W (below_step hB1 hn0 hW))) (Hr.out W (Hw.out W (below_step hB1 hn0 hW))) (HcG.out W (below_step hB1 hn0 hW)) (HcR.out W (below_step hB1 hn0 hW)) (by have := (below_step hB1 hn0 hW).size; omega) (by have := (below_step hB1 hn0 hW).size; omega))
  clear h1 h3
  go_wp2_with fail
  refine Calls.mono HCon.out ?_
  rintro en W2 ⟨rfl, h⟩
  have HB2 := hide (Hw.out _ (below_step hB1 hn0 h))
  clear h
  go_wp2_with fail
  go_ret
  exact ⟨rfl, HB2.out⟩
end Go.Proofs.YthlhhnnlbpecnaaGreat

/- Is an equation not required, or a second one: the program. Conditions: grammar and rule have at most the size 2^20, and the list of what is required is not too long. -/
namespace Go.Proofs.YthlhhnnlbpecnaaGreat
set_option linter.unusedSimpArgs false
set_option linter.unusedVariables false
set_option maxRecDepth 100000
open Go.RowKit Go.WideShapes
set_option linter.unusedVariables false

set_option maxRecDepth 100000 in
set_option maxHeartbeats 4000000 in
theorem i_extra (D : Nat) (g : Grm) (x : Rul) (cg cr : List Value) (Fg Fr : List Nat) (w : World) (hg : GrmR D w g cg Fg) (hr : RulR D w x cr Fr) (hbj : ReqJ D g x) :
    Calls Tryz.prog 22 #[.agg cg.toArray, .agg cr.toArray] w fun en w' => en = .returned (.bool (extB g x)) ∧ Below w.heap.size w w' := by
  have hlq := (bulk_rul hbj.rul).2.1
  have LG := hide ((GrmR.good D).lt hg)
  have LR := hide ((RulR.good D).lt hr)
  obtain ⟨gc0, gc1, rfl⟩ := list2 ((GrmR.good D).len hg)
  obtain ⟨r0, r1, r2, r3, r4, r5, rfl⟩ := list_6 ((RulR.good D).len hr)
  obtain ⟨A2, k2, A4, k4, A5, k5, F4, F5, rfl, rfl, rfl, hs4, hs5, hn4, hn5⟩ := rul_open hr
  have Hg : Hid (∀ W : World, Below w.heap.size w W → GrmR D W g [gc0, gc1] Fg) := hide fun W hW => (GrmR.good D).below hg hW LG.out
  have Hr : Hid (∀ W : World, Below w.heap.size w W → RulR D W x [r0, r1, .slice A2 x.right.length k2, r3, .slice A4 x.eqs.length k4, .slice A5 x.cons.length k5] Fr) := hide fun W hW => (RulR.good D).below hr hW LR.out
  have L4 := hide (hs4.lt (EqnR.good D))
  have L5 := hide (hs5.lt (ConR.good D))
  have Hs4 : Hid (∀ W : World, Below w.heap.size w W → SlR 9 (EqnR D) W x.eqs (.slice A4 x.eqs.length k4) F4) := hide fun W hW => hs4.below (EqnR.good D) hW L4.out
  have Hs5 : Hid (∀ W : World, Below w.heap.size w W → SlR 16 (ConR D) W x.cons (.slice A5 x.cons.length k5) F5) := hide fun W hW => hs5.below (ConR.good D) hW L5.out
  have Hig : Hid ((Tryz.prog.info? 32).map (·.size) = some 2) := hide (by kernel_rfl)
  have Hir : Hid ((Tryz.prog.info? 50).map (·.size) = some 6) := hide (by kernel_rfl)
  have Hio : Hid ((Tryz.prog.info? 81).map (·.size) = some 2) := hide (by kernel_rfl)
  have Hiq : Hid ((Tryz.prog.info? 88).map (·.size) = some 9) := hide (by kernel_rfl)
  have His : Hid ((Tryz.prog.info? 42).map (·.size) = some 2) := hide (by kernel_rfl)
  have Hix : Hid ((Tryz.prog.info? 86).map (·.size) = some 7) := hide (by kernel_rfl)
  obtain ⟨CG, CR, hz0, hw0⟩ := boxes2 w [gc0, gc1] [r0, r1, .slice A2 x.right.length k2, r3, .slice A4 x.eqs.length k4, .slice A5 x.cons.length k5] 32 50
  show Calls _ _ #[.agg #[gc0, gc1], .agg #[r0, r1, .slice A2 x.right.length k2, r3, .slice A4 x.eqs.length k4, .slice A5 x.cons.length k5]] w _
  clear hg hr hs4 hs5
  go_enter Tryz.func22, Tryz.ntmps22
  go_wp2_with fail
  generalize (w.alloc (Obj.cells #[gc0, gc1] 32)).alloc (Obj.cells #[r0, r1, .slice A2 x.right.length k2, r3, .slice A4 x.eqs.length k4, .slice A5 x.cons.length k5] 50) = W0 at CG CR hz0 hw0 ⊢
  have hn0 : w.heap.size + 2 ≤ W0.heap.size := by omega
  have Hw : Hid (∀ W : World, Below (w.heap.size + 2) W0 W → Below w.heap.size w W) := hide fun W h => hw0.trans (h.mono (by omega))
  have HcG : Hid (∀ W : World, Below (w.heap.size + 2) W0 W → CellsAt W w.heap.size 0 [gc0, gc1]) := hide fun W h => CG.below h (by omega)
  have HcR : Hid (∀ W : World, Below (w.heap.size + 2) W0 W → CellsAt W (w.heap.size + 1) 0 [r0, r1, .slice A2 x.right.length k2, r3, .slice A4 x.eqs.length k4, .slice A5 x.cons.length k5]) := hide fun W h => CR.below h (by omega)
  have hB0 : Below (w.heap.size + 2) W0 W0 := Below.refl _ _
  have a0 := cell_rule CG (n := w.heap.size + 2) (by omega) 0 rfl
  have a1 := cell_rule CG (n := w.heap.size + 2) (by omega) 1 rfl
  have b0 := cell_rule CR (n := w.heap.size + 2) (by omega) 0 rfl
  have b1 := cell_rule CR (n := w.heap.size + 2) (by omega) 1 rfl
  have b2 := cell_rule CR (n := w.heap.size + 2) (by omega) 2 rfl
  have b3 := cell_rule CR (n := w.heap.size + 2) (by omega) 3 rfl
  have b4 := cell_rule CR (n := w.heap.size + 2) (by omega) 4 rfl
  have b5 := cell_rule CR (n := w.heap.size + 2) (by omega) 5 rfl
  have hBa0 : ∀ (W : World) (o : Obj), Below (w.heap.size + 2) W0 W → Below (w.heap.size + 2) W0 (W.alloc o) := fun W o h => below_alloc hn0 o h
  have Hz0 := hide hz0
  clear CG CR hz0 hw0
  have hkq : (x.eqs.length : Int) ≤ (k4 : Int) := by omega
  have Hbj := hide hbj
  clear hbj
  go_wp2_with fail
  refine Calls.mono (i_required D g x _ _ Fg Fr _ (Hg.out _ (Hw.out _ hB0)) (Hr.out _ (Hw.out _ hB0)) Hbj.out) ?_
  rintro en W1 ⟨v', G, rfl, h1, h2, h3⟩
  obtain ⟨A, cap, rfl, hlc, hm⟩ := h1.form
  have hB1 : Below (w.heap.size + 2) W0 W1 := below_step hB0 hn0 h3
  have LG1 := hide (h1.lt (OccR.good D))
  have H1 := hide h1
  have HW1 : Hid (∀ W : World, Below W1.heap.size W1 W → Below (w.heap.size + 2) W0 W) := hide fun W h => below_step hB1 hn0 h
  have hB11 : Below W1.heap.size W1 W1 := Below.refl _ _
  have hn1 : w.heap.size + 2 ≤ W1.heap.size := Nat.le_trans hn0 hB1.size
  clear h1 h2 h3 hm hlc
  go_wp2_with fail
  go_loopw [14] (fun i wr => ∃ j : Nat, j ≤ x.eqs.length ∧ i = .int .i64 j ∧ Hid ((List.range j).any (extI g x) = false) ∧ Hid (Below W1.heap.size W1 wr)) (fun i _ => x.eqs.length - (intOf i).toNat)
  case atStart => exact ⟨0, by omega, rfl, hide rfl, hide hB11⟩
  case round =>
    obtain ⟨j, hj, rfl, Hno, Hb⟩ := hrel
    have hBr := HW1.out _ Hb.out
    by_cases hlt : j < x.eqs.length
    · have hX : x.eqs[j]? = some x.eqs[j] := List.getElem?_eq_getElem hlt
      generalize x.eqs[j] = X at hX
      obtain ⟨b, off, cs, Fk, hA, _, hbF, hFk, hcl, hcat, hR⟩ := SlR.get (EqnR.good D) (Hs4.out wr (Hw.out wr hBr)) hX
      subst hA
      obtain ⟨c0, c1, c2, c3, c4, c5, c6, c7, c8, rfl⟩ := list_9 hcl
      have H9 := hide (EqnR.one hR)
      obtain ⟨f0', f1', _, hO, hE, hFF⟩ := hR
      obtain ⟨_, hOk, q0, q1, _⟩ := hO
      obtain rfl : c0 = .int .i64 X.at_.pos := by simpa using q0
      obtain rfl : c1 = .string X.at_.name := by simpa using q1
      have HX := hide hX
      have hlb : b < w.heap.size := L4.out b hbF
      have hblr : b < wr.heap.size := Nat.lt_of_lt_of_le hlb (Hw.out wr hBr).size
      have Hc := hide hcat
      have Hn : Hid ([.int .i64 X.at_.pos, .string X.at_.name, c2, c3, c4, c5, c6, c7, c8].length = 9) := hide rfl
      have hj0 : (0 : Int) ≤ (j : Int) := by omega
      have hj1 : (j : Int) < (x.eqs.length : Int) := by omega
      have hj2 : (j : Int) ≤ (k4 : Int) := by omega
      have hbase : w.heap.size + 2 ≤ wr.heap.size := Nat.le_trans hn0 hBr.size
      have Hex := hide (extI_at (g := g) hX)
      clear hX hFk hbF hcl hE hFF q0 q1 hOk hcat
      go_wp2_with (first
        | refine wpList_load_at 88 (.tmp 17) rfl Tryz.underlying88 rfl Hiq.out rfl rfl Hn.out Hc.out ?_
        | (refine wpList_store_new 88 (.tmp 7) (.tmp 18) rfl Hiq.out rfl rfl rfl rfl Hn.out H9.out rfl ?_; refine hold ?_))
      have C := CellsAt.new wr [.int .i64 X.at_.pos, .string X.at_.name, c2, c3, c4, c5, c6, c7, c8] 88
      have hz := World.size_alloc wr (Obj.cells #[.int .i64 X.at_.pos, .string X.at_.name, c2, c3, c4, c5, c6, c7, c8] 88)
      have hwv : Below W1.heap.size W1 (wr.alloc (Obj.cells #[.int .i64 X.at_.pos, .string X.at_.name, c2, c3, c4, c5, c6, c7, c8] 88)) := Hb.out.alloc Hb.out.size _
      generalize wr.alloc (Obj.cells #[.int .i64 X.at_.pos, .string X.at_.name, c2, c3, c4, c5, c6, c7, c8] 88) = V1 at C hz hwv ⊢
      have ex0 := cell_rule C (n := wr.heap.size + 1) (by omega) 0 rfl
      have ex1 := cell_rule C (n := wr.heap.size + 1) (by omega) 1 rfl
      have hVV : Below (wr.heap.size + 1) V1 V1 := Below.refl _ _
      have hBV := HW1.out _ hwv
      have hzV : wr.heap.size + 1 ≤ V1.heap.size := by omega
      have HCO := hide (i_ContainsO D (reqO g x) A cap G X.at_ V1 (H1.out.below (OccR.good D) hwv LG1.out))
      clear C hz
      refine Hold.go ?_
      go_wp2_with fail
      refine Calls.mono HCO.out ?_
      rintro en w2 ⟨rfl, hb2⟩
      have hw2 : Below W1.heap.size W1 w2 := below_step hwv (Nat.le_refl _) hb2
      have hv2 : Below (wr.heap.size + 1) V1 w2 := hb2.mono hzV
      have hB2 := HW1.out _ hw2
      have Hv2 : Hid (∀ W : World, Below w2.heap.size w2 W → Below (wr.heap.size + 1) V1 W) := hide fun W h => below_step hv2 hzV h
      have Hx2 : Hid (∀ W : World, Below w2.heap.size w2 W → Below W1.heap.size W1 W) := hide fun W h => below_step hw2 (Nat.le_refl _) h
      clear hb2
      cases hq : hasO (reqO g x) X.at_
      · have Hyes : Hid (extB g x = true) := hide (any_range hlt (by rw [Hex.out]; unfold extAt; rw [hq]; rfl))
        clear hq
        go_wp2_with fail
        go_ret
        exact ⟨ret_bool (by rw [Hyes.out]), Hw.out _ hB2⟩
      · have HCon : Hid (Calls Tryz.prog 49 #[.slice (some ⟨b, off, none⟩) j k4, .func (.func 52) #[] #[.pointer (some ⟨wr.heap.size, 0, none⟩)]] w2 fun en w' => en = .returned (.bool (hasQ (x.eqs.take j) X.at_)) ∧ Below w2.heap.size w2 w') := hide
          (con_Eqn1 (EqnR.good D) _ ent_extra_1 _ (fun e => eqOcc e.at_ X.at_) x.eqs (some ⟨b, off, none⟩) k4 j F4 w2 (Hs4.out w2 (Hw.out w2 hB2)) hj fun W y cs Fk _ hW hR => clo_ex1 D y cs Fk W hR _ X.at_ (ex0 W (Hv2.out W hW)) (ex1 W (Hv2.out W hW)))
        have Hex2 : Hid (extI g x j = hasQ (x.eqs.take j) X.at_) := hide (by rw [Hex.out]; unfold extAt; rw [hq]; rfl)
        clear hq
        generalize hasQ (x.eqs.take j) X.at_ = q at HCon Hex2
        cases q
        all_goals
          go_wp2_with fail
          refine Calls.mono HCon.out ?_
          rintro en w3 ⟨rfl, hb3⟩
          have HB3 := hide (Hx2.out _ hb3)
          clear hb3
          go_wp2_with fail
        · have Hno2 := hide (any_range_next Hno.out Hex2.out)
          go_roundw
          case rel => exact ⟨j + 1, by omega, by go_num, Hno2, HB3⟩
          case measure => simp [intOf]; omega
        · have Hyes : Hid (extB g x = true) := hide (any_range hlt Hex2.out)
          go_ret
          exact ⟨ret_bool (by rw [Hyes.out]), Hw.out _ (HW1.out _ HB3.out)⟩
    · have hjl : j = x.eqs.length := by omega
      have hj1 : ¬ (j : Int) < (x.eqs.length : Int) := by omega
      have Hall : Hid (extB g x = false) := hide (by unfold extB; rw [← hjl]; exact Hno.out)
      go_wp2_with fail
      go_ret
      exact ⟨ret_bool (by rw [Hall.out]), Hw.out _ hBr⟩
end Go.Proofs.YthlhhnnlbpecnaaGreat

/- The shape check: the program. Conditions: the grammar has at most the size 2^20. -/
namespace Go.Proofs.YthlhhnnlbpecnaaGreat
set_option linter.unusedSimpArgs false
set_option linter.unusedVariables false
set_option maxRecDepth 100000
open Go.RowKit Go.WideShapes
set_option linter.unusedVariables false

set_option maxRecDepth 100000 in
set_option maxHeartbeats 4000000 in
theorem i_CheckShape (D : Nat) (g : Grm) (cg : List Value) (Fg : List Nat) (w : World) (hg : GrmR D w g cg Fg) (hbg : bulkGrm D g ≤ 1048576) :
    Calls Tryz.prog 7 #[.agg cg.toArray] w fun en w' => en = .returned (.tuple #[.int .i64 (chk D g).1, .int .i64 (chk D g).2]) ∧ Below w.heap.size w w' := by
  have hls := bulk_nsyms hbg
  have hlr := bulk_nrules hbg
  obtain ⟨gc0, gc1, rfl⟩ := list2 ((GrmR.good D).len hg)
  have LG := hide ((GrmR.good D).lt hg)
  obtain ⟨A0, k0, A1, k1, F0, F1, rfl, rfl, hs0, hs1, hk0, hk1⟩ := grm_open hg
  have Hg : Hid (∀ W : World, Below w.heap.size w W → GrmR D W g [.slice A0 g.symbols.length k0, .slice A1 g.rules.length k1] Fg) := hide fun W hW => (GrmR.good D).below hg hW LG.out
  have L0 := hide (hs0.lt (SymR.good D))
  have L1 := hide (hs1.lt (RulR.good D))
  have Hs0 : Hid (∀ W : World, Below w.heap.size w W → SlR 2 (SymR D) W g.symbols (.slice A0 g.symbols.length k0) F0) := hide fun W hW => hs0.below (SymR.good D) hW L0.out
  have Hs1 : Hid (∀ W : World, Below w.heap.size w W → SlR 6 (RulR D) W g.rules (.slice A1 g.rules.length k1) F1) := hide fun W hW => hs1.below (RulR.good D) hW L1.out
  have Hig : Hid ((Tryz.prog.info? 32).map (·.size) = some 2) := hide (by kernel_rfl)
  have Hir : Hid ((Tryz.prog.info? 50).map (·.size) = some 6) := hide (by kernel_rfl)
  have His : Hid ((Tryz.prog.info? 42).map (·.size) = some 2) := hide (by kernel_rfl)
  have Hbs := hide (bulk_syms hbg)
  have Hbr := hide (bulk_rules hbg)
  have Hbg := hide hbg
  have hk0i : (g.symbols.length : Int) ≤ (k0 : Int) := by omega
  have hk1i : (g.rules.length : Int) ≤ (k1 : Int) := by omega
  obtain ⟨CG, hz0, hw0⟩ := boxes1 w [.slice A0 g.symbols.length k0, .slice A1 g.rules.length k1] 32
  show Calls _ _ #[.agg #[.slice A0 g.symbols.length k0, .slice A1 g.rules.length k1]] w _
  clear hg hs0 hs1 hbg
  go_enter Tryz.func7, Tryz.ntmps7
  go_wp2_with fail
  generalize w.alloc (Obj.cells #[.slice A0 g.symbols.length k0, .slice A1 g.rules.length k1] 32) = W0 at CG hz0 hw0 ⊢
  have hn0 : w.heap.size + 1 ≤ W0.heap.size := by omega
  have Hw : Hid (∀ W : World, Below (w.heap.size + 1) W0 W → Below w.heap.size w W) := hide fun W h => hw0.trans (h.mono (by omega))
  have HcG : Hid (∀ W : World, Below (w.heap.size + 1) W0 W → CellsAt W w.heap.size 0 [.slice A0 g.symbols.length k0, .slice A1 g.rules.length k1]) := hide fun W h => CG.below h (by omega)
  have hB0 : Below (w.heap.size + 1) W0 W0 := Below.refl _ _
  have a0 := cell_rule CG (n := w.heap.size + 1) (by omega) 0 rfl
  have a1 := cell_rule CG (n := w.heap.size + 1) (by omega) 1 rfl
  have hBa0 : ∀ (W : World) (o : Obj), Below (w.heap.size + 1) W0 W → Below (w.heap.size + 1) W0 (W.alloc o) := fun W o h => below_alloc hn0 o h
  have Hz0 := hide hz0
  clear CG hz0 hw0
  obtain ⟨p1, hp1⟩ : ∃ p, p = inR g.symbols.length 1 4 := ⟨_, rfl⟩
  obtain ⟨p2, hp2⟩ : ∃ p, p = inR g.rules.length 1 8 := ⟨_, rfl⟩
  have Hp1 := hide hp1
  have Hp2 := hide hp2
  have C1 : Hid (∀ W : World, Calls Tryz.prog 16 #[.int .i64 (g.symbols.length : Int), .int .i64 1, .int .i64 4] W fun en w' => en = .returned (.bool p1) ∧ W = w') := hide fun W => hp1 ▸ i_within _ _ _ W
  have C2 : Hid (∀ W : World, Calls Tryz.prog 16 #[.int .i64 (g.rules.length : Int), .int .i64 1, .int .i64 8] W fun en w' => en = .returned (.bool p2) ∧ W = w') := hide fun W => hp2 ▸ i_within _ _ _ W
  clear hp1 hp2
  go_wp2_with fail
  refine Calls.mono (C1.out _) ?_
  rintro en w' ⟨rfl, rfl⟩
  cases p1
  · have Hres := hide (chk_size (D := D) (.inl Hp1.out.symm))
    go_wp2_with fail
    exact bodyPost_ret (v := .tuple #[.int .i64 (1), .int .i64 (0)]) (by simp [results, Tryz.results7, go_sem]) rfl ⟨ret_pair Hres.out rfl rfl, Hw.out _ hB0⟩
  go_wp2_with fail
  refine Calls.mono (C2.out _) ?_
  rintro en w' ⟨rfl, rfl⟩
  cases p2
  · have Hres := hide (chk_size (D := D) (.inr Hp2.out.symm))
    go_wp2_with fail
    exact bodyPost_ret (v := .tuple #[.int .i64 (1), .int .i64 (0)]) (by simp [results, Tryz.results7, go_sem]) rfl ⟨ret_pair Hres.out rfl rfl, Hw.out _ hB0⟩
  have HSF := hide (i_shapeFault D g _ Fg _ (Hg.out _ (Hw.out _ hB0)) Hbg.out)
  go_wp2_with fail
  refine Calls.mono HSF.out ?_
  rintro en w1 ⟨rfl, hb⟩
  have hB1 := below_step hB0 hn0 hb
  clear hb HSF
  by_cases hv : 0 ≤ badG D g
  · have Hres := hide (chk_bad (D := D) Hp1.out.symm Hp2.out.symm hv)
    go_wp2_with fail
    exact bodyPost_ret (v := .tuple #[.int .i64 (1), .int .i64 (badG D g)]) (by simp [results, Tryz.results7, go_sem]) rfl ⟨ret_pair Hres.out rfl rfl, Hw.out _ hB1⟩
  have hvn : badG D g < 0 := by omega
  have Hv := hide hvn
  have hlen0 : 0 < g.symbols.length := by
    have h := Hp1.out
    unfold inR at h
    simp at h
    omega
  have hli : (0 : Int) < (g.symbols.length : Int) := by omega
  have hX : g.symbols[0]? = some g.symbols[0] := List.getElem?_eq_getElem hlen0
  have hstart := start_at hX
  generalize g.symbols[0] = X at hX hstart
  obtain ⟨b, off, cs, Fk, hA, _, hbF, hFk, hcl, hcat, hR⟩ := SlR.get (SymR.good D) (Hs0.out W0 (Hw.out W0 hB0)) hX
  subst hA
  obtain ⟨c0, c1, rfl⟩ := list2 hcl
  obtain ⟨v1, F1', _, hk, h0, ⟨h1, g1⟩, hFe⟩ := hR
  obtain rfl := Option.some.inj h0
  obtain rfl := Option.some.inj h1
  obtain ⟨Aa, ka, rfl, _, _⟩ := g1.form
  have hlb2 : b < w.heap.size + 1 := by have := L0.out b hbF; omega
  have HFa : Hid (∀ m ∈ F1', m < w.heap.size + 1) := hide fun m hm => by have := L0.out m (hFk m (hFe ▸ hm)); omega
  simp only [Nat.zero_mul, Nat.add_zero] at hcat
  have es0 : ∀ W : World, Below (w.heap.size + 1) W0 W → W.cell? ⟨b, off, none⟩ = some (.string X.name) := fun W h => (hcat.below h hlb2) 0 _ rfl
  have es1 : ∀ W : World, Below (w.heap.size + 1) W0 W → W.cell? ⟨b, off + 1, none⟩ = some (.slice Aa X.attrs.length ka) := fun W h => (hcat.below h hlb2) 1 _ rfl
  have HCon : Hid (Calls Tryz.prog 18 #[.slice Aa X.attrs.length ka, .func (.func 19) #[] #[]] w1 fun en w' => en = .returned (.bool (startB g)) ∧ Below w1.heap.size w1 w') := hide (by
    rw [hstart]
    exact conA_Atr0 (AtrR.good D) _ ent_CheckShape_1 (fun a => a.mode == 1) X.attrs Aa ka F1' w1 (g1.below (AtrR.good D) hB1 HFa.out) fun W y cs Fk _ hW hR => clo_cs1 D y cs Fk W hR)
  clear hX hstart hbF hFk hcl hcat hk h0 h1 g1 hFe
  obtain ⟨p3, hp3⟩ : ∃ p, p = startB g := ⟨_, rfl⟩
  have Hp3 := hide hp3
  rw [← hp3] at HCon
  clear hp3
  go_wp2_with fail
  refine Calls.mono HCon.out ?_
  rintro en w2 ⟨rfl, hb⟩
  have hB2 := below_step hB1 hn0 hb
  clear hb HCon
  cases p3
  rotate_left
  · have Hres := hide (chk_start (D := D) Hp1.out.symm Hp2.out.symm Hv.out Hp3.out.symm)
    go_wp2_with fail
    exact bodyPost_ret (v := .tuple #[.int .i64 (2), .int .i64 (0)]) (by simp [results, Tryz.results7, go_sem]) rfl ⟨ret_pair Hres.out rfl rfl, Hw.out _ hB2⟩
  have HB2 := hide hB2
  clear hB1 es0 es1
  go_wp2_with fail
  go_loopw [5] (fun v wr => ∃ c : Nat, 3 ≤ c ∧ c ≤ 7 ∧ v = .int .i64 c ∧ Hid (FromC D g c) ∧ Hid (Below (w.heap.size + 1) W0 wr)) (fun v _ => 7 - (intOf v).toNat)
  case atStart => exact ⟨3, by omega, by omega, rfl, hide (show FromC D g 3 from rfl), HB2⟩
  case round =>
    obtain ⟨c, hc3, hc7, rfl, Hf, Hb⟩ := hrel
    have hBr := Hb.out
    by_cases hc6 : c ≤ 6
    · have hci : (c : Int) ≤ 6 := by omega
      obtain ⟨wo, rfl⟩ : ∃ wo, wo = wr := ⟨_, rfl⟩
      clear hB2
      go_wp2_with fail
      go_loopw [39] (fun i wr => ∃ j : Nat, j ≤ g.rules.length ∧ i = .int .i64 j ∧ Hid (∀ (m : Nat) (y : Rul), m < j → g.rules[m]? = some y → brk D g c y = false) ∧ Hid (Below (w.heap.size + 1) W0 wr)) (fun i _ => g.rules.length - (intOf i).toNat)
      case atStart => exact ⟨0, by omega, rfl, hide (fun m y hm => absurd hm (by omega)), Hb⟩
      case round =>
        clear hBr
        obtain ⟨j, hj, rfl, Hno, Hb⟩ := hrel
        have hBr := Hb.out
        have hbase : w.heap.size + 1 ≤ wr.heap.size := Nat.le_trans hn0 hBr.size
        by_cases hlt : j < g.rules.length
        · have hX : g.rules[j]? = some g.rules[j] := List.getElem?_eq_getElem hlt
          generalize g.rules[j] = X at hX
          obtain ⟨b, off, cs, Fk, hA, _, hbF, hFk, hcl, hcat, hR⟩ := SlR.get (RulR.good D) (Hs1.out wr (Hw.out wr hBr)) hX
          subst hA
          have H1 := hide (RulR.one hR)
          obtain ⟨c0, c1, c2, c3, c4, c5, rfl⟩ := list_6 hcl
          have HX := hide hX
          have HR := hide hR
          have HbX := hide (Hbr.out X (List.mem_of_getElem? hX))
          have HJ : Hid (ReqJ D g X) := hide (ReqJ.of_short Hbg.out HbX.out (Nat.le_trans (badG_good (Int.not_le.2 Hv.out) (List.mem_of_getElem? hX)) (by decide)))
          have hlb : b < wr.heap.size := Nat.lt_of_lt_of_le (L1.out b hbF) (Hw.out wr hBr).size
          have HFk : Hid (∀ m ∈ Fk, m < wr.heap.size) := hide ((RulR.good D).lt hR)
          have Hc := hide hcat
          have Hn : Hid (([c0, c1, c2, c3, c4, c5] : List Value).length = 6) := hide rfl
          have hj0 : (0 : Int) ≤ (j : Int) := by omega
          have hj1 : (j : Int) < (g.rules.length : Int) := by omega
          clear hX hFk hbF hcl hcat hR
          go_wp2_with (first
            | refine wpList_load_at 50 (.tmp 42) rfl Tryz.underlying50 rfl Hir.out rfl rfl Hn.out Hc.out ?_
            | (refine wpList_store_new 50 (.tmp 7) (.tmp 43) rfl Hir.out rfl rfl rfl rfl Hn.out H1.out rfl ?_; refine hold ?_))
          have C := CellsAt.new wr [c0, c1, c2, c3, c4, c5] 50
          have hz := World.size_alloc wr (Obj.cells #[c0, c1, c2, c3, c4, c5] 50)
          have hrv : Below wr.heap.size wr (wr.alloc (Obj.cells #[c0, c1, c2, c3, c4, c5] 50)) := (Below.refl _ _).alloc (Nat.le_refl _) _
          generalize wr.alloc (Obj.cells #[c0, c1, c2, c3, c4, c5] 50) = V1 at C hz hrv ⊢
          have HRV := hide ((RulR.good D).below HR.out hrv HFk.out)
          have hwv : Below (w.heap.size + 1) W0 V1 := below_step hBr hn0 hrv
          have HGV := hide (Hg.out _ (Hw.out _ hwv))
          have HC0 := hide C
          clear C hz hrv
          refine Hold.go ?_
          have hc4 : c = 3 ∨ c = 4 ∨ c = 5 ∨ c = 6 := by omega
          rcases hc4 with hcv | hcv | hcv | hcv
          · have HCon : Hid (Calls Tryz.prog 20 #[.agg #[.slice (some ⟨_, _, none⟩) g.symbols.length k0, .slice (some ⟨b, off, none⟩) g.rules.length k1], .agg #[c0, c1, c2, c3, c4, c5]] V1 fun en w' => en = .returned (.bool (brk D g c X)) ∧ Below V1.heap.size V1 w') := hide (by rw [hcv, brk3]; exact i_unknown D g X _ _ Fg Fk V1 HGV.out HRV.out Hbg.out HbX.out)
            have d3 : decide ((c : Int) = 3) = true := decide_eq_true (by omega)
            have e3 : ((c : Int) == 3) = true := by rw [hcv]; rfl
            clear hcv
            obtain ⟨q, hq⟩ : ∃ q, q = brk D g c X := ⟨_, rfl⟩
            have Hq := hide hq.symm
            rw [← hq] at HCon
            clear hq
            go_wp2_with (refine wpList_load_at 50 (.tmp 7) rfl Tryz.underlying50 rfl Hir.out rfl rfl Hn.out HC0.out ?_)
            refine Calls.mono HCon.out ?_
            rintro en w3 ⟨rfl, hb⟩
            have HB3 := hide (below_step hwv hn0 hb)
            clear hb HCon
            cases q
            · have Hno2 := hide (brk_next Hno.out HX.out Hq.out)
              go_wp2_with fail
              go_roundw
              case rel => exact ⟨j + 1, by omega, by go_num, Hno2, HB3⟩
              case measure => simp [intOf]; omega
            · have Hres := hide (chk_hit Hp1.out.symm Hp2.out.symm Hv.out Hp3.out.symm hc6 Hf.out Hno.out HX.out Hq.out)
              go_wp2_with fail
              exact bodyPost_ret (v := .tuple #[.int .i64 ((c : Int)), .int .i64 ((j : Int))]) (by simp [results, Tryz.results7, go_sem]) rfl ⟨ret_pair Hres.out rfl rfl, Hw.out _ HB3.out⟩
          · have HCon : Hid (Calls Tryz.prog 21 #[.agg #[.slice (some ⟨_, _, none⟩) g.symbols.length k0, .slice (some ⟨b, off, none⟩) g.rules.length k1], .agg #[c0, c1, c2, c3, c4, c5]] V1 fun en w' => en = .returned (.bool (brk D g c X)) ∧ Below V1.heap.size V1 w') := hide (by rw [hcv, brk4]; exact i_missing D g X _ _ Fg Fk V1 HGV.out HRV.out HJ.out)
            have t3 : ¬ (c : Int) = 3 := by omega
            have d3 : decide ((c : Int) = 3) = false := decide_eq_false t3
            have d4 : decide ((c : Int) = 4) = true := decide_eq_true (by omega)
            have e4 : ((c : Int) == 4) = true := by rw [hcv]; rfl
            clear hcv
            obtain ⟨q, hq⟩ : ∃ q, q = brk D g c X := ⟨_, rfl⟩
            have Hq := hide hq.symm
            rw [← hq] at HCon
            clear hq
            go_wp2_with (refine wpList_load_at 50 (.tmp 7) rfl Tryz.underlying50 rfl Hir.out rfl rfl Hn.out HC0.out ?_)
            refine Calls.mono HCon.out ?_
            rintro en w3 ⟨rfl, hb⟩
            have HB3 := hide (below_step hwv hn0 hb)
            clear hb HCon
            cases q
            · have Hno2 := hide (brk_next Hno.out HX.out Hq.out)
              go_wp2_with fail
              go_roundw
              case rel => exact ⟨j + 1, by omega, by go_num, Hno2, HB3⟩
              case measure => simp [intOf]; omega
            · have Hres := hide (chk_hit Hp1.out.symm Hp2.out.symm Hv.out Hp3.out.symm hc6 Hf.out Hno.out HX.out Hq.out)
              go_wp2_with fail
              exact bodyPost_ret (v := .tuple #[.int .i64 ((c : Int)), .int .i64 ((j : Int))]) (by simp [results, Tryz.results7, go_sem]) rfl ⟨ret_pair Hres.out rfl rfl, Hw.out _ HB3.out⟩
          · have HCon : Hid (Calls Tryz.prog 22 #[.agg #[.slice (some ⟨_, _, none⟩) g.symbols.length k0, .slice (some ⟨b, off, none⟩) g.rules.length k1], .agg #[c0, c1, c2, c3, c4, c5]] V1 fun en w' => en = .returned (.bool (brk D g c X)) ∧ Below V1.heap.size V1 w') := hide (by rw [hcv, brk5]; exact i_extra D g X _ _ Fg Fk V1 HGV.out HRV.out HJ.out)
            have t3 : ¬ (c : Int) = 3 := by omega
            have d3 : decide ((c : Int) = 3) = false := decide_eq_false t3
            have t4 : ¬ (c : Int) = 4 := by omega
            have d4 : decide ((c : Int) = 4) = false := decide_eq_false t4
            have d5 : decide ((c : Int) = 5) = true := decide_eq_true (by omega)
            have e5 : ((c : Int) == 5) = true := by rw [hcv]; rfl
            clear hcv
            obtain ⟨q, hq⟩ : ∃ q, q = brk D g c X := ⟨_, rfl⟩
            have Hq := hide hq.symm
            rw [← hq] at HCon
            clear hq
            go_wp2_with (refine wpList_load_at 50 (.tmp 7) rfl Tryz.underlying50 rfl Hir.out rfl rfl Hn.out HC0.out ?_)
            refine Calls.mono HCon.out ?_
            rintro en w3 ⟨rfl, hb⟩
            have HB3 := hide (below_step hwv hn0 hb)
            clear hb HCon
            cases q
            · have Hno2 := hide (brk_next Hno.out HX.out Hq.out)
              go_wp2_with fail
              go_roundw
              case rel => exact ⟨j + 1, by omega, by go_num, Hno2, HB3⟩
              case measure => simp [intOf]; omega
            · have Hres := hide (chk_hit Hp1.out.symm Hp2.out.symm Hv.out Hp3.out.symm hc6 Hf.out Hno.out HX.out Hq.out)
              go_wp2_with fail
              exact bodyPost_ret (v := .tuple #[.int .i64 ((c : Int)), .int .i64 ((j : Int))]) (by simp [results, Tryz.results7, go_sem]) rfl ⟨ret_pair Hres.out rfl rfl, Hw.out _ HB3.out⟩
          · have HCon : Hid (Calls Tryz.prog 23 #[.agg #[.slice (some ⟨_, _, none⟩) g.symbols.length k0, .slice (some ⟨b, off, none⟩) g.rules.length k1], .agg #[c0, c1, c2, c3, c4, c5]] V1 fun en w' => en = .returned (.bool (brk D g c X)) ∧ Below V1.heap.size V1 w') := hide (by rw [hcv, brk6]; exact i_misuses D g X _ _ Fg Fk V1 HGV.out HRV.out Hbg.out HbX.out)
            have t3 : ¬ (c : Int) = 3 := by omega
            have d3 : decide ((c : Int) = 3) = false := decide_eq_false t3
            have t4 : ¬ (c : Int) = 4 := by omega
            have d4 : decide ((c : Int) = 4) = false := decide_eq_false t4
            have t5 : ¬ (c : Int) = 5 := by omega
            have d5 : decide ((c : Int) = 5) = false := decide_eq_false t5
            clear hcv
            obtain ⟨q, hq⟩ : ∃ q, q = brk D g c X := ⟨_, rfl⟩
            have Hq := hide hq.symm
            rw [← hq] at HCon
            clear hq
            go_wp2_with (refine wpList_load_at 50 (.tmp 7) rfl Tryz.underlying50 rfl Hir.out rfl rfl Hn.out HC0.out ?_)
            refine Calls.mono HCon.out ?_
            rintro en w3 ⟨rfl, hb⟩
            have HB3 := hide (below_step hwv hn0 hb)
            clear hb HCon
            cases q
            · have Hno2 := hide (brk_next Hno.out HX.out Hq.out)
              go_wp2_with fail
              go_roundw
              case rel => exact ⟨j + 1, by omega, by go_num, Hno2, HB3⟩
              case measure => simp [intOf]; omega
            · have Hres := hide (chk_hit Hp1.out.symm Hp2.out.symm Hv.out Hp3.out.symm hc6 Hf.out Hno.out HX.out Hq.out)
              go_wp2_with fail
              exact bodyPost_ret (v := .tuple #[.int .i64 ((c : Int)), .int .i64 ((j : Int))]) (by simp [results, Tryz.results7, go_sem]) rfl ⟨ret_pair Hres.out rfl rfl, Hw.out _ HB3.out⟩
        · have hjl : j = g.rules.length := by omega
          have hj1 : ¬ (j : Int) < (g.rules.length : Int) := by omega
          have Hf2 := hide (code_next hc6 Hf.out Hno.out hjl)
          go_wp2_with fail
          go_roundw
          case rel => exact ⟨c + 1, by omega, by omega, by go_num, Hf2, Hb⟩
          case measure => simp [intOf]; omega
    · have hc : c = 7 := by omega
      have hci : ¬ (c : Int) ≤ 6 := by omega
      have Hres := hide (chk_none Hp1.out.symm Hp2.out.symm Hv.out Hp3.out.symm hc Hf.out)
      go_wp2_with fail
      exact bodyPost_ret (v := .tuple #[.int .i64 (0), .int .i64 (0)]) (by simp [results, Tryz.results7, go_sem]) rfl ⟨ret_pair Hres.out rfl rfl, Hw.out _ hBr⟩
end Go.Proofs.YthlhhnnlbpecnaaGreat
