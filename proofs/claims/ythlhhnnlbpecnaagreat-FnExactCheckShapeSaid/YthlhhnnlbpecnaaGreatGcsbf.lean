/- Several texts of one proof in one file: Does a code of the shape check apply to a rule: the reference. Conditions: each theorem names its own. -/
import Derived.Test.YthlhhnnlbpecnaaGreatGcsau
import Derived.Test.YthlhhnnlbpecnaaGreatGcsay
import Derived.Test.YthlhhnnlbpecnaaGreatGcsaz
import Derived.Test.YthlhhnnlbpecnaaGreatGcsbe

/- Does a code of the shape check apply to a rule: the reference. Conditions: grammar and rule have at most the size 2^20, and the list of what is required is not too long. -/
namespace Go.Proofs.YthlhhnnlbpecnaaGreat
set_option linter.unusedSimpArgs false
set_option linter.unusedVariables false
set_option maxRecDepth 100000
open Go.RowKit Go.WideShapes
set_option linter.unusedVariables false

set_option maxRecDepth 100000 in
set_option maxHeartbeats 4000000 in
theorem s_l11Breaks3 (D : Nat) (g : Grm) (x : Rul) (cg cr : List Value) (Fg Fr : List Nat) (w : World) (hg : GrmR D w g cg Fg) (hr : RulR D w x cr Fr) (hbg : bulkGrm D g ≤ 1048576) (hbr : bulkRul D x ≤ 1048576) (hJ : ReqJ D g x) (hD : 0 < D) :
    Calls Tryz.prog 13 #[.agg cg.toArray, .agg cr.toArray, .int .i64 3] w fun en w' => en = .returned (.bool (brk D g 3 x)) ∧ Below w.heap.size w w' := by
  have LG := hide ((GrmR.good D).lt hg)
  have LR := hide ((RulR.good D).lt hr)
  obtain ⟨gc0, gc1, rfl⟩ := list2 ((GrmR.good D).len hg)
  obtain ⟨r0, r1, r2, r3, r4, r5, rfl⟩ := list_6 ((RulR.good D).len hr)
  obtain ⟨A2, k2, A4, k4, A5, k5, F4, F5, rfl, rfl, rfl, hs4, hs5, hn4, hn5⟩ := rul_open hr
  have Hg : Hid (∀ W : World, Below w.heap.size w W → GrmR D W g [gc0, gc1] Fg) := hide fun W hW => (GrmR.good D).below hg hW LG.out
  have Hr : Hid (∀ W : World, Below w.heap.size w W → RulR D W x [r0, r1, .slice A2 x.right.length k2, r3, .slice A4 x.eqs.length k4, .slice A5 x.cons.length k5] Fr) := hide fun W hW => (RulR.good D).below hr hW LR.out
  have L4 := hide (hs4.lt (EqnR.good D))
  have L5 := hide (hs5.lt (ConR.good D))
  have Hs4 : Hid (∀ W : World, Below w.heap.size w W → SlR 9 (EqnR D) W x.eqs (.slice A4 x.eqs.length k4) F4) := hide fun W hW => hs4.below (EqnR.good D) hW L4.out
  have Hs5 : Hid (∀ W : World, Below w.heap.size w W → SlR 16 (ConR D) W x.cons (.slice A5 x.cons.length k5) F5) := hide fun W hW => hs5.below (ConR.good D) hW L5.out
  have Hig : Hid ((Tryz.prog.info? 32).map (·.size) = some 2) := hide (by kernel_rfl)
  have Hir : Hid ((Tryz.prog.info? 50).map (·.size) = some 6) := hide (by kernel_rfl)
  have Hio : Hid ((Tryz.prog.info? 81).map (·.size) = some 2) := hide (by kernel_rfl)
  have Hiq : Hid ((Tryz.prog.info? 88).map (·.size) = some 9) := hide (by kernel_rfl)
  have His : Hid ((Tryz.prog.info? 42).map (·.size) = some 2) := hide (by kernel_rfl)
  have Hix : Hid ((Tryz.prog.info? 86).map (·.size) = some 7) := hide (by kernel_rfl)
  obtain ⟨CG, CR, hz0, hw0⟩ := boxes2 w [gc0, gc1] [r0, r1, .slice A2 x.right.length k2, r3, .slice A4 x.eqs.length k4, .slice A5 x.cons.length k5] 32 50
  show Calls _ _ #[.agg #[gc0, gc1], .agg #[r0, r1, .slice A2 x.right.length k2, r3, .slice A4 x.eqs.length k4, .slice A5 x.cons.length k5], .int .i64 3] w _
  clear hg hr hs4 hs5
  go_enter Tryz.func13, Tryz.ntmps13
  go_wp2_with fail
  generalize (w.alloc (Obj.cells #[gc0, gc1] 32)).alloc (Obj.cells #[r0, r1, .slice A2 x.right.length k2, r3, .slice A4 x.eqs.length k4, .slice A5 x.cons.length k5] 50) = W0 at CG CR hz0 hw0 ⊢
  have hn0 : w.heap.size + 2 ≤ W0.heap.size := by omega
  have Hw : Hid (∀ W : World, Below (w.heap.size + 2) W0 W → Below w.heap.size w W) := hide fun W h => hw0.trans (h.mono (by omega))
  have HcG : Hid (∀ W : World, Below (w.heap.size + 2) W0 W → CellsAt W w.heap.size 0 [gc0, gc1]) := hide fun W h => CG.below h (by omega)
  have HcR : Hid (∀ W : World, Below (w.heap.size + 2) W0 W → CellsAt W (w.heap.size + 1) 0 [r0, r1, .slice A2 x.right.length k2, r3, .slice A4 x.eqs.length k4, .slice A5 x.cons.length k5]) := hide fun W h => CR.below h (by omega)
  have hB0 : Below (w.heap.size + 2) W0 W0 := Below.refl _ _
  have a0 := cell_rule CG (n := w.heap.size + 2) (by omega) 0 rfl
  have a1 := cell_rule CG (n := w.heap.size + 2) (by omega) 1 rfl
  have b0 := cell_rule CR (n := w.heap.size + 2) (by omega) 0 rfl
  have b1 := cell_rule CR (n := w.heap.size + 2) (by omega) 1 rfl
  have b2 := cell_rule CR (n := w.heap.size + 2) (by omega) 2 rfl
  have b3 := cell_rule CR (n := w.heap.size + 2) (by omega) 3 rfl
  have b4 := cell_rule CR (n := w.heap.size + 2) (by omega) 4 rfl
  have b5 := cell_rule CR (n := w.heap.size + 2) (by omega) 5 rfl
  have hBa0 : ∀ (W : World) (o : Obj), Below (w.heap.size + 2) W0 W → Below (w.heap.size + 2) W0 (W.alloc o) := fun W o h => below_alloc hn0 o h
  have Hz0 := hide hz0
  clear CG CR hz0 hw0
  have HG0 := hide (Hg.out _ (Hw.out _ hB0))
  have HR0 := hide (Hr.out _ (Hw.out _ hB0))
  have Hbg := hide hbg
  have Hbr := hide hbr
  have HJ := hide hJ
  obtain ⟨q, hq⟩ : ∃ q, q = brk D g 3 x := ⟨_, rfl⟩
  have HCon : Hid (Calls Tryz.prog 31 #[.agg #[gc0, gc1], .agg #[r0, r1, .slice A2 x.right.length k2, r3, .slice A4 x.eqs.length k4, .slice A5 x.cons.length k5]] W0 fun en w' => en = .returned (.bool (!q)) ∧ Below W0.heap.size W0 w') := hide (by rw [hq, brk3]; exact s_l11Symbols D g x _ _ Fg Fr W0 HG0.out HR0.out Hbg.out Hbr.out)
  have Hq := hide hq
  clear hbg hbr hJ hq
  cases q
  all_goals
    go_wp2_with fail
    refine Calls.mono HCon.out ?_
    rintro en w2 ⟨rfl, hb⟩
    have HB2 := hide (Hw.out _ (below_step hB0 hn0 hb))
    clear hb
    go_wp2_with fail
    go_ret
    exact ⟨ret_bool Hq.out, HB2.out⟩
set_option maxRecDepth 100000 in
set_option maxHeartbeats 4000000 in
theorem s_l11Breaks4 (D : Nat) (g : Grm) (x : Rul) (cg cr : List Value) (Fg Fr : List Nat) (w : World) (hg : GrmR D w g cg Fg) (hr : RulR D w x cr Fr) (hbg : bulkGrm D g ≤ 1048576) (hbr : bulkRul D x ≤ 1048576) (hJ : ReqJ D g x) (hD : 0 < D) :
    Calls Tryz.prog 13 #[.agg cg.toArray, .agg cr.toArray, .int .i64 4] w fun en w' => en = .returned (.bool (brk D g 4 x)) ∧ Below w.heap.size w w' := by
  have LG := hide ((GrmR.good D).lt hg)
  have LR := hide ((RulR.good D).lt hr)
  obtain ⟨gc0, gc1, rfl⟩ := list2 ((GrmR.good D).len hg)
  obtain ⟨r0, r1, r2, r3, r4, r5, rfl⟩ := list_6 ((RulR.good D).len hr)
  obtain ⟨A2, k2, A4, k4, A5, k5, F4, F5, rfl, rfl, rfl, hs4, hs5, hn4, hn5⟩ := rul_open hr
  have Hg : Hid (∀ W : World, Below w.heap.size w W → GrmR D W g [gc0, gc1] Fg) := hide fun W hW => (GrmR.good D).below hg hW LG.out
  have Hr : Hid (∀ W : World, Below w.heap.size w W → RulR D W x [r0, r1, .slice A2 x.right.length k2, r3, .slice A4 x.eqs.length k4, .slice A5 x.cons.length k5] Fr) := hide fun W hW => (RulR.good D).below hr hW LR.out
  have L4 := hide (hs4.lt (EqnR.good D))
  have L5 := hide (hs5.lt (ConR.good D))
  have Hs4 : Hid (∀ W : World, Below w.heap.size w W → SlR 9 (EqnR D) W x.eqs (.slice A4 x.eqs.length k4) F4) := hide fun W hW => hs4.below (EqnR.good D) hW L4.out
  have Hs5 : Hid (∀ W : World, Below w.heap.size w W → SlR 16 (ConR D) W x.cons (.slice A5 x.cons.length k5) F5) := hide fun W hW => hs5.below (ConR.good D) hW L5.out
  have Hig : Hid ((Tryz.prog.info? 32).map (·.size) = some 2) := hide (by kernel_rfl)
  have Hir : Hid ((Tryz.prog.info? 50).map (·.size) = some 6) := hide (by kernel_rfl)
  have Hio : Hid ((Tryz.prog.info? 81).map (·.size) = some 2) := hide (by kernel_rfl)
  have Hiq : Hid ((Tryz.prog.info? 88).map (·.size) = some 9) := hide (by kernel_rfl)
  have His : Hid ((Tryz.prog.info? 42).map (·.size) = some 2) := hide (by kernel_rfl)
  have Hix : Hid ((Tryz.prog.info? 86).map (·.size) = some 7) := hide (by kernel_rfl)
  obtain ⟨CG, CR, hz0, hw0⟩ := boxes2 w [gc0, gc1] [r0, r1, .slice A2 x.right.length k2, r3, .slice A4 x.eqs.length k4, .slice A5 x.cons.length k5] 32 50
  show Calls _ _ #[.agg #[gc0, gc1], .agg #[r0, r1, .slice A2 x.right.length k2, r3, .slice A4 x.eqs.length k4, .slice A5 x.cons.length k5], .int .i64 4] w _
  clear hg hr hs4 hs5
  go_enter Tryz.func13, Tryz.ntmps13
  go_wp2_with fail
  generalize (w.alloc (Obj.cells #[gc0, gc1] 32)).alloc (Obj.cells #[r0, r1, .slice A2 x.right.length k2, r3, .slice A4 x.eqs.length k4, .slice A5 x.cons.length k5] 50) = W0 at CG CR hz0 hw0 ⊢
  have hn0 : w.heap.size + 2 ≤ W0.heap.size := by omega
  have Hw : Hid (∀ W : World, Below (w.heap.size + 2) W0 W → Below w.heap.size w W) := hide fun W h => hw0.trans (h.mono (by omega))
  have HcG : Hid (∀ W : World, Below (w.heap.size + 2) W0 W → CellsAt W w.heap.size 0 [gc0, gc1]) := hide fun W h => CG.below h (by omega)
  have HcR : Hid (∀ W : World, Below (w.heap.size + 2) W0 W → CellsAt W (w.heap.size + 1) 0 [r0, r1, .slice A2 x.right.length k2, r3, .slice A4 x.eqs.length k4, .slice A5 x.cons.length k5]) := hide fun W h => CR.below h (by omega)
  have hB0 : Below (w.heap.size + 2) W0 W0 := Below.refl _ _
  have a0 := cell_rule CG (n := w.heap.size + 2) (by omega) 0 rfl
  have a1 := cell_rule CG (n := w.heap.size + 2) (by omega) 1 rfl
  have b0 := cell_rule CR (n := w.heap.size + 2) (by omega) 0 rfl
  have b1 := cell_rule CR (n := w.heap.size + 2) (by omega) 1 rfl
  have b2 := cell_rule CR (n := w.heap.size + 2) (by omega) 2 rfl
  have b3 := cell_rule CR (n := w.heap.size + 2) (by omega) 3 rfl
  have b4 := cell_rule CR (n := w.heap.size + 2) (by omega) 4 rfl
  have b5 := cell_rule CR (n := w.heap.size + 2) (by omega) 5 rfl
  have hBa0 : ∀ (W : World) (o : Obj), Below (w.heap.size + 2) W0 W → Below (w.heap.size + 2) W0 (W.alloc o) := fun W o h => below_alloc hn0 o h
  have Hz0 := hide hz0
  clear CG CR hz0 hw0
  have HG0 := hide (Hg.out _ (Hw.out _ hB0))
  have HR0 := hide (Hr.out _ (Hw.out _ hB0))
  have Hbg := hide hbg
  have Hbr := hide hbr
  have HJ := hide hJ
  obtain ⟨q, hq⟩ : ∃ q, q = brk D g 4 x := ⟨_, rfl⟩
  have HCon : Hid (Calls Tryz.prog 32 #[.agg #[gc0, gc1], .agg #[r0, r1, .slice A2 x.right.length k2, r3, .slice A4 x.eqs.length k4, .slice A5 x.cons.length k5]] W0 fun en w' => en = .returned (.bool (q)) ∧ Below W0.heap.size W0 w') := hide (by rw [hq, brk4]; exact s_l11Missing D g x _ _ Fg Fr W0 HG0.out HR0.out HJ.out hD)
  have Hq := hide hq
  clear hbg hbr hJ hq
  cases q
  all_goals
    go_wp2_with fail
    refine Calls.mono HCon.out ?_
    rintro en w2 ⟨rfl, hb⟩
    have HB2 := hide (Hw.out _ (below_step hB0 hn0 hb))
    clear hb
    go_wp2_with fail
    go_ret
    exact ⟨ret_bool Hq.out, HB2.out⟩
set_option maxRecDepth 100000 in
set_option maxHeartbeats 4000000 in
theorem s_l11Breaks5 (D : Nat) (g : Grm) (x : Rul) (cg cr : List Value) (Fg Fr : List Nat) (w : World) (hg : GrmR D w g cg Fg) (hr : RulR D w x cr Fr) (hbg : bulkGrm D g ≤ 1048576) (hbr : bulkRul D x ≤ 1048576) (hJ : ReqJ D g x) (hD : 0 < D) :
    Calls Tryz.prog 13 #[.agg cg.toArray, .agg cr.toArray, .int .i64 5] w fun en w' => en = .returned (.bool (brk D g 5 x)) ∧ Below w.heap.size w w' := by
  have LG := hide ((GrmR.good D).lt hg)
  have LR := hide ((RulR.good D).lt hr)
  obtain ⟨gc0, gc1, rfl⟩ := list2 ((GrmR.good D).len hg)
  obtain ⟨r0, r1, r2, r3, r4, r5, rfl⟩ := list_6 ((RulR.good D).len hr)
  obtain ⟨A2, k2, A4, k4, A5, k5, F4, F5, rfl, rfl, rfl, hs4, hs5, hn4, hn5⟩ := rul_open hr
  have Hg : Hid (∀ W : World, Below w.heap.size w W → GrmR D W g [gc0, gc1] Fg) := hide fun W hW => (GrmR.good D).below hg hW LG.out
  have Hr : Hid (∀ W : World, Below w.heap.size w W → RulR D W x [r0, r1, .slice A2 x.right.length k2, r3, .slice A4 x.eqs.length k4, .slice A5 x.cons.length k5] Fr) := hide fun W hW => (RulR.good D).below hr hW LR.out
  have L4 := hide (hs4.lt (EqnR.good D))
  have L5 := hide (hs5.lt (ConR.good D))
  have Hs4 : Hid (∀ W : World, Below w.heap.size w W → SlR 9 (EqnR D) W x.eqs (.slice A4 x.eqs.length k4) F4) := hide fun W hW => hs4.below (EqnR.good D) hW L4.out
  have Hs5 : Hid (∀ W : World, Below w.heap.size w W → SlR 16 (ConR D) W x.cons (.slice A5 x.cons.length k5) F5) := hide fun W hW => hs5.below (ConR.good D) hW L5.out
  have Hig : Hid ((Tryz.prog.info? 32).map (·.size) = some 2) := hide (by kernel_rfl)
  have Hir : Hid ((Tryz.prog.info? 50).map (·.size) = some 6) := hide (by kernel_rfl)
  have Hio : Hid ((Tryz.prog.info? 81).map (·.size) = some 2) := hide (by kernel_rfl)
  have Hiq : Hid ((Tryz.prog.info? 88).map (·.size) = some 9) := hide (by kernel_rfl)
  have His : Hid ((Tryz.prog.info? 42).map (·.size) = some 2) := hide (by kernel_rfl)
  have Hix : Hid ((Tryz.prog.info? 86).map (·.size) = some 7) := hide (by kernel_rfl)
  obtain ⟨CG, CR, hz0, hw0⟩ := boxes2 w [gc0, gc1] [r0, r1, .slice A2 x.right.length k2, r3, .slice A4 x.eqs.length k4, .slice A5 x.cons.length k5] 32 50
  show Calls _ _ #[.agg #[gc0, gc1], .agg #[r0, r1, .slice A2 x.right.length k2, r3, .slice A4 x.eqs.length k4, .slice A5 x.cons.length k5], .int .i64 5] w _
  clear hg hr hs4 hs5
  go_enter Tryz.func13, Tryz.ntmps13
  go_wp2_with fail
  generalize (w.alloc (Obj.cells #[gc0, gc1] 32)).alloc (Obj.cells #[r0, r1, .slice A2 x.right.length k2, r3, .slice A4 x.eqs.length k4, .slice A5 x.cons.length k5] 50) = W0 at CG CR hz0 hw0 ⊢
  have hn0 : w.heap.size + 2 ≤ W0.heap.size := by omega
  have Hw : Hid (∀ W : World, Below (w.heap.size + 2) W0 W → Below w.heap.size w W) := hide fun W h => hw0.trans (h.mono (by omega))
  have HcG : Hid (∀ W : World, Below (w.heap.size + 2) W0 W → CellsAt W w.heap.size 0 [gc0, gc1]) := hide fun W h => CG.below h (by omega)
  have HcR : Hid (∀ W : World, Below (w.heap.size + 2) W0 W → CellsAt W (w.heap.size + 1) 0 [r0, r1, .slice A2 x.right.length k2, r3, .slice A4 x.eqs.length k4, .slice A5 x.cons.length k5]) := hide fun W h => CR.below h (by omega)
  have hB0 : Below (w.heap.size + 2) W0 W0 := Below.refl _ _
  have a0 := cell_rule CG (n := w.heap.size + 2) (by omega) 0 rfl
  have a1 := cell_rule CG (n := w.heap.size + 2) (by omega) 1 rfl
  have b0 := cell_rule CR (n := w.heap.size + 2) (by omega) 0 rfl
  have b1 := cell_rule CR (n := w.heap.size + 2) (by omega) 1 rfl
  have b2 := cell_rule CR (n := w.heap.size + 2) (by omega) 2 rfl
  have b3 := cell_rule CR (n := w.heap.size + 2) (by omega) 3 rfl
  have b4 := cell_rule CR (n := w.heap.size + 2) (by omega) 4 rfl
  have b5 := cell_rule CR (n := w.heap.size + 2) (by omega) 5 rfl
  have hBa0 : ∀ (W : World) (o : Obj), Below (w.heap.size + 2) W0 W → Below (w.heap.size + 2) W0 (W.alloc o) := fun W o h => below_alloc hn0 o h
  have Hz0 := hide hz0
  clear CG CR hz0 hw0
  have HG0 := hide (Hg.out _ (Hw.out _ hB0))
  have HR0 := hide (Hr.out _ (Hw.out _ hB0))
  have Hbg := hide hbg
  have Hbr := hide hbr
  have HJ := hide hJ
  obtain ⟨q, hq⟩ : ∃ q, q = brk D g 5 x := ⟨_, rfl⟩
  have HCon : Hid (Calls Tryz.prog 33 #[.agg #[gc0, gc1], .agg #[r0, r1, .slice A2 x.right.length k2, r3, .slice A4 x.eqs.length k4, .slice A5 x.cons.length k5]] W0 fun en w' => en = .returned (.bool (q)) ∧ Below W0.heap.size W0 w') := hide (by rw [hq, brk5]; exact s_l11Extra D g x _ _ Fg Fr W0 HG0.out HR0.out HJ.out)
  have Hq := hide hq
  clear hbg hbr hJ hq
  cases q
  all_goals
    go_wp2_with fail
    refine Calls.mono HCon.out ?_
    rintro en w2 ⟨rfl, hb⟩
    have HB2 := hide (Hw.out _ (below_step hB0 hn0 hb))
    clear hb
    go_wp2_with fail
    go_ret
    exact ⟨ret_bool Hq.out, HB2.out⟩
set_option maxRecDepth 100000 in
set_option maxHeartbeats 4000000 in
theorem s_l11Breaks6 (D : Nat) (g : Grm) (x : Rul) (cg cr : List Value) (Fg Fr : List Nat) (w : World) (hg : GrmR D w g cg Fg) (hr : RulR D w x cr Fr) (hbg : bulkGrm D g ≤ 1048576) (hbr : bulkRul D x ≤ 1048576) (hJ : ReqJ D g x) (hD : 0 < D) :
    Calls Tryz.prog 13 #[.agg cg.toArray, .agg cr.toArray, .int .i64 6] w fun en w' => en = .returned (.bool (brk D g 6 x)) ∧ Below w.heap.size w w' := by
  have LG := hide ((GrmR.good D).lt hg)
  have LR := hide ((RulR.good D).lt hr)
  obtain ⟨gc0, gc1, rfl⟩ := list2 ((GrmR.good D).len hg)
  obtain ⟨r0, r1, r2, r3, r4, r5, rfl⟩ := list_6 ((RulR.good D).len hr)
  obtain ⟨A2, k2, A4, k4, A5, k5, F4, F5, rfl, rfl, rfl, hs4, hs5, hn4, hn5⟩ := rul_open hr
  have Hg : Hid (∀ W : World, Below w.heap.size w W → GrmR D W g [gc0, gc1] Fg) := hide fun W hW => (GrmR.good D).below hg hW LG.out
  have Hr : Hid (∀ W : World, Below w.heap.size w W → RulR D W x [r0, r1, .slice A2 x.right.length k2, r3, .slice A4 x.eqs.length k4, .slice A5 x.cons.length k5] Fr) := hide fun W hW => (RulR.good D).below hr hW LR.out
  have L4 := hide (hs4.lt (EqnR.good D))
  have L5 := hide (hs5.lt (ConR.good D))
  have Hs4 : Hid (∀ W : World, Below w.heap.size w W → SlR 9 (EqnR D) W x.eqs (.slice A4 x.eqs.length k4) F4) := hide fun W hW => hs4.below (EqnR.good D) hW L4.out
  have Hs5 : Hid (∀ W : World, Below w.heap.size w W → SlR 16 (ConR D) W x.cons (.slice A5 x.cons.length k5) F5) := hide fun W hW => hs5.below (ConR.good D) hW L5.out
  have Hig : Hid ((Tryz.prog.info? 32).map (·.size) = some 2) := hide (by kernel_rfl)
  have Hir : Hid ((Tryz.prog.info? 50).map (·.size) = some 6) := hide (by kernel_rfl)
  have Hio : Hid ((Tryz.prog.info? 81).map (·.size) = some 2) := hide (by kernel_rfl)
  have Hiq : Hid ((Tryz.prog.info? 88).map (·.size) = some 9) := hide (by kernel_rfl)
  have His : Hid ((Tryz.prog.info? 42).map (·.size) = some 2) := hide (by kernel_rfl)
  have Hix : Hid ((Tryz.prog.info? 86).map (·.size) = some 7) := hide (by kernel_rfl)
  obtain ⟨CG, CR, hz0, hw0⟩ := boxes2 w [gc0, gc1] [r0, r1, .slice A2 x.right.length k2, r3, .slice A4 x.eqs.length k4, .slice A5 x.cons.length k5] 32 50
  show Calls _ _ #[.agg #[gc0, gc1], .agg #[r0, r1, .slice A2 x.right.length k2, r3, .slice A4 x.eqs.length k4, .slice A5 x.cons.length k5], .int .i64 6] w _
  clear hg hr hs4 hs5
  go_enter Tryz.func13, Tryz.ntmps13
  go_wp2_with fail
  generalize (w.alloc (Obj.cells #[gc0, gc1] 32)).alloc (Obj.cells #[r0, r1, .slice A2 x.right.length k2, r3, .slice A4 x.eqs.length k4, .slice A5 x.cons.length k5] 50) = W0 at CG CR hz0 hw0 ⊢
  have hn0 : w.heap.size + 2 ≤ W0.heap.size := by omega
  have Hw : Hid (∀ W : World, Below (w.heap.size + 2) W0 W → Below w.heap.size w W) := hide fun W h => hw0.trans (h.mono (by omega))
  have HcG : Hid (∀ W : World, Below (w.heap.size + 2) W0 W → CellsAt W w.heap.size 0 [gc0, gc1]) := hide fun W h => CG.below h (by omega)
  have HcR : Hid (∀ W : World, Below (w.heap.size + 2) W0 W → CellsAt W (w.heap.size + 1) 0 [r0, r1, .slice A2 x.right.length k2, r3, .slice A4 x.eqs.length k4, .slice A5 x.cons.length k5]) := hide fun W h => CR.below h (by omega)
  have hB0 : Below (w.heap.size + 2) W0 W0 := Below.refl _ _
  have a0 := cell_rule CG (n := w.heap.size + 2) (by omega) 0 rfl
  have a1 := cell_rule CG (n := w.heap.size + 2) (by omega) 1 rfl
  have b0 := cell_rule CR (n := w.heap.size + 2) (by omega) 0 rfl
  have b1 := cell_rule CR (n := w.heap.size + 2) (by omega) 1 rfl
  have b2 := cell_rule CR (n := w.heap.size + 2) (by omega) 2 rfl
  have b3 := cell_rule CR (n := w.heap.size + 2) (by omega) 3 rfl
  have b4 := cell_rule CR (n := w.heap.size + 2) (by omega) 4 rfl
  have b5 := cell_rule CR (n := w.heap.size + 2) (by omega) 5 rfl
  have hBa0 : ∀ (W : World) (o : Obj), Below (w.heap.size + 2) W0 W → Below (w.heap.size + 2) W0 (W.alloc o) := fun W o h => below_alloc hn0 o h
  have Hz0 := hide hz0
  clear CG CR hz0 hw0
  have HG0 := hide (Hg.out _ (Hw.out _ hB0))
  have HR0 := hide (Hr.out _ (Hw.out _ hB0))
  have Hbg := hide hbg
  have Hbr := hide hbr
  have HJ := hide hJ
  obtain ⟨q, hq⟩ : ∃ q, q = brk D g 6 x := ⟨_, rfl⟩
  have HCon : Hid (Calls Tryz.prog 34 #[.agg #[gc0, gc1], .agg #[r0, r1, .slice A2 x.right.length k2, r3, .slice A4 x.eqs.length k4, .slice A5 x.cons.length k5]] W0 fun en w' => en = .returned (.bool (q)) ∧ Below W0.heap.size W0 w') := hide (by rw [hq, brk6]; exact s_l11Misuse D g x _ _ Fg Fr W0 HG0.out HR0.out Hbg.out Hbr.out)
  have Hq := hide hq
  clear hbg hbr hJ hq
  cases q
  all_goals
    go_wp2_with fail
    refine Calls.mono HCon.out ?_
    rintro en w2 ⟨rfl, hb⟩
    have HB2 := hide (Hw.out _ (below_step hB0 hn0 hb))
    clear hb
    go_wp2_with fail
    go_ret
    exact ⟨ret_bool Hq.out, HB2.out⟩
theorem s_l11Breaks (D : Nat) (g : Grm) (x : Rul) (cg cr : List Value) (Fg Fr : List Nat) (w : World) (hg : GrmR D w g cg Fg) (hr : RulR D w x cr Fr) (hbg : bulkGrm D g ≤ 1048576) (hbr : bulkRul D x ≤ 1048576) (hJ : ReqJ D g x) (hD : 0 < D) (c : Nat) (h3 : 3 ≤ c) (h6 : c ≤ 6) :
    Calls Tryz.prog 13 #[.agg cg.toArray, .agg cr.toArray, .int .i64 (c : Int)] w fun en w' => en = .returned (.bool (brk D g c x)) ∧ Below w.heap.size w w' := by
  have h : c = 3 ∨ c = 4 ∨ c = 5 ∨ c = 6 := by omega
  rcases h with rfl | rfl | rfl | rfl
  · exact s_l11Breaks3 D g x cg cr Fg Fr w hg hr hbg hbr hJ hD
  · exact s_l11Breaks4 D g x cg cr Fg Fr w hg hr hbg hbr hJ hD
  · exact s_l11Breaks5 D g x cg cr Fg Fr w hg hr hbg hbr hJ hD
  · exact s_l11Breaks6 D g x cg cr Fg Fr w hg hr hbg hbr hJ hD
end Go.Proofs.YthlhhnnlbpecnaaGreat
