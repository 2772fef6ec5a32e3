/- Several texts of one proof in one file: Is an occurrence on a list: the program and the reference. Is an equation not required, or a second one: the reference. Rows of expressions that lay before: plain but for the readings. Occurrences compared: the library's Compare and Or, the program's comparison. The attributes that an expression uses, gathered by a closure that appends to a row of the caller's: the program's walk over all nodes. Conditions: each theorem names its own. -/
import Derived.Test.YthlhhnnlbpecnaaGreatGcsah
import Derived.Test.YthlhhnnlbpecnaaGreatGcsav
import Derived.Test.YthlhhnnlbpecnaaGreatGcsar
import Derived.Deep.QuietTactic
import Derived.BigQuiet
import Derived.Test.YthlhhnnlbpecnaaGreatGcsaj
import Derived.Test.YthlhhnnlbpecnaaGreatGcsax
import Derived.Test.YthlhhnnlbpecnaaGreatGcsau
import Derived.Test.YthlhhnnlbpecnaaGreatGcsas
import Derived.Sort.Grow
import Derived.Test.YthlhhnnlbpecnaaGreatGcsat
import Derived.Test.YthlhhnnlbpecnaaGreatGcsan

/- Is an occurrence on a list: the program and the reference. Conditions: none beyond that the list can be read. -/
namespace Go.Proofs.YthlhhnnlbpecnaaGreat
set_option linter.unusedSimpArgs false
set_option linter.unusedVariables false
set_option maxRecDepth 100000
open Go.RowKit Go.WideShapes
set_option linter.unusedVariables false

set_option maxRecDepth 100000 in
theorem i_IndexO (D : Nat) (l : List Occ) (A : Option Addr) (cap : Nat) (F : List Nat) (o : Occ) (w : World) (hs : SlR 2 (OccR D) w l (.slice A l.length cap) F) :
    Calls Tryz.prog 87 #[.slice A l.length cap, .agg #[.int .i64 o.pos, .string o.name]] w fun en w' => IdxOk (hasO l o) en ∧ Below w.heap.size w w' := by
  obtain ⟨_, hlc, hm⟩ := hs.bnd
  unfold maxLen at hm
  have hkm : l.length ≤ 9223372036854775807 := by omega
  have HF := hide (hs.lt (OccR.good D))
  have Hs := hide hs
  obtain ⟨C, hz0, hw0⟩ := boxes1 w [.int .i64 o.pos, .string o.name] 81
  clear hs hlc hm
  go_enter Tryz.func87, Tryz.ntmps87
  go_wp2_with fail
  generalize w.alloc (Obj.cells #[.int .i64 o.pos, .string o.name] 81) = W0 at C hz0 hw0 ⊢
  have hn0 : w.heap.size + 1 ≤ W0.heap.size := by omega
  have Hw : Hid (∀ W : World, Below (w.heap.size + 1) W0 W → Below w.heap.size w W) := hide fun W h => hw0.trans (h.mono (by omega))
  have hB0 : Below (w.heap.size + 1) W0 W0 := Below.refl _ _
  have a0 := cell_rule C (n := w.heap.size + 1) (by omega) 0 rfl
  have a1 := cell_rule C (n := w.heap.size + 1) (by omega) 1 rfl
  clear C hz0 hw0
  go_loopw [8] (fun i wr => ∃ j : Nat, j ≤ l.length ∧ i = .int .i64 j ∧ Hid (hasO (l.take j) o = false) ∧ Hid (Below (w.heap.size + 1) W0 wr)) (fun i _ => l.length - (intOf i).toNat)
  case atStart => exact ⟨0, by omega, rfl, hide rfl, hide hB0⟩
  case round =>
    obtain ⟨j, hj, rfl, Hno, Hb⟩ := hrel
    have hBr := Hb.out
    by_cases hlt : j < l.length
    · have hx : l[j]? = some (l[j]'(by omega)) := List.getElem?_eq_getElem _
      generalize l[j]'(by omega) = y at hx
      have Hx := hide hx
      obtain ⟨b, off, cs, Fk, hA, _, hbF, hFk, hcl, hcat, hR⟩ := SlR.get (OccR.good D) Hs.out hx
      subst hA
      obtain ⟨c0, c1, rfl⟩ := list2 hcl
      obtain ⟨_, _, r0, r1, _⟩ := hR
      obtain rfl : c0 = .int .i64 y.pos := by simpa using r0
      obtain rfl : c1 = .string y.name := by simpa using r1
      have hblt := HF.out b hbF
      have e0 : ∀ W : World, Below (w.heap.size + 1) W0 W → W.cell? ⟨b, off + j * 2, none⟩ = some (.int .i64 y.pos) := fun W h => (hcat.below (Hw.out W h) hblt) 0 _ rfl
      have e1 : ∀ W : World, Below (w.heap.size + 1) W0 W → W.cell? ⟨b, off + j * 2 + 1, none⟩ = some (.string y.name) := fun W h => (hcat.below (Hw.out W h) hblt) 1 _ rfl
      have EQ : ∀ W : World, (binOp .eql 81 (.agg #[.int .i64 o.pos, .string o.name]) (.agg #[.int .i64 y.pos, .string y.name])).run Tryz.prog W = .ok (.bool (eqOcc o y)) W := fun W => run_eqlOcc _ _ _ _ W
      have EQ2 : ∀ W : World, (Op.equalIn 10000 81 (.agg #[.int .i64 o.pos, .string o.name]) (.agg #[.int .i64 y.pos, .string y.name])).run Tryz.prog W = .ok (eqOcc o y) W := fun W => run_eqOcc _ _ _ _ W
      have hj0 : (0 : Int) ≤ (j : Int) := by omega
      have hj1 : (j : Int) < (l.length : Int) := by omega
      clear hx hFk hbF hcl hcat r0 r1
      cases hq : eqOcc o y
      · have Hno2 : Hid (hasO (l.take (j + 1)) o = false) := hide (by rw [take_snoc Hx.out, hasO_snoc, Hno.out, eqOcc_comm, hq]; rfl)
        rw [hq] at EQ EQ2
        clear hq
        go_wp2_with fail
        go_quiet (fail)
        go_wp2_with fail
        go_roundw
        case rel => exact ⟨j + 1, by omega, by go_num, Hno2, hide (below_drewN hBr _)⟩
        case measure => simp [intOf]; omega
      · have Hyes : Hid (hasO l o = true) := hide (any_at (p := fun a => eqOcc a o) Hx.out (show eqOcc y o = true by rw [eqOcc_comm]; exact hq))
        rw [hq] at EQ EQ2
        clear hq
        go_wp2_with fail
        go_quiet (fail)
        go_wp2_with fail
        go_ret
        exact ⟨⟨_, rfl, by rw [Hyes.out]; exact decide_eq_true hj0⟩, Hw.out _ (below_drewN hBr _)⟩
    · have hjk : j = l.length := by omega
      subst hjk
      rw [List.take_length] at Hno
      go_wp2_with fail
      go_ret
      exact ⟨⟨-1, rfl, by rw [Hno.out]; rfl⟩, Hw.out _ hBr⟩
theorem i_ContainsO (D : Nat) (l : List Occ) (A : Option Addr) (cap : Nat) (F : List Nat) (o : Occ) (w : World) (hs : SlR 2 (OccR D) w l (.slice A l.length cap) F) :
    Calls Tryz.prog 51 #[.slice A l.length cap, .agg #[.int .i64 o.pos, .string o.name]] w fun en w' => en = .returned (.bool (hasO l o)) ∧ Below w.heap.size w w' := by
  have HF := hide (hs.lt (OccR.good D))
  have HI : Hid (∀ W : World, Below w.heap.size w W → Calls Tryz.prog 87 #[.slice A l.length cap, .agg #[.int .i64 o.pos, .string o.name]] W fun en w' => IdxOk (hasO l o) en ∧ Below W.heap.size W w') := hide fun W h => i_IndexO D l A cap F o W (hs.below (OccR.good D) h HF.out)
  have hb0 : Below w.heap.size w (w.alloc (Obj.cells #[.int .i64 o.pos, .string o.name] 81)) := (Below.refl _ _).alloc (Nat.le_refl _) _
  generalize hasO l o = q at HI
  clear hs
  go_enter Tryz.func51, Tryz.ntmps51
  go_wp2_with fail
  refine Calls.mono (HI.out _ hb0) ?_
  rintro en w2 ⟨⟨r, rfl, hr⟩, hb⟩
  have Hr := hide hr
  have HB := hide (below_step hb0 (Nat.le_refl _) hb)
  clear hr hb
  go_wp2_with fail
  go_ret
  exact ⟨ret_bool Hr.out, HB.out⟩
set_option maxRecDepth 100000 in
theorem s_l11HasAt (D : Nat) (l : List Occ) (A : Option Addr) (cap : Nat) (F : List Nat) (o : Occ) (w : World) (hs : SlR 2 (OccR D) w l (.slice A l.length cap) F) :
    Calls Tryz.prog 73 #[.slice A l.length cap, .agg #[.int .i64 o.pos, .string o.name]] w fun en w' => en = .returned (.bool (hasO l o)) ∧ Below w.heap.size w w' := by
  obtain ⟨_, hlc, hm⟩ := hs.bnd
  unfold maxLen at hm
  have hkm : l.length ≤ 9223372036854775807 := by omega
  have HF := hide (hs.lt (OccR.good D))
  have Hs := hide hs
  obtain ⟨C, hz0, hw0⟩ := boxes1 w [.int .i64 o.pos, .string o.name] 81
  clear hs hlc hm
  go_enter Tryz.func73, Tryz.ntmps73
  go_wp2_with fail
  generalize w.alloc (Obj.cells #[.int .i64 o.pos, .string o.name] 81) = W0 at C hz0 hw0 ⊢
  have hn0 : w.heap.size + 1 ≤ W0.heap.size := by omega
  have Hw : Hid (∀ W : World, Below (w.heap.size + 1) W0 W → Below w.heap.size w W) := hide fun W h => hw0.trans (h.mono (by omega))
  have hB0 : Below (w.heap.size + 1) W0 W0 := Below.refl _ _
  have a0 := cell_rule C (n := w.heap.size + 1) (by omega) 0 rfl
  have a1 := cell_rule C (n := w.heap.size + 1) (by omega) 1 rfl
  clear C hz0 hw0
  go_loopw [5] (fun i wr => ∃ j : Nat, j ≤ l.length ∧ i = .int .i64 j ∧ Hid (hasO (l.take j) o = false) ∧ Hid (Below (w.heap.size + 1) W0 wr)) (fun i _ => l.length - (intOf i).toNat)
  case atStart => exact ⟨0, by omega, rfl, hide rfl, hide hB0⟩
  case round =>
    obtain ⟨j, hj, rfl, Hno, Hb⟩ := hrel
    have hBr := Hb.out
    by_cases hlt : j < l.length
    · have hx : l[j]? = some (l[j]'(by omega)) := List.getElem?_eq_getElem _
      generalize l[j]'(by omega) = y at hx
      have Hx := hide hx
      obtain ⟨b, off, cs, Fk, hA, _, hbF, hFk, hcl, hcat, hR⟩ := SlR.get (OccR.good D) Hs.out hx
      subst hA
      obtain ⟨c0, c1, rfl⟩ := list2 hcl
      obtain ⟨_, _, r0, r1, _⟩ := hR
      obtain rfl : c0 = .int .i64 y.pos := by simpa using r0
      obtain rfl : c1 = .string y.name := by simpa using r1
      have hblt := HF.out b hbF
      have e0 : ∀ W : World, Below (w.heap.size + 1) W0 W → W.cell? ⟨b, off + j * 2, none⟩ = some (.int .i64 y.pos) := fun W h => (hcat.below (Hw.out W h) hblt) 0 _ rfl
      have e1 : ∀ W : World, Below (w.heap.size + 1) W0 W → W.cell? ⟨b, off + j * 2 + 1, none⟩ = some (.string y.name) := fun W h => (hcat.below (Hw.out W h) hblt) 1 _ rfl
      have EQ : ∀ W : World, (binOp .eql 81 (.agg #[.int .i64 y.pos, .string y.name]) (.agg #[.int .i64 o.pos, .string o.name])).run Tryz.prog W = .ok (.bool (eqOcc y o)) W := fun W => run_eqlOcc _ _ _ _ W
      have EQ2 : ∀ W : World, (Op.equalIn 10000 81 (.agg #[.int .i64 y.pos, .string y.name]) (.agg #[.int .i64 o.pos, .string o.name])).run Tryz.prog W = .ok (eqOcc y o) W := fun W => run_eqOcc _ _ _ _ W
      have hj0 : (0 : Int) ≤ (j : Int) := by omega
      have hj1 : (j : Int) < (l.length : Int) := by omega
      clear hx hFk hbF hcl hcat r0 r1
      cases hq : eqOcc y o
      · have Hno2 : Hid (hasO (l.take (j + 1)) o = false) := hide (by rw [take_snoc Hx.out, hasO_snoc, Hno.out, hq]; rfl)
        rw [hq] at EQ EQ2
        clear hq
        go_wp2_with fail
        go_quiet (fail)
        go_wp2_with fail
        go_roundw
        case rel => exact ⟨j + 1, by omega, by go_num, Hno2, hide (below_drewN hBr _)⟩
        case measure => simp [intOf]; omega
      · have Hyes : Hid (hasO l o = true) := hide (any_at (p := fun a => eqOcc a o) Hx.out (show eqOcc y o = true by  exact hq))
        rw [hq] at EQ EQ2
        clear hq
        go_wp2_with fail
        go_quiet (fail)
        go_wp2_with fail
        go_ret
        exact ⟨ret_bool (by rw [Hyes.out]), Hw.out _ (below_drewN hBr _)⟩
    · have hjk : j = l.length := by omega
      subst hjk
      rw [List.take_length] at Hno
      go_wp2_with fail
      go_ret
      exact ⟨ret_bool (by rw [Hno.out]), Hw.out _ hBr⟩
end Go.Proofs.YthlhhnnlbpecnaaGreat

/- Is an equation not required, or a second one: the reference. Conditions: grammar and rule have at most the size 2^20, and the list of what is required is not too long. -/
namespace Go.Proofs.YthlhhnnlbpecnaaGreat
set_option linter.unusedSimpArgs false
set_option linter.unusedVariables false
set_option maxRecDepth 100000
open Go.RowKit Go.WideShapes
set_option linter.unusedVariables false

set_option maxRecDepth 100000 in
set_option maxHeartbeats 4000000 in
theorem s_l11Extra (D : Nat) (g : Grm) (x : Rul) (cg cr : List Value) (Fg Fr : List Nat) (w : World) (hg : GrmR D w g cg Fg) (hr : RulR D w x cr Fr) (hbj : ReqJ D g x) :
    Calls Tryz.prog 33 #[.agg cg.toArray, .agg cr.toArray] w fun en w' => en = .returned (.bool (extB g x)) ∧ Below w.heap.size w w' := by
  have hlq := (bulk_rul hbj.rul).2.1
  have LG := hide ((GrmR.good D).lt hg)
  have LR := hide ((RulR.good D).lt hr)
  obtain ⟨gc0, gc1, rfl⟩ := list2 ((GrmR.good D).len hg)
  obtain ⟨r0, r1, r2, r3, r4, r5, rfl⟩ := list_6 ((RulR.good D).len hr)
  obtain ⟨A2, k2, A4, k4, A5, k5, F4, F5, rfl, rfl, rfl, hs4, hs5, hn4, hn5⟩ := rul_open hr
  have Hg : Hid (∀ W : World, Below w.heap.size w W → GrmR D W g [gc0, gc1] Fg) := hide fun W hW => (GrmR.good D).below hg hW LG.out
  have Hr : Hid (∀ W : World, Below w.heap.size w W → RulR D W x [r0, r1, .slice A2 x.right.length k2, r3, .slice A4 x.eqs.length k4, .slice A5 x.cons.length k5] Fr) := hide fun W hW => (RulR.good D).below hr hW LR.out
  have L4 := hide (hs4.lt (EqnR.good D))
  have L5 := hide (hs5.lt (ConR.good D))
  have Hs4 : Hid (∀ W : World, Below w.heap.size w W → SlR 9 (EqnR D) W x.eqs (.slice A4 x.eqs.length k4) F4) := hide fun W hW => hs4.below (EqnR.good D) hW L4.out
  have Hs5 : Hid (∀ W : World, Below w.heap.size w W → SlR 16 (ConR D) W x.cons (.slice A5 x.cons.length k5) F5) := hide fun W hW => hs5.below (ConR.good D) hW L5.out
  have Hig : Hid ((Tryz.prog.info? 32).map (·.size) = some 2) := hide (by kernel_rfl)
  have Hir : Hid ((Tryz.prog.info? 50).map (·.size) = some 6) := hide (by kernel_rfl)
  have Hio : Hid ((Tryz.prog.info? 81).map (·.size) = some 2) := hide (by kernel_rfl)
  have Hiq : Hid ((Tryz.prog.info? 88).map (·.size) = some 9) := hide (by kernel_rfl)
  have His : Hid ((Tryz.prog.info? 42).map (·.size) = some 2) := hide (by kernel_rfl)
  have Hix : Hid ((Tryz.prog.info? 86).map (·.size) = some 7) := hide (by kernel_rfl)
  obtain ⟨CG, CR, hz0, hw0⟩ := boxes2 w [gc0, gc1] [r0, r1, .slice A2 x.right.length k2, r3, .slice A4 x.eqs.length k4, .slice A5 x.cons.length k5] 32 50
  show Calls _ _ #[.agg #[gc0, gc1], .agg #[r0, r1, .slice A2 x.right.length k2, r3, .slice A4 x.eqs.length k4, .slice A5 x.cons.length k5]] w _
  clear hg hr hs4 hs5
  go_enter Tryz.func33, Tryz.ntmps33
  go_wp2_with fail
  generalize (w.alloc (Obj.cells #[gc0, gc1] 32)).alloc (Obj.cells #[r0, r1, .slice A2 x.right.length k2, r3, .slice A4 x.eqs.length k4, .slice A5 x.cons.length k5] 50) = W0 at CG CR hz0 hw0 ⊢
  have hn0 : w.heap.size + 2 ≤ W0.heap.size := by omega
  have Hw : Hid (∀ W : World, Below (w.heap.size + 2) W0 W → Below w.heap.size w W) := hide fun W h => hw0.trans (h.mono (by omega))
  have HcG : Hid (∀ W : World, Below (w.heap.size + 2) W0 W → CellsAt W w.heap.size 0 [gc0, gc1]) := hide fun W h => CG.below h (by omega)
  have HcR : Hid (∀ W : World, Below (w.heap.size + 2) W0 W → CellsAt W (w.heap.size + 1) 0 [r0, r1, .slice A2 x.right.length k2, r3, .slice A4 x.eqs.length k4, .slice A5 x.cons.length k5]) := hide fun W h => CR.below h (by omega)
  have hB0 : Below (w.heap.size + 2) W0 W0 := Below.refl _ _
  have a0 := cell_rule CG (n := w.heap.size + 2) (by omega) 0 rfl
  have a1 := cell_rule CG (n := w.heap.size + 2) (by omega) 1 rfl
  have b0 := cell_rule CR (n := w.heap.size + 2) (by omega) 0 rfl
  have b1 := cell_rule CR (n := w.heap.size + 2) (by omega) 1 rfl
  have b2 := cell_rule CR (n := w.heap.size + 2) (by omega) 2 rfl
  have b3 := cell_rule CR (n := w.heap.size + 2) (by omega) 3 rfl
  have b4 := cell_rule CR (n := w.heap.size + 2) (by omega) 4 rfl
  have b5 := cell_rule CR (n := w.heap.size + 2) (by omega) 5 rfl
  have hBa0 : ∀ (W : World) (o : Obj), Below (w.heap.size + 2) W0 W → Below (w.heap.size + 2) W0 (W.alloc o) := fun W o h => below_alloc hn0 o h
  have Hz0 := hide hz0
  clear CG CR hz0 hw0
  have Hbj := hide hbj
  clear hbj
  go_wp2_with fail
  refine Calls.mono (s_RequiredOccurrences D g x _ _ Fg Fr _ (Hg.out _ (Hw.out _ hB0)) (Hr.out _ (Hw.out _ hB0)) Hbj.out) ?_
  rintro en W1 ⟨v', G, rfl, h1, h2, h3⟩
  obtain ⟨A, cap, rfl, hlc, hm⟩ := h1.form
  have hB1 : Below (w.heap.size + 2) W0 W1 := below_step hB0 hn0 h3
  have LG1 := hide (h1.lt (OccR.good D))
  have H1 := hide h1
  have HW1 : Hid (∀ W : World, Below W1.heap.size W1 W → Below (w.heap.size + 2) W0 W) := hide fun W h => below_step hB1 hn0 h
  have hn1 : w.heap.size + 2 ≤ W1.heap.size := Nat.le_trans hn0 hB1.size
  have Hown0 : Hid (OwnS 2 (OccR D) W1.heap.size 81 (W1.alloc (.cells #[] 81)) [] (.slice (some ⟨W1.heap.size, 0, none⟩) 0 0) []) := hide (OwnS.made W1 (Nat.le_refl _))
  have hB12 : Below W1.heap.size W1 (W1.alloc (.cells #[] 81)) := (Below.refl _ _).alloc (Nat.le_refl _) _
  have hBz := HW1.out _ hB12
  clear h1 h2 h3 hm hlc
  go_wp2_with fail
  go_loopw [6, 7] (fun o i wr => ∃ j : Nat, j ≤ x.eqs.length ∧ i = .int .i64 j ∧ Hid (OwnS 2 (OccR D) W1.heap.size 81 wr ((x.eqs.take j).map (·.at_)) o []) ∧ Hid ((List.range j).any (extI g x) = false) ∧ Hid (Below W1.heap.size W1 wr)) (fun _ i _ => x.eqs.length - (intOf i).toNat)
  case atStart => exact ⟨0, by omega, rfl, Hown0, hide rfl, hide hB12⟩
  case round =>
    obtain ⟨j, hj, rfl, Ho, Hno, Hb⟩ := hrel
    have hBr := HW1.out _ Hb.out
    by_cases hlt : j < x.eqs.length
    · have hX : x.eqs[j]? = some x.eqs[j] := List.getElem?_eq_getElem hlt
      generalize x.eqs[j] = X at hX
      obtain ⟨b, off, cs, Fk, hA, _, hbF, hFk, hcl, hcat, hR⟩ := SlR.get (EqnR.good D) (Hs4.out W0 (Hw.out W0 hB0)) hX
      subst hA
      obtain ⟨c0, c1, c2, c3, c4, c5, c6, c7, c8, rfl⟩ := list_9 hcl
      have H9 := hide (EqnR.one hR)
      obtain ⟨f0', f1', _, hO, hE, hFF⟩ := hR
      obtain ⟨_, hOk, q0, q1, _⟩ := hO
      obtain rfl : c0 = .int .i64 X.at_.pos := by simpa using q0
      obtain rfl : c1 = .string X.at_.name := by simpa using q1
      have HX := hide hX
      have hlb : b < w.heap.size := L4.out b hbF
      have Hok := hide hOk
      have hlb2 : b < w.heap.size + 2 := by omega
      have ex0 : ∀ W : World, Below (w.heap.size + 2) W0 W → W.cell? ⟨b, off + j * 9, none⟩ = some (.int .i64 X.at_.pos) := fun W h => (hcat.below h hlb2) 0 _ rfl
      have ex1 : ∀ W : World, Below (w.heap.size + 2) W0 W → W.cell? ⟨b, off + j * 9 + 1, none⟩ = some (.string X.at_.name) := fun W h => (hcat.below h hlb2) 1 _ rfl
      have hj0 : (0 : Int) ≤ (j : Int) := by omega
      have hj1 : (j : Int) < (x.eqs.length : Int) := by omega
      have hbase : w.heap.size + 2 ≤ wr.heap.size := Nat.le_trans hn0 hBr.size
      have Hex := hide (extI_at (g := g) hX)
      have Hmap : Hid ((x.eqs.take (j + 1)).map (·.at_) = (x.eqs.take j).map (·.at_) ++ [X.at_]) := hide (by rw [take_snoc hX, List.map_append]; rfl)
      have Hhm : Hid (hasO ((x.eqs.take j).map (·.at_)) X.at_ = hasQ (x.eqs.take j) X.at_) := hide (hasQ_map _ _)
      have hmlen : ((x.eqs.take j).map (·.at_)).length ≤ 1048576 := by rw [List.length_map, List.length_take]; omega
      generalize (x.eqs.take j).map (·.at_) = M at Ho Hmap Hhm hmlen
      have Cy := CellsAt.new wr [.int .i64 X.at_.pos, .string X.at_.name] 81
      have hwv : Below W1.heap.size W1 (wr.alloc (Obj.cells #[.int .i64 X.at_.pos, .string X.at_.name] 81)) := Hb.out.alloc Hb.out.size _
      have hrv : Below wr.heap.size wr (wr.alloc (Obj.cells #[.int .i64 X.at_.pos, .string X.at_.name] 81)) := (Below.refl _ _).alloc (Nat.le_refl _) _
      have hzx := World.size_alloc wr (Obj.cells #[.int .i64 X.at_.pos, .string X.at_.name] 81)
      have hbx := HW1.out _ hwv
      have HCy := hide Cy
      have Hzx := hide hzx
      have Hrv := hide hrv
      have Hwv := hide hwv
      clear hX hFk hbF hcl hE hFF q0 q1 hOk hcat Cy hzx hrv hwv
      go_wp2_with fail
      generalize wr.alloc (Obj.cells #[.int .i64 X.at_.pos, .string X.at_.name] 81) = V1 at HCy Hzx Hrv Hwv hbx ⊢
      have hzV : wr.heap.size + 1 ≤ V1.heap.size := by have := Hzx.out; omega
      have f0 := cell_rule HCy.out (n := wr.heap.size + 1) (by omega) 0 rfl
      have f1 := cell_rule HCy.out (n := wr.heap.size + 1) (by omega) 1 rfl
      refine Calls.mono (s_l11HasAt D (reqO g x) A cap G X.at_ V1 (H1.out.below (OccR.good D) Hwv.out LG1.out)) ?_
      rintro en w2 ⟨rfl, hb2⟩
      have hv2 : Below (wr.heap.size + 1) V1 w2 := hb2.mono hzV
      have Hw2 : Hid (Below W1.heap.size W1 w2) := hide (below_step Hwv.out (Nat.le_refl _) hb2)
      have Hr2 : Hid (Below wr.heap.size wr w2) := hide (below_step Hrv.out (Nat.le_refl _) hb2)
      have hB2 := HW1.out _ Hw2.out
      clear hb2
      cases hq : hasO (reqO g x) X.at_
      · have Hyes : Hid (extB g x = true) := hide (any_range hlt (by rw [Hex.out]; unfold extAt; rw [hq]; rfl))
        clear hq
        go_wp2_with fail
        go_ret
        exact ⟨ret_bool (by rw [Hyes.out]), Hw.out _ hB2⟩
      · have Hex2 : Hid (extI g x j = hasO M X.at_) := hide (by rw [Hex.out, Hhm.out]; unfold extAt; rw [hq]; rfl)
        clear hq
        have Ho2 := hide (Ho.out.below (OccR.good D) Hr2.out)
        obtain ⟨A', cap', rfl, hlc', hm'⟩ := Ho.out.form
        obtain ⟨Gm, hsm, _⟩ := Ho2.out.slr (OccR.good D)
        have HCo := hide (s_l11HasAt D M A' cap' Gm X.at_ w2 hsm)
        have Hm' := hide hm'
        clear hsm hm'
        generalize hasO M X.at_ = q at Hex2 HCo
        cases q
        all_goals
          go_wp2_with fail
          refine Calls.mono HCo.out ?_
          rintro en w3 ⟨rfl, hb3⟩
          have hv3 : Below (wr.heap.size + 1) V1 w3 := below_step hv2 hzV hb3
          have Hw3 : Hid (Below W1.heap.size W1 w3) := hide (below_step Hw2.out (Nat.le_refl _) hb3)
          have hB3 := HW1.out _ Hw3.out
          have Ho3 := hide (Ho2.out.below (OccR.good D) hb3)
          clear hb3
        · have Hno2 := hide (any_range_next Hno.out Hex2.out)
          have hbq : W1.heap.size ≤ w3.heap.size := Hw3.out.size
          go_wp2_with (at_builtin; refine app_ownS rfl (.tmp 35) (.tmp 37) 79 81 rfl Tryz.underlying79 infoOcc rfl (by decide) (OccR.good D) w3 w3 W1.heap.size _ M [] Ho3.out rfl (Below.refl _ _) X.at_ [.int .i64 X.at_.pos, .string X.at_.name] [] ⟨rfl, Hok.out, rfl, rfl, rfl⟩ (Fresh.nil _ _) (by simp [Value.oneCell']) rfl (by omega) (by omega) hbq ?_; intro v1 w4 hown hbl; have Hown := hide hown; have Hbl := hide hbl; clear hown hbl)
          go_roundw
          case rel => exact ⟨j + 1, by omega, by go_num, hide (by rw [Hmap.out]; exact Hown.out), Hno2, hide (Hw3.out.trans Hbl.out)⟩
          case measure => simp [intOf]; omega
        · have Hyes : Hid (extB g x = true) := hide (any_range hlt Hex2.out)
          go_wp2_with fail
          go_ret
          exact ⟨ret_bool (by rw [Hyes.out]), Hw.out _ hB3⟩
    · have hjl : j = x.eqs.length := by omega
      have hj1 : ¬ (j : Int) < (x.eqs.length : Int) := by omega
      have Hall : Hid (extB g x = false) := hide (by unfold extB; rw [← hjl]; exact Hno.out)
      go_wp2_with fail
      go_ret
      exact ⟨ret_bool (by rw [Hall.out]), Hw.out _ hBr⟩
end Go.Proofs.YthlhhnnlbpecnaaGreat

/- Rows of expressions that lay before: plain but for the readings. -/
namespace Go.Proofs.YthlhhnnlbpecnaaGreat
set_option linter.unusedSimpArgs false
set_option linter.unusedVariables false
set_option maxRecDepth 100000
open Go.RowKit Go.WideShapes
set_option linter.unusedVariables false

/-- An expression as it lay in a world gone by. -/
def Ex0 (D : Nat) (w0 : World) : CR Ex := fun _ x cs F => F = [] ∧ ∃ G, ExR D w0 x cs G ∧ ∀ k ∈ G, k < w0.heap.size
theorem Ex0.good (D : Nat) (w0 : World) : Good 7 (Ex0 D w0) where
  len := fun h => by obtain ⟨_, G, h, _⟩ := h; exact (ExR.good D).len h
  frame := fun h _ _ => h
  lt := fun h b hb => by rw [h.1] at hb; cases hb
theorem Ex0.now {D : Nat} {w0 w W : World} {x : Ex} {cs : List Value} {F : List Nat} (h : Ex0 D w0 W x cs F) (hb : Below w0.heap.size w0 w) : ∃ G, ExR D w x cs G := by
  obtain ⟨_, G, h1, h2⟩ := h
  exact ⟨G, (ExR.good D).below h1 hb h2⟩
theorem ElR.now {D : Nat} {w0 w W : World} {b : Nat} (hb : Below w0.heap.size w0 w) : ∀ {xs : List Ex} {off : Nat} {F : List Nat}, ElR 7 (Ex0 D w0) w b off xs F → ∃ F', ElR 7 (ExR D) w b off xs F'
  | [], _, _, _ => ⟨[], rfl⟩
  | x :: r, off, F, h => by
    obtain ⟨cs, F1, F2, rfl, h1, h2, h3⟩ := h
    obtain ⟨G, hG⟩ := h2.now hb
    obtain ⟨F', hF'⟩ := ElR.now (W := W) hb h3
    exact ⟨G ++ F', cs, G, F', rfl, h1, hG, hF'⟩
theorem SlR.now {D : Nat} {w0 w : World} {xs : List Ex} {v : Value} {F : List Nat} (h : SlR 7 (Ex0 D w0) w xs v F) (hb : Below w0.heap.size w0 w) : ∃ F', SlR 7 (ExR D) w xs v F' := by
  obtain ⟨A, cap, rfl, h1, h2, h3⟩ := h
  rcases h3 with ⟨rfl, rfl⟩ | ⟨b, off, F', rfl, hb2, rfl, he⟩
  · exact ⟨[], A, cap, rfl, h1, h2, .inl ⟨rfl, rfl⟩⟩
  · obtain ⟨G, hG⟩ := ElR.now (W := w) hb he
    exact ⟨b :: G, some ⟨b, off, none⟩, cap, rfl, h1, h2, .inr ⟨b, off, G, rfl, hb2, rfl, hG⟩⟩
theorem exprs_bulk {D : Nat} {x : Rul} (h : bulkRul D x ≤ 1048576) : ∀ e ∈ exprsR x, bulkE D e ≤ 1048576 := fun e he => by
  unfold exprsR at he
  rcases List.mem_append.1 he with he | he
  · obtain ⟨q, hq, rfl⟩ := List.mem_map.1 he
    exact bulk_eqs h q hq
  · unfold exprsC at he
    obtain ⟨c, hc, hm⟩ := List.mem_flatMap.1 he
    have := bulk_cons h c hc
    simp only [List.mem_cons, List.not_mem_nil, or_false] at hm
    rcases hm with rfl | rfl
    · exact this.1
    · exact this.2
theorem con_open {D : Nat} {w : World} {X : Con} {cs : List Value} {F : List Nat} (h : ConR D w X cs F) : ∃ c0 c1 c2 c3 c4 c5 c6 c7 c8 c9 c10 c11 c12 c13 c14 c15 F2 F3, cs = [c0, c1, c2, c3, c4, c5, c6, c7, c8, c9, c10, c11, c12, c13, c14, c15] ∧ ExR D w X.target [c2, c3, c4, c5, c6, c7, c8] F2 ∧ ExR D w X.value [c9, c10, c11, c12, c13, c14, c15] F3 ∧ (∀ v ∈ [c0, c1, c2, c3, c4, c5, c6, c7, c8, c9, c10, c11, c12, c13, c14, c15], v.oneCell' = true) ∧ F = F2 ++ F3 := by
  have h1 := ConR.one h
  obtain ⟨c0, c1, c2, c3, c4, c5, c6, c7, c8, c9, c10, c11, c12, c13, c14, c15, rfl⟩ := list_16 ((ConR.good D).len h)
  obtain ⟨F2, F3, _, _, _, _, hT, hV, hF⟩ := h
  exact ⟨c0, c1, c2, c3, c4, c5, c6, c7, c8, c9, c10, c11, c12, c13, c14, c15, F2, F3, rfl, hT, hV, h1, hF⟩
theorem eqn_full {D : Nat} {w : World} {X : Eqn} {cs : List Value} {F : List Nat} (h : EqnR D w X cs F) : ∃ c2 c3 c4 c5 c6 c7 c8 F1, cs = [.int .i64 X.at_.pos, .string X.at_.name, c2, c3, c4, c5, c6, c7, c8] ∧ ExR D w X.expr [c2, c3, c4, c5, c6, c7, c8] F1 ∧ (∀ v ∈ ([.int .i64 X.at_.pos, .string X.at_.name, c2, c3, c4, c5, c6, c7, c8] : List Value), v.oneCell' = true) ∧ ∀ k ∈ F1, k ∈ F := by
  have h1 := EqnR.one h
  obtain ⟨c0, c1, c2, c3, c4, c5, c6, c7, c8, rfl⟩ := list_9 ((EqnR.good D).len h)
  obtain ⟨f0, f1, _, hO, hE, hF⟩ := h
  obtain ⟨_, _, r0, r1, _⟩ := hO
  obtain rfl : c0 = .int .i64 X.at_.pos := by simpa using r0
  obtain rfl : c1 = .string X.at_.name := by simpa using r1
  exact ⟨c2, c3, c4, c5, c6, c7, c8, f1, rfl, hE, h1, fun k hk => by rw [hF]; simp [hk]⟩
end Go.Proofs.YthlhhnnlbpecnaaGreat

/- Occurrences compared: the library's Compare and Or, the program's comparison. Conditions: none. -/
namespace Go.Proofs.YthlhhnnlbpecnaaGreat
set_option linter.unusedSimpArgs false
set_option linter.unusedVariables false
set_option maxRecDepth 100000
open Go.RowKit Go.WideShapes Go.Sort
set_option linter.unusedVariables false

theorem t_nanI (x : Int) (w : World) : Calls Tryz.prog 152 #[.int .i64 x] w fun e w' => e = .returned (.bool false) ∧ w' = w := by
  go_enter Tryz.func152, Tryz.ntmps152
  go_wp2_with fail
  go_ret
  exact ⟨by simp, rfl⟩
theorem t_nanS (x : ByteArray) (w : World) : Calls Tryz.prog 153 #[.string x] w fun e w' => e = .returned (.bool false) ∧ w' = w := by
  go_enter Tryz.func153, Tryz.ntmps153
  go_wp2_with fail
  go_ret
  exact ⟨by simp, rfl⟩
theorem t_CmpI (x y : Int) (w : World) : Calls Tryz.prog 123 #[.int .i64 x, .int .i64 y] w fun e w' => e = .returned (.int .i64 (cmpI x y)) ∧ w' = w := by
  unfold cmpI
  by_cases h1 : x < y
  · rw [if_pos h1]
    go_enter Tryz.func123, Tryz.ntmps123
    go_wp2_with (go_at_call 152; refine Calls.mono (t_nanI _ _) ?_; rintro e w2 ⟨rfl, hw2⟩; obtain rfl := hw2.symm)
    go_ret
    exact ⟨rfl, rfl⟩
  · rw [if_neg h1]
    by_cases h2 : x > y
    · rw [if_pos h2]
      go_enter Tryz.func123, Tryz.ntmps123
      go_wp2_with (go_at_call 152; refine Calls.mono (t_nanI _ _) ?_; rintro e w2 ⟨rfl, hw2⟩; obtain rfl := hw2.symm)
      go_ret
      exact ⟨rfl, rfl⟩
    · rw [if_neg h2]
      go_enter Tryz.func123, Tryz.ntmps123
      go_wp2_with (go_at_call 152; refine Calls.mono (t_nanI _ _) ?_; rintro e w2 ⟨rfl, hw2⟩; obtain rfl := hw2.symm)
      go_ret
      exact ⟨rfl, rfl⟩
theorem t_CmpS (x y : ByteArray) (w : World) : Calls Tryz.prog 124 #[.string x, .string y] w fun e w' => e = .returned (.int .i64 (cmpB x.data.toList y.data.toList)) ∧ w' = w := by
  unfold cmpB
  by_cases h1 : x.data.toList < y.data.toList
  · rw [if_pos h1]
    have b1 : Op.bytesLess x.toList y.toList = true := by rw [bytesLess_eq, Lib.toList_data, Lib.toList_data]; simpa using h1
    clear h1
    go_enter Tryz.func124, Tryz.ntmps124
    go_wp2_with (go_at_call 153; refine Calls.mono (t_nanS _ _) ?_; rintro e w2 ⟨rfl, hw2⟩; obtain rfl := hw2.symm)
    go_ret
    exact ⟨rfl, rfl⟩
  · rw [if_neg h1]
    have b1 : Op.bytesLess x.toList y.toList = false := by rw [bytesLess_eq, Lib.toList_data, Lib.toList_data]; simpa using h1
    by_cases h2 : y.data.toList < x.data.toList
    · rw [if_pos h2]
      have b2 : (x.toList == y.toList) = false := by
        rw [beq_eq_false_iff_ne, Lib.toList_data, Lib.toList_data]
        intro e
        rw [e] at h2
        exact List.lt_irrefl _ h2
      clear h1 h2
      go_enter Tryz.func124, Tryz.ntmps124
      go_wp2_with (go_at_call 153; refine Calls.mono (t_nanS _ _) ?_; rintro e w2 ⟨rfl, hw2⟩; obtain rfl := hw2.symm)
      go_ret
      exact ⟨rfl, rfl⟩
    · rw [if_neg h2]
      have b2 : (x.toList == y.toList) = true := by
        rw [beq_iff_eq, Lib.toList_data, Lib.toList_data]
        exact List.le_antisymm (List.not_lt.1 h2) (List.not_lt.1 h1)
      clear h1 h2
      go_enter Tryz.func124, Tryz.ntmps124
      go_wp2_with (go_at_call 153; refine Calls.mono (t_nanS _ _) ?_; rintro e w2 ⟨rfl, hw2⟩; obtain rfl := hw2.symm)
      go_ret
      exact ⟨rfl, rfl⟩
theorem t_Or (c d : Int) (g : Nat) (T : TypeId) (w : World) (h : w.heap[g]? = some (.cells #[.int .i64 c, .int .i64 d] T (0, 0))) :
    Calls Tryz.prog 122 #[.slice (some ⟨g, 0, none⟩) 2 2] w fun e w' => e = .returned (.int .i64 (if c ≠ 0 then c else d)) ∧ w' = w := by
  have q0 := cell_at (i := 0) h (by simp)
  have q1 := cell_at (i := 1) h (by simp)
  by_cases h0 : c = 0
  · subst h0
    have e0 : (if (0 : Int) ≠ 0 then (0 : Int) else d) = d := rfl
    rw [e0]
    by_cases h1 : d = 0
    · subst h1
      go_enter Tryz.func122, Tryz.ntmps122
      go_wp2_with fail
      refine wp_loop_rounds 3 ?_
      rw [rounds_succ]
      go_wp2_with fail
      rw [rounds_succ]
      go_wp2_with fail
      rw [rounds_succ]
      go_wp2_with fail
      go_ret
      exact ⟨rfl, rfl⟩
    · go_enter Tryz.func122, Tryz.ntmps122
      go_wp2_with fail
      refine wp_loop_rounds 3 ?_
      rw [rounds_succ]
      go_wp2_with fail
      rw [rounds_succ]
      go_wp2_with fail
      go_ret
      exact ⟨rfl, rfl⟩
  · rw [if_pos h0]
    go_enter Tryz.func122, Tryz.ntmps122
    go_wp2_with fail
    refine wp_loop_rounds 3 ?_
    rw [rounds_succ]
    go_wp2_with fail
    go_ret
    exact ⟨rfl, rfl⟩
end Go.Proofs.YthlhhnnlbpecnaaGreat

/- The attributes that an expression uses, gathered by a closure that appends to a row of the caller's: the program's walk over all nodes. Conditions: at most 2^20 uses. -/
namespace Go.Proofs.YthlhhnnlbpecnaaGreat
set_option linter.unusedSimpArgs false
set_option linter.unusedVariables false
set_option maxRecDepth 100000
open Go.RowKit Go.WideShapes
set_option linter.unusedVariables false

/-- A thing made since appended to a row that the call owned before. -/
theorem app_ownQ {α : Type} {P : Program} {ops : Array Oper} {rest : List Oper} {o : Oper} {a : Act} {Q : Exit → Act → World → Prop} (hgd : o.guard = none) (s x : Operand) (t e : TypeId)
    (ho : o.op = .call { callee := .builtin .append, args := #[s, x], argTypes := #[t, t] }) (ht : P.underlying t = some (.slice e)) {z : Value} {size bytes : Nat}
    (hinfo : (P.info? e).map (fun i => (i.zero, i.size, i.bytes)) = some (some z, size, bytes)) (hzs : z.cells.size = size) (hsz : 0 < size) {R : CR α} (hR : Good size R) (n0 : Nat) (W2 : World) (base : Nat) (v : Value) (xs : List α) (F : List Nat)
    (hown : OwnS size R base e W2 xs v F) (hs : a.eval s = v) (hF : ∀ k ∈ F, k < n0) (hv : ∀ k, v.ownBlock = some k → k < n0) (y : α) (ys : List Value) (G : List Nat) (hy : Made n0 R W2 y ys G) (hy1 : ∀ u ∈ ys, u.oneCell' = true) (g : Nat)
    (hx : a.eval x = .slice (some ⟨g, 0, none⟩) 1 1) (hg : New n0 W2 g (.cells ys.toArray e (0, 0)))
    (hn : xs.length + 1 ≤ 1099511627776) (hby : (xs.length + 1) * bytes ≤ 140737488355328) (hbase : base ≤ n0)
    (h : ∀ v' w', OwnS size R base e w' (xs ++ [y]) v' (F ++ G) → W2.grownBy w' v.ownBlock → (∀ k, v'.ownBlock = some k → v.ownBlock = some k ∨ W2.heap.size ≤ k) → wpList P ops Q rest (a.put o.dst v') w') :
    wpList P ops Q (o :: rest) a W2 := by
  obtain ⟨i0, hi, hz0, hz1, hz2⟩ := info_parts hinfo
  have hlen := hR.len hy.1
  have hgn := hg.1
  have hglt := hg.lt
  have hblk := hown.blk
  obtain ⟨⟨cl, hrow, hel⟩, hf, hoff⟩ := hown
  have hcells : ∀ j u, ys[j]? = some u → W2.cell? ((⟨g, 0, none⟩ : Addr).add j) = some u := fun j u hu => by
    have e1 : (⟨g, 0, none⟩ : Addr).add j = ⟨g, j, none⟩ := by
      unfold Addr.add
      split
      · rename_i h0; subst h0; rfl
      · rw [show (0 : Nat) + j = j by omega]
    rw [e1, cell_of_row _ _ _ _ _ _ hg.2]
    simpa using hu
  refine wpList_plain hgd fun K hK => ?_
  obtain ⟨v', w', hr, h2, h3, h4⟩ := run_append_where (P := P) W2 base t o.type e i0 z size bytes ht hi hz0 hz1 hz2 hzs hsz v xs.length cl hrow ⟨g, 0, none⟩ 1 1 ys (by omega) hcells hy1 (by unfold maxLen; omega) hby (by omega)
  have hblkA : ∀ k, k < W2.heap.size → v.ownBlock ≠ some k → w'.heap[k]? = W2.heap[k]? := fun k hk hne => h3.block k hk (fun he => hne he.symm)
  have hF' : ∀ k ∈ F, w'.heap[k]? = W2.heap[k]? := fun k hk => hblkA k (hf.lt k hk) (hoff k hk)
  have hG' : ∀ k ∈ G, w'.heap[k]? = W2.heap[k]? := fun k hk => hblkA k (hy.2.lt k hk) fun he => by
    have h5 := hv k he
    have h6 := hy.2.from_ k hk
    omega
  have hres : OwnS size R base e w' (xs ++ [y]) v' (F ++ G) := by
    refine ⟨⟨cl ++ ys, by rw [List.length_append]; exact h2, ElL.snoc (hR.frame hy.1 hG' h3.size) (hel.frame hR h3.size hF')⟩, (hf.keep hF').append (hy.2.keep hG') hF hbase, fun k hk he => ?_⟩
    rcases h4 k he with h5 | h5
    · rcases List.mem_append.1 hk with hk | hk
      · exact hoff k hk h5
      · have := hv k h5; have := hy.2.from_ k hk; omega
    · rcases List.mem_append.1 hk with hk | hk
      · have := hf.lt k hk; omega
      · have := hy.2.lt k hk; omega
  have hfin := hK _ _ (h v' w' hres h3 h4)
  revert hr
  intro hr
  unfold Oper.wp execOp
  simp only [ho, resolve, invoke, builtin, Sem.run_bind, Sem.run_pure, Result.andThen_ok, List.map_toArray, List.map_cons, List.map_nil, hs, hx, hr]
  exact hfin
/-- The row stays where its own block stays. -/
theorem OwnS.keep2 {α : Type} {n B : Nat} {R : CR α} {e : TypeId} {w w' : World} {xs : List α} {v : Value} (hR : Good n R) (h : OwnS n R B e w xs v []) (hk : ∀ k, v.ownBlock = some k → w'.heap[k]? = w.heap[k]?) (hz : w.heap.size ≤ w'.heap.size) : OwnS n R B e w' xs v [] := by
  obtain ⟨⟨cl, ⟨h1, h2⟩, hel⟩, h3, h4⟩ := h
  refine ⟨⟨cl, ⟨h1, ?_⟩, hel.frame hR hz (fun k hk => by cases hk)⟩, Fresh.nil _ _, h4⟩
  rcases h2 with h2 | ⟨g, cap, cur, rfl, hg, hb, hn, hm, hc, ht⟩
  · exact .inl h2
  · exact .inr ⟨g, cap, cur, rfl, hg, (hk g rfl).trans hb, hn, hm, hc, ht⟩
/-- The caller's row xs in its box bo. -/
structure St (B bo : Nat) (w : World) (v : Value) (xs : List Occ) : Prop where
  box : w.heap[bo]? = some (.cells #[v] 79 (0, 0))
  own : OwnS 2 (OccR 0) B 81 w xs v []
  ne : ∀ k, v.ownBlock = some k → k ≠ bo
/-- The row grown to xs'; all else stays. -/
structure Acc (B bo : Nat) (w : World) (v : Value) (w' : World) (v' : Value) (xs' : List Occ) : Prop where
  st : St B bo w' v' xs'
  os : w'.os = w.os
  tape : w'.tape = w.tape
  output : w'.output = w.output
  size : w.heap.size ≤ w'.heap.size
  keep : ∀ k, k < w.heap.size → k ≠ bo → v.ownBlock ≠ some k → w'.heap[k]? = w.heap[k]?
  wher : ∀ k, v'.ownBlock = some k → v.ownBlock = some k ∨ w.heap.size ≤ k
section
variable {B bo : Nat} {w w1 w2 : World} {v v1 v2 : Value} {xs xs1 xs2 : List Occ}
theorem St.lt (h : St B bo w v xs) : bo < w.heap.size := blk_lt h.box
theorem St.below (h : St B bo w v xs) (hb : Below w.heap.size w w1) : St B bo w1 v xs := ⟨(hb.block _ h.lt).trans h.box, h.own.below (OccR.good 0) hb, h.ne⟩
theorem Acc.refl (h : St B bo w v xs) : Acc B bo w v w v xs := ⟨h, rfl, rfl, rfl, Nat.le_refl _, fun _ _ _ _ => rfl, fun _ h => .inl h⟩
theorem Acc.trans (h : Acc B bo w v w1 v1 xs1) (g : Acc B bo w1 v1 w2 v2 xs2) : Acc B bo w v w2 v2 xs2 where
  st := g.st
  os := g.os.trans h.os
  tape := g.tape.trans h.tape
  output := g.output.trans h.output
  size := Nat.le_trans h.size g.size
  keep := fun k hk hb hv => (g.keep k (Nat.lt_of_lt_of_le hk h.size) hb (fun e => by
    rcases h.wher k e with e | e
    · exact hv e
    · omega)).trans (h.keep k hk hb hv)
  wher := fun k hk => by
    rcases g.wher k hk with e | e
    · exact h.wher k e
    · exact .inr (Nat.le_trans h.size e)
theorem Acc.pre (hb : Below w.heap.size w w1) (h : Acc B bo w1 v w2 v2 xs2) : Acc B bo w v w2 v2 xs2 where
  st := h.st
  os := h.os.trans hb.os
  tape := h.tape.trans hb.tape
  output := h.output.trans hb.output
  size := Nat.le_trans hb.size h.size
  keep := fun k hk h1 h2 => (h.keep k (Nat.lt_of_lt_of_le hk hb.size) h1 h2).trans (hb.block k hk)
  wher := fun k hk => (h.wher k hk).imp id fun e => Nat.le_trans hb.size e
theorem Acc.post (h : Acc B bo w v w1 v1 xs1) (hb : Below w1.heap.size w1 w2) : Acc B bo w v w2 v1 xs1 where
  st := h.st.below hb
  os := hb.os.trans h.os
  tape := hb.tape.trans h.tape
  output := hb.output.trans h.output
  size := Nat.le_trans h.size hb.size
  keep := fun k hk h1 h2 => (hb.block k (Nat.lt_of_lt_of_le hk h.size)).trans (h.keep k hk h1 h2)
  wher := h.wher
theorem Acc.down (h : Acc B bo w v w1 v1 xs1) (hs : St B bo w v xs) (hbo : B ≤ bo) (hB : B ≤ w.heap.size) : Below B w w1 := ⟨h.os, h.tape, h.output, h.size, fun k hk => h.keep k (by omega) (by omega) (fun e => by have := (hs.own.blk k e).1; omega)⟩
theorem Acc.box (h : Acc B bo w1 v w2 v2 xs2) (hs : St B bo w v xs) {k : Nat} {o : Obj} (hk : w1.heap[k]? = some o) (hn : w.heap.size ≤ k) : w2.heap[k]? = some o :=
  (h.keep k (blk_lt hk) (by have := hs.lt; omega) (fun e => by have := (hs.own.blk k e).2; omega)).trans hk
end
theorem infoOc2 : (Tryz.prog.info? 81).map (fun i => (i.zero, i.size, i.bytes)) = some (some (.agg #[.int .i64 0, .string ByteArray.empty]), 2, 24) := by kernel_rfl
set_option maxRecDepth 100000 in
set_option maxHeartbeats 2000000 in
/-- The closure: the node's own use appended. -/
theorem clo_use {B bo d : Nat} {v : Value} {xs : List Occ} (e : Ex) (cs : List Value) (F : List Nat) (w : World) (h : ExR d w e cs F) (hs : St B bo w v xs) (hB : B ≤ w.heap.size) (hn : xs.length + (useH e.h).length ≤ 2097152) :
    Calls Tryz.prog 90 #[.agg cs.toArray, .pointer (some ⟨bo, 0, none⟩)] w fun en w' => en = .returned (.bool true) ∧ ∃ v', Acc B bo w v w' v' (xs ++ useH e.h) := by
  match d, h with
  | d + 1, h =>
  obtain ⟨A, cap, rfl, hok, _, _, _⟩ := ex_form h
  obtain ⟨⟨k, n, p, t, s, m⟩, l⟩ := e
  simp only [Ex.h, Ex.args] at hok hn ⊢
  show Calls _ _ #[.agg #[.int .i64 k, .int .i64 n, .int .i64 p, .int .i64 t, .string s, .string m, .slice A l.length cap], .pointer (some ⟨bo, 0, none⟩)] w _
  clear h
  have hb1 : Below w.heap.size w (w.alloc (.cells #[.int .i64 k, .int .i64 n, .int .i64 p, .int .i64 t, .string s, .string m, .slice A l.length cap] 86)) := (Below.refl _ _).alloc (Nat.le_refl _) _
  by_cases hk : k = 3
  · subst hk
    have hu : useH ⟨3, n, p, t, s, m⟩ = [⟨p, m⟩] := rfl
    rw [hu] at hn ⊢
    simp only [List.length_singleton] at hn
    obtain ⟨A0, cap0, rfl, hlc0, hm0⟩ := hs.own.form
    have hbo := hs.lt
    have HS := hide hs
    have Hok := hide hok
    have H1 := hide (hs.below hb1)
    have Hb1 := hide hb1
    have qb := cell_at (i := 0) (hs.below hb1).box (by simp)
    have hb2 : Below w.heap.size w ((w.alloc (.cells #[.int .i64 3, .int .i64 n, .int .i64 p, .int .i64 t, .string s, .string m, .slice A l.length cap] 86)).alloc (.cells #[.int .i64 p, .string m] 81)) := hb1.alloc (by simp) _
    have H2 := hide (hs.below hb2)
    have Hb2 := hide hb2
    have Hg : Hid (New (w.heap.size + 1) ((w.alloc (.cells #[.int .i64 3, .int .i64 n, .int .i64 p, .int .i64 t, .string s, .string m, .slice A l.length cap] 86)).alloc (.cells #[.int .i64 p, .string m] 81)) (w.heap.size + 1) (.cells #[.int .i64 p, .string m] 81 (0, 0))) := hide ⟨Nat.le_refl _, by
      have := heap_alloc_new (w.alloc (.cells #[.int .i64 3, .int .i64 n, .int .i64 p, .int .i64 t, .string s, .string m, .slice A l.length cap] 86)) (.cells #[.int .i64 p, .string m] 81)
      rw [World.size_alloc] at this
      exact this⟩
    have hy : ∀ W : World, OccR 0 W ⟨p, m⟩ [.int .i64 p, .string m] [] := fun W => ⟨rfl, ⟨hok.pos, hok.name⟩, rfl, rfl, rfl⟩
    have Hy := hide hy
    have Hv : Hid (∀ k, (Value.slice A0 xs.length cap0).ownBlock = some k → k < w.heap.size + 1) := hide fun k hk => Nat.lt_succ_of_lt (hs.own.blk k hk).2
    have hL1 : xs.length + 1 ≤ 1099511627776 := by omega
    have hL2 : (xs.length + 1) * 24 ≤ 140737488355328 := by omega
    have hB1 : B ≤ w.heap.size + 1 := by omega
    clear hs hok hb1 hb2 hy hu
    go_enter Tryz.func90, Tryz.ntmps90
    go_wp2_with (at_builtin; refine app_ownQ rfl (.tmp 7) (.tmp 13) 79 81 rfl Tryz.underlying79 infoOc2 rfl (by decide) (OccR.good 0) (w.heap.size + 1) _ B (.slice A0 xs.length cap0) xs [] H2.out.own rfl (by simp) Hv.out ⟨p, m⟩ [.int .i64 p, .string m] [] ⟨Hy.out _, Fresh.nil _ _⟩ (by simp [Value.oneCell']) (w.heap.size + 1) (by first | rfl | simp [go_sem]) Hg.out hL1 hL2 hB1 ?_; intro v1 w1 hown hgr hwh; refine hold ?_)
    obtain ⟨A1, cap1, hv1, _, _⟩ := hown.form
    rw [show (xs ++ [(⟨p, m⟩ : Occ)]).length = xs.length + 1 from by simp] at hv1
    subst hv1
    have hbx1 : w1.heap[bo]? = some (.cells #[.slice A0 xs.length cap0] 79 (0, 0)) := (hgr.block bo H2.out.lt (fun e => HS.out.ne bo e.symm rfl)).trans H2.out.box
    have q1 := cell_at (i := 0) hbx1 (by simp)
    have y1 := frozen_of_row w1 _ 0 _ _ hbx1
    have Hown := hide hown
    have Hgr := hide hgr
    have Hwh := hide hwh
    have Hbx1 := hide hbx1
    clear hown hgr hwh hbx1
    refine Hold.go ?_
    go_wp2_with fail
    go_ret
    have hz1 := Hgr.out.size
    have hz2 := Hb2.out.size
    have hne1 : ∀ k, (Value.slice A1 (xs.length + 1) cap1).ownBlock = some k → k ≠ bo := fun k hk => by
      rcases Hwh.out k hk with e | e
      · exact HS.out.ne k e
      · have := Hb2.out.size; omega
    refine ⟨rfl, .slice A1 (xs.length + 1) cap1, ⟨heap_setCell_same w1 bo 0 _ _ _ Hbx1.out, OwnS.keep2 (OccR.good 0) Hown.out (fun k hk => heap_setCell_other w1 ⟨bo, 0, none⟩ k _ (hne1 k hk)) (by simp), hne1⟩, ?_, ?_, ?_, ?_, fun k hk h1 h2 => ?_, fun k hk => ?_⟩
    · exact Hgr.out.os.trans Hb2.out.os
    · exact Hgr.out.tape.trans Hb2.out.tape
    · exact Hgr.out.output.trans Hb2.out.output
    · show w.heap.size ≤ (w1.setCell _ _).heap.size
      rw [World.size_setCell]
      omega
    · refine (heap_setCell_other w1 ⟨bo, 0, none⟩ k _ h1).trans ((Hgr.out.block k (by omega) (fun e => h2 e.symm)).trans (Hb2.out.block k hk))
    · rcases Hwh.out k hk with e | e
      · exact .inl e
      · exact .inr (by omega)
  · have hu : useH ⟨k, n, p, t, s, m⟩ = [] := if_neg hk
    rw [hu, List.append_nil]
    have hk3 : (k == 3) = false := beq_eq_false_iff_ne.2 hk
    have HS := hide ((Acc.refl hs).post hb1)
    clear hs hb1 hu hok hn
    go_enter Tryz.func90, Tryz.ntmps90
    go_wp2_with fail
    go_ret
    exact ⟨rfl, _, HS.out⟩
end Go.Proofs.YthlhhnnlbpecnaaGreat
