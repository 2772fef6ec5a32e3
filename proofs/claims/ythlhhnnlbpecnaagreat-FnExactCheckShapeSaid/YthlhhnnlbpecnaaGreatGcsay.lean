/- Several texts of one proof in one file: The equation of an occurrence: both sides. Is a required occurrence without equation: both sides. Conditions: each theorem names its own. -/
import Derived.Test.YthlhhnnlbpecnaaGreatGcsak
import Derived.Test.YthlhhnnlbpecnaaGreatGcsax
import Derived.Deep.QuietTactic
import Derived.BigQuiet
import Derived.Test.YthlhhnnlbpecnaaGreatGcsat
import Derived.Test.YthlhhnnlbpecnaaGreatGcsaw
import Derived.Test.YthlhhnnlbpecnaaGreatGcsau

/- The equation of an occurrence: both sides. Conditions: the rule has at most the size 2^20. -/
namespace Go.Proofs.YthlhhnnlbpecnaaGreat
set_option linter.unusedSimpArgs false
set_option linter.unusedVariables false
set_option maxRecDepth 100000
open Go.RowKit Go.WideShapes
set_option linter.unusedVariables false

theorem findQ_hit {l : List Eqn} {o : Occ} {j : Nat} {x : Eqn} (hno : ∀ (k : Nat) (y : Eqn), k < j → l[k]? = some y → eqOcc y.at_ o = false) (hx : l[j]? = some x) (h : eqOcc x.at_ o = true) : findQ l o = some x.expr := by
  unfold findQ
  rw [find_hit hno hx h]
  rfl
theorem findQ_no {l : List Eqn} {o : Occ} (hno : ∀ (k : Nat) (y : Eqn), l[k]? = some y → eqOcc y.at_ o = false) : findQ l o = none := by
  unfold findQ
  rw [find_no hno]
  rfl
set_option maxRecDepth 100000 in
set_option maxHeartbeats 4000000 in
theorem s_FindEquation (D : Nat) (x : Rul) (y : Occ) (cs cs' : List Value) (F F' : List Nat) (w : World) (h : RulR D w x cs F) (h' : OccR D w y cs' F') (hbk : bulkRul D x ≤ 1048576) (hD : 0 < D) :
    Calls Tryz.prog 72 #[.agg cs.toArray, .agg cs'.toArray] w fun en w' => ∃ us F', en = .returned (.tuple #[.agg (List.toArray us), .bool (findQ x.eqs y).isSome]) ∧ ExR D w' ((findQ x.eqs y).getD Ex.zero) us F' ∧ Fresh w.heap.size w' F' ∧ Below w.heap.size w w' := by
  obtain ⟨p0, p1, p2, p3, p4, p5, rfl⟩ := list_6 ((RulR.good D).len h)
  obtain ⟨v2, F2, v4, F4, v5, F5, _, hrk, h0, h1, ⟨h2, g2⟩, h3, ⟨h4, g4⟩, ⟨h5, g5⟩, rfl⟩ := h
  obtain rfl := Option.some.inj h0
  obtain rfl := Option.some.inj h1
  obtain rfl := Option.some.inj h2
  obtain rfl := Option.some.inj h3
  obtain rfl := Option.some.inj h4
  obtain rfl := Option.some.inj h5
  obtain ⟨A2, k2, rfl, hc2, hm2⟩ := g2.form
  obtain ⟨A4, k4, rfl, hc4, hm4⟩ := g4.form
  obtain ⟨A5, k5, rfl, hc5, hm5⟩ := g5.form
  unfold maxLen at hm2 hm4 hm5
  obtain ⟨q0, q1, rfl⟩ := list2 ((OccR.good D).len h')
  obtain ⟨_, _, r0, r1, rfl⟩ := h'
  obtain rfl := Option.some.inj r0
  obtain rfl := Option.some.inj r1
  have L := hide (g4.lt (EqnR.good D))
  have Hs := hide g4
  have HbE := hide (bulk_eqs hbk)
  have hll : x.eqs.length ≤ 9223372036854775807 := by omega
  have hi : (Tryz.prog.info? 88).map (·.size) = some 9 := by kernel_rfl
  have hix : (Tryz.prog.info? 86).map (·.size) = some 7 := by kernel_rfl
  have Hi := hide hi
  have Hix := hide hix
  obtain ⟨C0, CO, hR0, hz0, hw0⟩ := boxR2 w [.string x.name, .string x.left, .slice A2 x.right.length k2, .bool x.lit, .slice A4 x.eqs.length k4, .slice A5 x.cons.length k5] [.int .i64 y.pos, .string y.name] [.int .i64 0, .int .i64 0, .int .i64 0, .int .i64 0, .string ⟨#[]⟩, .string ⟨#[]⟩, .slice none 0 0] 50 81 86
  show Calls _ _ #[.agg #[.string x.name, .string x.left, .slice A2 x.right.length k2, .bool x.lit, .slice A4 x.eqs.length k4, .slice A5 x.cons.length k5], .agg #[.int .i64 y.pos, .string y.name]] w _
  clear g2 g4 g5 h0 h1 h2 h3 h4 h5 hc2 hc4 hc5 hm2 hm4 hm5 hi hix hbk r0 r1
  go_enter Tryz.func72, Tryz.ntmps72
  go_wp2_with fail
  generalize ((w.alloc (Obj.cells #[.string x.name, .string x.left, .slice A2 x.right.length k2, .bool x.lit, .slice A4 x.eqs.length k4, .slice A5 x.cons.length k5] 50)).alloc (Obj.cells #[.int .i64 y.pos, .string y.name] 81)).alloc (Obj.cells #[.int .i64 0, .int .i64 0, .int .i64 0, .int .i64 0, .string ⟨#[]⟩, .string ⟨#[]⟩, .slice none 0 0] 86) = W0 at C0 CO hR0 hz0 hw0 ⊢
  have hn0 : w.heap.size + 3 ≤ W0.heap.size := by omega
  have Hw : Hid (∀ W : World, Below (w.heap.size + 3) W0 W → Below w.heap.size w W) := hide fun W h => hw0.trans (h.mono (by omega))
  have hB0 : Below (w.heap.size + 3) W0 W0 := Below.refl _ _
  have e4 := cell_rule C0 (n := w.heap.size + 3) (by omega) 4 rfl
  have f0 := cell_rule CO (n := w.heap.size + 3) (by omega) 0 rfl
  have f1 := cell_rule CO (n := w.heap.size + 3) (by omega) 1 rfl
  have HR0 : Hid (∀ W : World, Below (w.heap.size + 3) W0 W → W.heap[w.heap.size + 2]? = some (.cells #[.int .i64 0, .int .i64 0, .int .i64 0, .int .i64 0, .string ⟨#[]⟩, .string ⟨#[]⟩, .slice none 0 0] 86 (0, 0))) := hide fun W h => blk_below hR0 h (by omega)
  clear C0 CO hz0 hw0 hR0
  go_wp2_with fail
  go_loopw [6] (fun i wr => ∃ j : Nat, j ≤ x.eqs.length ∧ i = .int .i64 j ∧ Hid (∀ (k : Nat) (q : Eqn), k < j → x.eqs[k]? = some q → eqOcc q.at_ y = false) ∧ Hid (Below (w.heap.size + 3) W0 wr)) (fun i _ => x.eqs.length - (intOf i).toNat)
  case atStart => exact ⟨0, by omega, rfl, hide (fun k q hk => absurd hk (by omega)), hide hB0⟩
  case round =>
    obtain ⟨j, hj, rfl, Hno, Hb⟩ := hrel
    have hBr := Hb.out
    by_cases hlt : j < x.eqs.length
    · have hX : x.eqs[j]? = some x.eqs[j] := List.getElem?_eq_getElem hlt
      generalize x.eqs[j] = X at hX
      obtain ⟨b, off, cs, Fk, hA, _, hbF, hFk, hcl, hcat, hR⟩ := SlR.get (EqnR.good D) Hs.out hX
      subst hA
      have H1 := hide (EqnR.one hR)
      obtain ⟨c0, c1, c2, c3, c4, c5, c6, c7, c8, rfl⟩ := list_9 hcl
      obtain ⟨f0', f1', _, hO, hE, hFF⟩ := hR
      obtain ⟨_, hOk, r0, r1, _⟩ := hO
      obtain rfl : c0 = .int .i64 X.at_.pos := by simpa using r0
      obtain rfl : c1 = .string X.at_.name := by simpa using r1
      have HX := hide hX
      have Hbx := hide (HbE.out X (List.mem_of_getElem? hX))
      have hE' : ExR D w X.expr [c2, c3, c4, c5, c6, c7, c8] f1' := hE
      have HlF : Hid (∀ k ∈ f1', k < w.heap.size) := hide fun k hk => L.out k (hFk k (by rw [hFF]; simp [hk]))
      have HE : Hid (∀ W : World, Below w.heap.size w W → ExR D W X.expr [c2, c3, c4, c5, c6, c7, c8] f1') := hide fun W h => (ExR.good D).below hE' h HlF.out
      have hlb : b < w.heap.size := L.out b hbF
      have hcw := hcat.below (Hw.out wr hBr) hlb
      have Hc := hide hcw
      have Hn : Hid ([.int .i64 X.at_.pos, .string X.at_.name, c2, c3, c4, c5, c6, c7, c8].length = 9) := hide rfl
      have Hnx : Hid ([c2, c3, c4, c5, c6, c7, c8].length = 7) := hide rfl
      have EQ : ∀ W : World, (binOp .eql 81 (.agg #[.int .i64 X.at_.pos, .string X.at_.name]) (.agg #[.int .i64 y.pos, .string y.name])).run Tryz.prog W = .ok (.bool (eqOcc X.at_ y)) W := fun W => run_eqlOcc _ _ _ _ W
      have EQ2 : ∀ W : World, (Op.equalIn 10000 81 (.agg #[.int .i64 X.at_.pos, .string X.at_.name]) (.agg #[.int .i64 y.pos, .string y.name])).run Tryz.prog W = .ok (eqOcc X.at_ y) W := fun W => run_eqOcc _ _ _ _ W
      have hj0 : (0 : Int) ≤ (j : Int) := by omega
      have hj1 : (j : Int) < (x.eqs.length : Int) := by omega
      have hbase : w.heap.size + 3 ≤ wr.heap.size := Nat.le_trans hn0 hBr.size
      clear hX hFk hbF hcl hE hE' hFF r0 r1 hOk
      have ex0 : ∀ W : World, Below (w.heap.size + 3) W0 W → W.cell? ⟨b, off + j * 9, none⟩ = some (.int .i64 X.at_.pos) := fun W h => (hcat.below (Hw.out W h) hlb) 0 _ rfl
      have ex1 : ∀ W : World, Below (w.heap.size + 3) W0 W → W.cell? ⟨b, off + j * 9 + 1, none⟩ = some (.string X.at_.name) := fun W h => (hcat.below (Hw.out W h) hlb) 1 _ rfl
      have HC2 : Hid (∀ W : World, Below (w.heap.size + 3) W0 W → CellsAt W b (off + j * 9 + 2) [c2, c3, c4, c5, c6, c7, c8]) := hide fun W h i v hv => by have := (hcat.below (Hw.out W h) hlb) (2 + i) v (by simpa [Nat.add_comm] using hv); rwa [← Nat.add_assoc] at this
      have hwv := hBr
      clear hcat hcw
      cases hq : eqOcc X.at_ y
      · have Hq := hide hq
        rw [hq] at EQ EQ2
        go_wp2_with fail
        go_quiet (fail)
        go_wp2_with fail
        go_roundw
        case rel =>
          refine ⟨j + 1, by omega, by go_num, hide fun k z hk hz => ?_, hide (below_drewN hwv _)⟩
          by_cases hkj : k < j
          · exact Hno.out k z hkj hz
          · obtain rfl : k = j := by omega
            have := HX.out
            rw [hz] at this
            obtain rfl := Option.some.inj this
            exact Hq.out
        case measure => simp [intOf]; omega
      · have Hf := hide (findQ_hit Hno.out HX.out hq)
        rw [hq] at EQ EQ2
        go_wp2_with fail
        go_quiet (fail)
        have HQ0 := fun nq => below_drewN hwv nq
        generalize hV1 : World.drewN wr _ = V1
        have hwq : Below (w.heap.size + 3) W0 V1 := by rw [← hV1]; exact HQ0 _
        clear hV1 HQ0
        go_wp2_with (refine wpList_load_at 86 (.tmp 26) rfl Tryz.underlying86 rfl Hix.out rfl rfl Hnx.out (HC2.out _ (by assumption)) ?_)
        refine Calls.mono (s_l4Copy D X.expr _ f1' V1 (HE.out V1 (Hw.out V1 hwq)) Hbx.out) ?_
        rintro en w2 ⟨us, F2', rfl, hR2, hf2, hb2⟩
        have H12 := hide (ExR.one hR2)
        obtain ⟨u0, u1, u2, u3, u4, u5, u6, rfl⟩ := list7 ((ExR.good D).len hR2)
        have HR2 := hide hR2
        have Hf2 : Hid (Fresh V1.heap.size w2 F2') := hide hf2
        have Hb2 : Hid (Below (w.heap.size + 3) W0 w2) := hide (hwq.trans (hb2.mono (Nat.le_trans hn0 hwq.size)))
        have Hz2 := hide (Nat.le_trans hn0 hwq.size)
        have HZ := hide (HR0.out w2 Hb2.out)
        have Hn2 : Hid ([u0, u1, u2, u3, u4, u5, u6].length = 7) := hide rfl
        clear hR2 hf2 hb2
        go_wp2_with (refine wpList_store_at 86 (.tmp 4) (.tmp 28) rfl Hix.out rfl rfl rfl Hn2.out H12.out HZ.out (by decide) ?_; intro WF hP; have HP := hide hP; clear hP)
        have hfar : ∀ k ∈ F2', WF.heap[k]? = w2.heap[k]? := fun k hk => HP.out.far k (by have := Hf2.out.from_ k hk; have := Hz2.out; omega)
        have hW : Below w.heap.size w WF := (Hw.out w2 Hb2.out).trans (HP.out.below (by omega))
        obtain ⟨x0, x1, x2, x3, x4, x5, x6⟩ := HP.out.cellsAt.seven0
        exact bodyPost_ret (v := .tuple #[.agg #[u0, u1, u2, u3, u4, u5, u6], .bool true]) (by simp [results, Tryz.results72, go_sem, x0, x1, x2, x3, x4, x5, x6]) rfl
          ⟨[u0, u1, u2, u3, u4, u5, u6], F2', by rw [Hf.out]; rfl, by rw [Hf.out]; exact (ExR.good D).frame HR2.out hfar (by rw [HP.out.size]; exact Nat.le_refl _), (Hf2.out.keep hfar).mono (by have := Hz2.out; omega), hW⟩
    · have Hf := hide (findQ_no (l := x.eqs) (o := y) fun k q hq => Hno.out k q (by have := (List.getElem?_eq_some_iff.1 hq).1; omega) hq)
      have HZ := hide (HR0.out wr hBr)
      have H1z : Hid (∀ v ∈ ([.int .i64 0, .int .i64 0, .int .i64 0, .int .i64 0, .string ⟨#[]⟩, .string ⟨#[]⟩, .slice none 0 0] : List Value), v.oneCell' = true) := hide (ExR.one (ExR.zero 0 w))
      go_wp2_with (refine wpList_store_at 86 (.tmp 4) (.tmp 29) rfl Hix.out rfl rfl rfl rfl H1z.out HZ.out (by decide) ?_; intro WF hP; have HP := hide hP; clear hP)
      have hW : Below w.heap.size w WF := (Hw.out wr hBr).trans (HP.out.below (by omega))
      obtain ⟨x0, x1, x2, x3, x4, x5, x6⟩ := HP.out.cellsAt.seven0
      exact bodyPost_ret (v := .tuple #[.agg #[.int .i64 0, .int .i64 0, .int .i64 0, .int .i64 0, .string ⟨#[]⟩, .string ⟨#[]⟩, .slice none 0 0], .bool false]) (by simp [results, Tryz.results72, go_sem, x0, x1, x2, x3, x4, x5, x6]) rfl
        ⟨[.int .i64 0, .int .i64 0, .int .i64 0, .int .i64 0, .string ⟨#[]⟩, .string ⟨#[]⟩, .slice none 0 0], [], by rw [Hf.out]; rfl, by rw [Hf.out]; obtain ⟨d, rfl⟩ : ∃ d, D = d + 1 := ⟨D - 1, by omega⟩; exact ExR.zero d _, Fresh.nil _ _, hW⟩
end Go.Proofs.YthlhhnnlbpecnaaGreat

/- Is a required occurrence without equation: both sides. Conditions: grammar and rule have at most the size 2^20, and the list of what is required is not too long. -/
namespace Go.Proofs.YthlhhnnlbpecnaaGreat
set_option linter.unusedSimpArgs false
set_option linter.unusedVariables false
set_option maxRecDepth 100000
open Go.RowKit Go.WideShapes
set_option linter.unusedVariables false

theorem s_fq (D : Nat) (x : Rul) (y : Occ) (cs cs' : List Value) (F F' : List Nat) (w : World) (h : RulR D w x cs F) (h' : OccR D w y cs' F') (hbk : bulkRul D x ≤ 1048576) (hD : 0 < D) :
    Calls Tryz.prog 72 #[.agg cs.toArray, .agg cs'.toArray] w fun en w' => ∃ u_0 u_1 u_2 u_3 u_4 u_5 u_6, en = .returned (.tuple #[.agg #[u_0, u_1, u_2, u_3, u_4, u_5, u_6], .bool (hasQ x.eqs y)]) ∧ (∀ v ∈ ([u_0, u_1, u_2, u_3, u_4, u_5, u_6] : List Value), v.oneCell' = true) ∧ Below w.heap.size w w' :=
  (s_FindEquation D x y cs cs' F F' w h h' hbk hD).mono fun en w' ⟨us, F', he, hR, _, hb⟩ => by
    have h1 := ExR.one hR
    obtain ⟨u0, u1, u2, u3, u4, u5, u6, rfl⟩ := list7 ((ExR.good D).len hR)
    rw [hasQ_find] at he
    exact ⟨u0, u1, u2, u3, u4, u5, u6, he, h1, hb⟩
set_option maxRecDepth 100000 in
set_option maxHeartbeats 4000000 in
theorem i_missing (D : Nat) (g : Grm) (x : Rul) (cg cr : List Value) (Fg Fr : List Nat) (w : World) (hg : GrmR D w g cg Fg) (hr : RulR D w x cr Fr) (hbj : ReqJ D g x) :
    Calls Tryz.prog 21 #[.agg cg.toArray, .agg cr.toArray] w fun en w' => en = .returned (.bool (misB g x)) ∧ Below w.heap.size w w' := by
  have LG := hide ((GrmR.good D).lt hg)
  have LR := hide ((RulR.good D).lt hr)
  obtain ⟨gc0, gc1, rfl⟩ := list2 ((GrmR.good D).len hg)
  obtain ⟨r0, r1, r2, r3, r4, r5, rfl⟩ := list_6 ((RulR.good D).len hr)
  obtain ⟨A2, k2, A4, k4, A5, k5, F4, F5, rfl, rfl, rfl, hs4, hs5, hn4, hn5⟩ := rul_open hr
  have Hg : Hid (∀ W : World, Below w.heap.size w W → GrmR D W g [gc0, gc1] Fg) := hide fun W hW => (GrmR.good D).below hg hW LG.out
  have Hr : Hid (∀ W : World, Below w.heap.size w W → RulR D W x [r0, r1, .slice A2 x.right.length k2, r3, .slice A4 x.eqs.length k4, .slice A5 x.cons.length k5] Fr) := hide fun W hW => (RulR.good D).below hr hW LR.out
  have L4 := hide (hs4.lt (EqnR.good D))
  have L5 := hide (hs5.lt (ConR.good D))
  have Hs4 : Hid (∀ W : World, Below w.heap.size w W → SlR 9 (EqnR D) W x.eqs (.slice A4 x.eqs.length k4) F4) := hide fun W hW => hs4.below (EqnR.good D) hW L4.out
  have Hs5 : Hid (∀ W : World, Below w.heap.size w W → SlR 16 (ConR D) W x.cons (.slice A5 x.cons.length k5) F5) := hide fun W hW => hs5.below (ConR.good D) hW L5.out
  have Hig : Hid ((Tryz.prog.info? 32).map (·.size) = some 2) := hide (by kernel_rfl)
  have Hir : Hid ((Tryz.prog.info? 50).map (·.size) = some 6) := hide (by kernel_rfl)
  have Hio : Hid ((Tryz.prog.info? 81).map (·.size) = some 2) := hide (by kernel_rfl)
  have Hiq : Hid ((Tryz.prog.info? 88).map (·.size) = some 9) := hide (by kernel_rfl)
  have His : Hid ((Tryz.prog.info? 42).map (·.size) = some 2) := hide (by kernel_rfl)
  have Hix : Hid ((Tryz.prog.info? 86).map (·.size) = some 7) := hide (by kernel_rfl)
  obtain ⟨CG, CR, hz0, hw0⟩ := boxes2 w [gc0, gc1] [r0, r1, .slice A2 x.right.length k2, r3, .slice A4 x.eqs.length k4, .slice A5 x.cons.length k5] 32 50
  show Calls _ _ #[.agg #[gc0, gc1], .agg #[r0, r1, .slice A2 x.right.length k2, r3, .slice A4 x.eqs.length k4, .slice A5 x.cons.length k5]] w _
  clear hg hr hs4 hs5
  go_enter Tryz.func21, Tryz.ntmps21
  go_wp2_with fail
  generalize (w.alloc (Obj.cells #[gc0, gc1] 32)).alloc (Obj.cells #[r0, r1, .slice A2 x.right.length k2, r3, .slice A4 x.eqs.length k4, .slice A5 x.cons.length k5] 50) = W0 at CG CR hz0 hw0 ⊢
  have hn0 : w.heap.size + 2 ≤ W0.heap.size := by omega
  have Hw : Hid (∀ W : World, Below (w.heap.size + 2) W0 W → Below w.heap.size w W) := hide fun W h => hw0.trans (h.mono (by omega))
  have HcG : Hid (∀ W : World, Below (w.heap.size + 2) W0 W → CellsAt W w.heap.size 0 [gc0, gc1]) := hide fun W h => CG.below h (by omega)
  have HcR : Hid (∀ W : World, Below (w.heap.size + 2) W0 W → CellsAt W (w.heap.size + 1) 0 [r0, r1, .slice A2 x.right.length k2, r3, .slice A4 x.eqs.length k4, .slice A5 x.cons.length k5]) := hide fun W h => CR.below h (by omega)
  have hB0 : Below (w.heap.size + 2) W0 W0 := Below.refl _ _
  have a0 := cell_rule CG (n := w.heap.size + 2) (by omega) 0 rfl
  have a1 := cell_rule CG (n := w.heap.size + 2) (by omega) 1 rfl
  have b0 := cell_rule CR (n := w.heap.size + 2) (by omega) 0 rfl
  have b1 := cell_rule CR (n := w.heap.size + 2) (by omega) 1 rfl
  have b2 := cell_rule CR (n := w.heap.size + 2) (by omega) 2 rfl
  have b3 := cell_rule CR (n := w.heap.size + 2) (by omega) 3 rfl
  have b4 := cell_rule CR (n := w.heap.size + 2) (by omega) 4 rfl
  have b5 := cell_rule CR (n := w.heap.size + 2) (by omega) 5 rfl
  have hBa0 : ∀ (W : World) (o : Obj), Below (w.heap.size + 2) W0 W → Below (w.heap.size + 2) W0 (W.alloc o) := fun W o h => below_alloc hn0 o h
  have Hz0 := hide hz0
  clear CG CR hz0 hw0
  have Hbj := hide hbj
  clear hbj
  go_wp2_with fail
  refine Calls.mono (i_required D g x _ _ Fg Fr _ (Hg.out _ (Hw.out _ hB0)) (Hr.out _ (Hw.out _ hB0)) Hbj.out) ?_
  rintro en W1 ⟨v', G, rfl, h1, h2, h3⟩
  obtain ⟨A, cap, rfl, hlc, hm⟩ := h1.form
  have hB1 : Below (w.heap.size + 2) W0 W1 := below_step hB0 hn0 h3
  have HCon : Hid (Calls Tryz.prog 46 #[.slice A (reqO g x).length cap, .func (.func 48) #[] #[.pointer (some ⟨w.heap.size + 1, 0, none⟩)]] W1 fun en w' => en = .returned (.bool (misB g x)) ∧ Below W1.heap.size W1 w') := hide
    (conA_Occ1 (OccR.good D) _ ent_missing_1 _ (fun o => !hasQ x.eqs o) (reqO g x) A cap G W1 h1 fun W y cs Fk _ hW hR =>
      clo_ms1 D y cs Fk W hR _ x.eqs A4 k4 F4 (b4 W (below_step hB1 hn0 hW)) (Hs4.out W (Hw.out W (below_step hB1 hn0 hW))))
  clear h1 h2 h3
  go_wp2_with fail
  refine Calls.mono HCon.out ?_
  rintro en W2 ⟨rfl, h⟩
  have HB2 := hide (Hw.out _ (below_step hB1 hn0 h))
  clear h
  go_wp2_with fail
  go_ret
  exact ⟨rfl, HB2.out⟩
set_option maxRecDepth 100000 in
set_option maxHeartbeats 4000000 in
theorem s_l11Missing (D : Nat) (g : Grm) (x : Rul) (cg cr : List Value) (Fg Fr : List Nat) (w : World) (hg : GrmR D w g cg Fg) (hr : RulR D w x cr Fr) (hbj : ReqJ D g x) (hD : 0 < D) :
    Calls Tryz.prog 32 #[.agg cg.toArray, .agg cr.toArray] w fun en w' => en = .returned (.bool (misB g x)) ∧ Below w.heap.size w w' := by
  have LG := hide ((GrmR.good D).lt hg)
  have LR := hide ((RulR.good D).lt hr)
  obtain ⟨gc0, gc1, rfl⟩ := list2 ((GrmR.good D).len hg)
  obtain ⟨r0, r1, r2, r3, r4, r5, rfl⟩ := list_6 ((RulR.good D).len hr)
  obtain ⟨A2, k2, A4, k4, A5, k5, F4, F5, rfl, rfl, rfl, hs4, hs5, hn4, hn5⟩ := rul_open hr
  have Hg : Hid (∀ W : World, Below w.heap.size w W → GrmR D W g [gc0, gc1] Fg) := hide fun W hW => (GrmR.good D).below hg hW LG.out
  have Hr : Hid (∀ W : World, Below w.heap.size w W → RulR D W x [r0, r1, .slice A2 x.right.length k2, r3, .slice A4 x.eqs.length k4, .slice A5 x.cons.length k5] Fr) := hide fun W hW => (RulR.good D).below hr hW LR.out
  have L4 := hide (hs4.lt (EqnR.good D))
  have L5 := hide (hs5.lt (ConR.good D))
  have Hs4 : Hid (∀ W : World, Below w.heap.size w W → SlR 9 (EqnR D) W x.eqs (.slice A4 x.eqs.length k4) F4) := hide fun W hW => hs4.below (EqnR.good D) hW L4.out
  have Hs5 : Hid (∀ W : World, Below w.heap.size w W → SlR 16 (ConR D) W x.cons (.slice A5 x.cons.length k5) F5) := hide fun W hW => hs5.below (ConR.good D) hW L5.out
  have Hig : Hid ((Tryz.prog.info? 32).map (·.size) = some 2) := hide (by kernel_rfl)
  have Hir : Hid ((Tryz.prog.info? 50).map (·.size) = some 6) := hide (by kernel_rfl)
  have Hio : Hid ((Tryz.prog.info? 81).map (·.size) = some 2) := hide (by kernel_rfl)
  have Hiq : Hid ((Tryz.prog.info? 88).map (·.size) = some 9) := hide (by kernel_rfl)
  have His : Hid ((Tryz.prog.info? 42).map (·.size) = some 2) := hide (by kernel_rfl)
  have Hix : Hid ((Tryz.prog.info? 86).map (·.size) = some 7) := hide (by kernel_rfl)
  obtain ⟨CG, CR, hz0, hw0⟩ := boxes2 w [gc0, gc1] [r0, r1, .slice A2 x.right.length k2, r3, .slice A4 x.eqs.length k4, .slice A5 x.cons.length k5] 32 50
  show Calls _ _ #[.agg #[gc0, gc1], .agg #[r0, r1, .slice A2 x.right.length k2, r3, .slice A4 x.eqs.length k4, .slice A5 x.cons.length k5]] w _
  clear hg hr hs4 hs5
  go_enter Tryz.func32, Tryz.ntmps32
  go_wp2_with fail
  generalize (w.alloc (Obj.cells #[gc0, gc1] 32)).alloc (Obj.cells #[r0, r1, .slice A2 x.right.length k2, r3, .slice A4 x.eqs.length k4, .slice A5 x.cons.length k5] 50) = W0 at CG CR hz0 hw0 ⊢
  have hn0 : w.heap.size + 2 ≤ W0.heap.size := by omega
  have Hw : Hid (∀ W : World, Below (w.heap.size + 2) W0 W → Below w.heap.size w W) := hide fun W h => hw0.trans (h.mono (by omega))
  have HcG : Hid (∀ W : World, Below (w.heap.size + 2) W0 W → CellsAt W w.heap.size 0 [gc0, gc1]) := hide fun W h => CG.below h (by omega)
  have HcR : Hid (∀ W : World, Below (w.heap.size + 2) W0 W → CellsAt W (w.heap.size + 1) 0 [r0, r1, .slice A2 x.right.length k2, r3, .slice A4 x.eqs.length k4, .slice A5 x.cons.length k5]) := hide fun W h => CR.below h (by omega)
  have hB0 : Below (w.heap.size + 2) W0 W0 := Below.refl _ _
  have a0 := cell_rule CG (n := w.heap.size + 2) (by omega) 0 rfl
  have a1 := cell_rule CG (n := w.heap.size + 2) (by omega) 1 rfl
  have b0 := cell_rule CR (n := w.heap.size + 2) (by omega) 0 rfl
  have b1 := cell_rule CR (n := w.heap.size + 2) (by omega) 1 rfl
  have b2 := cell_rule CR (n := w.heap.size + 2) (by omega) 2 rfl
  have b3 := cell_rule CR (n := w.heap.size + 2) (by omega) 3 rfl
  have b4 := cell_rule CR (n := w.heap.size + 2) (by omega) 4 rfl
  have b5 := cell_rule CR (n := w.heap.size + 2) (by omega) 5 rfl
  have hBa0 : ∀ (W : World) (o : Obj), Below (w.heap.size + 2) W0 W → Below (w.heap.size + 2) W0 (W.alloc o) := fun W o h => below_alloc hn0 o h
  have Hz0 := hide hz0
  clear CG CR hz0 hw0
  have Hbj := hide hbj
  clear hbj
  go_wp2_with fail
  refine Calls.mono (s_RequiredOccurrences D g x _ _ Fg Fr _ (Hg.out _ (Hw.out _ hB0)) (Hr.out _ (Hw.out _ hB0)) Hbj.out) ?_
  rintro en W1 ⟨v', G, rfl, h1, h2, h3⟩
  obtain ⟨A, cap, rfl, hlc, hm⟩ := h1.form
  have hB1 : Below (w.heap.size + 2) W0 W1 := below_step hB0 hn0 h3
  have hlen := reqO_len Hbj.out
  have hcap : cap ≤ maxLen := hm
  unfold maxLen at hcap
  have LG1 := hide (h1.lt (OccR.good D))
  have H1 := hide h1
  have Hbr := hide Hbj.out.rul
  have HW1 : Hid (∀ W : World, Below W1.heap.size W1 W → Below (w.heap.size + 2) W0 W) := hide fun W h => below_step hB1 hn0 h
  have hB11 : Below W1.heap.size W1 W1 := Below.refl _ _
  clear h1 h2 h3 hm
  go_wp2_with fail
  go_loopw [6] (fun i wr => ∃ j : Nat, j ≤ (reqO g x).length ∧ i = .int .i64 j ∧ Hid (((reqO g x).take j).any (fun o => !hasQ x.eqs o) = false) ∧ Hid (Below W1.heap.size W1 wr)) (fun i _ => (reqO g x).length - (intOf i).toNat)
  case atStart => exact ⟨0, by omega, rfl, hide rfl, hide hB11⟩
  case round =>
    obtain ⟨j, hj, rfl, Hno, Hb⟩ := hrel
    have hBr := Hb.out
    have hB0r : Below (w.heap.size + 2) W0 wr := HW1.out _ hBr
    by_cases hlt : j < (reqO g x).length
    · have hX : (reqO g x)[j]? = some (reqO g x)[j] := List.getElem?_eq_getElem hlt
      generalize (reqO g x)[j] = y at hX
      obtain ⟨b, off, cs, Fk, hA, _, hbF, hFk, hcl, hcat, hR⟩ := SlR.get (OccR.good D) H1.out hX
      subst hA
      obtain ⟨c0, c1, rfl⟩ := list2 hcl
      have HRk := hide hR
      obtain ⟨_, _, q0, q1, hFe⟩ := hR
      obtain rfl : c0 = .int .i64 y.pos := by simpa using q0
      obtain rfl : c1 = .string y.name := by simpa using q1
      have HX := hide hX
      have hblt := LG1.out b hbF
      have HlF : Hid (∀ k ∈ Fk, k < W1.heap.size) := hide fun k hk => LG1.out k (hFk k hk)
      have HW : Hid (∀ W : World, Below wr.heap.size wr W → Below W1.heap.size W1 W) := hide fun W h => hBr.trans (h.mono hBr.size)
      have HcE : Hid (∀ W : World, Below wr.heap.size wr W → CellsAt W b (off + j * 2) [.int .i64 y.pos, .string y.name]) := hide fun W h => hcat.below (HW.out W h) hblt
      have hj0 : (0 : Int) ≤ (j : Int) := by omega
      have hj1 : (j : Int) < ((reqO g x).length : Int) := by omega
      obtain ⟨q, hq⟩ : ∃ q, q = hasQ x.eqs y := ⟨_, rfl⟩
      have Hq := hide hq
      have Hfq : Hid (∀ W : World, Below wr.heap.size wr W → Calls Tryz.prog 72 #[.agg #[r0, r1, .slice A2 x.right.length k2, r3, .slice A4 x.eqs.length k4, .slice A5 x.cons.length k5], .agg #[.int .i64 y.pos, .string y.name]] W fun en w' => ∃ u_0 u_1 u_2 u_3 u_4 u_5 u_6, en = .returned (.tuple #[.agg #[u_0, u_1, u_2, u_3, u_4, u_5, u_6], .bool q]) ∧ (∀ v ∈ ([u_0, u_1, u_2, u_3, u_4, u_5, u_6] : List Value), v.oneCell' = true) ∧ Below W.heap.size W w') := hide fun W h => hq ▸ s_fq D x y _ _ Fr Fk W (Hr.out W (Hw.out W (HW1.out W (HW.out W h)))) ((OccR.good D).below HRk.out (HW.out W h) HlF.out) Hbr.out hD
      clear hX hFk hbF hcl hcat q0 q1 hFe hq
      go_wp2_with fail
      refine region_invA (fun a0 l a' w' => ∃ x0 x1 x2 x3 x4 x5 x6 x7 x8 x9 x11 : Value, a' = (((((((((((a0.put (some 19) x0).put (some 20) x1).put (some 21) x2).put (some 22) x3).put (some 23) x4).put (some 24) x5).put (some 18) x6).put (some 25) x7).put (some 26) x8).put (some 7) x9).put (some 8) x11) ∧ (l 11 = true → ∀ i, i < 11 → l i = true) ∧ (l 11 = true → x11 = .bool q ∧ Below wr.heap.size wr w') ∧ (l 11 = false → Below wr.heap.size wr w' ∧ (l 0 = true → x0 = .agg #[r0, r1, .slice A2 x.right.length k2, r3, .slice A4 x.eqs.length k4, .slice A5 x.cons.length k5]) ∧ (l 1 = true → x1 = .slice (some ⟨b, off, none⟩) (reqO g x).length cap) ∧ (l 2 = true → x2 = .int .i64 (j : Int)) ∧ (l 3 = true → x3 = .pointer (some ⟨b, off + j * 2, none⟩)) ∧ (l 4 = true → x4 = .agg #[.int .i64 y.pos, .string y.name]) ∧ (l 5 = true → (∃ u_0 u_1 u_2 u_3 u_4 u_5 u_6, x5 = .tuple #[.agg #[u_0, u_1, u_2, u_3, u_4, u_5, u_6], .bool q] ∧ (∀ v ∈ ([u_0, u_1, u_2, u_3, u_4, u_5, u_6] : List Value), v.oneCell' = true))) ∧ (l 6 = true → (∃ u_0 u_1 u_2 u_3 u_4 u_5 u_6, x6 = .tuple #[.agg #[u_0, u_1, u_2, u_3, u_4, u_5, u_6], .bool q] ∧ (∀ v ∈ ([u_0, u_1, u_2, u_3, u_4, u_5, u_6] : List Value), v.oneCell' = true))) ∧ (l 7 = true → (∃ u_0 u_1 u_2 u_3 u_4 u_5 u_6, x7 = .agg #[u_0, u_1, u_2, u_3, u_4, u_5, u_6] ∧ (∀ v ∈ ([u_0, u_1, u_2, u_3, u_4, u_5, u_6] : List Value), v.oneCell' = true))) ∧ (l 8 = true → (x8 = .bool q)) ∧ (l 9 = true → ((∃ gb, x9 = .pointer (some ⟨gb, 0, none⟩) ∧ wr.heap.size ≤ gb ∧ (l 10 = false → w'.heap[gb]? = some (.cells #[.int .i64 0, .int .i64 0, .int .i64 0, .int .i64 0, .string ⟨#[]⟩, .string ⟨#[]⟩, .slice none 0 0] 86 (0, 0)))))))) rfl (by kernel_rfl) ?h0 ?hstep ?hend
      case h0 => exact ⟨u19, u20, u21, u22, u23, u24, u18, u25, u26, u7, u8, by kernel_rfl, fun h => absurd h (by decide), fun h => absurd h (by decide), fun _ => ⟨(Below.refl _ _).drew, fun h => absurd h (by decide), fun h => absurd h (by decide), fun h => absurd h (by decide), fun h => absurd h (by decide), fun h => absurd h (by decide), fun h => absurd h (by decide), fun h => absurd h (by decide), fun h => absurd h (by decide), fun h => absurd h (by decide), fun h => absurd h (by decide)⟩⟩
      case hstep =>
        refine ⟨?s0, ?s1, ?s2, ?s3, ?s4, ?s5, ?s6, ?s7, ?s8, ?s9, ?s10, ?s11, trivial⟩
        case s0 =>
          intro l a' w' hk hpre hJ K hK
          obtain ⟨x0, x1, x2, x3, x4, x5, x6, x7, x8, x9, x11, ha, hall, hfin, hfs⟩ := hJ
          have h12 : l 11 = false := upd_last hall hk (by decide)
          clear hall hfin
          obtain ⟨hB, f0, f1, f2, f3, f4, f5, f6, f7, f8, f9⟩ := hfs h12
          clear hfs
          refine step_load rfl 50 (.tmp 3) rfl Tryz.underlying50 rfl (cs := [r0, r1, .slice A2 x.right.length k2, r3, .slice A4 x.eqs.length k4, .slice A5 x.cons.length k5]) (b := w.heap.size + 1) (off := 0) Hir.out (by rw [ha]; kernel_rfl) rfl (HcR.out _ (HW1.out _ (HW.out _ hB))) ?_
          subst ha
          exact hK.out _ _ ⟨.agg #[r0, r1, .slice A2 x.right.length k2, r3, .slice A4 x.eqs.length k4, .slice A5 x.cons.length k5], x1, x2, x3, x4, x5, x6, x7, x8, x9, x11, by kernel_rfl, fun h => absurd (updL_ne h (by decide)) (by rw [h12]; decide), fun h => absurd (updL_ne h (by decide)) (by rw [h12]; decide), fun _ => ⟨hB, fun _ => rfl, fun h => f1 (updL_ne h (by decide)), fun h => f2 (updL_ne h (by decide)), fun h => f3 (updL_ne h (by decide)), fun h => f4 (updL_ne h (by decide)), fun h => f5 (updL_ne h (by decide)), fun h => f6 (updL_ne h (by decide)), fun h => f7 (updL_ne h (by decide)), fun h => f8 (updL_ne h (by decide)), fun h => Exists.imp (fun _ h => ⟨h.1, h.2.1, fun q => (id) (h.2.2 (updL_f q))⟩) (f9 (updL_ne h (by decide)))⟩⟩
        case s1 =>
          intro l a' w' hk hpre hJ K hK
          obtain ⟨x0, x1, x2, x3, x4, x5, x6, x7, x8, x9, x11, ha, hall, hfin, hfs⟩ := hJ
          have h12 : l 11 = false := upd_last hall hk (by decide)
          clear hall hfin
          obtain ⟨hB, f0, f1, f2, f3, f4, f5, f6, f7, f8, f9⟩ := hfs h12
          clear hfs
          subst ha
          go_simp
          exact hK.out _ _ ⟨x0, .slice (some ⟨b, off, none⟩) (reqO g x).length cap, x2, x3, x4, x5, x6, x7, x8, x9, x11, by kernel_rfl, fun h => absurd (updL_ne h (by decide)) (by rw [h12]; decide), fun h => absurd (updL_ne h (by decide)) (by rw [h12]; decide), fun _ => ⟨hB, fun h => f0 (updL_ne h (by decide)), fun _ => rfl, fun h => f2 (updL_ne h (by decide)), fun h => f3 (updL_ne h (by decide)), fun h => f4 (updL_ne h (by decide)), fun h => f5 (updL_ne h (by decide)), fun h => f6 (updL_ne h (by decide)), fun h => f7 (updL_ne h (by decide)), fun h => f8 (updL_ne h (by decide)), fun h => Exists.imp (fun _ h => ⟨h.1, h.2.1, fun q => (id) (h.2.2 (updL_f q))⟩) (f9 (updL_ne h (by decide)))⟩⟩
        case s2 =>
          intro l a' w' hk hpre hJ K hK
          obtain ⟨x0, x1, x2, x3, x4, x5, x6, x7, x8, x9, x11, ha, hall, hfin, hfs⟩ := hJ
          have h12 : l 11 = false := upd_last hall hk (by decide)
          clear hall hfin
          obtain ⟨hB, f0, f1, f2, f3, f4, f5, f6, f7, f8, f9⟩ := hfs h12
          clear hfs
          subst ha
          go_simp
          exact hK.out _ _ ⟨x0, x1, .int .i64 (j : Int), x3, x4, x5, x6, x7, x8, x9, x11, by kernel_rfl, fun h => absurd (updL_ne h (by decide)) (by rw [h12]; decide), fun h => absurd (updL_ne h (by decide)) (by rw [h12]; decide), fun _ => ⟨hB, fun h => f0 (updL_ne h (by decide)), fun h => f1 (updL_ne h (by decide)), fun _ => rfl, fun h => f3 (updL_ne h (by decide)), fun h => f4 (updL_ne h (by decide)), fun h => f5 (updL_ne h (by decide)), fun h => f6 (updL_ne h (by decide)), fun h => f7 (updL_ne h (by decide)), fun h => f8 (updL_ne h (by decide)), fun h => Exists.imp (fun _ h => ⟨h.1, h.2.1, fun q => (id) (h.2.2 (updL_f q))⟩) (f9 (updL_ne h (by decide)))⟩⟩
        case s3 =>
          intro l a' w' hk hpre hJ K hK
          obtain ⟨x0, x1, x2, x3, x4, x5, x6, x7, x8, x9, x11, ha, hall, hfin, hfs⟩ := hJ
          have h12 : l 11 = false := upd_last hall hk (by decide)
          clear hall hfin
          obtain ⟨hB, f0, f1, f2, f3, f4, f5, f6, f7, f8, f9⟩ := hfs h12
          clear hfs
          have p1 : l 1 = true := hpre 1 (by kernel_rfl)
          have p2 : l 2 = true := hpre 2 (by kernel_rfl)
          obtain rfl := f1 p1
          obtain rfl := f2 p2
          subst ha
          go_simp
          exact hK.out _ _ ⟨x0, .slice (some ⟨b, off, none⟩) (reqO g x).length cap, .int .i64 (j : Int), .pointer (some ⟨b, off + j * 2, none⟩), x4, x5, x6, x7, x8, x9, x11, by kernel_rfl, fun h => absurd (updL_ne h (by decide)) (by rw [h12]; decide), fun h => absurd (updL_ne h (by decide)) (by rw [h12]; decide), fun _ => ⟨hB, fun h => f0 (updL_ne h (by decide)), fun h => f1 (updL_ne h (by decide)), fun h => f2 (updL_ne h (by decide)), fun _ => rfl, fun h => f4 (updL_ne h (by decide)), fun h => f5 (updL_ne h (by decide)), fun h => f6 (updL_ne h (by decide)), fun h => f7 (updL_ne h (by decide)), fun h => f8 (updL_ne h (by decide)), fun h => Exists.imp (fun _ h => ⟨h.1, h.2.1, fun q => (id) (h.2.2 (updL_f q))⟩) (f9 (updL_ne h (by decide)))⟩⟩
        case s4 =>
          intro l a' w' hk hpre hJ K hK
          obtain ⟨x0, x1, x2, x3, x4, x5, x6, x7, x8, x9, x11, ha, hall, hfin, hfs⟩ := hJ
          have h12 : l 11 = false := upd_last hall hk (by decide)
          clear hall hfin
          obtain ⟨hB, f0, f1, f2, f3, f4, f5, f6, f7, f8, f9⟩ := hfs h12
          clear hfs
          have p3 : l 3 = true := hpre 3 (by kernel_rfl)
          obtain rfl := f3 p3
          refine step_load rfl 81 (.tmp 22) rfl Tryz.underlying81 rfl (cs := [.int .i64 y.pos, .string y.name]) (b := b) (off := off + j * 2) Hio.out (by rw [ha]; kernel_rfl) rfl (HcE.out _ hB) ?_
          subst ha
          exact hK.out _ _ ⟨x0, x1, x2, .pointer (some ⟨b, off + j * 2, none⟩), .agg #[.int .i64 y.pos, .string y.name], x5, x6, x7, x8, x9, x11, by kernel_rfl, fun h => absurd (updL_ne h (by decide)) (by rw [h12]; decide), fun h => absurd (updL_ne h (by decide)) (by rw [h12]; decide), fun _ => ⟨hB, fun h => f0 (updL_ne h (by decide)), fun h => f1 (updL_ne h (by decide)), fun h => f2 (updL_ne h (by decide)), fun h => f3 (updL_ne h (by decide)), fun _ => rfl, fun h => f5 (updL_ne h (by decide)), fun h => f6 (updL_ne h (by decide)), fun h => f7 (updL_ne h (by decide)), fun h => f8 (updL_ne h (by decide)), fun h => Exists.imp (fun _ h => ⟨h.1, h.2.1, fun q => (id) (h.2.2 (updL_f q))⟩) (f9 (updL_ne h (by decide)))⟩⟩
        case s5 =>
          intro l a' w' hk hpre hJ K hK
          obtain ⟨x0, x1, x2, x3, x4, x5, x6, x7, x8, x9, x11, ha, hall, hfin, hfs⟩ := hJ
          have h12 : l 11 = false := upd_last hall hk (by decide)
          clear hall hfin
          obtain ⟨hB, f0, f1, f2, f3, f4, f5, f6, f7, f8, f9⟩ := hfs h12
          clear hfs
          have p0 : l 0 = true := hpre 0 (by kernel_rfl)
          have p4 : l 4 = true := hpre 4 (by kernel_rfl)
          obtain rfl := f0 p0
          obtain rfl := f4 p4
          subst ha
          go_simp
          go_at_call 72
          refine Calls.mono (Hfq.out w' hB) ?_
          rintro en w2 ⟨u_0, u_1, u_2, u_3, u_4, u_5, u_6, rfl, h1v, hb2⟩
          exact hK.out _ _ ⟨.agg #[r0, r1, .slice A2 x.right.length k2, r3, .slice A4 x.eqs.length k4, .slice A5 x.cons.length k5], x1, x2, x3, .agg #[.int .i64 y.pos, .string y.name], .tuple #[.agg #[u_0, u_1, u_2, u_3, u_4, u_5, u_6], .bool q], x6, x7, x8, x9, x11, by kernel_rfl, fun h => absurd (updL_ne h (by decide)) (by rw [h12]; decide), fun h => absurd (updL_ne h (by decide)) (by rw [h12]; decide), fun _ => ⟨hB.trans (hb2.mono hB.size), fun h => f0 (updL_ne h (by decide)), fun h => f1 (updL_ne h (by decide)), fun h => f2 (updL_ne h (by decide)), fun h => f3 (updL_ne h (by decide)), fun h => f4 (updL_ne h (by decide)), fun _ => ⟨u_0, u_1, u_2, u_3, u_4, u_5, u_6, rfl, h1v⟩, fun h => f6 (updL_ne h (by decide)), fun h => f7 (updL_ne h (by decide)), fun h => f8 (updL_ne h (by decide)), fun h => Exists.imp (fun _ h => ⟨h.1, h.2.1, fun q => (fun z => blk_below z hb2 (blk_lt z)) (h.2.2 (updL_f q))⟩) (f9 (updL_ne h (by decide)))⟩⟩
        case s6 =>
          intro l a' w' hk hpre hJ K hK
          obtain ⟨x0, x1, x2, x3, x4, x5, x6, x7, x8, x9, x11, ha, hall, hfin, hfs⟩ := hJ
          have h12 : l 11 = false := upd_last hall hk (by decide)
          clear hall hfin
          obtain ⟨hB, f0, f1, f2, f3, f4, f5, f6, f7, f8, f9⟩ := hfs h12
          clear hfs
          have p5 : l 5 = true := hpre 5 (by kernel_rfl)
          obtain ⟨u_0, u_1, u_2, u_3, u_4, u_5, u_6, rfl, h1v⟩ := f5 p5
          subst ha
          go_simp
          exact hK.out _ _ ⟨x0, x1, x2, x3, x4, .tuple #[.agg #[u_0, u_1, u_2, u_3, u_4, u_5, u_6], .bool q], .tuple #[.agg #[u_0, u_1, u_2, u_3, u_4, u_5, u_6], .bool q], x7, x8, x9, x11, by kernel_rfl, fun h => absurd (updL_ne h (by decide)) (by rw [h12]; decide), fun h => absurd (updL_ne h (by decide)) (by rw [h12]; decide), fun _ => ⟨hB, fun h => f0 (updL_ne h (by decide)), fun h => f1 (updL_ne h (by decide)), fun h => f2 (updL_ne h (by decide)), fun h => f3 (updL_ne h (by decide)), fun h => f4 (updL_ne h (by decide)), fun h => f5 (updL_ne h (by decide)), fun _ => ⟨u_0, u_1, u_2, u_3, u_4, u_5, u_6, rfl, h1v⟩, fun h => f7 (updL_ne h (by decide)), fun h => f8 (updL_ne h (by decide)), fun h => Exists.imp (fun _ h => ⟨h.1, h.2.1, fun q => (id) (h.2.2 (updL_f q))⟩) (f9 (updL_ne h (by decide)))⟩⟩
        case s7 =>
          intro l a' w' hk hpre hJ K hK
          obtain ⟨x0, x1, x2, x3, x4, x5, x6, x7, x8, x9, x11, ha, hall, hfin, hfs⟩ := hJ
          have h12 : l 11 = false := upd_last hall hk (by decide)
          clear hall hfin
          obtain ⟨hB, f0, f1, f2, f3, f4, f5, f6, f7, f8, f9⟩ := hfs h12
          clear hfs
          have p6 : l 6 = true := hpre 6 (by kernel_rfl)
          obtain ⟨u_0, u_1, u_2, u_3, u_4, u_5, u_6, rfl, h1v⟩ := f6 p6
          subst ha
          go_simp
          exact hK.out _ _ ⟨x0, x1, x2, x3, x4, x5, .tuple #[.agg #[u_0, u_1, u_2, u_3, u_4, u_5, u_6], .bool q], .agg #[u_0, u_1, u_2, u_3, u_4, u_5, u_6], x8, x9, x11, by kernel_rfl, fun h => absurd (updL_ne h (by decide)) (by rw [h12]; decide), fun h => absurd (updL_ne h (by decide)) (by rw [h12]; decide), fun _ => ⟨hB, fun h => f0 (updL_ne h (by decide)), fun h => f1 (updL_ne h (by decide)), fun h => f2 (updL_ne h (by decide)), fun h => f3 (updL_ne h (by decide)), fun h => f4 (updL_ne h (by decide)), fun h => f5 (updL_ne h (by decide)), fun h => f6 (updL_ne h (by decide)), fun _ => ⟨u_0, u_1, u_2, u_3, u_4, u_5, u_6, rfl, h1v⟩, fun h => f8 (updL_ne h (by decide)), fun h => Exists.imp (fun _ h => ⟨h.1, h.2.1, fun q => (id) (h.2.2 (updL_f q))⟩) (f9 (updL_ne h (by decide)))⟩⟩
        case s8 =>
          intro l a' w' hk hpre hJ K hK
          obtain ⟨x0, x1, x2, x3, x4, x5, x6, x7, x8, x9, x11, ha, hall, hfin, hfs⟩ := hJ
          have h12 : l 11 = false := upd_last hall hk (by decide)
          clear hall hfin
          obtain ⟨hB, f0, f1, f2, f3, f4, f5, f6, f7, f8, f9⟩ := hfs h12
          clear hfs
          have p6 : l 6 = true := hpre 6 (by kernel_rfl)
          obtain ⟨u_0, u_1, u_2, u_3, u_4, u_5, u_6, rfl, h1v⟩ := f6 p6
          subst ha
          go_simp
          exact hK.out _ _ ⟨x0, x1, x2, x3, x4, x5, .tuple #[.agg #[u_0, u_1, u_2, u_3, u_4, u_5, u_6], .bool q], x7, .bool q, x9, x11, by kernel_rfl, fun h => absurd (updL_ne h (by decide)) (by rw [h12]; decide), fun h => absurd (updL_ne h (by decide)) (by rw [h12]; decide), fun _ => ⟨hB, fun h => f0 (updL_ne h (by decide)), fun h => f1 (updL_ne h (by decide)), fun h => f2 (updL_ne h (by decide)), fun h => f3 (updL_ne h (by decide)), fun h => f4 (updL_ne h (by decide)), fun h => f5 (updL_ne h (by decide)), fun h => f6 (updL_ne h (by decide)), fun h => f7 (updL_ne h (by decide)), fun _ => rfl, fun h => Exists.imp (fun _ h => ⟨h.1, h.2.1, fun q => (id) (h.2.2 (updL_f q))⟩) (f9 (updL_ne h (by decide)))⟩⟩
        case s9 =>
          intro l a' w' hk hpre hJ K hK
          obtain ⟨x0, x1, x2, x3, x4, x5, x6, x7, x8, x9, x11, ha, hall, hfin, hfs⟩ := hJ
          have h12 : l 11 = false := upd_last hall hk (by decide)
          clear hall hfin
          obtain ⟨hB, f0, f1, f2, f3, f4, f5, f6, f7, f8, f9⟩ := hfs h12
          clear hfs
          subst ha
          go_simp
          exact hK.out _ _ ⟨x0, x1, x2, x3, x4, x5, x6, x7, x8, .pointer (some ⟨w'.heap.size, 0, none⟩), x11, by kernel_rfl, fun h => absurd (updL_ne h (by decide)) (by rw [h12]; decide), fun h => absurd (updL_ne h (by decide)) (by rw [h12]; decide), fun _ => ⟨hB.alloc hB.size _, fun h => f0 (updL_ne h (by decide)), fun h => f1 (updL_ne h (by decide)), fun h => f2 (updL_ne h (by decide)), fun h => f3 (updL_ne h (by decide)), fun h => f4 (updL_ne h (by decide)), fun h => f5 (updL_ne h (by decide)), fun h => f6 (updL_ne h (by decide)), fun h => f7 (updL_ne h (by decide)), fun h => f8 (updL_ne h (by decide)), fun _ => ⟨_, rfl, hB.size, fun _ => heap_alloc_new w' _⟩⟩⟩
        case s10 =>
          intro l a' w' hk hpre hJ K hK
          obtain ⟨x0, x1, x2, x3, x4, x5, x6, x7, x8, x9, x11, ha, hall, hfin, hfs⟩ := hJ
          have h12 : l 11 = false := upd_last hall hk (by decide)
          clear hall hfin
          obtain ⟨hB, f0, f1, f2, f3, f4, f5, f6, f7, f8, f9⟩ := hfs h12
          clear hfs
          have p7 : l 7 = true := hpre 7 (by kernel_rfl)
          have p9 : l 9 = true := hpre 9 (by kernel_rfl)
          obtain ⟨u_0, u_1, u_2, u_3, u_4, u_5, u_6, rfl, h1v⟩ := f7 p7
          obtain ⟨gb, rfl, hgb, hz⟩ := f9 p9
          have hz := hz hk
          refine step_store rfl 86 (.tmp 7) (.tmp 25) rfl (cs := [u_0, u_1, u_2, u_3, u_4, u_5, u_6]) (v := .agg #[u_0, u_1, u_2, u_3, u_4, u_5, u_6]) rfl Hix.out (by rw [ha]; kernel_rfl) (g := gb) (off := 0) (by rw [ha]; kernel_rfl) rfl h1v hz (by decide) ?_
          intro WF hP
          subst ha
          exact hK.out _ _ ⟨x0, x1, x2, x3, x4, x5, x6, .agg #[u_0, u_1, u_2, u_3, u_4, u_5, u_6], x8, .pointer (some ⟨gb, 0, none⟩), x11, by kernel_rfl, fun h => absurd (updL_ne h (by decide)) (by rw [h12]; decide), fun h => absurd (updL_ne h (by decide)) (by rw [h12]; decide), fun _ => ⟨hB.trans (hP.below hgb), fun h => f0 (updL_ne h (by decide)), fun h => f1 (updL_ne h (by decide)), fun h => f2 (updL_ne h (by decide)), fun h => f3 (updL_ne h (by decide)), fun h => f4 (updL_ne h (by decide)), fun h => f5 (updL_ne h (by decide)), fun h => f6 (updL_ne h (by decide)), fun h => f7 (updL_ne h (by decide)), fun h => f8 (updL_ne h (by decide)), fun h => ⟨gb, rfl, hgb, fun q => absurd q (by simp [updL])⟩⟩⟩
        case s11 =>
          intro l a' w' hk hpre hJ K hK
          obtain ⟨x0, x1, x2, x3, x4, x5, x6, x7, x8, x9, x11, ha, hall, hfin, hfs⟩ := hJ
          have h12 : l 11 = false := hk
          clear hall hfin
          obtain ⟨hB, f0, f1, f2, f3, f4, f5, f6, f7, f8, f9⟩ := hfs h12
          clear hfs
          have p8 : l 8 = true := hpre 8 (by kernel_rfl)
          have p9 : l 9 = true := hpre 9 (by kernel_rfl)
          have p10 : l 10 = true := hpre 10 (by kernel_rfl)
          obtain rfl := f8 p8
          subst ha
          go_simp
          exact hK.out _ _ ⟨x0, x1, x2, x3, x4, x5, x6, x7, .bool q, x9, .bool q, by kernel_rfl, fun _ => deep_all hpre (by kernel_rfl) _, fun _ => ⟨rfl, hB⟩, fun h => absurd h (by simp [updL])⟩
      case hend =>
        intro l a' w' hl hJ
        obtain ⟨x0, x1, x2, x3, x4, x5, x6, x7, x8, x9, x11, ha, _, hfin, _⟩ := hJ
        simp [go_sem] at ha
        subst ha
        replace hfin := hfin (hl 11 (by decide))
        clear hl
        obtain ⟨rfl, hB⟩ := hfin
        have HB2 := hide (HW.out _ hB)
        clear hB
        cases q
        · have Hyes : Hid (misB g x = true) := hide (any_at HX.out (show (!hasQ x.eqs y) = true by rw [← Hq.out]; rfl))
          go_wp2_with fail
          go_ret
          exact ⟨ret_bool (by rw [Hyes.out]), Hw.out _ (HW1.out _ HB2.out)⟩
        · have Hno2 := hide (any_next HX.out Hno.out (show (!hasQ x.eqs y) = false by rw [← Hq.out]; rfl))
          go_wp2_with fail
          go_roundw
          case rel => exact ⟨j + 1, by omega, by go_num, Hno2, HB2⟩
          case measure => simp [intOf]; omega
    · have hjl : j = (reqO g x).length := by omega
      have Hall : Hid (misB g x = false) := hide (by have := Hno.out; rw [hjl, List.take_length] at this; exact this)
      have hj1 : ¬ (j : Int) < ((reqO g x).length : Int) := by omega
      go_wp2_with fail
      go_ret
      exact ⟨ret_bool (by rw [Hall.out]), Hw.out _ hB0r⟩
end Go.Proofs.YthlhhnnlbpecnaaGreat
