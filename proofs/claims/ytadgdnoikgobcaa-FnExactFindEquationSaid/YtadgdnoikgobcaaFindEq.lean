/- The equation of an occurrence: both sides. Conditions: the rule has at most the size 2^20. -/
import Derived.Test.YtadgdnoikgobcaaCopyE
import Derived.Test.YtadgdnoikgobcaaRulesOf
import Derived.Deep.QuietTactic
import Derived.BigQuiet
namespace Go.Proofs.Ytadgdnoikgobcaa
set_option maxRecDepth 100000
open Go.RowKit Go.WideShapes
set_option linter.unusedVariables false

theorem findQ_hit {l : List Eqn} {o : Occ} {j : Nat} {x : Eqn} (hno : ∀ (k : Nat) (y : Eqn), k < j → l[k]? = some y → eqOcc y.at_ o = false) (hx : l[j]? = some x) (h : eqOcc x.at_ o = true) : findQ l o = some x.expr := by
  unfold findQ
  rw [find_hit hno hx h]
  rfl
theorem findQ_no {l : List Eqn} {o : Occ} (hno : ∀ (k : Nat) (y : Eqn), l[k]? = some y → eqOcc y.at_ o = false) : findQ l o = none := by
  unfold findQ
  rw [find_no hno]
  rfl
set_option maxRecDepth 100000 in
set_option maxHeartbeats 4000000 in
theorem i_FindEquation (D : Nat) (x : Rul) (y : Occ) (cs cs' : List Value) (F F' : List Nat) (w : World) (h : RulR D w x cs F) (h' : OccR D w y cs' F') (hbk : bulkRul D x ≤ 1048576) (hD : 0 < D) :
    Calls Try.prog 13 #[.agg cs.toArray, .agg cs'.toArray] w fun en w' => ∃ us F', en = .returned (.tuple #[.agg (List.toArray us), .bool (findQ x.eqs y).isSome]) ∧ ExR D w' ((findQ x.eqs y).getD Ex.zero) us F' ∧ Fresh w.heap.size w' F' ∧ Below w.heap.size w w' := by
  obtain ⟨p0, p1, p2, p3, p4, p5, rfl⟩ := list_6 ((RulR.good D).len h)
  obtain ⟨v2, F2, v4, F4, v5, F5, _, hrk, h0, h1, ⟨h2, g2⟩, h3, ⟨h4, g4⟩, ⟨h5, g5⟩, rfl⟩ := h
  obtain rfl := Option.some.inj h0
  obtain rfl := Option.some.inj h1
  obtain rfl := Option.some.inj h2
  obtain rfl := Option.some.inj h3
  obtain rfl := Option.some.inj h4
  obtain rfl := Option.some.inj h5
  obtain ⟨A2, k2, rfl, hc2, hm2⟩ := g2.form
  obtain ⟨A4, k4, rfl, hc4, hm4⟩ := g4.form
  obtain ⟨A5, k5, rfl, hc5, hm5⟩ := g5.form
  unfold maxLen at hm2 hm4 hm5
  obtain ⟨q0, q1, rfl⟩ := list2 ((OccR.good D).len h')
  obtain ⟨_, _, r0, r1, rfl⟩ := h'
  obtain rfl := Option.some.inj r0
  obtain rfl := Option.some.inj r1
  have L := hide (g4.lt (EqnR.good D))
  have Hs := hide g4
  have HbE := hide (bulk_eqs hbk)
  have hll : x.eqs.length ≤ 9223372036854775807 := by omega
  have hi : (Try.prog.info? 79).map (·.size) = some 9 := by kernel_rfl
  have hix : (Try.prog.info? 33).map (·.size) = some 7 := by kernel_rfl
  have Hi := hide hi
  have Hix := hide hix
  obtain ⟨C0, CO, hR0, hz0, hw0⟩ := boxR2 w [.string x.name, .string x.left, .slice A2 x.right.length k2, .bool x.lit, .slice A4 x.eqs.length k4, .slice A5 x.cons.length k5] [.int .i64 y.pos, .string y.name] [.int .i64 0, .int .i64 0, .int .i64 0, .int .i64 0, .string ⟨#[]⟩, .string ⟨#[]⟩, .slice none 0 0] 39 41 33
  show Calls _ _ #[.agg #[.string x.name, .string x.left, .slice A2 x.right.length k2, .bool x.lit, .slice A4 x.eqs.length k4, .slice A5 x.cons.length k5], .agg #[.int .i64 y.pos, .string y.name]] w _
  clear g2 g4 g5 h0 h1 h2 h3 h4 h5 hc2 hc4 hc5 hm2 hm4 hm5 hi hix hbk r0 r1
  go_enter Try.func13, Try.ntmps13
  go_wp2_with fail
  generalize ((w.alloc (Obj.cells #[.string x.name, .string x.left, .slice A2 x.right.length k2, .bool x.lit, .slice A4 x.eqs.length k4, .slice A5 x.cons.length k5] 39)).alloc (Obj.cells #[.int .i64 y.pos, .string y.name] 41)).alloc (Obj.cells #[.int .i64 0, .int .i64 0, .int .i64 0, .int .i64 0, .string ⟨#[]⟩, .string ⟨#[]⟩, .slice none 0 0] 33) = W0 at C0 CO hR0 hz0 hw0 ⊢
  have hn0 : w.heap.size + 3 ≤ W0.heap.size := by omega
  have Hw : Hid (∀ W : World, Below (w.heap.size + 3) W0 W → Below w.heap.size w W) := hide fun W h => hw0.trans (h.mono (by omega))
  have hB0 : Below (w.heap.size + 3) W0 W0 := Below.refl _ _
  have e4 := cell_rule C0 (n := w.heap.size + 3) (by omega) 4 rfl
  have f0 := cell_rule CO (n := w.heap.size + 3) (by omega) 0 rfl
  have f1 := cell_rule CO (n := w.heap.size + 3) (by omega) 1 rfl
  have HR0 : Hid (∀ W : World, Below (w.heap.size + 3) W0 W → W.heap[w.heap.size + 2]? = some (.cells #[.int .i64 0, .int .i64 0, .int .i64 0, .int .i64 0, .string ⟨#[]⟩, .string ⟨#[]⟩, .slice none 0 0] 33 (0, 0))) := hide fun W h => blk_below hR0 h (by omega)
  clear C0 CO hz0 hw0 hR0
  go_wp2_with fail
  go_loopw [11] (fun i wr => ∃ j : Nat, j ≤ x.eqs.length ∧ i = .int .i64 j ∧ Hid (∀ (k : Nat) (q : Eqn), k < j → x.eqs[k]? = some q → eqOcc q.at_ y = false) ∧ Hid (Below (w.heap.size + 3) W0 wr)) (fun i _ => x.eqs.length - (intOf i).toNat)
  case atStart => exact ⟨0, by omega, rfl, hide (fun k q hk => absurd hk (by omega)), hide hB0⟩
  case round =>
    obtain ⟨j, hj, rfl, Hno, Hb⟩ := hrel
    have hBr := Hb.out
    by_cases hlt : j < x.eqs.length
    · have hX : x.eqs[j]? = some x.eqs[j] := List.getElem?_eq_getElem hlt
      generalize x.eqs[j] = X at hX
      obtain ⟨b, off, cs, Fk, hA, _, hbF, hFk, hcl, hcat, hR⟩ := SlR.get (EqnR.good D) Hs.out hX
      subst hA
      have H1 := hide (EqnR.one hR)
      obtain ⟨c0, c1, c2, c3, c4, c5, c6, c7, c8, rfl⟩ := list_9 hcl
      obtain ⟨f0', f1', _, hO, hE, hFF⟩ := hR
      obtain ⟨_, hOk, r0, r1, _⟩ := hO
      obtain rfl : c0 = .int .i64 X.at_.pos := by simpa using r0
      obtain rfl : c1 = .string X.at_.name := by simpa using r1
      have HX := hide hX
      have Hbx := hide (HbE.out X (List.mem_of_getElem? hX))
      have hE' : ExR D w X.expr [c2, c3, c4, c5, c6, c7, c8] f1' := hE
      have HlF : Hid (∀ k ∈ f1', k < w.heap.size) := hide fun k hk => L.out k (hFk k (by rw [hFF]; simp [hk]))
      have HE : Hid (∀ W : World, Below w.heap.size w W → ExR D W X.expr [c2, c3, c4, c5, c6, c7, c8] f1') := hide fun W h => (ExR.good D).below hE' h HlF.out
      have hlb : b < w.heap.size := L.out b hbF
      have hcw := hcat.below (Hw.out wr hBr) hlb
      have Hc := hide hcw
      have Hn : Hid ([.int .i64 X.at_.pos, .string X.at_.name, c2, c3, c4, c5, c6, c7, c8].length = 9) := hide rfl
      have Hnx : Hid ([c2, c3, c4, c5, c6, c7, c8].length = 7) := hide rfl
      have EQ : ∀ W : World, (binOp .eql 41 (.agg #[.int .i64 X.at_.pos, .string X.at_.name]) (.agg #[.int .i64 y.pos, .string y.name])).run Try.prog W = .ok (.bool (eqOcc X.at_ y)) W := fun W => run_eqlOcc _ _ _ _ W
      have EQ2 : ∀ W : World, (Op.equalIn 10000 41 (.agg #[.int .i64 X.at_.pos, .string X.at_.name]) (.agg #[.int .i64 y.pos, .string y.name])).run Try.prog W = .ok (eqOcc X.at_ y) W := fun W => run_eqOcc _ _ _ _ W
      have hj0 : (0 : Int) ≤ (j : Int) := by omega
      have hj1 : (j : Int) < (x.eqs.length : Int) := by omega
      have hbase : w.heap.size + 3 ≤ wr.heap.size := Nat.le_trans hn0 hBr.size
      clear hX hFk hbF hcl hE hE' hFF r0 r1 hOk
      clear hcat hcw
      go_wp2_with (first
        | refine wpList_load_at 79 (.tmp 13) rfl Try.underlying79 rfl Hi.out rfl rfl Hn.out Hc.out ?_
        | (refine wpList_store_new 79 (.tmp 7) (.tmp 14) rfl Hi.out rfl rfl rfl rfl Hn.out H1.out rfl ?_; refine hold ?_))
      have C := CellsAt.new wr [.int .i64 X.at_.pos, .string X.at_.name, c2, c3, c4, c5, c6, c7, c8] 79
      have hz := World.size_alloc wr (Obj.cells #[.int .i64 X.at_.pos, .string X.at_.name, c2, c3, c4, c5, c6, c7, c8] 79)
      have hwv : Below (w.heap.size + 3) W0 (wr.alloc (Obj.cells #[.int .i64 X.at_.pos, .string X.at_.name, c2, c3, c4, c5, c6, c7, c8] 79)) := hBr.alloc hbase _
      generalize wr.alloc (Obj.cells #[.int .i64 X.at_.pos, .string X.at_.name, c2, c3, c4, c5, c6, c7, c8] 79) = V1 at C hz hwv ⊢
      have ex0 := cell_rule C (n := wr.heap.size + 1) (by omega) 0 rfl
      have ex1 := cell_rule C (n := wr.heap.size + 1) (by omega) 1 rfl
      have hVV : Below (wr.heap.size + 1) V1 V1 := Below.refl _ _
      have HC2 : Hid (∀ W : World, Below (wr.heap.size + 1) V1 W → CellsAt W wr.heap.size 2 [c2, c3, c4, c5, c6, c7, c8]) := hide fun W h i v hv => by have := (C.below h (by omega)) (2 + i) v (by simpa [Nat.add_comm] using hv); rwa [Nat.zero_add] at this
      clear C hz
      refine Hold.go ?_
      cases hq : eqOcc X.at_ y
      · have Hq := hide hq
        rw [hq] at EQ EQ2
        go_wp2_with fail
        go_roundw
        case rel =>
          refine ⟨j + 1, by omega, by go_num, hide fun k z hk hz => ?_, hide hwv⟩
          by_cases hkj : k < j
          · exact Hno.out k z hkj hz
          · obtain rfl : k = j := by omega
            have := HX.out
            rw [hz] at this
            obtain rfl := Option.some.inj this
            exact Hq.out
        case measure => simp [intOf]; omega
      · have Hf := hide (findQ_hit Hno.out HX.out hq)
        rw [hq] at EQ EQ2
        have hwq := hwv
        go_wp2_with (refine wpList_load_at 33 (.tmp 19) rfl Try.underlying33 rfl Hix.out rfl rfl Hnx.out (HC2.out _ (by assumption)) ?_)
        refine Calls.mono (i_copyExpr D X.expr _ f1' V1 (HE.out V1 (Hw.out V1 hwq)) Hbx.out) ?_
        rintro en w2 ⟨us, F2', rfl, hR2, hf2, hb2⟩
        have H12 := hide (ExR.one hR2)
        obtain ⟨u0, u1, u2, u3, u4, u5, u6, rfl⟩ := list7 ((ExR.good D).len hR2)
        have HR2 := hide hR2
        have Hf2 : Hid (Fresh V1.heap.size w2 F2') := hide hf2
        have Hb2 : Hid (Below (w.heap.size + 3) W0 w2) := hide (hwq.trans (hb2.mono (Nat.le_trans hn0 hwq.size)))
        have Hz2 := hide (Nat.le_trans hn0 hwq.size)
        have HZ := hide (HR0.out w2 Hb2.out)
        have Hn2 : Hid ([u0, u1, u2, u3, u4, u5, u6].length = 7) := hide rfl
        clear hR2 hf2 hb2
        go_wp2_with (refine wpList_store_at 33 (.tmp 4) (.tmp 21) rfl Hix.out rfl rfl rfl Hn2.out H12.out HZ.out (by decide) ?_; intro WF hP; have HP := hide hP; clear hP)
        have hfar : ∀ k ∈ F2', WF.heap[k]? = w2.heap[k]? := fun k hk => HP.out.far k (by have := Hf2.out.from_ k hk; have := Hz2.out; omega)
        have hW : Below w.heap.size w WF := (Hw.out w2 Hb2.out).trans (HP.out.below (by omega))
        obtain ⟨x0, x1, x2, x3, x4, x5, x6⟩ := HP.out.cellsAt.seven0
        exact bodyPost_ret (v := .tuple #[.agg #[u0, u1, u2, u3, u4, u5, u6], .bool true]) (by simp [results, Try.results13, go_sem, x0, x1, x2, x3, x4, x5, x6]) rfl
          ⟨[u0, u1, u2, u3, u4, u5, u6], F2', by rw [Hf.out]; rfl, by rw [Hf.out]; exact (ExR.good D).frame HR2.out hfar (by rw [HP.out.size]; exact Nat.le_refl _), (Hf2.out.keep hfar).mono (by have := Hz2.out; omega), hW⟩
    · have Hf := hide (findQ_no (l := x.eqs) (o := y) fun k q hq => Hno.out k q (by have := (List.getElem?_eq_some_iff.1 hq).1; omega) hq)
      have HZ := hide (HR0.out wr hBr)
      have H1z : Hid (∀ v ∈ ([.int .i64 0, .int .i64 0, .int .i64 0, .int .i64 0, .string ⟨#[]⟩, .string ⟨#[]⟩, .slice none 0 0] : List Value), v.oneCell' = true) := hide (ExR.one (ExR.zero 0 w))
      go_wp2_with (refine wpList_store_at 33 (.tmp 4) (.tmp 23) rfl Hix.out rfl rfl rfl rfl H1z.out HZ.out (by decide) ?_; intro WF hP; have HP := hide hP; clear hP)
      have hW : Below w.heap.size w WF := (Hw.out wr hBr).trans (HP.out.below (by omega))
      obtain ⟨x0, x1, x2, x3, x4, x5, x6⟩ := HP.out.cellsAt.seven0
      exact bodyPost_ret (v := .tuple #[.agg #[.int .i64 0, .int .i64 0, .int .i64 0, .int .i64 0, .string ⟨#[]⟩, .string ⟨#[]⟩, .slice none 0 0], .bool false]) (by simp [results, Try.results13, go_sem, x0, x1, x2, x3, x4, x5, x6]) rfl
        ⟨[.int .i64 0, .int .i64 0, .int .i64 0, .int .i64 0, .string ⟨#[]⟩, .string ⟨#[]⟩, .slice none 0 0], [], by rw [Hf.out]; rfl, by rw [Hf.out]; obtain ⟨d, rfl⟩ : ∃ d, D = d + 1 := ⟨D - 1, by omega⟩; exact ExR.zero d _, Fresh.nil _ _, hW⟩
set_option maxRecDepth 100000 in
set_option maxHeartbeats 4000000 in
theorem s_FindEquation (D : Nat) (x : Rul) (y : Occ) (cs cs' : List Value) (F F' : List Nat) (w : World) (h : RulR D w x cs F) (h' : OccR D w y cs' F') (hbk : bulkRul D x ≤ 1048576) (hD : 0 < D) :
    Calls Try.prog 10 #[.agg cs.toArray, .agg cs'.toArray] w fun en w' => ∃ us F', en = .returned (.tuple #[.agg (List.toArray us), .bool (findQ x.eqs y).isSome]) ∧ ExR D w' ((findQ x.eqs y).getD Ex.zero) us F' ∧ Fresh w.heap.size w' F' ∧ Below w.heap.size w w' := by
  obtain ⟨p0, p1, p2, p3, p4, p5, rfl⟩ := list_6 ((RulR.good D).len h)
  obtain ⟨v2, F2, v4, F4, v5, F5, _, hrk, h0, h1, ⟨h2, g2⟩, h3, ⟨h4, g4⟩, ⟨h5, g5⟩, rfl⟩ := h
  obtain rfl := Option.some.inj h0
  obtain rfl := Option.some.inj h1
  obtain rfl := Option.some.inj h2
  obtain rfl := Option.some.inj h3
  obtain rfl := Option.some.inj h4
  obtain rfl := Option.some.inj h5
  obtain ⟨A2, k2, rfl, hc2, hm2⟩ := g2.form
  obtain ⟨A4, k4, rfl, hc4, hm4⟩ := g4.form
  obtain ⟨A5, k5, rfl, hc5, hm5⟩ := g5.form
  unfold maxLen at hm2 hm4 hm5
  obtain ⟨q0, q1, rfl⟩ := list2 ((OccR.good D).len h')
  obtain ⟨_, _, r0, r1, rfl⟩ := h'
  obtain rfl := Option.some.inj r0
  obtain rfl := Option.some.inj r1
  have L := hide (g4.lt (EqnR.good D))
  have Hs := hide g4
  have HbE := hide (bulk_eqs hbk)
  have hll : x.eqs.length ≤ 9223372036854775807 := by omega
  have hi : (Try.prog.info? 79).map (·.size) = some 9 := by kernel_rfl
  have hix : (Try.prog.info? 33).map (·.size) = some 7 := by kernel_rfl
  have Hi := hide hi
  have Hix := hide hix
  obtain ⟨C0, CO, hR0, hz0, hw0⟩ := boxR2 w [.string x.name, .string x.left, .slice A2 x.right.length k2, .bool x.lit, .slice A4 x.eqs.length k4, .slice A5 x.cons.length k5] [.int .i64 y.pos, .string y.name] [.int .i64 0, .int .i64 0, .int .i64 0, .int .i64 0, .string ⟨#[]⟩, .string ⟨#[]⟩, .slice none 0 0] 39 41 33
  show Calls _ _ #[.agg #[.string x.name, .string x.left, .slice A2 x.right.length k2, .bool x.lit, .slice A4 x.eqs.length k4, .slice A5 x.cons.length k5], .agg #[.int .i64 y.pos, .string y.name]] w _
  clear g2 g4 g5 h0 h1 h2 h3 h4 h5 hc2 hc4 hc5 hm2 hm4 hm5 hi hix hbk r0 r1
  go_enter Try.func10, Try.ntmps10
  go_wp2_with fail
  generalize ((w.alloc (Obj.cells #[.string x.name, .string x.left, .slice A2 x.right.length k2, .bool x.lit, .slice A4 x.eqs.length k4, .slice A5 x.cons.length k5] 39)).alloc (Obj.cells #[.int .i64 y.pos, .string y.name] 41)).alloc (Obj.cells #[.int .i64 0, .int .i64 0, .int .i64 0, .int .i64 0, .string ⟨#[]⟩, .string ⟨#[]⟩, .slice none 0 0] 33) = W0 at C0 CO hR0 hz0 hw0 ⊢
  have hn0 : w.heap.size + 3 ≤ W0.heap.size := by omega
  have Hw : Hid (∀ W : World, Below (w.heap.size + 3) W0 W → Below w.heap.size w W) := hide fun W h => hw0.trans (h.mono (by omega))
  have hB0 : Below (w.heap.size + 3) W0 W0 := Below.refl _ _
  have e4 := cell_rule C0 (n := w.heap.size + 3) (by omega) 4 rfl
  have f0 := cell_rule CO (n := w.heap.size + 3) (by omega) 0 rfl
  have f1 := cell_rule CO (n := w.heap.size + 3) (by omega) 1 rfl
  have HR0 : Hid (∀ W : World, Below (w.heap.size + 3) W0 W → W.heap[w.heap.size + 2]? = some (.cells #[.int .i64 0, .int .i64 0, .int .i64 0, .int .i64 0, .string ⟨#[]⟩, .string ⟨#[]⟩, .slice none 0 0] 33 (0, 0))) := hide fun W h => blk_below hR0 h (by omega)
  clear C0 CO hz0 hw0 hR0
  go_wp2_with fail
  go_loopw [6] (fun i wr => ∃ j : Nat, j ≤ x.eqs.length ∧ i = .int .i64 j ∧ Hid (∀ (k : Nat) (q : Eqn), k < j → x.eqs[k]? = some q → eqOcc q.at_ y = false) ∧ Hid (Below (w.heap.size + 3) W0 wr)) (fun i _ => x.eqs.length - (intOf i).toNat)
  case atStart => exact ⟨0, by omega, rfl, hide (fun k q hk => absurd hk (by omega)), hide hB0⟩
  case round =>
    obtain ⟨j, hj, rfl, Hno, Hb⟩ := hrel
    have hBr := Hb.out
    by_cases hlt : j < x.eqs.length
    · have hX : x.eqs[j]? = some x.eqs[j] := List.getElem?_eq_getElem hlt
      generalize x.eqs[j] = X at hX
      obtain ⟨b, off, cs, Fk, hA, _, hbF, hFk, hcl, hcat, hR⟩ := SlR.get (EqnR.good D) Hs.out hX
      subst hA
      have H1 := hide (EqnR.one hR)
      obtain ⟨c0, c1, c2, c3, c4, c5, c6, c7, c8, rfl⟩ := list_9 hcl
      obtain ⟨f0', f1', _, hO, hE, hFF⟩ := hR
      obtain ⟨_, hOk, r0, r1, _⟩ := hO
      obtain rfl : c0 = .int .i64 X.at_.pos := by simpa using r0
      obtain rfl : c1 = .string X.at_.name := by simpa using r1
      have HX := hide hX
      have Hbx := hide (HbE.out X (List.mem_of_getElem? hX))
      have hE' : ExR D w X.expr [c2, c3, c4, c5, c6, c7, c8] f1' := hE
      have HlF : Hid (∀ k ∈ f1', k < w.heap.size) := hide fun k hk => L.out k (hFk k (by rw [hFF]; simp [hk]))
      have HE : Hid (∀ W : World, Below w.heap.size w W → ExR D W X.expr [c2, c3, c4, c5, c6, c7, c8] f1') := hide fun W h => (ExR.good D).below hE' h HlF.out
      have hlb : b < w.heap.size := L.out b hbF
      have hcw := hcat.below (Hw.out wr hBr) hlb
      have Hc := hide hcw
      have Hn : Hid ([.int .i64 X.at_.pos, .string X.at_.name, c2, c3, c4, c5, c6, c7, c8].length = 9) := hide rfl
      have Hnx : Hid ([c2, c3, c4, c5, c6, c7, c8].length = 7) := hide rfl
      have EQ : ∀ W : World, (binOp .eql 41 (.agg #[.int .i64 X.at_.pos, .string X.at_.name]) (.agg #[.int .i64 y.pos, .string y.name])).run Try.prog W = .ok (.bool (eqOcc X.at_ y)) W := fun W => run_eqlOcc _ _ _ _ W
      have EQ2 : ∀ W : World, (Op.equalIn 10000 41 (.agg #[.int .i64 X.at_.pos, .string X.at_.name]) (.agg #[.int .i64 y.pos, .string y.name])).run Try.prog W = .ok (eqOcc X.at_ y) W := fun W => run_eqOcc _ _ _ _ W
      have hj0 : (0 : Int) ≤ (j : Int) := by omega
      have hj1 : (j : Int) < (x.eqs.length : Int) := by omega
      have hbase : w.heap.size + 3 ≤ wr.heap.size := Nat.le_trans hn0 hBr.size
      clear hX hFk hbF hcl hE hE' hFF r0 r1 hOk
      have ex0 : ∀ W : World, Below (w.heap.size + 3) W0 W → W.cell? ⟨b, off + j * 9, none⟩ = some (.int .i64 X.at_.pos) := fun W h => (hcat.below (Hw.out W h) hlb) 0 _ rfl
      have ex1 : ∀ W : World, Below (w.heap.size + 3) W0 W → W.cell? ⟨b, off + j * 9 + 1, none⟩ = some (.string X.at_.name) := fun W h => (hcat.below (Hw.out W h) hlb) 1 _ rfl
      have HC2 : Hid (∀ W : World, Below (w.heap.size + 3) W0 W → CellsAt W b (off + j * 9 + 2) [c2, c3, c4, c5, c6, c7, c8]) := hide fun W h i v hv => by have := (hcat.below (Hw.out W h) hlb) (2 + i) v (by simpa [Nat.add_comm] using hv); rwa [← Nat.add_assoc] at this
      have hwv := hBr
      clear hcat hcw
      cases hq : eqOcc X.at_ y
      · have Hq := hide hq
        rw [hq] at EQ EQ2
        go_wp2_with fail
        go_quiet (fail)
        go_wp2_with fail
        go_roundw
        case rel =>
          refine ⟨j + 1, by omega, by go_num, hide fun k z hk hz => ?_, hide (below_drewN hwv _)⟩
          by_cases hkj : k < j
          · exact Hno.out k z hkj hz
          · obtain rfl : k = j := by omega
            have := HX.out
            rw [hz] at this
            obtain rfl := Option.some.inj this
            exact Hq.out
        case measure => simp [intOf]; omega
      · have Hf := hide (findQ_hit Hno.out HX.out hq)
        rw [hq] at EQ EQ2
        go_wp2_with fail
        go_quiet (fail)
        have HQ0 := fun nq => below_drewN hwv nq
        generalize hV1 : World.drewN wr _ = V1
        have hwq : Below (w.heap.size + 3) W0 V1 := by rw [← hV1]; exact HQ0 _
        clear hV1 HQ0
        go_wp2_with (refine wpList_load_at 33 (.tmp 26) rfl Try.underlying33 rfl Hix.out rfl rfl Hnx.out (HC2.out _ (by assumption)) ?_)
        refine Calls.mono (s_l4Copy D X.expr _ f1' V1 (HE.out V1 (Hw.out V1 hwq)) Hbx.out) ?_
        rintro en w2 ⟨us, F2', rfl, hR2, hf2, hb2⟩
        have H12 := hide (ExR.one hR2)
        obtain ⟨u0, u1, u2, u3, u4, u5, u6, rfl⟩ := list7 ((ExR.good D).len hR2)
        have HR2 := hide hR2
        have Hf2 : Hid (Fresh V1.heap.size w2 F2') := hide hf2
        have Hb2 : Hid (Below (w.heap.size + 3) W0 w2) := hide (hwq.trans (hb2.mono (Nat.le_trans hn0 hwq.size)))
        have Hz2 := hide (Nat.le_trans hn0 hwq.size)
        have HZ := hide (HR0.out w2 Hb2.out)
        have Hn2 : Hid ([u0, u1, u2, u3, u4, u5, u6].length = 7) := hide rfl
        clear hR2 hf2 hb2
        go_wp2_with (refine wpList_store_at 33 (.tmp 4) (.tmp 28) rfl Hix.out rfl rfl rfl Hn2.out H12.out HZ.out (by decide) ?_; intro WF hP; have HP := hide hP; clear hP)
        have hfar : ∀ k ∈ F2', WF.heap[k]? = w2.heap[k]? := fun k hk => HP.out.far k (by have := Hf2.out.from_ k hk; have := Hz2.out; omega)
        have hW : Below w.heap.size w WF := (Hw.out w2 Hb2.out).trans (HP.out.below (by omega))
        obtain ⟨x0, x1, x2, x3, x4, x5, x6⟩ := HP.out.cellsAt.seven0
        exact bodyPost_ret (v := .tuple #[.agg #[u0, u1, u2, u3, u4, u5, u6], .bool true]) (by simp [results, Try.results10, go_sem, x0, x1, x2, x3, x4, x5, x6]) rfl
          ⟨[u0, u1, u2, u3, u4, u5, u6], F2', by rw [Hf.out]; rfl, by rw [Hf.out]; exact (ExR.good D).frame HR2.out hfar (by rw [HP.out.size]; exact Nat.le_refl _), (Hf2.out.keep hfar).mono (by have := Hz2.out; omega), hW⟩
    · have Hf := hide (findQ_no (l := x.eqs) (o := y) fun k q hq => Hno.out k q (by have := (List.getElem?_eq_some_iff.1 hq).1; omega) hq)
      have HZ := hide (HR0.out wr hBr)
      have H1z : Hid (∀ v ∈ ([.int .i64 0, .int .i64 0, .int .i64 0, .int .i64 0, .string ⟨#[]⟩, .string ⟨#[]⟩, .slice none 0 0] : List Value), v.oneCell' = true) := hide (ExR.one (ExR.zero 0 w))
      go_wp2_with (refine wpList_store_at 33 (.tmp 4) (.tmp 29) rfl Hix.out rfl rfl rfl rfl H1z.out HZ.out (by decide) ?_; intro WF hP; have HP := hide hP; clear hP)
      have hW : Below w.heap.size w WF := (Hw.out wr hBr).trans (HP.out.below (by omega))
      obtain ⟨x0, x1, x2, x3, x4, x5, x6⟩ := HP.out.cellsAt.seven0
      exact bodyPost_ret (v := .tuple #[.agg #[.int .i64 0, .int .i64 0, .int .i64 0, .int .i64 0, .string ⟨#[]⟩, .string ⟨#[]⟩, .slice none 0 0], .bool false]) (by simp [results, Try.results10, go_sem, x0, x1, x2, x3, x4, x5, x6]) rfl
        ⟨[.int .i64 0, .int .i64 0, .int .i64 0, .int .i64 0, .string ⟨#[]⟩, .string ⟨#[]⟩, .slice none 0 0], [], by rw [Hf.out]; rfl, by rw [Hf.out]; obtain ⟨d, rfl⟩ : ∃ d, D = d + 1 := ⟨D - 1, by omega⟩; exact ExR.zero d _, Fresh.nil _ _, hW⟩
end Go.Proofs.Ytadgdnoikgobcaa
