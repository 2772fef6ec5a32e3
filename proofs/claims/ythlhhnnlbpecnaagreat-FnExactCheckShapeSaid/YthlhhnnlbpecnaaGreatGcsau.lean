/- Several texts of one proof in one file: Is a symbol of a rule not there: both sides. Conditions: each theorem names its own. -/
import Derived.Test.YthlhhnnlbpecnaaGreatGcsat
import Derived.Test.YthlhhnnlbpecnaaGreatGcsak
import Derived.Test.YthlhhnnlbpecnaaGreatGcsar

/- Is a symbol of a rule not there: both sides. Conditions: grammar and rule have at most the size 2^20. -/
namespace Go.Proofs.YthlhhnnlbpecnaaGreat
set_option linter.unusedSimpArgs false
set_option linter.unusedVariables false
set_option maxRecDepth 100000
open Go.RowKit Go.WideShapes
set_option linter.unusedVariables false

theorem bnot_f {q : Bool} (h : false = !q) : q = true := by cases q <;> simp_all
theorem bnot_t {q : Bool} (h : true = !q) : q = false := by cases q <;> simp_all
theorem rul_open {D : Nat} {w : World} {x : Rul} {r0 r1 r2 r3 r4 r5 : Value} {F : List Nat} (h : RulR D w x [r0, r1, r2, r3, r4, r5] F) : ∃ A2 k2 A4 k4 A5 k5 F4 F5, r2 = .slice A2 x.right.length k2 ∧ r4 = .slice A4 x.eqs.length k4 ∧ r5 = .slice A5 x.cons.length k5 ∧ SlR 9 (EqnR D) w x.eqs (.slice A4 x.eqs.length k4) F4 ∧ SlR 16 (ConR D) w x.cons (.slice A5 x.cons.length k5) F5 ∧ x.eqs.length ≤ k4 ∧ x.cons.length ≤ k5 := by
  obtain ⟨v2, F2, v4, F4, v5, F5, _, _, h0, h1, ⟨h2, g2⟩, h3, ⟨h4, g4⟩, ⟨h5, g5⟩, _⟩ := h
  obtain ⟨A2, k2, rfl, _, _⟩ := g2.form
  obtain ⟨A4, k4, rfl, c4, _⟩ := g4.form
  obtain ⟨A5, k5, rfl, c5, _⟩ := g5.form
  exact ⟨A2, k2, A4, k4, A5, k5, F4, F5, Option.some.inj h2, Option.some.inj h4, Option.some.inj h5, g4, g5, c4, c5⟩
theorem i_fs (D : Nat) (g : Grm) (cs : List Value) (F : List Nat) (w : World) (h : GrmR D w g cs F) (s : ByteArray) (hbk : bulkGrm D g ≤ 1048576) :
    Calls Tryz.prog 44 #[.agg cs.toArray, .string s] w fun en w' => ∃ u_0 u_1, en = .returned (.tuple #[.agg #[u_0, u_1], .bool (findS g.symbols s).isSome]) ∧ (∀ v ∈ ([u_0, u_1] : List Value), v.oneCell' = true) ∧ Below w.heap.size w w' :=
  (i_findSymbol D g cs F w h s).mono fun en w' ⟨us, F', he, hR, _, hb⟩ => by
    have h1 := SymR.one hR
    obtain ⟨u0, u1, rfl⟩ := list2 ((SymR.good D).len hR)
    exact ⟨u0, u1, he, h1, hb⟩
theorem s_fs (D : Nat) (g : Grm) (cs : List Value) (F : List Nat) (w : World) (h : GrmR D w g cs F) (s : ByteArray) (hbk : bulkGrm D g ≤ 1048576) :
    Calls Tryz.prog 69 #[.agg cs.toArray, .string s] w fun en w' => ∃ u_0 u_1, en = .returned (.tuple #[.agg #[u_0, u_1], .bool (findS g.symbols s).isSome]) ∧ (∀ v ∈ ([u_0, u_1] : List Value), v.oneCell' = true) ∧ Below w.heap.size w w' :=
  (s_FindSymbol D g cs F w h s hbk).mono fun en w' ⟨us, F', he, hR, _, hb⟩ => by
    have h1 := SymR.one hR
    obtain ⟨u0, u1, rfl⟩ := list2 ((SymR.good D).len hR)
    exact ⟨u0, u1, he, h1, hb⟩
set_option maxRecDepth 100000 in
set_option maxHeartbeats 4000000 in
theorem i_unknown (D : Nat) (g : Grm) (x : Rul) (cg cr : List Value) (Fg Fr : List Nat) (w : World) (hg : GrmR D w g cg Fg) (hr : RulR D w x cr Fr) (hbg : bulkGrm D g ≤ 1048576) (hbr : bulkRul D x ≤ 1048576) :
    Calls Tryz.prog 20 #[.agg cg.toArray, .agg cr.toArray] w fun en w' => en = .returned (.bool (symB g x)) ∧ Below w.heap.size w w' := by
  have hrb := (bulk_rul hbr).1
  have LG := hide ((GrmR.good D).lt hg)
  have LR := hide ((RulR.good D).lt hr)
  obtain ⟨gc0, gc1, rfl⟩ := list2 ((GrmR.good D).len hg)
  obtain ⟨r0, r1, r2, r3, r4, r5, rfl⟩ := list_6 ((RulR.good D).len hr)
  obtain ⟨A2, k2, A4, k4, A5, k5, F4, F5, rfl, rfl, rfl, hs4, hs5, hn4, hn5⟩ := rul_open hr
  have Hg : Hid (∀ W : World, Below w.heap.size w W → GrmR D W g [gc0, gc1] Fg) := hide fun W hW => (GrmR.good D).below hg hW LG.out
  have Hr : Hid (∀ W : World, Below w.heap.size w W → RulR D W x [r0, r1, .slice A2 x.right.length k2, r3, .slice A4 x.eqs.length k4, .slice A5 x.cons.length k5] Fr) := hide fun W hW => (RulR.good D).below hr hW LR.out
  have L4 := hide (hs4.lt (EqnR.good D))
  have L5 := hide (hs5.lt (ConR.good D))
  have Hs4 : Hid (∀ W : World, Below w.heap.size w W → SlR 9 (EqnR D) W x.eqs (.slice A4 x.eqs.length k4) F4) := hide fun W hW => hs4.below (EqnR.good D) hW L4.out
  have Hs5 : Hid (∀ W : World, Below w.heap.size w W → SlR 16 (ConR D) W x.cons (.slice A5 x.cons.length k5) F5) := hide fun W hW => hs5.below (ConR.good D) hW L5.out
  have Hig : Hid ((Tryz.prog.info? 32).map (·.size) = some 2) := hide (by kernel_rfl)
  have Hir : Hid ((Tryz.prog.info? 50).map (·.size) = some 6) := hide (by kernel_rfl)
  have Hio : Hid ((Tryz.prog.info? 81).map (·.size) = some 2) := hide (by kernel_rfl)
  have Hiq : Hid ((Tryz.prog.info? 88).map (·.size) = some 9) := hide (by kernel_rfl)
  have His : Hid ((Tryz.prog.info? 42).map (·.size) = some 2) := hide (by kernel_rfl)
  have Hix : Hid ((Tryz.prog.info? 86).map (·.size) = some 7) := hide (by kernel_rfl)
  obtain ⟨CG, CR, hz0, hw0⟩ := boxes2 w [gc0, gc1] [r0, r1, .slice A2 x.right.length k2, r3, .slice A4 x.eqs.length k4, .slice A5 x.cons.length k5] 32 50
  show Calls _ _ #[.agg #[gc0, gc1], .agg #[r0, r1, .slice A2 x.right.length k2, r3, .slice A4 x.eqs.length k4, .slice A5 x.cons.length k5]] w _
  clear hg hr hs4 hs5
  go_enter Tryz.func20, Tryz.ntmps20
  go_wp2_with fail
  generalize (w.alloc (Obj.cells #[gc0, gc1] 32)).alloc (Obj.cells #[r0, r1, .slice A2 x.right.length k2, r3, .slice A4 x.eqs.length k4, .slice A5 x.cons.length k5] 50) = W0 at CG CR hz0 hw0 ⊢
  have hn0 : w.heap.size + 2 ≤ W0.heap.size := by omega
  have Hw : Hid (∀ W : World, Below (w.heap.size + 2) W0 W → Below w.heap.size w W) := hide fun W h => hw0.trans (h.mono (by omega))
  have HcG : Hid (∀ W : World, Below (w.heap.size + 2) W0 W → CellsAt W w.heap.size 0 [gc0, gc1]) := hide fun W h => CG.below h (by omega)
  have HcR : Hid (∀ W : World, Below (w.heap.size + 2) W0 W → CellsAt W (w.heap.size + 1) 0 [r0, r1, .slice A2 x.right.length k2, r3, .slice A4 x.eqs.length k4, .slice A5 x.cons.length k5]) := hide fun W h => CR.below h (by omega)
  have hB0 : Below (w.heap.size + 2) W0 W0 := Below.refl _ _
  have a0 := cell_rule CG (n := w.heap.size + 2) (by omega) 0 rfl
  have a1 := cell_rule CG (n := w.heap.size + 2) (by omega) 1 rfl
  have b0 := cell_rule CR (n := w.heap.size + 2) (by omega) 0 rfl
  have b1 := cell_rule CR (n := w.heap.size + 2) (by omega) 1 rfl
  have b2 := cell_rule CR (n := w.heap.size + 2) (by omega) 2 rfl
  have b3 := cell_rule CR (n := w.heap.size + 2) (by omega) 3 rfl
  have b4 := cell_rule CR (n := w.heap.size + 2) (by omega) 4 rfl
  have b5 := cell_rule CR (n := w.heap.size + 2) (by omega) 5 rfl
  have hBa0 : ∀ (W : World) (o : Obj), Below (w.heap.size + 2) W0 W → Below (w.heap.size + 2) W0 (W.alloc o) := fun W o h => below_alloc hn0 o h
  have Hz0 := hide hz0
  clear CG CR hz0 hw0
  have Hbg := hide hbg
  clear hbg hbr
  go_wp2_with fail
  go_loopw [12] (fun i wr => ∃ n : Nat, n ≤ x.right.length + 1 ∧ i = .int .i64 n ∧ Hid ((List.range n).any (noSym g x) = false) ∧ Hid (Below (w.heap.size + 2) W0 wr)) (fun i _ => x.right.length + 1 - (intOf i).toNat)
  case atStart => exact ⟨0, by omega, rfl, hide rfl, hide hB0⟩
  case round =>
    obtain ⟨n, hn, rfl, Hno, Hb⟩ := hrel
    have hBr := Hb.out
    have hbase : w.heap.size + 2 ≤ wr.heap.size := Nat.le_trans hn0 hBr.size
    by_cases hlt : n < x.right.length + 1
    · have hj0 : (0 : Int) ≤ (n : Int) := by omega
      have hj1 : (n : Int) < (x.right.length : Int) + 1 := by omega
      have hj2 : (n : Int) ≤ (x.right.length : Int) := by omega
      have hpos : (Lit.int .i64 (n : Int)).wf = true := by
        have e1 : IntKind.i64.min = -9223372036854775808 := rfl
        have e2 : IntKind.i64.max = 9223372036854775807 := rfl
        simp [Lit.wf, e1, e2]
        omega
      have HW : Hid (∀ W : World, Below wr.heap.size wr W → Below (w.heap.size + 2) W0 W) := hide fun W h => hBr.trans (h.mono hbase)
      obtain ⟨b, hb⟩ : ∃ b, b = (findS g.symbols (symAt x n)).isSome := ⟨_, rfl⟩
      have Hsa : Hid (∀ W : World, Below wr.heap.size wr W → Calls Tryz.prog 45 #[.agg #[r0, r1, .slice A2 x.right.length k2, r3, .slice A4 x.eqs.length k4, .slice A5 x.cons.length k5], .int .i64 (n : Int)] W fun en w' => en = .returned (.string (symAt x n)) ∧ Below W.heap.size W w') := hide fun W h => i_SymbolAt D x _ Fr W (Hr.out W (Hw.out W (HW.out W h))) (n : Int) hpos
      have Hfs : Hid (∀ W : World, Below wr.heap.size wr W → Calls Tryz.prog 44 #[.agg #[gc0, gc1], .string (symAt x n)] W fun en w' => ∃ u_0 u_1, en = .returned (.tuple #[.agg #[u_0, u_1], .bool b]) ∧ (∀ v ∈ ([u_0, u_1] : List Value), v.oneCell' = true) ∧ Below W.heap.size W w') := hide fun W h => hb ▸ i_fs D g _ Fg W (Hg.out W (Hw.out W (HW.out W h))) (symAt x n) Hbg.out
      have Hbn : Hid (b = !noSym g x n) := hide (by rw [hb]; unfold noSym; cases findS g.symbols (symAt x n) <;> rfl)
      generalize symAt x n = s at Hsa Hfs
      clear hb
      go_wp2_with fail
      refine region_invA (fun a0 l a' w' => ∃ x0 x1 x2 x3 x4 x5 x6 x7 x8 x10 : Value, a' = ((((((((((a0.put (some 16) x0).put (some 17) x1).put (some 18) x2).put (some 19) x3).put (some 20) x4).put (some 15) x5).put (some 21) x6).put (some 22) x7).put (some 6) x8).put (some 7) x10) ∧ (l 10 = true → ∀ i, i < 10 → l i = true) ∧ (l 10 = true → x10 = .bool b ∧ Below wr.heap.size wr w') ∧ (l 10 = false → Below wr.heap.size wr w' ∧ (l 0 = true → x0 = .agg #[gc0, gc1]) ∧ (l 1 = true → x1 = .agg #[r0, r1, .slice A2 x.right.length k2, r3, .slice A4 x.eqs.length k4, .slice A5 x.cons.length k5]) ∧ (l 2 = true → x2 = .int .i64 (n : Int)) ∧ (l 3 = true → x3 = .string s) ∧ (l 4 = true → (∃ u_0 u_1, x4 = .tuple #[.agg #[u_0, u_1], .bool b] ∧ (∀ v ∈ ([u_0, u_1] : List Value), v.oneCell' = true))) ∧ (l 5 = true → (∃ u_0 u_1, x5 = .tuple #[.agg #[u_0, u_1], .bool b] ∧ (∀ v ∈ ([u_0, u_1] : List Value), v.oneCell' = true))) ∧ (l 6 = true → (∃ u_0 u_1, x6 = .agg #[u_0, u_1] ∧ (∀ v ∈ ([u_0, u_1] : List Value), v.oneCell' = true))) ∧ (l 7 = true → (x7 = .bool b)) ∧ (l 8 = true → ((∃ gb, x8 = .pointer (some ⟨gb, 0, none⟩) ∧ wr.heap.size ≤ gb ∧ (l 9 = false → w'.heap[gb]? = some (.cells #[.string ⟨#[]⟩, .slice none 0 0] 42 (0, 0)))))))) rfl (by kernel_rfl) ?h0 ?hstep ?hend
      case h0 => exact ⟨u16, u17, u18, u19, u20, u15, u21, u22, u6, u7, by kernel_rfl, fun h => absurd h (by decide), fun h => absurd h (by decide), fun _ => ⟨(Below.refl _ _).drew, fun h => absurd h (by decide), fun h => absurd h (by decide), fun h => absurd h (by decide), fun h => absurd h (by decide), fun h => absurd h (by decide), fun h => absurd h (by decide), fun h => absurd h (by decide), fun h => absurd h (by decide), fun h => absurd h (by decide)⟩⟩
      case hstep =>
        refine ⟨?s0, ?s1, ?s2, ?s3, ?s4, ?s5, ?s6, ?s7, ?s8, ?s9, ?s10, trivial⟩
        case s0 =>
          intro l a' w' hk hpre hJ K hK
          obtain ⟨x0, x1, x2, x3, x4, x5, x6, x7, x8, x10, ha, hall, hfin, hfs⟩ := hJ
          have h12 : l 10 = false := upd_last hall hk (by decide)
          clear hall hfin
          obtain ⟨hB, f0, f1, f2, f3, f4, f5, f6, f7, f8⟩ := hfs h12
          clear hfs
          refine step_load rfl 32 (.tmp 2) rfl Tryz.underlying32 rfl (cs := [gc0, gc1]) (b := w.heap.size) (off := 0) Hig.out (by rw [ha]; kernel_rfl) rfl (HcG.out _ (HW.out _ hB)) ?_
          subst ha
          exact hK.out _ _ ⟨.agg #[gc0, gc1], x1, x2, x3, x4, x5, x6, x7, x8, x10, by kernel_rfl, fun h => absurd (updL_ne h (by decide)) (by rw [h12]; decide), fun h => absurd (updL_ne h (by decide)) (by rw [h12]; decide), fun _ => ⟨hB, fun _ => rfl, fun h => f1 (updL_ne h (by decide)), fun h => f2 (updL_ne h (by decide)), fun h => f3 (updL_ne h (by decide)), fun h => f4 (updL_ne h (by decide)), fun h => f5 (updL_ne h (by decide)), fun h => f6 (updL_ne h (by decide)), fun h => f7 (updL_ne h (by decide)), fun h => Exists.imp (fun _ h => ⟨h.1, h.2.1, fun q => (id) (h.2.2 (updL_f q))⟩) (f8 (updL_ne h (by decide)))⟩⟩
        case s1 =>
          intro l a' w' hk hpre hJ K hK
          obtain ⟨x0, x1, x2, x3, x4, x5, x6, x7, x8, x10, ha, hall, hfin, hfs⟩ := hJ
          have h12 : l 10 = false := upd_last hall hk (by decide)
          clear hall hfin
          obtain ⟨hB, f0, f1, f2, f3, f4, f5, f6, f7, f8⟩ := hfs h12
          clear hfs
          refine step_load rfl 50 (.tmp 3) rfl Tryz.underlying50 rfl (cs := [r0, r1, .slice A2 x.right.length k2, r3, .slice A4 x.eqs.length k4, .slice A5 x.cons.length k5]) (b := w.heap.size + 1) (off := 0) Hir.out (by rw [ha]; kernel_rfl) rfl (HcR.out _ (HW.out _ hB)) ?_
          subst ha
          exact hK.out _ _ ⟨x0, .agg #[r0, r1, .slice A2 x.right.length k2, r3, .slice A4 x.eqs.length k4, .slice A5 x.cons.length k5], x2, x3, x4, x5, x6, x7, x8, x10, by kernel_rfl, fun h => absurd (updL_ne h (by decide)) (by rw [h12]; decide), fun h => absurd (updL_ne h (by decide)) (by rw [h12]; decide), fun _ => ⟨hB, fun h => f0 (updL_ne h (by decide)), fun _ => rfl, fun h => f2 (updL_ne h (by decide)), fun h => f3 (updL_ne h (by decide)), fun h => f4 (updL_ne h (by decide)), fun h => f5 (updL_ne h (by decide)), fun h => f6 (updL_ne h (by decide)), fun h => f7 (updL_ne h (by decide)), fun h => Exists.imp (fun _ h => ⟨h.1, h.2.1, fun q => (id) (h.2.2 (updL_f q))⟩) (f8 (updL_ne h (by decide)))⟩⟩
        case s2 =>
          intro l a' w' hk hpre hJ K hK
          obtain ⟨x0, x1, x2, x3, x4, x5, x6, x7, x8, x10, ha, hall, hfin, hfs⟩ := hJ
          have h12 : l 10 = false := upd_last hall hk (by decide)
          clear hall hfin
          obtain ⟨hB, f0, f1, f2, f3, f4, f5, f6, f7, f8⟩ := hfs h12
          clear hfs
          subst ha
          go_simp
          exact hK.out _ _ ⟨x0, x1, .int .i64 (n : Int), x3, x4, x5, x6, x7, x8, x10, by kernel_rfl, fun h => absurd (updL_ne h (by decide)) (by rw [h12]; decide), fun h => absurd (updL_ne h (by decide)) (by rw [h12]; decide), fun _ => ⟨hB, fun h => f0 (updL_ne h (by decide)), fun h => f1 (updL_ne h (by decide)), fun _ => rfl, fun h => f3 (updL_ne h (by decide)), fun h => f4 (updL_ne h (by decide)), fun h => f5 (updL_ne h (by decide)), fun h => f6 (updL_ne h (by decide)), fun h => f7 (updL_ne h (by decide)), fun h => Exists.imp (fun _ h => ⟨h.1, h.2.1, fun q => (id) (h.2.2 (updL_f q))⟩) (f8 (updL_ne h (by decide)))⟩⟩
        case s3 =>
          intro l a' w' hk hpre hJ K hK
          obtain ⟨x0, x1, x2, x3, x4, x5, x6, x7, x8, x10, ha, hall, hfin, hfs⟩ := hJ
          have h12 : l 10 = false := upd_last hall hk (by decide)
          clear hall hfin
          obtain ⟨hB, f0, f1, f2, f3, f4, f5, f6, f7, f8⟩ := hfs h12
          clear hfs
          have p1 : l 1 = true := hpre 1 (by kernel_rfl)
          have p2 : l 2 = true := hpre 2 (by kernel_rfl)
          obtain rfl := f1 p1
          obtain rfl := f2 p2
          subst ha
          go_simp
          go_at_call 45
          refine Calls.mono (Hsa.out w' hB) ?_
          rintro en w2 ⟨rfl, hb2⟩
          exact hK.out _ _ ⟨x0, .agg #[r0, r1, .slice A2 x.right.length k2, r3, .slice A4 x.eqs.length k4, .slice A5 x.cons.length k5], .int .i64 (n : Int), .string s, x4, x5, x6, x7, x8, x10, by kernel_rfl, fun h => absurd (updL_ne h (by decide)) (by rw [h12]; decide), fun h => absurd (updL_ne h (by decide)) (by rw [h12]; decide), fun _ => ⟨hB.trans (hb2.mono hB.size), fun h => f0 (updL_ne h (by decide)), fun h => f1 (updL_ne h (by decide)), fun h => f2 (updL_ne h (by decide)), fun _ => rfl, fun h => f4 (updL_ne h (by decide)), fun h => f5 (updL_ne h (by decide)), fun h => f6 (updL_ne h (by decide)), fun h => f7 (updL_ne h (by decide)), fun h => Exists.imp (fun _ h => ⟨h.1, h.2.1, fun q => (fun z => blk_below z hb2 (blk_lt z)) (h.2.2 (updL_f q))⟩) (f8 (updL_ne h (by decide)))⟩⟩
        case s4 =>
          intro l a' w' hk hpre hJ K hK
          obtain ⟨x0, x1, x2, x3, x4, x5, x6, x7, x8, x10, ha, hall, hfin, hfs⟩ := hJ
          have h12 : l 10 = false := upd_last hall hk (by decide)
          clear hall hfin
          obtain ⟨hB, f0, f1, f2, f3, f4, f5, f6, f7, f8⟩ := hfs h12
          clear hfs
          have p0 : l 0 = true := hpre 0 (by kernel_rfl)
          have p3 : l 3 = true := hpre 3 (by kernel_rfl)
          obtain rfl := f0 p0
          obtain rfl := f3 p3
          subst ha
          go_simp
          go_at_call 44
          refine Calls.mono (Hfs.out w' hB) ?_
          rintro en w2 ⟨u_0, u_1, rfl, h1v, hb2⟩
          exact hK.out _ _ ⟨.agg #[gc0, gc1], x1, x2, .string s, .tuple #[.agg #[u_0, u_1], .bool b], x5, x6, x7, x8, x10, by kernel_rfl, fun h => absurd (updL_ne h (by decide)) (by rw [h12]; decide), fun h => absurd (updL_ne h (by decide)) (by rw [h12]; decide), fun _ => ⟨hB.trans (hb2.mono hB.size), fun h => f0 (updL_ne h (by decide)), fun h => f1 (updL_ne h (by decide)), fun h => f2 (updL_ne h (by decide)), fun h => f3 (updL_ne h (by decide)), fun _ => ⟨u_0, u_1, rfl, h1v⟩, fun h => f5 (updL_ne h (by decide)), fun h => f6 (updL_ne h (by decide)), fun h => f7 (updL_ne h (by decide)), fun h => Exists.imp (fun _ h => ⟨h.1, h.2.1, fun q => (fun z => blk_below z hb2 (blk_lt z)) (h.2.2 (updL_f q))⟩) (f8 (updL_ne h (by decide)))⟩⟩
        case s5 =>
          intro l a' w' hk hpre hJ K hK
          obtain ⟨x0, x1, x2, x3, x4, x5, x6, x7, x8, x10, ha, hall, hfin, hfs⟩ := hJ
          have h12 : l 10 = false := upd_last hall hk (by decide)
          clear hall hfin
          obtain ⟨hB, f0, f1, f2, f3, f4, f5, f6, f7, f8⟩ := hfs h12
          clear hfs
          have p4 : l 4 = true := hpre 4 (by kernel_rfl)
          obtain ⟨u_0, u_1, rfl, h1v⟩ := f4 p4
          subst ha
          go_simp
          exact hK.out _ _ ⟨x0, x1, x2, x3, .tuple #[.agg #[u_0, u_1], .bool b], .tuple #[.agg #[u_0, u_1], .bool b], x6, x7, x8, x10, by kernel_rfl, fun h => absurd (updL_ne h (by decide)) (by rw [h12]; decide), fun h => absurd (updL_ne h (by decide)) (by rw [h12]; decide), fun _ => ⟨hB, fun h => f0 (updL_ne h (by decide)), fun h => f1 (updL_ne h (by decide)), fun h => f2 (updL_ne h (by decide)), fun h => f3 (updL_ne h (by decide)), fun h => f4 (updL_ne h (by decide)), fun _ => ⟨u_0, u_1, rfl, h1v⟩, fun h => f6 (updL_ne h (by decide)), fun h => f7 (updL_ne h (by decide)), fun h => Exists.imp (fun _ h => ⟨h.1, h.2.1, fun q => (id) (h.2.2 (updL_f q))⟩) (f8 (updL_ne h (by decide)))⟩⟩
        case s6 =>
          intro l a' w' hk hpre hJ K hK
          obtain ⟨x0, x1, x2, x3, x4, x5, x6, x7, x8, x10, ha, hall, hfin, hfs⟩ := hJ
          have h12 : l 10 = false := upd_last hall hk (by decide)
          clear hall hfin
          obtain ⟨hB, f0, f1, f2, f3, f4, f5, f6, f7, f8⟩ := hfs h12
          clear hfs
          have p5 : l 5 = true := hpre 5 (by kernel_rfl)
          obtain ⟨u_0, u_1, rfl, h1v⟩ := f5 p5
          subst ha
          go_simp
          exact hK.out _ _ ⟨x0, x1, x2, x3, x4, .tuple #[.agg #[u_0, u_1], .bool b], .agg #[u_0, u_1], x7, x8, x10, by kernel_rfl, fun h => absurd (updL_ne h (by decide)) (by rw [h12]; decide), fun h => absurd (updL_ne h (by decide)) (by rw [h12]; decide), fun _ => ⟨hB, fun h => f0 (updL_ne h (by decide)), fun h => f1 (updL_ne h (by decide)), fun h => f2 (updL_ne h (by decide)), fun h => f3 (updL_ne h (by decide)), fun h => f4 (updL_ne h (by decide)), fun h => f5 (updL_ne h (by decide)), fun _ => ⟨u_0, u_1, rfl, h1v⟩, fun h => f7 (updL_ne h (by decide)), fun h => Exists.imp (fun _ h => ⟨h.1, h.2.1, fun q => (id) (h.2.2 (updL_f q))⟩) (f8 (updL_ne h (by decide)))⟩⟩
        case s7 =>
          intro l a' w' hk hpre hJ K hK
          obtain ⟨x0, x1, x2, x3, x4, x5, x6, x7, x8, x10, ha, hall, hfin, hfs⟩ := hJ
          have h12 : l 10 = false := upd_last hall hk (by decide)
          clear hall hfin
          obtain ⟨hB, f0, f1, f2, f3, f4, f5, f6, f7, f8⟩ := hfs h12
          clear hfs
          have p5 : l 5 = true := hpre 5 (by kernel_rfl)
          obtain ⟨u_0, u_1, rfl, h1v⟩ := f5 p5
          subst ha
          go_simp
          exact hK.out _ _ ⟨x0, x1, x2, x3, x4, .tuple #[.agg #[u_0, u_1], .bool b], x6, .bool b, x8, x10, by kernel_rfl, fun h => absurd (updL_ne h (by decide)) (by rw [h12]; decide), fun h => absurd (updL_ne h (by decide)) (by rw [h12]; decide), fun _ => ⟨hB, fun h => f0 (updL_ne h (by decide)), fun h => f1 (updL_ne h (by decide)), fun h => f2 (updL_ne h (by decide)), fun h => f3 (updL_ne h (by decide)), fun h => f4 (updL_ne h (by decide)), fun h => f5 (updL_ne h (by decide)), fun h => f6 (updL_ne h (by decide)), fun _ => rfl, fun h => Exists.imp (fun _ h => ⟨h.1, h.2.1, fun q => (id) (h.2.2 (updL_f q))⟩) (f8 (updL_ne h (by decide)))⟩⟩
        case s8 =>
          intro l a' w' hk hpre hJ K hK
          obtain ⟨x0, x1, x2, x3, x4, x5, x6, x7, x8, x10, ha, hall, hfin, hfs⟩ := hJ
          have h12 : l 10 = false := upd_last hall hk (by decide)
          clear hall hfin
          obtain ⟨hB, f0, f1, f2, f3, f4, f5, f6, f7, f8⟩ := hfs h12
          clear hfs
          subst ha
          go_simp
          exact hK.out _ _ ⟨x0, x1, x2, x3, x4, x5, x6, x7, .pointer (some ⟨w'.heap.size, 0, none⟩), x10, by kernel_rfl, fun h => absurd (updL_ne h (by decide)) (by rw [h12]; decide), fun h => absurd (updL_ne h (by decide)) (by rw [h12]; decide), fun _ => ⟨hB.alloc hB.size _, fun h => f0 (updL_ne h (by decide)), fun h => f1 (updL_ne h (by decide)), fun h => f2 (updL_ne h (by decide)), fun h => f3 (updL_ne h (by decide)), fun h => f4 (updL_ne h (by decide)), fun h => f5 (updL_ne h (by decide)), fun h => f6 (updL_ne h (by decide)), fun h => f7 (updL_ne h (by decide)), fun _ => ⟨_, rfl, hB.size, fun _ => heap_alloc_new w' _⟩⟩⟩
        case s9 =>
          intro l a' w' hk hpre hJ K hK
          obtain ⟨x0, x1, x2, x3, x4, x5, x6, x7, x8, x10, ha, hall, hfin, hfs⟩ := hJ
          have h12 : l 10 = false := upd_last hall hk (by decide)
          clear hall hfin
          obtain ⟨hB, f0, f1, f2, f3, f4, f5, f6, f7, f8⟩ := hfs h12
          clear hfs
          have p6 : l 6 = true := hpre 6 (by kernel_rfl)
          have p8 : l 8 = true := hpre 8 (by kernel_rfl)
          obtain ⟨u_0, u_1, rfl, h1v⟩ := f6 p6
          obtain ⟨gb, rfl, hgb, hz⟩ := f8 p8
          have hz := hz hk
          refine step_store rfl 42 (.tmp 6) (.tmp 21) rfl (cs := [u_0, u_1]) (v := .agg #[u_0, u_1]) rfl His.out (by rw [ha]; kernel_rfl) (g := gb) (off := 0) (by rw [ha]; kernel_rfl) rfl h1v hz (by decide) ?_
          intro WF hP
          subst ha
          exact hK.out _ _ ⟨x0, x1, x2, x3, x4, x5, .agg #[u_0, u_1], x7, .pointer (some ⟨gb, 0, none⟩), x10, by kernel_rfl, fun h => absurd (updL_ne h (by decide)) (by rw [h12]; decide), fun h => absurd (updL_ne h (by decide)) (by rw [h12]; decide), fun _ => ⟨hB.trans (hP.below hgb), fun h => f0 (updL_ne h (by decide)), fun h => f1 (updL_ne h (by decide)), fun h => f2 (updL_ne h (by decide)), fun h => f3 (updL_ne h (by decide)), fun h => f4 (updL_ne h (by decide)), fun h => f5 (updL_ne h (by decide)), fun h => f6 (updL_ne h (by decide)), fun h => f7 (updL_ne h (by decide)), fun h => ⟨gb, rfl, hgb, fun q => absurd q (by simp [updL])⟩⟩⟩
        case s10 =>
          intro l a' w' hk hpre hJ K hK
          obtain ⟨x0, x1, x2, x3, x4, x5, x6, x7, x8, x10, ha, hall, hfin, hfs⟩ := hJ
          have h12 : l 10 = false := hk
          clear hall hfin
          obtain ⟨hB, f0, f1, f2, f3, f4, f5, f6, f7, f8⟩ := hfs h12
          clear hfs
          have p7 : l 7 = true := hpre 7 (by kernel_rfl)
          have p8 : l 8 = true := hpre 8 (by kernel_rfl)
          have p9 : l 9 = true := hpre 9 (by kernel_rfl)
          obtain rfl := f7 p7
          subst ha
          go_simp
          exact hK.out _ _ ⟨x0, x1, x2, x3, x4, x5, x6, .bool b, x8, .bool b, by kernel_rfl, fun _ => deep_all hpre (by kernel_rfl) _, fun _ => ⟨rfl, hB⟩, fun h => absurd h (by simp [updL])⟩
      case hend =>
        intro l a' w' hl hJ
        obtain ⟨x0, x1, x2, x3, x4, x5, x6, x7, x8, x10, ha, _, hfin, _⟩ := hJ
        simp [go_sem] at ha
        subst ha
        replace hfin := hfin (hl 10 (by decide))
        clear hl
        obtain ⟨rfl, hB⟩ := hfin
        have HB2 := hide (HW.out _ hB)
        clear hB
        cases b
        · have Hyes : Hid (symB g x = true) := hide (any_range hlt (bnot_f Hbn.out))
          go_wp2_with fail
          go_ret
          exact ⟨ret_bool (by rw [Hyes.out]), Hw.out _ HB2.out⟩
        · have Hno2 := hide (any_range_next Hno.out (bnot_t Hbn.out))
          go_wp2_with fail
          go_roundw
          case rel => exact ⟨n + 1, by omega, by go_num, Hno2, HB2⟩
          case measure => simp [intOf]; omega
    · have hnl : n = x.right.length + 1 := by omega
      have hj1 : ¬ (n : Int) < (x.right.length : Int) + 1 := by omega
      have hj2 : ¬ (n : Int) ≤ (x.right.length : Int) := by omega
      have Hall : Hid (symB g x = false) := hide (by unfold symB; rw [← hnl]; exact Hno.out)
      go_wp2_with fail
      go_ret
      exact ⟨ret_bool (by rw [Hall.out]), Hw.out _ hBr⟩
set_option maxRecDepth 100000 in
set_option maxHeartbeats 4000000 in
theorem s_l11Symbols (D : Nat) (g : Grm) (x : Rul) (cg cr : List Value) (Fg Fr : List Nat) (w : World) (hg : GrmR D w g cg Fg) (hr : RulR D w x cr Fr) (hbg : bulkGrm D g ≤ 1048576) (hbr : bulkRul D x ≤ 1048576) :
    Calls Tryz.prog 31 #[.agg cg.toArray, .agg cr.toArray] w fun en w' => en = .returned (.bool (!symB g x)) ∧ Below w.heap.size w w' := by
  have hrb := (bulk_rul hbr).1
  have LG := hide ((GrmR.good D).lt hg)
  have LR := hide ((RulR.good D).lt hr)
  obtain ⟨gc0, gc1, rfl⟩ := list2 ((GrmR.good D).len hg)
  obtain ⟨r0, r1, r2, r3, r4, r5, rfl⟩ := list_6 ((RulR.good D).len hr)
  obtain ⟨A2, k2, A4, k4, A5, k5, F4, F5, rfl, rfl, rfl, hs4, hs5, hn4, hn5⟩ := rul_open hr
  have Hg : Hid (∀ W : World, Below w.heap.size w W → GrmR D W g [gc0, gc1] Fg) := hide fun W hW => (GrmR.good D).below hg hW LG.out
  have Hr : Hid (∀ W : World, Below w.heap.size w W → RulR D W x [r0, r1, .slice A2 x.right.length k2, r3, .slice A4 x.eqs.length k4, .slice A5 x.cons.length k5] Fr) := hide fun W hW => (RulR.good D).below hr hW LR.out
  have L4 := hide (hs4.lt (EqnR.good D))
  have L5 := hide (hs5.lt (ConR.good D))
  have Hs4 : Hid (∀ W : World, Below w.heap.size w W → SlR 9 (EqnR D) W x.eqs (.slice A4 x.eqs.length k4) F4) := hide fun W hW => hs4.below (EqnR.good D) hW L4.out
  have Hs5 : Hid (∀ W : World, Below w.heap.size w W → SlR 16 (ConR D) W x.cons (.slice A5 x.cons.length k5) F5) := hide fun W hW => hs5.below (ConR.good D) hW L5.out
  have Hig : Hid ((Tryz.prog.info? 32).map (·.size) = some 2) := hide (by kernel_rfl)
  have Hir : Hid ((Tryz.prog.info? 50).map (·.size) = some 6) := hide (by kernel_rfl)
  have Hio : Hid ((Tryz.prog.info? 81).map (·.size) = some 2) := hide (by kernel_rfl)
  have Hiq : Hid ((Tryz.prog.info? 88).map (·.size) = some 9) := hide (by kernel_rfl)
  have His : Hid ((Tryz.prog.info? 42).map (·.size) = some 2) := hide (by kernel_rfl)
  have Hix : Hid ((Tryz.prog.info? 86).map (·.size) = some 7) := hide (by kernel_rfl)
  obtain ⟨CG, CR, hz0, hw0⟩ := boxes2 w [gc0, gc1] [r0, r1, .slice A2 x.right.length k2, r3, .slice A4 x.eqs.length k4, .slice A5 x.cons.length k5] 32 50
  show Calls _ _ #[.agg #[gc0, gc1], .agg #[r0, r1, .slice A2 x.right.length k2, r3, .slice A4 x.eqs.length k4, .slice A5 x.cons.length k5]] w _
  clear hg hr hs4 hs5
  go_enter Tryz.func31, Tryz.ntmps31
  go_wp2_with fail
  generalize (w.alloc (Obj.cells #[gc0, gc1] 32)).alloc (Obj.cells #[r0, r1, .slice A2 x.right.length k2, r3, .slice A4 x.eqs.length k4, .slice A5 x.cons.length k5] 50) = W0 at CG CR hz0 hw0 ⊢
  have hn0 : w.heap.size + 2 ≤ W0.heap.size := by omega
  have Hw : Hid (∀ W : World, Below (w.heap.size + 2) W0 W → Below w.heap.size w W) := hide fun W h => hw0.trans (h.mono (by omega))
  have HcG : Hid (∀ W : World, Below (w.heap.size + 2) W0 W → CellsAt W w.heap.size 0 [gc0, gc1]) := hide fun W h => CG.below h (by omega)
  have HcR : Hid (∀ W : World, Below (w.heap.size + 2) W0 W → CellsAt W (w.heap.size + 1) 0 [r0, r1, .slice A2 x.right.length k2, r3, .slice A4 x.eqs.length k4, .slice A5 x.cons.length k5]) := hide fun W h => CR.below h (by omega)
  have hB0 : Below (w.heap.size + 2) W0 W0 := Below.refl _ _
  have a0 := cell_rule CG (n := w.heap.size + 2) (by omega) 0 rfl
  have a1 := cell_rule CG (n := w.heap.size + 2) (by omega) 1 rfl
  have b0 := cell_rule CR (n := w.heap.size + 2) (by omega) 0 rfl
  have b1 := cell_rule CR (n := w.heap.size + 2) (by omega) 1 rfl
  have b2 := cell_rule CR (n := w.heap.size + 2) (by omega) 2 rfl
  have b3 := cell_rule CR (n := w.heap.size + 2) (by omega) 3 rfl
  have b4 := cell_rule CR (n := w.heap.size + 2) (by omega) 4 rfl
  have b5 := cell_rule CR (n := w.heap.size + 2) (by omega) 5 rfl
  have hBa0 : ∀ (W : World) (o : Obj), Below (w.heap.size + 2) W0 W → Below (w.heap.size + 2) W0 (W.alloc o) := fun W o h => below_alloc hn0 o h
  have Hz0 := hide hz0
  clear CG CR hz0 hw0
  have Hbg := hide hbg
  clear hbg hbr
  go_wp2_with fail
  go_loopw [5] (fun i wr => ∃ n : Nat, n ≤ x.right.length + 1 ∧ i = .int .i64 n ∧ Hid ((List.range n).any (noSym g x) = false) ∧ Hid (Below (w.heap.size + 2) W0 wr)) (fun i _ => x.right.length + 1 - (intOf i).toNat)
  case atStart => exact ⟨0, by omega, rfl, hide rfl, hide hB0⟩
  case round =>
    obtain ⟨n, hn, rfl, Hno, Hb⟩ := hrel
    have hBr := Hb.out
    have hbase : w.heap.size + 2 ≤ wr.heap.size := Nat.le_trans hn0 hBr.size
    by_cases hlt : n < x.right.length + 1
    · have hj0 : (0 : Int) ≤ (n : Int) := by omega
      have hj1 : (n : Int) < (x.right.length : Int) + 1 := by omega
      have hj2 : (n : Int) ≤ (x.right.length : Int) := by omega
      have hpos : (Lit.int .i64 (n : Int)).wf = true := by
        have e1 : IntKind.i64.min = -9223372036854775808 := rfl
        have e2 : IntKind.i64.max = 9223372036854775807 := rfl
        simp [Lit.wf, e1, e2]
        omega
      have HW : Hid (∀ W : World, Below wr.heap.size wr W → Below (w.heap.size + 2) W0 W) := hide fun W h => hBr.trans (h.mono hbase)
      obtain ⟨b, hb⟩ : ∃ b, b = (findS g.symbols (symAt x n)).isSome := ⟨_, rfl⟩
      have Hsa : Hid (∀ W : World, Below wr.heap.size wr W → Calls Tryz.prog 70 #[.agg #[r0, r1, .slice A2 x.right.length k2, r3, .slice A4 x.eqs.length k4, .slice A5 x.cons.length k5], .int .i64 (n : Int)] W fun en w' => en = .returned (.string (symAt x n)) ∧ Below W.heap.size W w') := hide fun W h => s_SymbolAt D x _ Fr W (Hr.out W (Hw.out W (HW.out W h))) (n : Int) hpos
      have Hfs : Hid (∀ W : World, Below wr.heap.size wr W → Calls Tryz.prog 69 #[.agg #[gc0, gc1], .string (symAt x n)] W fun en w' => ∃ u_0 u_1, en = .returned (.tuple #[.agg #[u_0, u_1], .bool b]) ∧ (∀ v ∈ ([u_0, u_1] : List Value), v.oneCell' = true) ∧ Below W.heap.size W w') := hide fun W h => hb ▸ s_fs D g _ Fg W (Hg.out W (Hw.out W (HW.out W h))) (symAt x n) Hbg.out
      have Hbn : Hid (b = !noSym g x n) := hide (by rw [hb]; unfold noSym; cases findS g.symbols (symAt x n) <;> rfl)
      generalize symAt x n = s at Hsa Hfs
      clear hb
      go_wp2_with fail
      refine region_invA (fun a0 l a' w' => ∃ x0 x1 x2 x3 x4 x5 x6 x7 x8 x10 : Value, a' = ((((((((((a0.put (some 16) x0).put (some 17) x1).put (some 18) x2).put (some 19) x3).put (some 20) x4).put (some 15) x5).put (some 21) x6).put (some 22) x7).put (some 6) x8).put (some 7) x10) ∧ (l 10 = true → ∀ i, i < 10 → l i = true) ∧ (l 10 = true → x10 = .bool b ∧ Below wr.heap.size wr w') ∧ (l 10 = false → Below wr.heap.size wr w' ∧ (l 0 = true → x0 = .agg #[gc0, gc1]) ∧ (l 1 = true → x1 = .agg #[r0, r1, .slice A2 x.right.length k2, r3, .slice A4 x.eqs.length k4, .slice A5 x.cons.length k5]) ∧ (l 2 = true → x2 = .int .i64 (n : Int)) ∧ (l 3 = true → x3 = .string s) ∧ (l 4 = true → (∃ u_0 u_1, x4 = .tuple #[.agg #[u_0, u_1], .bool b] ∧ (∀ v ∈ ([u_0, u_1] : List Value), v.oneCell' = true))) ∧ (l 5 = true → (∃ u_0 u_1, x5 = .tuple #[.agg #[u_0, u_1], .bool b] ∧ (∀ v ∈ ([u_0, u_1] : List Value), v.oneCell' = true))) ∧ (l 6 = true → (∃ u_0 u_1, x6 = .agg #[u_0, u_1] ∧ (∀ v ∈ ([u_0, u_1] : List Value), v.oneCell' = true))) ∧ (l 7 = true → (x7 = .bool b)) ∧ (l 8 = true → ((∃ gb, x8 = .pointer (some ⟨gb, 0, none⟩) ∧ wr.heap.size ≤ gb ∧ (l 9 = false → w'.heap[gb]? = some (.cells #[.string ⟨#[]⟩, .slice none 0 0] 42 (0, 0)))))))) rfl (by kernel_rfl) ?h0 ?hstep ?hend
      case h0 => exact ⟨u16, u17, u18, u19, u20, u15, u21, u22, u6, u7, by kernel_rfl, fun h => absurd h (by decide), fun h => absurd h (by decide), fun _ => ⟨(Below.refl _ _).drew, fun h => absurd h (by decide), fun h => absurd h (by decide), fun h => absurd h (by decide), fun h => absurd h (by decide), fun h => absurd h (by decide), fun h => absurd h (by decide), fun h => absurd h (by decide), fun h => absurd h (by decide), fun h => absurd h (by decide)⟩⟩
      case hstep =>
        refine ⟨?s0, ?s1, ?s2, ?s3, ?s4, ?s5, ?s6, ?s7, ?s8, ?s9, ?s10, trivial⟩
        case s0 =>
          intro l a' w' hk hpre hJ K hK
          obtain ⟨x0, x1, x2, x3, x4, x5, x6, x7, x8, x10, ha, hall, hfin, hfs⟩ := hJ
          have h12 : l 10 = false := upd_last hall hk (by decide)
          clear hall hfin
          obtain ⟨hB, f0, f1, f2, f3, f4, f5, f6, f7, f8⟩ := hfs h12
          clear hfs
          refine step_load rfl 32 (.tmp 2) rfl Tryz.underlying32 rfl (cs := [gc0, gc1]) (b := w.heap.size) (off := 0) Hig.out (by rw [ha]; kernel_rfl) rfl (HcG.out _ (HW.out _ hB)) ?_
          subst ha
          exact hK.out _ _ ⟨.agg #[gc0, gc1], x1, x2, x3, x4, x5, x6, x7, x8, x10, by kernel_rfl, fun h => absurd (updL_ne h (by decide)) (by rw [h12]; decide), fun h => absurd (updL_ne h (by decide)) (by rw [h12]; decide), fun _ => ⟨hB, fun _ => rfl, fun h => f1 (updL_ne h (by decide)), fun h => f2 (updL_ne h (by decide)), fun h => f3 (updL_ne h (by decide)), fun h => f4 (updL_ne h (by decide)), fun h => f5 (updL_ne h (by decide)), fun h => f6 (updL_ne h (by decide)), fun h => f7 (updL_ne h (by decide)), fun h => Exists.imp (fun _ h => ⟨h.1, h.2.1, fun q => (id) (h.2.2 (updL_f q))⟩) (f8 (updL_ne h (by decide)))⟩⟩
        case s1 =>
          intro l a' w' hk hpre hJ K hK
          obtain ⟨x0, x1, x2, x3, x4, x5, x6, x7, x8, x10, ha, hall, hfin, hfs⟩ := hJ
          have h12 : l 10 = false := upd_last hall hk (by decide)
          clear hall hfin
          obtain ⟨hB, f0, f1, f2, f3, f4, f5, f6, f7, f8⟩ := hfs h12
          clear hfs
          refine step_load rfl 50 (.tmp 3) rfl Tryz.underlying50 rfl (cs := [r0, r1, .slice A2 x.right.length k2, r3, .slice A4 x.eqs.length k4, .slice A5 x.cons.length k5]) (b := w.heap.size + 1) (off := 0) Hir.out (by rw [ha]; kernel_rfl) rfl (HcR.out _ (HW.out _ hB)) ?_
          subst ha
          exact hK.out _ _ ⟨x0, .agg #[r0, r1, .slice A2 x.right.length k2, r3, .slice A4 x.eqs.length k4, .slice A5 x.cons.length k5], x2, x3, x4, x5, x6, x7, x8, x10, by kernel_rfl, fun h => absurd (updL_ne h (by decide)) (by rw [h12]; decide), fun h => absurd (updL_ne h (by decide)) (by rw [h12]; decide), fun _ => ⟨hB, fun h => f0 (updL_ne h (by decide)), fun _ => rfl, fun h => f2 (updL_ne h (by decide)), fun h => f3 (updL_ne h (by decide)), fun h => f4 (updL_ne h (by decide)), fun h => f5 (updL_ne h (by decide)), fun h => f6 (updL_ne h (by decide)), fun h => f7 (updL_ne h (by decide)), fun h => Exists.imp (fun _ h => ⟨h.1, h.2.1, fun q => (id) (h.2.2 (updL_f q))⟩) (f8 (updL_ne h (by decide)))⟩⟩
        case s2 =>
          intro l a' w' hk hpre hJ K hK
          obtain ⟨x0, x1, x2, x3, x4, x5, x6, x7, x8, x10, ha, hall, hfin, hfs⟩ := hJ
          have h12 : l 10 = false := upd_last hall hk (by decide)
          clear hall hfin
          obtain ⟨hB, f0, f1, f2, f3, f4, f5, f6, f7, f8⟩ := hfs h12
          clear hfs
          subst ha
          go_simp
          exact hK.out _ _ ⟨x0, x1, .int .i64 (n : Int), x3, x4, x5, x6, x7, x8, x10, by kernel_rfl, fun h => absurd (updL_ne h (by decide)) (by rw [h12]; decide), fun h => absurd (updL_ne h (by decide)) (by rw [h12]; decide), fun _ => ⟨hB, fun h => f0 (updL_ne h (by decide)), fun h => f1 (updL_ne h (by decide)), fun _ => rfl, fun h => f3 (updL_ne h (by decide)), fun h => f4 (updL_ne h (by decide)), fun h => f5 (updL_ne h (by decide)), fun h => f6 (updL_ne h (by decide)), fun h => f7 (updL_ne h (by decide)), fun h => Exists.imp (fun _ h => ⟨h.1, h.2.1, fun q => (id) (h.2.2 (updL_f q))⟩) (f8 (updL_ne h (by decide)))⟩⟩
        case s3 =>
          intro l a' w' hk hpre hJ K hK
          obtain ⟨x0, x1, x2, x3, x4, x5, x6, x7, x8, x10, ha, hall, hfin, hfs⟩ := hJ
          have h12 : l 10 = false := upd_last hall hk (by decide)
          clear hall hfin
          obtain ⟨hB, f0, f1, f2, f3, f4, f5, f6, f7, f8⟩ := hfs h12
          clear hfs
          have p1 : l 1 = true := hpre 1 (by kernel_rfl)
          have p2 : l 2 = true := hpre 2 (by kernel_rfl)
          obtain rfl := f1 p1
          obtain rfl := f2 p2
          subst ha
          go_simp
          go_at_call 70
          refine Calls.mono (Hsa.out w' hB) ?_
          rintro en w2 ⟨rfl, hb2⟩
          exact hK.out _ _ ⟨x0, .agg #[r0, r1, .slice A2 x.right.length k2, r3, .slice A4 x.eqs.length k4, .slice A5 x.cons.length k5], .int .i64 (n : Int), .string s, x4, x5, x6, x7, x8, x10, by kernel_rfl, fun h => absurd (updL_ne h (by decide)) (by rw [h12]; decide), fun h => absurd (updL_ne h (by decide)) (by rw [h12]; decide), fun _ => ⟨hB.trans (hb2.mono hB.size), fun h => f0 (updL_ne h (by decide)), fun h => f1 (updL_ne h (by decide)), fun h => f2 (updL_ne h (by decide)), fun _ => rfl, fun h => f4 (updL_ne h (by decide)), fun h => f5 (updL_ne h (by decide)), fun h => f6 (updL_ne h (by decide)), fun h => f7 (updL_ne h (by decide)), fun h => Exists.imp (fun _ h => ⟨h.1, h.2.1, fun q => (fun z => blk_below z hb2 (blk_lt z)) (h.2.2 (updL_f q))⟩) (f8 (updL_ne h (by decide)))⟩⟩
        case s4 =>
          intro l a' w' hk hpre hJ K hK
          obtain ⟨x0, x1, x2, x3, x4, x5, x6, x7, x8, x10, ha, hall, hfin, hfs⟩ := hJ
          have h12 : l 10 = false := upd_last hall hk (by decide)
          clear hall hfin
          obtain ⟨hB, f0, f1, f2, f3, f4, f5, f6, f7, f8⟩ := hfs h12
          clear hfs
          have p0 : l 0 = true := hpre 0 (by kernel_rfl)
          have p3 : l 3 = true := hpre 3 (by kernel_rfl)
          obtain rfl := f0 p0
          obtain rfl := f3 p3
          subst ha
          go_simp
          go_at_call 69
          refine Calls.mono (Hfs.out w' hB) ?_
          rintro en w2 ⟨u_0, u_1, rfl, h1v, hb2⟩
          exact hK.out _ _ ⟨.agg #[gc0, gc1], x1, x2, .string s, .tuple #[.agg #[u_0, u_1], .bool b], x5, x6, x7, x8, x10, by kernel_rfl, fun h => absurd (updL_ne h (by decide)) (by rw [h12]; decide), fun h => absurd (updL_ne h (by decide)) (by rw [h12]; decide), fun _ => ⟨hB.trans (hb2.mono hB.size), fun h => f0 (updL_ne h (by decide)), fun h => f1 (updL_ne h (by decide)), fun h => f2 (updL_ne h (by decide)), fun h => f3 (updL_ne h (by decide)), fun _ => ⟨u_0, u_1, rfl, h1v⟩, fun h => f5 (updL_ne h (by decide)), fun h => f6 (updL_ne h (by decide)), fun h => f7 (updL_ne h (by decide)), fun h => Exists.imp (fun _ h => ⟨h.1, h.2.1, fun q => (fun z => blk_below z hb2 (blk_lt z)) (h.2.2 (updL_f q))⟩) (f8 (updL_ne h (by decide)))⟩⟩
        case s5 =>
          intro l a' w' hk hpre hJ K hK
          obtain ⟨x0, x1, x2, x3, x4, x5, x6, x7, x8, x10, ha, hall, hfin, hfs⟩ := hJ
          have h12 : l 10 = false := upd_last hall hk (by decide)
          clear hall hfin
          obtain ⟨hB, f0, f1, f2, f3, f4, f5, f6, f7, f8⟩ := hfs h12
          clear hfs
          have p4 : l 4 = true := hpre 4 (by kernel_rfl)
          obtain ⟨u_0, u_1, rfl, h1v⟩ := f4 p4
          subst ha
          go_simp
          exact hK.out _ _ ⟨x0, x1, x2, x3, .tuple #[.agg #[u_0, u_1], .bool b], .tuple #[.agg #[u_0, u_1], .bool b], x6, x7, x8, x10, by kernel_rfl, fun h => absurd (updL_ne h (by decide)) (by rw [h12]; decide), fun h => absurd (updL_ne h (by decide)) (by rw [h12]; decide), fun _ => ⟨hB, fun h => f0 (updL_ne h (by decide)), fun h => f1 (updL_ne h (by decide)), fun h => f2 (updL_ne h (by decide)), fun h => f3 (updL_ne h (by decide)), fun h => f4 (updL_ne h (by decide)), fun _ => ⟨u_0, u_1, rfl, h1v⟩, fun h => f6 (updL_ne h (by decide)), fun h => f7 (updL_ne h (by decide)), fun h => Exists.imp (fun _ h => ⟨h.1, h.2.1, fun q => (id) (h.2.2 (updL_f q))⟩) (f8 (updL_ne h (by decide)))⟩⟩
        case s6 =>
          intro l a' w' hk hpre hJ K hK
          obtain ⟨x0, x1, x2, x3, x4, x5, x6, x7, x8, x10, ha, hall, hfin, hfs⟩ := hJ
          have h12 : l 10 = false := upd_last hall hk (by decide)
          clear hall hfin
          obtain ⟨hB, f0, f1, f2, f3, f4, f5, f6, f7, f8⟩ := hfs h12
          clear hfs
          have p5 : l 5 = true := hpre 5 (by kernel_rfl)
          obtain ⟨u_0, u_1, rfl, h1v⟩ := f5 p5
          subst ha
          go_simp
          exact hK.out _ _ ⟨x0, x1, x2, x3, x4, .tuple #[.agg #[u_0, u_1], .bool b], .agg #[u_0, u_1], x7, x8, x10, by kernel_rfl, fun h => absurd (updL_ne h (by decide)) (by rw [h12]; decide), fun h => absurd (updL_ne h (by decide)) (by rw [h12]; decide), fun _ => ⟨hB, fun h => f0 (updL_ne h (by decide)), fun h => f1 (updL_ne h (by decide)), fun h => f2 (updL_ne h (by decide)), fun h => f3 (updL_ne h (by decide)), fun h => f4 (updL_ne h (by decide)), fun h => f5 (updL_ne h (by decide)), fun _ => ⟨u_0, u_1, rfl, h1v⟩, fun h => f7 (updL_ne h (by decide)), fun h => Exists.imp (fun _ h => ⟨h.1, h.2.1, fun q => (id) (h.2.2 (updL_f q))⟩) (f8 (updL_ne h (by decide)))⟩⟩
        case s7 =>
          intro l a' w' hk hpre hJ K hK
          obtain ⟨x0, x1, x2, x3, x4, x5, x6, x7, x8, x10, ha, hall, hfin, hfs⟩ := hJ
          have h12 : l 10 = false := upd_last hall hk (by decide)
          clear hall hfin
          obtain ⟨hB, f0, f1, f2, f3, f4, f5, f6, f7, f8⟩ := hfs h12
          clear hfs
          have p5 : l 5 = true := hpre 5 (by kernel_rfl)
          obtain ⟨u_0, u_1, rfl, h1v⟩ := f5 p5
          subst ha
          go_simp
          exact hK.out _ _ ⟨x0, x1, x2, x3, x4, .tuple #[.agg #[u_0, u_1], .bool b], x6, .bool b, x8, x10, by kernel_rfl, fun h => absurd (updL_ne h (by decide)) (by rw [h12]; decide), fun h => absurd (updL_ne h (by decide)) (by rw [h12]; decide), fun _ => ⟨hB, fun h => f0 (updL_ne h (by decide)), fun h => f1 (updL_ne h (by decide)), fun h => f2 (updL_ne h (by decide)), fun h => f3 (updL_ne h (by decide)), fun h => f4 (updL_ne h (by decide)), fun h => f5 (updL_ne h (by decide)), fun h => f6 (updL_ne h (by decide)), fun _ => rfl, fun h => Exists.imp (fun _ h => ⟨h.1, h.2.1, fun q => (id) (h.2.2 (updL_f q))⟩) (f8 (updL_ne h (by decide)))⟩⟩
        case s8 =>
          intro l a' w' hk hpre hJ K hK
          obtain ⟨x0, x1, x2, x3, x4, x5, x6, x7, x8, x10, ha, hall, hfin, hfs⟩ := hJ
          have h12 : l 10 = false := upd_last hall hk (by decide)
          clear hall hfin
          obtain ⟨hB, f0, f1, f2, f3, f4, f5, f6, f7, f8⟩ := hfs h12
          clear hfs
          subst ha
          go_simp
          exact hK.out _ _ ⟨x0, x1, x2, x3, x4, x5, x6, x7, .pointer (some ⟨w'.heap.size, 0, none⟩), x10, by kernel_rfl, fun h => absurd (updL_ne h (by decide)) (by rw [h12]; decide), fun h => absurd (updL_ne h (by decide)) (by rw [h12]; decide), fun _ => ⟨hB.alloc hB.size _, fun h => f0 (updL_ne h (by decide)), fun h => f1 (updL_ne h (by decide)), fun h => f2 (updL_ne h (by decide)), fun h => f3 (updL_ne h (by decide)), fun h => f4 (updL_ne h (by decide)), fun h => f5 (updL_ne h (by decide)), fun h => f6 (updL_ne h (by decide)), fun h => f7 (updL_ne h (by decide)), fun _ => ⟨_, rfl, hB.size, fun _ => heap_alloc_new w' _⟩⟩⟩
        case s9 =>
          intro l a' w' hk hpre hJ K hK
          obtain ⟨x0, x1, x2, x3, x4, x5, x6, x7, x8, x10, ha, hall, hfin, hfs⟩ := hJ
          have h12 : l 10 = false := upd_last hall hk (by decide)
          clear hall hfin
          obtain ⟨hB, f0, f1, f2, f3, f4, f5, f6, f7, f8⟩ := hfs h12
          clear hfs
          have p6 : l 6 = true := hpre 6 (by kernel_rfl)
          have p8 : l 8 = true := hpre 8 (by kernel_rfl)
          obtain ⟨u_0, u_1, rfl, h1v⟩ := f6 p6
          obtain ⟨gb, rfl, hgb, hz⟩ := f8 p8
          have hz := hz hk
          refine step_store rfl 42 (.tmp 6) (.tmp 21) rfl (cs := [u_0, u_1]) (v := .agg #[u_0, u_1]) rfl His.out (by rw [ha]; kernel_rfl) (g := gb) (off := 0) (by rw [ha]; kernel_rfl) rfl h1v hz (by decide) ?_
          intro WF hP
          subst ha
          exact hK.out _ _ ⟨x0, x1, x2, x3, x4, x5, .agg #[u_0, u_1], x7, .pointer (some ⟨gb, 0, none⟩), x10, by kernel_rfl, fun h => absurd (updL_ne h (by decide)) (by rw [h12]; decide), fun h => absurd (updL_ne h (by decide)) (by rw [h12]; decide), fun _ => ⟨hB.trans (hP.below hgb), fun h => f0 (updL_ne h (by decide)), fun h => f1 (updL_ne h (by decide)), fun h => f2 (updL_ne h (by decide)), fun h => f3 (updL_ne h (by decide)), fun h => f4 (updL_ne h (by decide)), fun h => f5 (updL_ne h (by decide)), fun h => f6 (updL_ne h (by decide)), fun h => f7 (updL_ne h (by decide)), fun h => ⟨gb, rfl, hgb, fun q => absurd q (by simp [updL])⟩⟩⟩
        case s10 =>
          intro l a' w' hk hpre hJ K hK
          obtain ⟨x0, x1, x2, x3, x4, x5, x6, x7, x8, x10, ha, hall, hfin, hfs⟩ := hJ
          have h12 : l 10 = false := hk
          clear hall hfin
          obtain ⟨hB, f0, f1, f2, f3, f4, f5, f6, f7, f8⟩ := hfs h12
          clear hfs
          have p7 : l 7 = true := hpre 7 (by kernel_rfl)
          have p8 : l 8 = true := hpre 8 (by kernel_rfl)
          have p9 : l 9 = true := hpre 9 (by kernel_rfl)
          obtain rfl := f7 p7
          subst ha
          go_simp
          exact hK.out _ _ ⟨x0, x1, x2, x3, x4, x5, x6, .bool b, x8, .bool b, by kernel_rfl, fun _ => deep_all hpre (by kernel_rfl) _, fun _ => ⟨rfl, hB⟩, fun h => absurd h (by simp [updL])⟩
      case hend =>
        intro l a' w' hl hJ
        obtain ⟨x0, x1, x2, x3, x4, x5, x6, x7, x8, x10, ha, _, hfin, _⟩ := hJ
        simp [go_sem] at ha
        subst ha
        replace hfin := hfin (hl 10 (by decide))
        clear hl
        obtain ⟨rfl, hB⟩ := hfin
        have HB2 := hide (HW.out _ hB)
        clear hB
        cases b
        · have Hyes : Hid (symB g x = true) := hide (any_range hlt (bnot_f Hbn.out))
          go_wp2_with fail
          go_ret
          exact ⟨ret_bool (by rw [Hyes.out]; rfl), Hw.out _ HB2.out⟩
        · have Hno2 := hide (any_range_next Hno.out (bnot_t Hbn.out))
          go_wp2_with fail
          go_roundw
          case rel => exact ⟨n + 1, by omega, by go_num, Hno2, HB2⟩
          case measure => simp [intOf]; omega
    · have hnl : n = x.right.length + 1 := by omega
      have hj1 : ¬ (n : Int) < (x.right.length : Int) + 1 := by omega
      have hj2 : ¬ (n : Int) ≤ (x.right.length : Int) := by omega
      have Hall : Hid (symB g x = false) := hide (by unfold symB; rw [← hnl]; exact Hno.out)
      go_wp2_with fail
      go_ret
      exact ⟨ret_bool (by rw [Hall.out]; rfl), Hw.out _ hBr⟩
end Go.Proofs.YthlhhnnlbpecnaaGreat
