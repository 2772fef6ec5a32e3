/- Several texts of one proof in one file: The closures of the shape check that compare names, places and modes, and the one that seeks an equation. The attributes that a rule must define: the program's. Conditions: each theorem names its own. -/
import Derived.Test.YthlhhnnlbpecnaaGreatGcsav
import Derived.Test.YthlhhnnlbpecnaaGreatGcsaj
import Derived.Test.YthlhhnnlbpecnaaGreatGcsar
import Derived.Test.YthlhhnnlbpecnaaGreatGcsal
import Derived.Deep.RegionHeld3
import Derived.Sort.AtCall

/- The closures of the shape check that compare names, places and modes, and the one that seeks an equation. Conditions: none beyond that the things can be read. -/
namespace Go.Proofs.YthlhhnnlbpecnaaGreat
set_option linter.unusedSimpArgs false
set_option linter.unusedVariables false
set_option maxRecDepth 100000
open Go.RowKit Go.WideShapes
set_option linter.unusedVariables false

theorem clo_sf1 (D : Nat) (y : Sym) (cs : List Value) (F : List Nat) (w : World) (h : SymR D w y cs F) (B : Nat) (an : ByteArray) (hB : w.cell? ⟨B, 0, none⟩ = some (.string an)) :
    Calls Tryz.prog 39 #[.agg cs.toArray, .pointer (some ⟨B, 0, none⟩)] w fun en w' => en = .returned (.bool (y.name.toList == an.toList)) ∧ Below w.heap.size w w' := by
  obtain ⟨c0, c1, rfl⟩ := list2 ((SymR.good D).len h)
  obtain rfl : c0 = .string y.name := Option.some.inj (by simpa using SymR.name h)
  have hlt := cell_lt hB
  simp only at hlt
  clear h
  show Calls _ _ #[.agg #[.string y.name, c1], .pointer (some ⟨B, 0, none⟩)] w _
  go_enter Tryz.func39, Tryz.ntmps39
  go_wp2_with fail
  go_ret
  exact ⟨rfl, (Below.refl _ _).alloc (Nat.le_refl _) _⟩
theorem clo_sf2 (D : Nat) (y : Rul) (cs : List Value) (F : List Nat) (w : World) (h : RulR D w y cs F) (B : Nat) (an : ByteArray) (hB : w.cell? ⟨B, 0, none⟩ = some (.string an)) :
    Calls Tryz.prog 42 #[.agg cs.toArray, .pointer (some ⟨B, 0, none⟩)] w fun en w' => en = .returned (.bool (y.name.toList == an.toList)) ∧ Below w.heap.size w w' := by
  obtain ⟨c0, c1, c2, c3, c4, c5, rfl⟩ := list_6 ((RulR.good D).len h)
  obtain rfl : c0 = .string y.name := Option.some.inj (by simpa using RulR.name h)
  have hlt := cell_lt hB
  simp only at hlt
  clear h
  show Calls _ _ #[.agg #[.string y.name, c1, c2, c3, c4, c5], .pointer (some ⟨B, 0, none⟩)] w _
  go_enter Tryz.func42, Tryz.ntmps42
  go_wp2_with fail
  go_ret
  exact ⟨rfl, (Below.refl _ _).alloc (Nat.le_refl _) _⟩
theorem clo_cs1 (D : Nat) (y : Atr) (cs : List Value) (F : List Nat) (w : World) (h : AtrR D w y cs F) :
    Calls Tryz.prog 19 #[.agg cs.toArray] w fun en w' => en = .returned (.bool (y.mode == 1)) ∧ Below w.heap.size w w' := by
  obtain ⟨c0, c1, c2, c3, rfl⟩ := list4 ((AtrR.good D).len h)
  obtain ⟨_, hk, h0, h1, h2, h3, rfl⟩ := h
  obtain rfl := Option.some.inj h0
  obtain rfl := Option.some.inj h1
  obtain rfl := Option.some.inj h2
  obtain rfl := Option.some.inj h3
  clear hk h0 h1 h2 h3
  show Calls _ _ #[.agg #[.string y.name, .int .i64 y.type, .int .i64 y.mode, .bool y.circ]] w _
  go_enter Tryz.func19, Tryz.ntmps19
  go_wp2_with fail
  go_ret
  exact ⟨rfl, (Below.refl _ _).alloc (Nat.le_refl _) _⟩
theorem eqn_open {D : Nat} {w : World} {y : Eqn} {cs : List Value} {F : List Nat} (h : EqnR D w y cs F) : ∃ c2 c3 c4 c5 c6 c7 c8, cs = [.int .i64 y.at_.pos, .string y.at_.name, c2, c3, c4, c5, c6, c7, c8] := by
  obtain ⟨c0, c1, c2, c3, c4, c5, c6, c7, c8, rfl⟩ := list_9 ((EqnR.good D).len h)
  obtain ⟨_, _, _, hO, _, _⟩ := h
  obtain ⟨_, _, r0, r1, _⟩ := hO
  obtain rfl : c0 = .int .i64 y.at_.pos := by simpa using r0
  obtain rfl : c1 = .string y.at_.name := by simpa using r1
  exact ⟨c2, c3, c4, c5, c6, c7, c8, rfl⟩
set_option maxRecDepth 100000 in
theorem clo_ms11 (D : Nat) (y : Eqn) (cs : List Value) (F : List Nat) (w : World) (h : EqnR D w y cs F) (B : Nat) (o : Occ) (hB0 : w.cell? ⟨B, 0, none⟩ = some (.int .i64 o.pos)) (hB1 : w.cell? ⟨B, 1, none⟩ = some (.string o.name)) :
    Calls Tryz.prog 50 #[.agg cs.toArray, .pointer (some ⟨B, 0, none⟩)] w fun en w' => en = .returned (.bool (eqOcc y.at_ o)) ∧ Below w.heap.size w w' := by
  obtain ⟨c2, c3, c4, c5, c6, c7, c8, rfl⟩ := eqn_open h
  have hlt := cell_lt hB0
  simp only at hlt
  have EQ : ∀ W : World, (binOp .eql 81 (.agg #[.int .i64 y.at_.pos, .string y.at_.name]) (.agg #[.int .i64 o.pos, .string o.name])).run Tryz.prog W = .ok (.bool (eqOcc y.at_ o)) W := fun W => run_eqlOcc _ _ _ _ W
  have EQ2 : ∀ W : World, (Op.equalIn 10000 81 (.agg #[.int .i64 y.at_.pos, .string y.at_.name]) (.agg #[.int .i64 o.pos, .string o.name])).run Tryz.prog W = .ok (eqOcc y.at_ o) W := fun W => run_eqOcc _ _ _ _ W
  clear h
  show Calls _ _ #[.agg #[.int .i64 y.at_.pos, .string y.at_.name, c2, c3, c4, c5, c6, c7, c8], .pointer (some ⟨B, 0, none⟩)] w _
  go_enter Tryz.func50, Tryz.ntmps50
  go_wp2_with fail
  go_ret
  exact ⟨rfl, (Below.refl _ _).alloc (Nat.le_refl _) _⟩
set_option maxRecDepth 100000 in
theorem clo_ex1 (D : Nat) (y : Eqn) (cs : List Value) (F : List Nat) (w : World) (h : EqnR D w y cs F) (B : Nat) (o : Occ) (hB0 : w.cell? ⟨B, 0, none⟩ = some (.int .i64 o.pos)) (hB1 : w.cell? ⟨B, 1, none⟩ = some (.string o.name)) :
    Calls Tryz.prog 52 #[.agg cs.toArray, .pointer (some ⟨B, 0, none⟩)] w fun en w' => en = .returned (.bool (eqOcc y.at_ o)) ∧ Below w.heap.size w w' := by
  obtain ⟨c2, c3, c4, c5, c6, c7, c8, rfl⟩ := eqn_open h
  have hlt := cell_lt hB0
  simp only at hlt
  have EQ : ∀ W : World, (binOp .eql 81 (.agg #[.int .i64 y.at_.pos, .string y.at_.name]) (.agg #[.int .i64 o.pos, .string o.name])).run Tryz.prog W = .ok (.bool (eqOcc y.at_ o)) W := fun W => run_eqlOcc _ _ _ _ W
  have EQ2 : ∀ W : World, (Op.equalIn 10000 81 (.agg #[.int .i64 y.at_.pos, .string y.at_.name]) (.agg #[.int .i64 o.pos, .string o.name])).run Tryz.prog W = .ok (eqOcc y.at_ o) W := fun W => run_eqOcc _ _ _ _ W
  clear h
  show Calls _ _ #[.agg #[.int .i64 y.at_.pos, .string y.at_.name, c2, c3, c4, c5, c6, c7, c8], .pointer (some ⟨B, 0, none⟩)] w _
  go_enter Tryz.func52, Tryz.ntmps52
  go_wp2_with fail
  go_ret
  exact ⟨rfl, (Below.refl _ _).alloc (Nat.le_refl _) _⟩
set_option maxRecDepth 100000 in
theorem clo_ms1 (D : Nat) (o : Occ) (cs : List Value) (F : List Nat) (w : World) (h : OccR D w o cs F) (B : Nat) (l : List Eqn) (A : Option Addr) (cap : Nat) (G : List Nat) (hB : w.cell? ⟨B, 4, none⟩ = some (.slice A l.length cap)) (hs : SlR 9 (EqnR D) w l (.slice A l.length cap) G) :
    Calls Tryz.prog 48 #[.agg cs.toArray, .pointer (some ⟨B, 0, none⟩)] w fun en w' => en = .returned (.bool (!hasQ l o)) ∧ Below w.heap.size w w' := by
  obtain ⟨c0, c1, rfl⟩ := list2 ((OccR.good D).len h)
  obtain ⟨_, _, r0, r1, _⟩ := h
  obtain rfl := Option.some.inj r0
  obtain rfl := Option.some.inj r1
  have hlt := cell_lt hB
  simp only at hlt
  have LG := hide (hs.lt (EqnR.good D))
  have Hs := hide hs
  obtain ⟨C, hz0, hw0⟩ := boxes1 w [.int .i64 o.pos, .string o.name] 81
  have hB4 := (hw0.cell (p := ⟨B, 4, none⟩) hlt).trans hB
  clear r0 r1 hs hB
  show Calls _ _ #[.agg #[.int .i64 o.pos, .string o.name], .pointer (some ⟨B, 0, none⟩)] w _
  go_enter Tryz.func48, Tryz.ntmps48
  go_wp2_with fail
  generalize (w.alloc (Obj.cells #[.int .i64 o.pos, .string o.name] 81)) = V1 at C hz0 hw0 hB4 ⊢
  have HCon : Hid (Calls Tryz.prog 49 #[.slice A l.length cap, .func (.func 50) #[] #[.pointer (some ⟨w.heap.size, 0, none⟩)]] V1 fun en w' => en = .returned (.bool (l.any fun e => eqOcc e.at_ o)) ∧ Below V1.heap.size V1 w') := hide
    (conA_Eqn1 (EqnR.good D) _ ent_missing_1_1 _ (fun e => eqOcc e.at_ o) l A cap G V1 (Hs.out.below (EqnR.good D) hw0 LG.out) fun W y cs Fk _ hW hR =>
      clo_ms11 D y cs Fk W hR _ o (by have := C.below hW (by omega) 0 _ rfl; exact this) (by have := C.below hW (by omega) 1 _ rfl; exact this))
  have Hw0 := hide hw0
  clear C hw0
  go_wp2_with fail
  refine Calls.mono HCon.out ?_
  rintro en w2 ⟨rfl, hb2⟩
  have HB2 : Hid (Below w.heap.size w w2) := hide (Hw0.out.trans (hb2.mono Hw0.out.size))
  clear hb2
  go_wp2_with fail
  go_ret
  exact ⟨rfl, HB2.out⟩
end Go.Proofs.YthlhhnnlbpecnaaGreat

/- The attributes that a rule must define: the program's. Conditions: grammar and rule have at most the size 2^20 each, and the list is not too long. -/
namespace Go.Proofs.YthlhhnnlbpecnaaGreat
set_option linter.unusedSimpArgs false
set_option linter.unusedVariables false
set_option maxRecDepth 100000
open Go.RowKit Go.WideShapes
set_option linter.unusedVariables false
set_option maxRecDepth 100000 in
set_option maxHeartbeats 8000000 in
theorem i_required (D : Nat) (g : Grm) (x : Rul) (cg cr : List Value) (Fg Fr : List Nat) (w : World) (hg : GrmR D w g cg Fg) (hr : RulR D w x cr Fr) (hbj : ReqJ D g x) :
    Calls Tryz.prog 47 #[.agg cg.toArray, .agg cr.toArray] w fun en w' => ∃ v' G, en = .returned v' ∧ SlR 2 (OccR D) w' (reqO g x) v' G ∧ Fresh w.heap.size w' G ∧ Below w.heap.size w w' := by
  have Hbk : Hid (bulkGrm D g ≤ 1048576) := hide hbj.grm
  have hrb : x.right.length ≤ 1048576 := (bulk_rul hbj.rul).1
  have Hbj := hide hbj
  have LG := hide ((GrmR.good D).lt hg)
  have LR := hide ((RulR.good D).lt hr)
  obtain ⟨p0, p1, rfl⟩ := list2 ((GrmR.good D).len hg)
  obtain ⟨r0, r1, r2, r3, r4, r5, rfl⟩ := list_6 ((RulR.good D).len hr)
  have Hg : Hid (∀ W : World, Below w.heap.size w W → GrmR D W g [p0, p1] Fg) := hide fun W hW => (GrmR.good D).below hg hW LG.out
  obtain ⟨A2, k2, hr2⟩ : ∃ A2 k2, r2 = .slice A2 x.right.length k2 := by
    obtain ⟨v2, _, _, _, _, _, _, _, _, _, ⟨h2, g2⟩, _⟩ := hr
    obtain ⟨A2, k2, h3, h4, h5⟩ := g2.form
    exact ⟨A2, k2, by rw [← h3]; exact Option.some.inj h2⟩
  subst hr2
  have Hr : Hid (∀ W : World, Below w.heap.size w W → RulR D W x [r0, r1, .slice A2 x.right.length k2, r3, r4, r5] Fr) := hide fun W hW => (RulR.good D).below hr hW LR.out
  obtain ⟨CG, CR, hz0, hw0⟩ := boxes2 w [p0, p1] [r0, r1, .slice A2 x.right.length k2, r3, r4, r5] 32 50
  show Calls _ _ #[.agg #[p0, p1], .agg #[r0, r1, .slice A2 x.right.length k2, r3, r4, r5]] w _
  have hia : (Tryz.prog.info? 44).map (·.size) = some 4 := by kernel_rfl
  have Hia := hide hia
  clear hg hr hbj hia
  go_enter Tryz.func47, Tryz.ntmps47
  go_wp2_with fail
  generalize (w.alloc (Obj.cells #[p0, p1] 32)).alloc (Obj.cells #[r0, r1, .slice A2 x.right.length k2, r3, r4, r5] 50) = W0 at CG CR hz0 hw0 ⊢
  have hn0 : w.heap.size + 2 ≤ W0.heap.size := by omega
  have Hw : Hid (∀ W : World, Below (w.heap.size + 2) W0 W → Below w.heap.size w W) := hide fun W h => hw0.trans (h.mono (by omega))
  have hB0 : Below (w.heap.size + 2) W0 W0 := Below.refl _ _
  have a0 := cell_rule CG (n := w.heap.size + 2) (by omega) 0 rfl
  have a1 := cell_rule CG (n := w.heap.size + 2) (by omega) 1 rfl
  have b0 := cell_rule CR (n := w.heap.size + 2) (by omega) 0 rfl
  have b1 := cell_rule CR (n := w.heap.size + 2) (by omega) 1 rfl
  have b2 := cell_rule CR (n := w.heap.size + 2) (by omega) 2 rfl
  have b3 := cell_rule CR (n := w.heap.size + 2) (by omega) 3 rfl
  have b4 := cell_rule CR (n := w.heap.size + 2) (by omega) 4 rfl
  have b5 := cell_rule CR (n := w.heap.size + 2) (by omega) 5 rfl
  have hBa0 : ∀ (W : World) (o : Obj), Below (w.heap.size + 2) W0 W → Below (w.heap.size + 2) W0 (W.alloc o) := fun W o h => below_alloc hn0 o h
  have Hz0 := hide hz0
  have N0 : ∀ W : World, (W.alloc (.cells #[.string ⟨#[]⟩, .slice none 0 0] 42)).cell? ⟨W.heap.size, 0, none⟩ = some (.string ⟨#[]⟩) := fun W => cell_of_row _ _ 0 _ _ _ (heap_alloc_new W _)
  have N1 : ∀ W : World, (W.alloc (.cells #[.string ⟨#[]⟩, .slice none 0 0] 42)).cell? ⟨W.heap.size, 1, none⟩ = some (.slice none 0 0) := fun W => cell_of_row _ _ 1 _ _ _ (heap_alloc_new W _)
  have M0 : ∀ W : World, (W.alloc (.cells #[.string ⟨#[]⟩, .slice none 0 0] 42)).frozen? ⟨W.heap.size, 0, none⟩ = false := fun W => frozen_of_row _ _ 0 _ _ (heap_alloc_new W _)
  have M1 : ∀ W : World, (W.alloc (.cells #[.string ⟨#[]⟩, .slice none 0 0] 42)).frozen? ⟨W.heap.size, 1, none⟩ = false := fun W => frozen_of_row _ _ 1 _ _ (heap_alloc_new W _)
  clear CG CR hz0 hw0
  go_wp2_with fail
  go_loopw [5, 17] (fun o i wr => ∃ n : Nat, n ≤ x.right.length + 1 ∧ i = .int .i64 n ∧ Hid (OwnS 2 (OccR D) (w.heap.size + 2) 81 wr (reqT g x n) o []) ∧ Hid (Below (w.heap.size + 2) W0 wr)) (fun _ i _ => x.right.length + 1 - (intOf i).toNat)
  case atStart => exact ⟨0, by omega, rfl, hide (show OwnS 2 (OccR D) _ _ _ [] _ [] from by have h := OwnS.made (n := 2) (R := OccR D) (e := 81) W0 hn0; rw [Hz0.out] at h; exact h), hide (hB0.alloc hn0 _)⟩
  case round =>
    obtain ⟨n, hn, rfl, Ho, Hb⟩ := hrel
    obtain ⟨wo, rfl⟩ : ∃ wo, wo = wr := ⟨_, rfl⟩
    have hBr := Hb.out
    by_cases hlt : n < x.right.length + 1
    · have hj0 : (0 : Int) ≤ (n : Int) := by omega
      have hj1 : (n : Int) < (x.right.length : Int) + 1 := by omega
      have hj2 : (n : Int) ≤ (x.right.length : Int) := by omega
      have hnn : n ≤ x.right.length := by omega
      have hpos : (Lit.int .i64 (n : Int)).wf = true := by
        have e1 : IntKind.i64.min = -9223372036854775808 := rfl
        have e2 : IntKind.i64.max = 9223372036854775807 := rfl
        simp [Lit.wf, e1, e2]
        omega
      have hbase : w.heap.size + 2 ≤ wo.heap.size := Nat.le_trans hn0 hBr.size
      have Hb2 : Hid (∀ W : World, Below wo.heap.size wo W → Below (w.heap.size + 2) W0 W) := hide fun W h => hBr.trans (h.mono hbase)
      have hR0 : Below wo.heap.size wo wo := Below.refl _ _
      obtain ⟨m, hm⟩ : ∃ m, dueMode n = m := ⟨_, rfl⟩
      have Hm := hide hm
      rcases Nat.eq_zero_or_pos n with h0 | h0
      · subst h0
        have hz0 : ((0 : Nat) : Int) = 0 := rfl
        obtain rfl : m = 2 := hm.symm.trans (dueMode_zero rfl)
        have hpos : (Lit.int .i64 (0 : Int)).wf = true := by decide
        clear hm hj0
        go_wp2_with fail
        go_region_held3 (fun W => Below (w.heap.size + 2) W0 W)
          (first | assumption | exact Below.drew (by assumption) | exact below_alloc hn0 _ (by assumption) | exact Below.drew (below_alloc hn0 _ (by assumption)) | exact below_set2 (by assumption) (by omega))
          (first
            | (go_at_call 45; refine Calls.mono (i_SymbolAt D x _ Fr _ (Hr.out _ (Hw.out _ (by (repeat (first | assumption | apply Below.drew | refine below_alloc hn0 _ ?_))))) (0 : Int) hpos) ?_; rintro en w1 ⟨rfl, hb1⟩; have hB1 : Below (w.heap.size + 2) W0 w1 := below_step (by (repeat (first | assumption | apply Below.drew | refine below_alloc hn0 _ ?_))) hn0 hb1; have hR1 : Below wo.heap.size wo w1 := below_step (by (repeat (first | assumption | apply Below.drew | refine below_alloc (Nat.le_refl _) _ ?_))) (Nat.le_refl _) hb1; have hz1 := hR1.size; (first | have zb1 := zbox hb1 | have zb1 := zboxd hb1 | skip); clear hb1)
            | (go_at_call 44; refine Calls.mono (i_findSymbol D g _ Fg _ (Hg.out _ (Hw.out _ (by (repeat (first | assumption | apply Below.drew | refine below_alloc hn0 _ ?_))))) (symAt x (0 : Int))) ?_; rintro en w2 ⟨us, F2, rfl, hR2', hF2, hb2⟩; generalize hX : (findS g.symbols (symAt x (0 : Int))).getD Sym.zero = X at hR2'; have HX := hide hX; clear hX; obtain ⟨A, cap, hus, HR2⟩ := sym_form hR2'; subst hus; have hB2 : Below (w.heap.size + 2) W0 w2 := below_step (by (repeat (first | assumption | apply Below.drew | refine below_alloc hn0 _ ?_))) hn0 hb2; have hR2 : Below wo.heap.size wo w2 := below_step (by (repeat (first | assumption | apply Below.drew | refine below_alloc (Nat.le_refl _) _ ?_))) (Nat.le_refl _) hb2; have hz2 := hR2.size
               (first | have zb2 := zcarry zb1 hb2 | have zb2 := zbox hb2 | have zb2 := zboxd hb2 | skip)
               (first
                 | (have q0 := cell_at (i := 0) zb2.1 (by simp); have q1 := cell_at (i := 1) zb2.1 (by simp); simp only [Array.getD_eq_getD_getElem?, List.getElem?_toArray, List.getElem?_cons_succ, List.getElem?_cons_zero, Option.getD_some] at q0 q1; have z0 := frozen_of_row w2 _ 0 _ _ zb2.1; have z1 := frozen_of_row w2 _ 1 _ _ zb2.1; (try simp only [drew_heap] at q0); (try simp only [drew_heap] at q1); (try simp only [drew_heap] at z0); (try simp only [drew_heap] at z1))
                 | skip)
               clear hb2))
        all_goals
          first
          | (have C : CellsAt _ w1.heap.size 0 _ := cells_set2 zb2.1 (.string X.name) (.slice A X.attrs.length cap)
             have hWF : ∀ k, k ≠ w1.heap.size → ((w2.setCell ⟨w1.heap.size, 0, none⟩ (.string X.name)).setCell ⟨w1.heap.size, 1, none⟩ (.slice A X.attrs.length cap)).heap[k]? = w2.heap[k]? := fun k hk => far_set2 _ _ _ _ _ hk
             have hne : ∀ k ∈ F2, k ≠ w1.heap.size := fun k hk => by have := LG.out k (hF2 k hk); omega
             have hsz : w2.heap.size ≤ ((w2.setCell ⟨w1.heap.size, 0, none⟩ (.string X.name)).setCell ⟨w1.heap.size, 1, none⟩ (.slice A X.attrs.length cap)).heap.size := by simp
             have hk2 : w1.heap.size < ((w2.setCell ⟨w1.heap.size, 0, none⟩ (.string X.name)).setCell ⟨w1.heap.size, 1, none⟩ (.slice A X.attrs.length cap)).heap.size := by have := zb2.2; simpa using this
             have hRF := below_set2 (u := .string X.name) (v := .slice A X.attrs.length cap) hR2 (g := w1.heap.size) (by omega)
             generalize ((w2.setCell ⟨w1.heap.size, 0, none⟩ (.string X.name)).setCell ⟨w1.heap.size, 1, none⟩ (.slice A X.attrs.length cap)) = WF at *
             generalize hkb : w1.heap.size = kb at C hWF hne hk2 ⊢
             have hk1 : wo.heap.size ≤ kb := by omega
             clear hkb
             have hFr := fun k (hk : k ∈ F2) => hWF k (hne k hk))
          | (have C : CellsAt _ wo.heap.size 0 _ := cells_set2 zb2.1 (.string X.name) (.slice A X.attrs.length cap)
             have hWF : ∀ k, k ≠ wo.heap.size → ((w2.setCell ⟨wo.heap.size, 0, none⟩ (.string X.name)).setCell ⟨wo.heap.size, 1, none⟩ (.slice A X.attrs.length cap)).heap[k]? = w2.heap[k]? := fun k hk => far_set2 _ _ _ _ _ hk
             have hne : ∀ k ∈ F2, k ≠ wo.heap.size := fun k hk => by have := LG.out k (hF2 k hk); omega
             have hsz : w2.heap.size ≤ ((w2.setCell ⟨wo.heap.size, 0, none⟩ (.string X.name)).setCell ⟨wo.heap.size, 1, none⟩ (.slice A X.attrs.length cap)).heap.size := by simp
             have hk2 : wo.heap.size < ((w2.setCell ⟨wo.heap.size, 0, none⟩ (.string X.name)).setCell ⟨wo.heap.size, 1, none⟩ (.slice A X.attrs.length cap)).heap.size := by have := zb2.2; simpa using this
             have hRF := below_set2 (u := .string X.name) (v := .slice A X.attrs.length cap) hR2 (g := wo.heap.size) (by omega)
             generalize ((w2.setCell ⟨wo.heap.size, 0, none⟩ (.string X.name)).setCell ⟨wo.heap.size, 1, none⟩ (.slice A X.attrs.length cap)) = WF at *
             generalize hkb : wo.heap.size = kb at C hWF hne hk2 ⊢
             have hk1 : wo.heap.size ≤ kb := by omega
             clear hkb
             have hFr := fun k (hk : k ∈ F2) => hWF k (hne k hk))
          | (have C := CellsAt.new w2 [.string X.name, .slice A X.attrs.length cap] 42
             have hB9 : Below w2.heap.size w2 (w2.alloc (Obj.cells #[.string X.name, .slice A X.attrs.length cap] 42)) := (Below.refl w2.heap.size w2).alloc (Nat.le_refl _) _
             have hFr : ∀ k ∈ F2, (w2.alloc (Obj.cells #[.string X.name, .slice A X.attrs.length cap] 42)).heap[k]? = w2.heap[k]? := fun k hk => hB9.block k ((SymR.good D).lt HR2.out.1 k hk)
             have hsz := hB9.size
             have hk2 : w2.heap.size < (w2.alloc (Obj.cells #[.string X.name, .slice A X.attrs.length cap] 42)).heap.size := by rw [World.size_alloc]; exact Nat.lt_succ_self _
             have hRF := below_alloc (Nat.le_refl _) (Obj.cells #[.string X.name, .slice A X.attrs.length cap] 42) hR2
             clear hB9
             generalize (w2.alloc (Obj.cells #[.string X.name, .slice A X.attrs.length cap] 42)) = WF at *
             generalize hkb : w2.heap.size = kb at C hk2 ⊢
             have hk1 : wo.heap.size ≤ kb := by omega
             clear hkb)
        all_goals
          have hF : Below (w.heap.size + 2) W0 WF := by assumption
          have s1 := C 1 _ rfl
          simp only [Nat.zero_add] at s1
          have hzF := hRF.size
          have hkc := HR2.out.2
          have hR9 := (SymR.good D).frame HR2.out.1 hFr hsz
          obtain ⟨v1, F1, _, hk9, h09, ⟨h19, g1⟩, hF9⟩ := hR9
          subst hF9
          obtain rfl := Option.some.inj h19
          have hl9 := g1.lt (AtrR.good D)
          have Hsl : Hid (∀ W : World, Below (w.heap.size + 2) W0 W → (∀ k, wo.heap.size ≤ k → k < WF.heap.size → W.heap[k]? = WF.heap[k]?) → WF.heap.size ≤ W.heap.size → SlR 4 (AtrR D) W X.attrs (.slice A X.attrs.length cap) F2) := hide fun W hW hr hz => g1.frame (AtrR.good D) (fun k hk => (hW.block k (by have := LG.out k (hF2 k hk); omega)).trans (hF.block k (by have := LG.out k (hF2 k hk); omega)).symm) hz
          have hal : X.attrs.length ≤ 9223372036854775807 := by have := hkc.1; have := hkc.2; unfold maxLen at this; omega
          have HF := hide hF
          have Hroom := hide fun j => req_room Hbj.out (n := 0) (by omega) HX.out 2 j
          have HRF := hide hRF
          have Ho0 := hide (Ho.out.below (OccR.good D) hRF)
          have Hbk0 := hide (Ho.out.blk)
          clear HR2 hkc hk9 h09 h19 g1 hl9 hF2 C hFr hRF
          go_wp2_with fail
          go_loopw [5, 33] (fun o i wr => ∃ j : Nat, j ≤ X.attrs.length ∧ i = .int .i64 j ∧ Hid (OwnS 2 (OccR D) (w.heap.size + 2) 81 wr (reqT g x 0 ++ dueP X.attrs 2 0 j) o []) ∧ Hid (Below (w.heap.size + 2) W0 wr) ∧ Hid (∀ k, wo.heap.size ≤ k → k < WF.heap.size → wr.heap[k]? = WF.heap[k]?) ∧ Hid (WF.heap.size ≤ wr.heap.size) ∧ Hid (∀ k, o.ownBlock = some k → k < wo.heap.size ∨ WF.heap.size ≤ k)) (fun _ i _ => X.attrs.length - (intOf i).toNat)
          case atStart => exact ⟨0, by omega, rfl, hide (by rw [dueP_zero, List.append_nil]; exact Ho0.out), HF, hide (fun _ _ _ => rfl), hide (Nat.le_refl _), hide (fun k hk => .inl (Hbk0.out k hk).2)⟩
          case round =>
            obtain ⟨j, hj, rfl, Hq, Hqb, Hqr, Hqz, Hqo⟩ := hrel
            have hQb := Hqb.out
            have hbq : w.heap.size + 2 ≤ wr.heap.size := Nat.le_trans hn0 hQb.size
            by_cases hlj : j < X.attrs.length
            · have hY : X.attrs[j]? = some X.attrs[j] := List.getElem?_eq_getElem hlj
              generalize X.attrs[j] = Y at hY
              obtain ⟨b, off, cs, Fk, hA, hbz, _, _, hcl, hcat, hRY⟩ := SlR.get (AtrR.good D) (Hsl.out wr hQb Hqr.out Hqz.out) hY
              subst hA
              obtain ⟨y0, y1, y2, y3, rfl⟩ := list4 hcl
              have H1 := hide (AtrR.one hRY)
              obtain ⟨_, hyk, h0, h1, h2, h3, _⟩ := hRY
              obtain rfl := Option.some.inj h0
              obtain rfl := Option.some.inj h1
              obtain rfl := Option.some.inj h2
              obtain rfl := Option.some.inj h3
              have HY := hide hY
              have Hyk := hide hyk
              have Hn4 : Hid (([.string Y.name, .int .i64 Y.type, .int .i64 Y.mode, .bool Y.circ] : List Value).length = 4) := hide rfl
              have Hc := hide hcat
              have p0 : wr.cell? ⟨b, off + j * 4, none⟩ = some (.string Y.name) := hcat 0 _ rfl
              have p2 : wr.cell? ⟨b, off + j * 4 + 2, none⟩ = some (.int .i64 Y.mode) := hcat 2 _ rfl
              have hj0 : (0 : Int) ≤ (j : Int) := by omega
              have hj1 : (j : Int) < (X.attrs.length : Int) := by omega
              clear hY hcl hcat hyk h0 h1 h2 h3 hbz
              go_wp2_with (first
                | refine wpList_load_at 44 (.tmp 35) rfl Tryz.underlying44 rfl Hia.out rfl rfl Hn4.out Hc.out ?_
                | (refine wpList_store_new 44 (.tmp 11) (.tmp 36) rfl Hia.out rfl rfl rfl rfl Hn4.out H1.out rfl ?_; refine hold ?_))
              have C := CellsAt.new wr [.string Y.name, .int .i64 Y.type, .int .i64 Y.mode, .bool Y.circ] 44
              have hz := World.size_alloc wr (Obj.cells #[.string Y.name, .int .i64 Y.type, .int .i64 Y.mode, .bool Y.circ] 44)
              have hwr : Below wr.heap.size wr (wr.alloc (Obj.cells #[.string Y.name, .int .i64 Y.type, .int .i64 Y.mode, .bool Y.circ] 44)) := (Below.refl _ _).alloc (Nat.le_refl _) _
              generalize wr.alloc (Obj.cells #[.string Y.name, .int .i64 Y.type, .int .i64 Y.mode, .bool Y.circ] 44) = V1 at C hz hwr ⊢
              have ex0 := cell_rule C (n := wr.heap.size + 1) (by omega) 0 rfl
              have ex2 := cell_rule C (n := wr.heap.size + 1) (by omega) 2 rfl
              have hVV : Below (wr.heap.size + 1) V1 V1 := Below.refl _ _
              have Hwr := hide hwr
              clear C hz hwr p0 p2
              refine Hold.go ?_
              have Hzv := hide Hwr.out.size
              by_cases hq : Y.mode = 2
              · have Hk := hide (dueP_keep (m := 2) (n := 0) HY.out hq)
                have hlen := Hroom.out j
                have Hpo : Hid ((⟨(0 : Int), Y.name⟩ : Occ).ok) := hide ⟨hpos, Hyk.out.name⟩
                go_wp2_with (at_builtin; refine app_ownS2 rfl (.tmp 41) (.tmp 46) 79 81 rfl Tryz.underlying79 infoOcc rfl (by decide) (OccR.good D) wr V1 (w.heap.size + 2) _ (reqT g x 0 ++ dueP X.attrs 2 0 j) [] Hq.out rfl Hwr.out ⟨(0 : Int), Y.name⟩ [.int .i64 (0 : Int), .string Y.name] [] ⟨rfl, Hpo.out, rfl, rfl, rfl⟩ (Fresh.nil _ _) (by simp [Value.oneCell']) rfl (by omega) (by omega) hbq ?_; intro v1 w3 hown hbl hkeep hgz hob; have Hown := hide hown; have Hbl := hide hbl; have Hkeep := hide hkeep; have Hgz := hide hgz; have Hob := hide hob; clear hown hbl hkeep hgz hob)
                go_roundw
                case rel =>
                  exact ⟨j + 1, by omega, by go_num, hide (by rw [Hk.out, ← List.append_assoc]; exact Hown.out), hide (Hqb.out.trans Hbl.out), hide (fun k h1 h2 => by
                    have h3 : V1.heap[k]? = wr.heap[k]? := Hwr.out.block k (by have := Hqz.out; omega)
                    have h4 := Hkeep.out k (by have := Hqz.out; have := Hzv.out; omega) (fun he => by have := Hqo.out k he; omega)
                    rw [h4, h3]
                    exact Hqr.out k h1 h2), hide (Nat.le_trans Hqz.out (Nat.le_trans Hzv.out Hgz.out)), hide (fun k hk => by
                    rcases Hob.out k hk with h5 | h5
                    · exact Hqo.out k h5
                    · have := Hqz.out; have := Hzv.out; omega)⟩
                case measure => simp [intOf]; omega
              · have Hk := hide (dueP_drop (m := 2) (n := 0) HY.out hq)
                have Hq1 := hide (Hq.out.below (OccR.good D) Hwr.out)
                go_wp2_with fail
                go_roundw
                case rel =>
                  exact ⟨j + 1, by omega, by go_num, hide (by rw [Hk.out]; exact Hq1.out), hide (Hqb.out.trans (Hwr.out.mono hbq)), hide (fun k h1 h2 => by
                    have h3 : V1.heap[k]? = wr.heap[k]? := Hwr.out.block k (by have := Hqz.out; omega)
                    rw [h3]
                    exact Hqr.out k h1 h2), hide (Nat.le_trans Hqz.out Hzv.out), Hqo⟩
                case measure => simp [intOf]; omega
            · have hjl : j = X.attrs.length := by omega
              subst hjl
              have Hfin : Hid (reqT g x (0 + 1) = reqT g x 0 ++ dueP X.attrs 2 0 X.attrs.length) := hide (by rw [reqT_succ, dueP_all HX.out Hm.out])
              skip
              go_wp2_with fail
              go_roundw
              case rel => exact ⟨0 + 1, by omega, by go_num, hide (by rw [Hfin.out]; exact Hq.out), Hqb⟩
              case measure => simp [intOf]
      · have hp : ¬ (n : Int) = 0 := by omega
        obtain rfl : m = 1 := hm.symm.trans (dueMode_pos (by omega))
        clear hm
        go_wp2_with fail
        go_region_held3 (fun W => Below (w.heap.size + 2) W0 W)
          (first | assumption | exact Below.drew (by assumption) | exact below_alloc hn0 _ (by assumption) | exact Below.drew (below_alloc hn0 _ (by assumption)) | exact below_set2 (by assumption) (by omega))
          (first
            | (go_at_call 45; refine Calls.mono (i_SymbolAt D x _ Fr _ (Hr.out _ (Hw.out _ (by (repeat (first | assumption | apply Below.drew | refine below_alloc hn0 _ ?_))))) (n : Int) hpos) ?_; rintro en w1 ⟨rfl, hb1⟩; have hB1 : Below (w.heap.size + 2) W0 w1 := below_step (by (repeat (first | assumption | apply Below.drew | refine below_alloc hn0 _ ?_))) hn0 hb1; have hR1 : Below wo.heap.size wo w1 := below_step (by (repeat (first | assumption | apply Below.drew | refine below_alloc (Nat.le_refl _) _ ?_))) (Nat.le_refl _) hb1; have hz1 := hR1.size; (first | have zb1 := zbox hb1 | have zb1 := zboxd hb1 | skip); clear hb1)
            | (go_at_call 44; refine Calls.mono (i_findSymbol D g _ Fg _ (Hg.out _ (Hw.out _ (by (repeat (first | assumption | apply Below.drew | refine below_alloc hn0 _ ?_))))) (symAt x (n : Int))) ?_; rintro en w2 ⟨us, F2, rfl, hR2', hF2, hb2⟩; generalize hX : (findS g.symbols (symAt x (n : Int))).getD Sym.zero = X at hR2'; have HX := hide hX; clear hX; obtain ⟨A, cap, hus, HR2⟩ := sym_form hR2'; subst hus; have hB2 : Below (w.heap.size + 2) W0 w2 := below_step (by (repeat (first | assumption | apply Below.drew | refine below_alloc hn0 _ ?_))) hn0 hb2; have hR2 : Below wo.heap.size wo w2 := below_step (by (repeat (first | assumption | apply Below.drew | refine below_alloc (Nat.le_refl _) _ ?_))) (Nat.le_refl _) hb2; have hz2 := hR2.size
               (first | have zb2 := zcarry zb1 hb2 | have zb2 := zbox hb2 | have zb2 := zboxd hb2 | skip)
               (first
                 | (have q0 := cell_at (i := 0) zb2.1 (by simp); have q1 := cell_at (i := 1) zb2.1 (by simp); simp only [Array.getD_eq_getD_getElem?, List.getElem?_toArray, List.getElem?_cons_succ, List.getElem?_cons_zero, Option.getD_some] at q0 q1; have z0 := frozen_of_row w2 _ 0 _ _ zb2.1; have z1 := frozen_of_row w2 _ 1 _ _ zb2.1; (try simp only [drew_heap] at q0); (try simp only [drew_heap] at q1); (try simp only [drew_heap] at z0); (try simp only [drew_heap] at z1))
                 | skip)
               clear hb2))
        all_goals
          first
          | (have C : CellsAt _ w1.heap.size 0 _ := cells_set2 zb2.1 (.string X.name) (.slice A X.attrs.length cap)
             have hWF : ∀ k, k ≠ w1.heap.size → ((w2.setCell ⟨w1.heap.size, 0, none⟩ (.string X.name)).setCell ⟨w1.heap.size, 1, none⟩ (.slice A X.attrs.length cap)).heap[k]? = w2.heap[k]? := fun k hk => far_set2 _ _ _ _ _ hk
             have hne : ∀ k ∈ F2, k ≠ w1.heap.size := fun k hk => by have := LG.out k (hF2 k hk); omega
             have hsz : w2.heap.size ≤ ((w2.setCell ⟨w1.heap.size, 0, none⟩ (.string X.name)).setCell ⟨w1.heap.size, 1, none⟩ (.slice A X.attrs.length cap)).heap.size := by simp
             have hk2 : w1.heap.size < ((w2.setCell ⟨w1.heap.size, 0, none⟩ (.string X.name)).setCell ⟨w1.heap.size, 1, none⟩ (.slice A X.attrs.length cap)).heap.size := by have := zb2.2; simpa using this
             have hRF := below_set2 (u := .string X.name) (v := .slice A X.attrs.length cap) hR2 (g := w1.heap.size) (by omega)
             generalize ((w2.setCell ⟨w1.heap.size, 0, none⟩ (.string X.name)).setCell ⟨w1.heap.size, 1, none⟩ (.slice A X.attrs.length cap)) = WF at *
             generalize hkb : w1.heap.size = kb at C hWF hne hk2 ⊢
             have hk1 : wo.heap.size ≤ kb := by omega
             clear hkb
             have hFr := fun k (hk : k ∈ F2) => hWF k (hne k hk))
          | (have C : CellsAt _ wo.heap.size 0 _ := cells_set2 zb2.1 (.string X.name) (.slice A X.attrs.length cap)
             have hWF : ∀ k, k ≠ wo.heap.size → ((w2.setCell ⟨wo.heap.size, 0, none⟩ (.string X.name)).setCell ⟨wo.heap.size, 1, none⟩ (.slice A X.attrs.length cap)).heap[k]? = w2.heap[k]? := fun k hk => far_set2 _ _ _ _ _ hk
             have hne : ∀ k ∈ F2, k ≠ wo.heap.size := fun k hk => by have := LG.out k (hF2 k hk); omega
             have hsz : w2.heap.size ≤ ((w2.setCell ⟨wo.heap.size, 0, none⟩ (.string X.name)).setCell ⟨wo.heap.size, 1, none⟩ (.slice A X.attrs.length cap)).heap.size := by simp
             have hk2 : wo.heap.size < ((w2.setCell ⟨wo.heap.size, 0, none⟩ (.string X.name)).setCell ⟨wo.heap.size, 1, none⟩ (.slice A X.attrs.length cap)).heap.size := by have := zb2.2; simpa using this
             have hRF := below_set2 (u := .string X.name) (v := .slice A X.attrs.length cap) hR2 (g := wo.heap.size) (by omega)
             generalize ((w2.setCell ⟨wo.heap.size, 0, none⟩ (.string X.name)).setCell ⟨wo.heap.size, 1, none⟩ (.slice A X.attrs.length cap)) = WF at *
             generalize hkb : wo.heap.size = kb at C hWF hne hk2 ⊢
             have hk1 : wo.heap.size ≤ kb := by omega
             clear hkb
             have hFr := fun k (hk : k ∈ F2) => hWF k (hne k hk))
          | (have C := CellsAt.new w2 [.string X.name, .slice A X.attrs.length cap] 42
             have hB9 : Below w2.heap.size w2 (w2.alloc (Obj.cells #[.string X.name, .slice A X.attrs.length cap] 42)) := (Below.refl w2.heap.size w2).alloc (Nat.le_refl _) _
             have hFr : ∀ k ∈ F2, (w2.alloc (Obj.cells #[.string X.name, .slice A X.attrs.length cap] 42)).heap[k]? = w2.heap[k]? := fun k hk => hB9.block k ((SymR.good D).lt HR2.out.1 k hk)
             have hsz := hB9.size
             have hk2 : w2.heap.size < (w2.alloc (Obj.cells #[.string X.name, .slice A X.attrs.length cap] 42)).heap.size := by rw [World.size_alloc]; exact Nat.lt_succ_self _
             have hRF := below_alloc (Nat.le_refl _) (Obj.cells #[.string X.name, .slice A X.attrs.length cap] 42) hR2
             clear hB9
             generalize (w2.alloc (Obj.cells #[.string X.name, .slice A X.attrs.length cap] 42)) = WF at *
             generalize hkb : w2.heap.size = kb at C hk2 ⊢
             have hk1 : wo.heap.size ≤ kb := by omega
             clear hkb)
        all_goals
          have hF : Below (w.heap.size + 2) W0 WF := by assumption
          have s1 := C 1 _ rfl
          simp only [Nat.zero_add] at s1
          have hzF := hRF.size
          have hkc := HR2.out.2
          have hR9 := (SymR.good D).frame HR2.out.1 hFr hsz
          obtain ⟨v1, F1, _, hk9, h09, ⟨h19, g1⟩, hF9⟩ := hR9
          subst hF9
          obtain rfl := Option.some.inj h19
          have hl9 := g1.lt (AtrR.good D)
          have Hsl : Hid (∀ W : World, Below (w.heap.size + 2) W0 W → (∀ k, wo.heap.size ≤ k → k < WF.heap.size → W.heap[k]? = WF.heap[k]?) → WF.heap.size ≤ W.heap.size → SlR 4 (AtrR D) W X.attrs (.slice A X.attrs.length cap) F2) := hide fun W hW hr hz => g1.frame (AtrR.good D) (fun k hk => (hW.block k (by have := LG.out k (hF2 k hk); omega)).trans (hF.block k (by have := LG.out k (hF2 k hk); omega)).symm) hz
          have hal : X.attrs.length ≤ 9223372036854775807 := by have := hkc.1; have := hkc.2; unfold maxLen at this; omega
          have HF := hide hF
          have Hroom := hide fun j => req_room Hbj.out (n := n) (by omega) HX.out 1 j
          have HRF := hide hRF
          have Ho0 := hide (Ho.out.below (OccR.good D) hRF)
          have Hbk0 := hide (Ho.out.blk)
          clear HR2 hkc hk9 h09 h19 g1 hl9 hF2 C hFr hRF
          go_wp2_with fail
          clear hp h0
          generalize ((n : Int) == 0) = tb
          go_loopw [5, 33] (fun o i wr => ∃ j : Nat, j ≤ X.attrs.length ∧ i = .int .i64 j ∧ Hid (OwnS 2 (OccR D) (w.heap.size + 2) 81 wr (reqT g x n ++ dueP X.attrs 1 n j) o []) ∧ Hid (Below (w.heap.size + 2) W0 wr) ∧ Hid (∀ k, wo.heap.size ≤ k → k < WF.heap.size → wr.heap[k]? = WF.heap[k]?) ∧ Hid (WF.heap.size ≤ wr.heap.size) ∧ Hid (∀ k, o.ownBlock = some k → k < wo.heap.size ∨ WF.heap.size ≤ k)) (fun _ i _ => X.attrs.length - (intOf i).toNat)
          case atStart => exact ⟨0, by omega, rfl, hide (by rw [dueP_zero, List.append_nil]; exact Ho0.out), HF, hide (fun _ _ _ => rfl), hide (Nat.le_refl _), hide (fun k hk => .inl (Hbk0.out k hk).2)⟩
          case round =>
            obtain ⟨j, hj, rfl, Hq, Hqb, Hqr, Hqz, Hqo⟩ := hrel
            have hQb := Hqb.out
            have hbq : w.heap.size + 2 ≤ wr.heap.size := Nat.le_trans hn0 hQb.size
            by_cases hlj : j < X.attrs.length
            · have hY : X.attrs[j]? = some X.attrs[j] := List.getElem?_eq_getElem hlj
              generalize X.attrs[j] = Y at hY
              obtain ⟨b, off, cs, Fk, hA, hbz, _, _, hcl, hcat, hRY⟩ := SlR.get (AtrR.good D) (Hsl.out wr hQb Hqr.out Hqz.out) hY
              subst hA
              obtain ⟨y0, y1, y2, y3, rfl⟩ := list4 hcl
              have H1 := hide (AtrR.one hRY)
              obtain ⟨_, hyk, h0, h1, h2, h3, _⟩ := hRY
              obtain rfl := Option.some.inj h0
              obtain rfl := Option.some.inj h1
              obtain rfl := Option.some.inj h2
              obtain rfl := Option.some.inj h3
              have HY := hide hY
              have Hyk := hide hyk
              have Hn4 : Hid (([.string Y.name, .int .i64 Y.type, .int .i64 Y.mode, .bool Y.circ] : List Value).length = 4) := hide rfl
              have Hc := hide hcat
              have p0 : wr.cell? ⟨b, off + j * 4, none⟩ = some (.string Y.name) := hcat 0 _ rfl
              have p2 : wr.cell? ⟨b, off + j * 4 + 2, none⟩ = some (.int .i64 Y.mode) := hcat 2 _ rfl
              have hj0 : (0 : Int) ≤ (j : Int) := by omega
              have hj1 : (j : Int) < (X.attrs.length : Int) := by omega
              clear hY hcl hcat hyk h0 h1 h2 h3 hbz
              go_wp2_with (first
                | refine wpList_load_at 44 (.tmp 35) rfl Tryz.underlying44 rfl Hia.out rfl rfl Hn4.out Hc.out ?_
                | (refine wpList_store_new 44 (.tmp 11) (.tmp 36) rfl Hia.out rfl rfl rfl rfl Hn4.out H1.out rfl ?_; refine hold ?_))
              have C := CellsAt.new wr [.string Y.name, .int .i64 Y.type, .int .i64 Y.mode, .bool Y.circ] 44
              have hz := World.size_alloc wr (Obj.cells #[.string Y.name, .int .i64 Y.type, .int .i64 Y.mode, .bool Y.circ] 44)
              have hwr : Below wr.heap.size wr (wr.alloc (Obj.cells #[.string Y.name, .int .i64 Y.type, .int .i64 Y.mode, .bool Y.circ] 44)) := (Below.refl _ _).alloc (Nat.le_refl _) _
              generalize wr.alloc (Obj.cells #[.string Y.name, .int .i64 Y.type, .int .i64 Y.mode, .bool Y.circ] 44) = V1 at C hz hwr ⊢
              have ex0 := cell_rule C (n := wr.heap.size + 1) (by omega) 0 rfl
              have ex2 := cell_rule C (n := wr.heap.size + 1) (by omega) 2 rfl
              have hVV : Below (wr.heap.size + 1) V1 V1 := Below.refl _ _
              have Hwr := hide hwr
              clear C hz hwr p0 p2
              refine Hold.go ?_
              have Hzv := hide Hwr.out.size
              by_cases hq : Y.mode = 1
              · have Hk := hide (dueP_keep (m := 1) (n := n) HY.out hq)
                have hlen := Hroom.out j
                have Hpo : Hid ((⟨(n : Int), Y.name⟩ : Occ).ok) := hide ⟨hpos, Hyk.out.name⟩
                go_wp2_with (at_builtin; refine app_ownS2 rfl (.tmp 41) (.tmp 46) 79 81 rfl Tryz.underlying79 infoOcc rfl (by decide) (OccR.good D) wr V1 (w.heap.size + 2) _ (reqT g x n ++ dueP X.attrs 1 n j) [] Hq.out rfl Hwr.out ⟨(n : Int), Y.name⟩ [.int .i64 (n : Int), .string Y.name] [] ⟨rfl, Hpo.out, rfl, rfl, rfl⟩ (Fresh.nil _ _) (by simp [Value.oneCell']) rfl (by omega) (by omega) hbq ?_; intro v1 w3 hown hbl hkeep hgz hob; have Hown := hide hown; have Hbl := hide hbl; have Hkeep := hide hkeep; have Hgz := hide hgz; have Hob := hide hob; clear hown hbl hkeep hgz hob)
                go_roundw
                case rel =>
                  exact ⟨j + 1, by omega, by go_num, hide (by rw [Hk.out, ← List.append_assoc]; exact Hown.out), hide (Hqb.out.trans Hbl.out), hide (fun k h1 h2 => by
                    have h3 : V1.heap[k]? = wr.heap[k]? := Hwr.out.block k (by have := Hqz.out; omega)
                    have h4 := Hkeep.out k (by have := Hqz.out; have := Hzv.out; omega) (fun he => by have := Hqo.out k he; omega)
                    rw [h4, h3]
                    exact Hqr.out k h1 h2), hide (Nat.le_trans Hqz.out (Nat.le_trans Hzv.out Hgz.out)), hide (fun k hk => by
                    rcases Hob.out k hk with h5 | h5
                    · exact Hqo.out k h5
                    · have := Hqz.out; have := Hzv.out; omega)⟩
                case measure => simp [intOf]; omega
              · have Hk := hide (dueP_drop (m := 1) (n := n) HY.out hq)
                have Hq1 := hide (Hq.out.below (OccR.good D) Hwr.out)
                go_wp2_with fail
                go_roundw
                case rel =>
                  exact ⟨j + 1, by omega, by go_num, hide (by rw [Hk.out]; exact Hq1.out), hide (Hqb.out.trans (Hwr.out.mono hbq)), hide (fun k h1 h2 => by
                    have h3 : V1.heap[k]? = wr.heap[k]? := Hwr.out.block k (by have := Hqz.out; omega)
                    rw [h3]
                    exact Hqr.out k h1 h2), hide (Nat.le_trans Hqz.out Hzv.out), Hqo⟩
                case measure => simp [intOf]; omega
            · have hjl : j = X.attrs.length := by omega
              subst hjl
              have Hfin : Hid (reqT g x (n + 1) = reqT g x n ++ dueP X.attrs 1 n X.attrs.length) := hide (by rw [reqT_succ, dueP_all HX.out Hm.out])
              skip
              go_wp2_with fail
              go_roundw
              case rel => exact ⟨n + 1, by omega, by go_num, hide (by rw [Hfin.out]; exact Hq.out), Hqb⟩
              case measure => simp [intOf]; omega
    · have hnl : n = x.right.length + 1 := by omega
      have hj1 : ¬ (n : Int) < (x.right.length : Int) + 1 := by omega
      have hj2 : ¬ (n : Int) ≤ (x.right.length : Int) := by omega
      go_wp2_with fail
      go_ret
      have h := Ho.out
      rw [hnl] at h
      obtain ⟨G, h1, h2⟩ := h.slr (OccR.good D)
      exact ⟨_, rfl, G, h1, h2.mono (by omega), Hw.out _ hBr⟩
end Go.Proofs.YthlhhnnlbpecnaaGreat
