/- May an equation use an occurrence: the reference's. Conditions: the grammar has at most the size 2^20. -/
import Derived.Test.YthifibjkgiggfaaMayI
namespace Go.Proofs.Ythifibjkgiggfaa
set_option maxRecDepth 100000
open Go.RowKit Go.WideShapes
set_option linter.unusedVariables false
set_option maxRecDepth 100000 in
set_option maxHeartbeats 4000000 in
theorem s_MayUse (D : Nat) (g : Grm) (x : Rul) (y : Occ) (cg cr co : List Value) (Fg Fr Fo : List Nat) (w : World) (hg : GrmR D w g cg Fg) (hr : RulR D w x cr Fr) (ho : OccR D w y co Fo) (hbk : bulkGrm D g ≤ 1048576) :
    Calls Try.prog 53 #[.agg cg.toArray, .agg cr.toArray, .agg co.toArray] w fun en w' => en = .returned (.bool (mayU g x y)) ∧ Below w.heap.size w w' := by
  have Hbk := hide hbk
  clear hbk
  have LG := hide ((GrmR.good D).lt hg)
  have LR := hide ((RulR.good D).lt hr)
  obtain ⟨p0, p1, rfl⟩ := list2 ((GrmR.good D).len hg)
  obtain ⟨r0, r1, r2, r3, r4, r5, rfl⟩ := list_6 ((RulR.good D).len hr)
  obtain ⟨q0, q1, rfl⟩ := list2 ((OccR.good D).len ho)
  obtain ⟨_, hok, o0, o1, rfl⟩ := ho
  obtain rfl := Option.some.inj o0
  obtain rfl := Option.some.inj o1
  have Hg : Hid (∀ W : World, Below w.heap.size w W → GrmR D W g [p0, p1] Fg) := hide fun W hW => (GrmR.good D).below hg hW LG.out
  have Hr : Hid (∀ W : World, Below w.heap.size w W → RulR D W x [r0, r1, r2, r3, r4, r5] Fr) := hide fun W hW => (RulR.good D).below hr hW LR.out
  obtain ⟨A2, k2, hr2, hlc, hcm⟩ : ∃ A2 k2, r2 = .slice A2 x.right.length k2 ∧ x.right.length ≤ k2 ∧ k2 ≤ maxLen := by
    obtain ⟨v2, _, _, _, _, _, _, _, _, _, ⟨h2, g2⟩, _⟩ := hr
    obtain ⟨A2, k2, h3, h4, h5⟩ := g2.form
    exact ⟨A2, k2, by rw [← h3]; exact Option.some.inj h2, h4, h5⟩
  subst hr2
  unfold maxLen at hcm
  have Hok := hide hok
  have hpos := hok.pos
  have hrl : x.right.length ≤ 9223372036854775807 := by omega
  obtain ⟨CG, CR, CO, hz0, hw0⟩ := boxes3 w [p0, p1] [r0, r1, .slice A2 x.right.length k2, r3, r4, r5] [.int .i64 y.pos, .string y.name] 69 39 41
  show Calls _ _ #[.agg #[p0, p1], .agg #[r0, r1, .slice A2 x.right.length k2, r3, r4, r5], .agg #[.int .i64 y.pos, .string y.name]] w _
  clear hg hr hok o0 o1 hlc hcm
  have H1z : Hid (∀ v ∈ ([.string ⟨#[]⟩, .int .i64 0, .int .i64 0, .bool false] : List Value), v.oneCell' = true) := hide (AtrR.one (AtrR.zero D w))
  have hia : (Try.prog.info? 128).map (·.size) = some 4 := by kernel_rfl
  have Hia := hide hia
  clear hia
  by_cases hin : 0 ≤ y.pos ∧ y.pos ≤ x.right.length
  case neg =>
    have hin2 := inR_no hin
    have Hat : Hid (mayU g x y = false) := hide (by unfold mayU attrAt; rw [if_neg hin])
    clear hin
    go_enter Try.func53, Try.ntmps53
    go_wp2_with fail
    generalize ((w.alloc (Obj.cells #[p0, p1] 69)).alloc (Obj.cells #[r0, r1, .slice A2 x.right.length k2, r3, r4, r5] 39)).alloc (Obj.cells #[.int .i64 y.pos, .string y.name] 41) = W0 at CG CR CO hz0 hw0 ⊢
    have b2 := cell_rule CR (n := w.heap.size + 3) (by omega) 2 rfl
    have c0 := cell_rule CO (n := w.heap.size + 3) (by omega) 0 rfl
    have hB0 : Below (w.heap.size + 3) W0 W0 := Below.refl _ _
    have Hw0 := hide hw0
    clear CG CR CO hw0
    go_wp2_with (go_at_call 77; refine (s_l1In _ _ _ _).mono ?_; rintro e w' ⟨rfl, rfl⟩)
    go_ret
    exact ⟨by rw [Hat.out]; rfl, Hw0.out⟩
  have Hat : Hid (attrAt g x y = findA ((findS g.symbols (symAt x y.pos)).getD Sym.zero).attrs y.name) := hide (by unfold attrAt; rw [if_pos hin])
  have hin2 := inR_yes hin
  go_enter Try.func53, Try.ntmps53
  go_wp2_with fail
  generalize ((w.alloc (Obj.cells #[p0, p1] 69)).alloc (Obj.cells #[r0, r1, .slice A2 x.right.length k2, r3, r4, r5] 39)).alloc (Obj.cells #[.int .i64 y.pos, .string y.name] 41) = W0 at CG CR CO hz0 hw0 ⊢
  have hn0 : w.heap.size + 3 ≤ W0.heap.size := by omega
  have Hw : Hid (∀ W : World, Below (w.heap.size + 3) W0 W → Below w.heap.size w W) := hide fun W h => hw0.trans (h.mono (by omega))
  have hB0 : Below (w.heap.size + 3) W0 W0 := Below.refl _ _
  have a0 := cell_rule CG (n := w.heap.size + 3) (by omega) 0 rfl
  have a1 := cell_rule CG (n := w.heap.size + 3) (by omega) 1 rfl
  have b0 := cell_rule CR (n := w.heap.size + 3) (by omega) 0 rfl
  have b1 := cell_rule CR (n := w.heap.size + 3) (by omega) 1 rfl
  have b2 := cell_rule CR (n := w.heap.size + 3) (by omega) 2 rfl
  have b3 := cell_rule CR (n := w.heap.size + 3) (by omega) 3 rfl
  have b4 := cell_rule CR (n := w.heap.size + 3) (by omega) 4 rfl
  have b5 := cell_rule CR (n := w.heap.size + 3) (by omega) 5 rfl
  have c0 := cell_rule CO (n := w.heap.size + 3) (by omega) 0 rfl
  have c1 := cell_rule CO (n := w.heap.size + 3) (by omega) 1 rfl
  clear CG CR CO hz0 hw0
  have N0 : ∀ W : World, (W.alloc (.cells #[.string ⟨#[]⟩, .slice none 0 0] 79)).cell? ⟨W.heap.size, 0, none⟩ = some (.string ⟨#[]⟩) := fun W => cell_of_row _ _ 0 _ _ _ (heap_alloc_new W _)
  have N1 : ∀ W : World, (W.alloc (.cells #[.string ⟨#[]⟩, .slice none 0 0] 79)).cell? ⟨W.heap.size, 1, none⟩ = some (.slice none 0 0) := fun W => cell_of_row _ _ 1 _ _ _ (heap_alloc_new W _)
  have M0 : ∀ W : World, (W.alloc (.cells #[.string ⟨#[]⟩, .slice none 0 0] 79)).frozen? ⟨W.heap.size, 0, none⟩ = false := fun W => frozen_of_row _ _ 0 _ _ (heap_alloc_new W _)
  have M1 : ∀ W : World, (W.alloc (.cells #[.string ⟨#[]⟩, .slice none 0 0] 79)).frozen? ⟨W.heap.size, 1, none⟩ = false := fun W => frozen_of_row _ _ 1 _ _ (heap_alloc_new W _)
  go_wp2_with (go_at_call 77; refine (s_l1In _ _ _ _).mono ?_; rintro e w' ⟨rfl, rfl⟩)
  go_region_held3 (fun W => Below (w.heap.size + 3) W0 W)
    (first | assumption | exact Below.drew (by assumption) | exact below_alloc hn0 _ (by assumption) | exact Below.drew (below_alloc hn0 _ (by assumption)) | exact below_set2 (by assumption) (by omega))
    (first
      | (go_at_call 118; refine Calls.mono (s_SymbolAt D x _ Fr _ (Hr.out _ (Hw.out _ (by (repeat (first | assumption | exact Below.refl _ _ | apply Below.drew | refine below_alloc (by omega) _ ?_))))) y.pos hpos) ?_; rintro en w1 ⟨rfl, hb1⟩; have hB1 : Below (w.heap.size + 3) W0 w1 := below_step (by (repeat (first | assumption | exact Below.refl _ _ | apply Below.drew | refine below_alloc (by omega) _ ?_))) (by omega) hb1; have hz1 := hB1.size; (first | have zb1 := zbox hb1 | have zb1 := zboxd hb1 | skip); clear hb1)
      | (go_at_call 45; refine Calls.mono (s_FindSymbol D g _ Fg _ (Hg.out _ (Hw.out _ (by (repeat (first | assumption | exact Below.refl _ _ | apply Below.drew | refine below_alloc (by omega) _ ?_))))) (symAt x y.pos) Hbk.out) ?_; rintro en w2 ⟨us, F2, rfl, hR2, hf2, hb2⟩; have hF2 := hf2.from_; clear hf2;  generalize hX : (findS g.symbols (symAt x y.pos)).getD Sym.zero = X at hR2; have HX := hide hX; clear hX; obtain ⟨A, cap, hus, HR2⟩ := sym_form hR2; subst hus; have hB2 : Below (w.heap.size + 3) W0 w2 := below_step (by (repeat (first | assumption | exact Below.refl _ _ | apply Below.drew | refine below_alloc (by omega) _ ?_))) (by omega) hb2; have hz2 := hB2.size
         (first
           | (have zb2 := zbox hb2; have q0 := cell_at (i := 0) zb2.1 (by simp); have q1 := cell_at (i := 1) zb2.1 (by simp); simp only [Array.getD_eq_getD_getElem?, List.getElem?_toArray, List.getElem?_cons_succ, List.getElem?_cons_zero, Option.getD_some] at q0 q1; have z0 := frozen_of_row w2 _ 0 _ _ zb2.1; have z1 := frozen_of_row w2 _ 1 _ _ zb2.1; (try simp only [drew_heap] at q0); (try simp only [drew_heap] at q1); (try simp only [drew_heap] at z0); (try simp only [drew_heap] at z1))
           | (have zb2 := zcarry zb1 hb2; have q0 := cell_at (i := 0) zb2.1 (by simp); have q1 := cell_at (i := 1) zb2.1 (by simp); simp only [Array.getD_eq_getD_getElem?, List.getElem?_toArray, List.getElem?_cons_succ, List.getElem?_cons_zero, Option.getD_some] at q0 q1; have z0 := frozen_of_row w2 _ 0 _ _ zb2.1; have z1 := frozen_of_row w2 _ 1 _ _ zb2.1; (try simp only [drew_heap] at q0); (try simp only [drew_heap] at q1); (try simp only [drew_heap] at z0); (try simp only [drew_heap] at z1))
           | skip)
         clear hb2))
  all_goals
    first
    | (have C : CellsAt _ w1.heap.size 0 _ := cells_set2 zb2.1 (.string X.name) (.slice A X.attrs.length cap)
       have hWF : ∀ k ∈ F2, ((w2.setCell ⟨w1.heap.size, 0, none⟩ (.string X.name)).setCell ⟨w1.heap.size, 1, none⟩ (.slice A X.attrs.length cap)).heap[k]? = w2.heap[k]? := fun k hk => far_set2 _ _ _ _ _ (by have := hF2 k hk; simp at this; omega)
       have hsz : w2.heap.size ≤ ((w2.setCell ⟨w1.heap.size, 0, none⟩ (.string X.name)).setCell ⟨w1.heap.size, 1, none⟩ (.slice A X.attrs.length cap)).heap.size := by simp
       generalize ((w2.setCell ⟨w1.heap.size, 0, none⟩ (.string X.name)).setCell ⟨w1.heap.size, 1, none⟩ (.slice A X.attrs.length cap)) = WF at *
       generalize w1.heap.size = kb at C ⊢)
    | (have C : CellsAt _ W0.heap.size 0 _ := cells_set2 zb2.1 (.string X.name) (.slice A X.attrs.length cap)
       have hWF : ∀ k ∈ F2, ((w2.setCell ⟨W0.heap.size, 0, none⟩ (.string X.name)).setCell ⟨W0.heap.size, 1, none⟩ (.slice A X.attrs.length cap)).heap[k]? = w2.heap[k]? := fun k hk => far_set2 _ _ _ _ _ (by have := hF2 k hk; have := zb1.2; omega)
       have hsz : w2.heap.size ≤ ((w2.setCell ⟨W0.heap.size, 0, none⟩ (.string X.name)).setCell ⟨W0.heap.size, 1, none⟩ (.slice A X.attrs.length cap)).heap.size := by simp
       generalize ((w2.setCell ⟨W0.heap.size, 0, none⟩ (.string X.name)).setCell ⟨W0.heap.size, 1, none⟩ (.slice A X.attrs.length cap)) = WF at *
       generalize W0.heap.size = kb at C ⊢)
    | (have C := CellsAt.new w2 [.string X.name, .slice A X.attrs.length cap] 79
       have hB : Below w2.heap.size w2 (w2.alloc (Obj.cells #[.string X.name, .slice A X.attrs.length cap] 79)) := (Below.refl w2.heap.size w2).alloc (Nat.le_refl _) _
       have hWF : ∀ k ∈ F2, (w2.alloc (Obj.cells #[.string X.name, .slice A X.attrs.length cap] 79)).heap[k]? = w2.heap[k]? := fun k hk => hB.block k ((SymR.good D).lt HR2.out.1 k hk)
       have hsz := hB.size
       clear hB
       generalize w2.alloc (Obj.cells #[.string X.name, .slice A X.attrs.length cap] 79) = WF at *
       generalize w2.heap.size = kb at C ⊢)
  all_goals
    have hF : Below (w.heap.size + 3) W0 WF := by assumption
    have s0 := C 0 _ rfl
    have s1 := C 1 _ rfl
    simp only [Nat.zero_add, Nat.add_zero] at s0 s1
    have e1 := c1 WF hF
    have HRx : Hid (SymR D WF X [.string X.name, .slice A X.attrs.length cap] F2) := hide ((SymR.good D).frame HR2.out.1 hWF hsz)
    have HF := hide hF
    have HF2 := hide hF2
    have hzF := hF.size
    clear hF2 C hWF hsz HR2 c1 a0 a1 b0 b1 b2 b3 b4 b5
    by_cases hp : y.pos = 0
  all_goals
    cases hA : findA X.attrs y.name with
    | none =>
      have Hm : Hid (mayU g x y = false) := hide (by unfold mayU; rw [Hat.out, HX.out, hA])
      have HA := hide hA
      clear hA
      go_wp2_with (first
        | (go_at_call 119; refine Calls.mono (s_FindAttribute D X _ F2 _ HRx.out y.name) ?_; rw [HA.out]; rintro en w3 ⟨us, F3, rfl, hR3, _, hb3⟩; obtain ⟨u0, u1, u2, u3, rfl⟩ := list4 ((AtrR.good D).len hR3); have H13 := hide (AtrR.one hR3); have HZ := hide (heap_alloc_new w3 (.cells #[.string ⟨#[]⟩, .int .i64 0, .int .i64 0, .bool false] 128)); have hB3 : Below (w.heap.size + 3) W0 w3 := below_step HF.out (by omega) hb3; have hz3 := hB3.size; have hBx := below_alloc hn0 (.cells #[.string ⟨#[]⟩, .int .i64 0, .int .i64 0, .bool false] 128) hB3;  clear hR3 hb3)
        | (refine wpList_store_at 128 (.tmp 9) (.tmp 32) rfl Hia.out rfl rfl rfl rfl H13.out HZ.out (by decide) ?_; intro W4 hP; have hB4 : Below (w.heap.size + 3) W0 W4 := hBx.trans (hP.below (by omega)); have x2 := hP.cellsAt 2 _ rfl; simp only [Nat.zero_add] at x2; clear hP))
      go_ret
      exact ⟨by rw [Hm.out]; rfl, Hw.out _ (by assumption)⟩
    | some A' =>
      have Hm : Hid (mayU g x y = (A'.mode == if y.pos = 0 then 1 else 2)) := hide (by unfold mayU; rw [Hat.out, HX.out, hA])
      have HA := hide hA
      clear hA
      go_wp2_with (first
        | (go_at_call 119; refine Calls.mono (s_FindAttribute D X _ F2 _ HRx.out y.name) ?_; rw [HA.out]; rintro en w3 ⟨us, F3, rfl, hR3, _, hb3⟩; obtain ⟨u0, u1, u2, u3, rfl⟩ := list4 ((AtrR.good D).len hR3); have H13 := hide (AtrR.one hR3); have HZ := hide (heap_alloc_new w3 (.cells #[.string ⟨#[]⟩, .int .i64 0, .int .i64 0, .bool false] 128)); obtain ⟨_, _, _, _, hu2, _⟩ := hR3; obtain rfl := Option.some.inj hu2; have hB3 : Below (w.heap.size + 3) W0 w3 := below_step HF.out (by omega) hb3; have hz3 := hB3.size; have hBx := below_alloc hn0 (.cells #[.string ⟨#[]⟩, .int .i64 0, .int .i64 0, .bool false] 128) hB3;  clear hb3)
        | (refine wpList_store_at 128 (.tmp 9) (.tmp 32) rfl Hia.out rfl rfl rfl rfl H13.out HZ.out (by decide) ?_; intro W4 hP; have hB4 : Below (w.heap.size + 3) W0 W4 := hBx.trans (hP.below (by omega)); have x2 := hP.cellsAt 2 _ rfl; simp only [Nat.zero_add] at x2; clear hP))
      go_ret
      exact ⟨by rw [Hm.out]; simp [hp], Hw.out _ (by assumption)⟩
end Go.Proofs.Ythifibjkgiggfaa
