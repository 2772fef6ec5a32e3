/- The attribute of an occurrence; may an equation use it: both sides. Conditions: the grammar has at most the size 2^20. -/
import Derived.Test.YthifibjkgiggfaaFindS
import Derived.Test.YthifibjkgiggfaaRange
import Derived.Deep.RegionHeld3
import Derived.Sort.AtCall
namespace Go.Proofs.Ythifibjkgiggfaa
set_option maxRecDepth 100000
open Go.RowKit Go.WideShapes
set_option linter.unusedVariables false

theorem zbox {X W : World} {z : Array Value} {T : TypeId} (hb : Below (X.alloc (.cells z T)).heap.size (X.alloc (.cells z T)) W) : W.heap[X.heap.size]? = some (.cells z T (0, 0)) ∧ X.heap.size < W.heap.size :=
  ⟨blk_below (heap_alloc_new X _) hb (by simp), by have := hb.size; simp at this; omega⟩
theorem zboxd {X W : World} {z : Array Value} {T : TypeId} (hb : Below (X.alloc (.cells z T)).drew.heap.size (X.alloc (.cells z T)).drew W) : W.heap[X.heap.size]? = some (.cells z T (0, 0)) ∧ X.heap.size < W.heap.size :=
  zbox (X := X) (((Below.refl _ (X.alloc (.cells z T))).drew).trans hb)
theorem zcarry {W W' : World} {b : Nat} {z : Array Value} {T : TypeId} (h : W.heap[b]? = some (.cells z T (0, 0)) ∧ b < W.heap.size) (hb : Below W.heap.size W W') : W'.heap[b]? = some (.cells z T (0, 0)) ∧ b < W'.heap.size :=
  ⟨blk_below h.1 hb h.2, Nat.lt_of_lt_of_le h.2 hb.size⟩
theorem cells_set2 {W : World} {b : Nat} {z0 z1 : Value} {T : TypeId} (h : W.heap[b]? = some (.cells #[z0, z1] T (0, 0))) (u v : Value) : CellsAt ((W.setCell ⟨b, 0, none⟩ u).setCell ⟨b, 1, none⟩ v) b 0 [u, v] := fun j t hj => by
  have k0 := cell_at (i := 0) h (by simp)
  have k1 := cell_at (i := 1) h (by simp)
  have m1 : ((W.setCell ⟨b, 0, none⟩ u).cell? ⟨b, 1, none⟩) = some z1 := (World.cell?_setCell_other W ⟨b, 0, none⟩ ⟨b, 1, none⟩ u (by simp)).trans k1
  match j, hj with
  | 0, hj =>
    obtain rfl := Option.some.inj hj
    exact (World.cell?_setCell_other _ ⟨b, 1, none⟩ ⟨b, 0, none⟩ v (by simp)).trans (World.cell?_setCell_same (h := k0) ..)
  | 1, hj =>
    obtain rfl := Option.some.inj hj
    exact World.cell?_setCell_same (h := m1) ..
/-- The attribute of an occurrence of a rule. -/
def attrAt (g : Grm) (x : Rul) (y : Occ) : Option Atr := if 0 ≤ y.pos ∧ y.pos ≤ x.right.length then findA ((findS g.symbols (symAt x y.pos)).getD Sym.zero).attrs y.name else none
theorem drew_heap (W : World) : W.drew.heap = W.heap := rfl
theorem sym_form {D : Nat} {w : World} {x : Sym} {cs : List Value} {F : List Nat} (h : SymR D w x cs F) : ∃ A cap, cs = [.string x.name, .slice A x.attrs.length cap] ∧ Hid (SymR D w x [.string x.name, .slice A x.attrs.length cap] F ∧ x.attrs.length ≤ cap ∧ cap ≤ maxLen) := by
  obtain ⟨u0, u1, rfl⟩ := list2 ((SymR.good D).len h)
  have hk := h
  obtain ⟨v1, F1, _, _, h0, ⟨h1, g1⟩, rfl⟩ := h
  obtain rfl := Option.some.inj h0
  obtain rfl := Option.some.inj h1
  obtain ⟨A, cap, rfl, hl, hm⟩ := g1.form
  exact ⟨A, cap, rfl, hide ⟨hk, hl, hm⟩⟩
theorem boxR3 (w : World) (a b c z : List Value) (ta tb tc tz : TypeId) :
    CellsAt ((((w.alloc (.cells a.toArray ta)).alloc (.cells b.toArray tb)).alloc (.cells c.toArray tc)).alloc (.cells z.toArray tz)) w.heap.size 0 a ∧ CellsAt ((((w.alloc (.cells a.toArray ta)).alloc (.cells b.toArray tb)).alloc (.cells c.toArray tc)).alloc (.cells z.toArray tz)) (w.heap.size + 1) 0 b ∧
      CellsAt ((((w.alloc (.cells a.toArray ta)).alloc (.cells b.toArray tb)).alloc (.cells c.toArray tc)).alloc (.cells z.toArray tz)) (w.heap.size + 2) 0 c ∧
      ((((w.alloc (.cells a.toArray ta)).alloc (.cells b.toArray tb)).alloc (.cells c.toArray tc)).alloc (.cells z.toArray tz)).heap[w.heap.size + 3]? = some (.cells z.toArray tz (0, 0)) ∧
      ((((w.alloc (.cells a.toArray ta)).alloc (.cells b.toArray tb)).alloc (.cells c.toArray tc)).alloc (.cells z.toArray tz)).heap.size = w.heap.size + 4 ∧ Below w.heap.size w ((((w.alloc (.cells a.toArray ta)).alloc (.cells b.toArray tb)).alloc (.cells c.toArray tc)).alloc (.cells z.toArray tz)) := by
  obtain ⟨h1, h2, h3, h4, h5⟩ := boxes3 w a b c ta tb tc
  have h6 := heap_alloc_new (((w.alloc (.cells a.toArray ta)).alloc (.cells b.toArray tb)).alloc (.cells c.toArray tc)) (.cells z.toArray tz)
  generalize ((w.alloc (.cells a.toArray ta)).alloc (.cells b.toArray tb)).alloc (.cells c.toArray tc) = V at *
  have hb : Below V.heap.size V (V.alloc (.cells z.toArray tz)) := (Below.refl _ _).alloc (Nat.le_refl _) _
  rw [h4] at h6
  exact ⟨h1.below hb (by omega), h2.below hb (by omega), h3.below hb (by omega), h6, by rw [World.size_alloc, h4], h5.trans (hb.mono h5.size)⟩
set_option maxRecDepth 100000 in
set_option maxHeartbeats 4000000 in
theorem i_attributeAt (D : Nat) (g : Grm) (x : Rul) (y : Occ) (cg cr co : List Value) (Fg Fr Fo : List Nat) (w : World) (hg : GrmR D w g cg Fg) (hr : RulR D w x cr Fr) (ho : OccR D w y co Fo) :
    Calls Try.prog 120 #[.agg cg.toArray, .agg cr.toArray, .agg co.toArray] w (Found D w (attrAt g x y)) := by
  have LG := hide ((GrmR.good D).lt hg)
  have LR := hide ((RulR.good D).lt hr)
  obtain ⟨p0, p1, rfl⟩ := list2 ((GrmR.good D).len hg)
  obtain ⟨r0, r1, r2, r3, r4, r5, rfl⟩ := list_6 ((RulR.good D).len hr)
  obtain ⟨q0, q1, rfl⟩ := list2 ((OccR.good D).len ho)
  obtain ⟨_, hok, o0, o1, rfl⟩ := ho
  obtain rfl := Option.some.inj o0
  obtain rfl := Option.some.inj o1
  have Hg : Hid (∀ W : World, Below w.heap.size w W → GrmR D W g [p0, p1] Fg) := hide fun W hW => (GrmR.good D).below hg hW LG.out
  have Hr : Hid (∀ W : World, Below w.heap.size w W → RulR D W x [r0, r1, r2, r3, r4, r5] Fr) := hide fun W hW => (RulR.good D).below hr hW LR.out
  obtain ⟨A2, k2, hr2, hlc, hcm⟩ : ∃ A2 k2, r2 = .slice A2 x.right.length k2 ∧ x.right.length ≤ k2 ∧ k2 ≤ maxLen := by
    obtain ⟨v2, _, _, _, _, _, _, _, _, _, ⟨h2, g2⟩, _⟩ := hr
    obtain ⟨A2, k2, h3, h4, h5⟩ := g2.form
    exact ⟨A2, k2, by rw [← h3]; exact Option.some.inj h2, h4, h5⟩
  subst hr2
  unfold maxLen at hcm
  have Hok := hide hok
  have hpos := hok.pos
  have hrl : x.right.length ≤ 9223372036854775807 := by omega
  obtain ⟨CG, CR, CO, hR0, hz0, hw0⟩ := boxR3 w [p0, p1] [r0, r1, .slice A2 x.right.length k2, r3, r4, r5] [.int .i64 y.pos, .string y.name] [.string ⟨#[]⟩, .int .i64 0, .int .i64 0, .bool false] 69 39 41 128
  show Calls _ _ #[.agg #[p0, p1], .agg #[r0, r1, .slice A2 x.right.length k2, r3, r4, r5], .agg #[.int .i64 y.pos, .string y.name]] w _
  clear hg hr hok o0 o1 hlc hcm
  have H1z : Hid (∀ v ∈ ([.string ⟨#[]⟩, .int .i64 0, .int .i64 0, .bool false] : List Value), v.oneCell' = true) := hide (AtrR.one (AtrR.zero D w))
  have hia : (Try.prog.info? 128).map (·.size) = some 4 := by kernel_rfl
  have Hia := hide hia
  clear hia
  by_cases hin : 0 ≤ y.pos ∧ y.pos ≤ x.right.length
  case neg =>
    have hin2 := inR_no hin
    have Hat : Hid (attrAt g x y = none) := hide (by unfold attrAt; rw [if_neg hin])
    clear hin
    go_enter Try.func120, Try.ntmps120
    go_wp2_with fail
    generalize (((w.alloc (Obj.cells #[p0, p1] 69)).alloc (Obj.cells #[r0, r1, .slice A2 x.right.length k2, r3, r4, r5] 39)).alloc (Obj.cells #[.int .i64 y.pos, .string y.name] 41)).alloc (Obj.cells #[.string ⟨#[]⟩, .int .i64 0, .int .i64 0, .bool false] 128) = W0 at CG CR CO hR0 hz0 hw0 ⊢
    have b2 := cell_rule CR (n := w.heap.size + 4) (by omega) 2 rfl
    have c0 := cell_rule CO (n := w.heap.size + 4) (by omega) 0 rfl
    have hB0 : Below (w.heap.size + 4) W0 W0 := Below.refl _ _
    have HZ := hide hR0
    have Hw0 := hide hw0
    clear CG CR CO hR0 hw0
    go_wp2_with (first
      | (go_at_call 81; refine (i_within _ _ _ _).mono ?_; rintro e w' ⟨rfl, rfl⟩)
      | (refine wpList_store_at 128 (.tmp 6) (.tmp 17) rfl Hia.out rfl rfl rfl rfl H1z.out HZ.out (by decide) ?_; intro WF hP; have HP := hide hP; clear hP))
    have hW : Below w.heap.size w WF := Hw0.out.trans (HP.out.below (by omega))
    have hC := HP.out.cellsAt
    have x0 := hC 0 _ rfl
    have x1 := hC 1 _ rfl
    have x2 := hC 2 _ rfl
    have x3 := hC 3 _ rfl
    simp only [Nat.zero_add, Nat.add_zero] at x0 x1 x2 x3
    exact bodyPost_ret (v := .tuple #[.agg #[.string ⟨#[]⟩, .int .i64 0, .int .i64 0, .bool false], .bool false]) (by simp [results, Try.results120, go_sem, x0, x1, x2, x3]) rfl
      ⟨[.string ⟨#[]⟩, .int .i64 0, .int .i64 0, .bool false], [], by rw [Hat.out]; rfl, by rw [Hat.out]; exact AtrR.zero D _, Fresh.nil _ _, hW⟩
  have Hat : Hid (attrAt g x y = findA ((findS g.symbols (symAt x y.pos)).getD Sym.zero).attrs y.name) := hide (by unfold attrAt; rw [if_pos hin])
  have hin2 := inR_yes hin
  go_enter Try.func120, Try.ntmps120
  go_wp2_with fail
  generalize (((w.alloc (Obj.cells #[p0, p1] 69)).alloc (Obj.cells #[r0, r1, .slice A2 x.right.length k2, r3, r4, r5] 39)).alloc (Obj.cells #[.int .i64 y.pos, .string y.name] 41)).alloc (Obj.cells #[.string ⟨#[]⟩, .int .i64 0, .int .i64 0, .bool false] 128) = W0 at CG CR CO hR0 hz0 hw0 ⊢
  have hn0 : w.heap.size + 4 ≤ W0.heap.size := by omega
  have Hw : Hid (∀ W : World, Below (w.heap.size + 4) W0 W → Below w.heap.size w W) := hide fun W h => hw0.trans (h.mono (by omega))
  have hB0 : Below (w.heap.size + 4) W0 W0 := Below.refl _ _
  have a0 := cell_rule CG (n := w.heap.size + 4) (by omega) 0 rfl
  have a1 := cell_rule CG (n := w.heap.size + 4) (by omega) 1 rfl
  have b0 := cell_rule CR (n := w.heap.size + 4) (by omega) 0 rfl
  have b1 := cell_rule CR (n := w.heap.size + 4) (by omega) 1 rfl
  have b2 := cell_rule CR (n := w.heap.size + 4) (by omega) 2 rfl
  have b3 := cell_rule CR (n := w.heap.size + 4) (by omega) 3 rfl
  have b4 := cell_rule CR (n := w.heap.size + 4) (by omega) 4 rfl
  have b5 := cell_rule CR (n := w.heap.size + 4) (by omega) 5 rfl
  have c0 := cell_rule CO (n := w.heap.size + 4) (by omega) 0 rfl
  have c1 := cell_rule CO (n := w.heap.size + 4) (by omega) 1 rfl
  have HR0 : Hid (∀ W : World, Below (w.heap.size + 4) W0 W → W.heap[w.heap.size + 3]? = some (.cells #[.string ⟨#[]⟩, .int .i64 0, .int .i64 0, .bool false] 128 (0, 0))) := hide fun W h => blk_below hR0 h (by omega)
  clear CG CR CO hR0 hz0 hw0
  have N0 : ∀ W : World, (W.alloc (.cells #[.string ⟨#[]⟩, .slice none 0 0] 79)).cell? ⟨W.heap.size, 0, none⟩ = some (.string ⟨#[]⟩) := fun W => cell_of_row _ _ 0 _ _ _ (heap_alloc_new W _)
  have N1 : ∀ W : World, (W.alloc (.cells #[.string ⟨#[]⟩, .slice none 0 0] 79)).cell? ⟨W.heap.size, 1, none⟩ = some (.slice none 0 0) := fun W => cell_of_row _ _ 1 _ _ _ (heap_alloc_new W _)
  have M0 : ∀ W : World, (W.alloc (.cells #[.string ⟨#[]⟩, .slice none 0 0] 79)).frozen? ⟨W.heap.size, 0, none⟩ = false := fun W => frozen_of_row _ _ 0 _ _ (heap_alloc_new W _)
  have M1 : ∀ W : World, (W.alloc (.cells #[.string ⟨#[]⟩, .slice none 0 0] 79)).frozen? ⟨W.heap.size, 1, none⟩ = false := fun W => frozen_of_row _ _ 1 _ _ (heap_alloc_new W _)
  go_wp2_with (go_at_call 81; refine (i_within _ _ _ _).mono ?_; rintro e w' ⟨rfl, rfl⟩)
  go_region_held3 (fun W => Below (w.heap.size + 4) W0 W)
    (first | assumption | exact Below.drew (by assumption) | exact below_alloc hn0 _ (by assumption) | exact Below.drew (below_alloc hn0 _ (by assumption)) | exact below_set2 (by assumption) (by omega))
    (first
      | (go_at_call 160; refine Calls.mono (i_SymbolAt D x _ Fr _ (Hr.out _ (Hw.out _ (by (repeat (first | assumption | exact Below.refl _ _ | apply Below.drew | refine below_alloc (by omega) _ ?_))))) y.pos hpos) ?_; rintro en w1 ⟨rfl, hb1⟩; have hB1 : Below (w.heap.size + 4) W0 w1 := below_step (by (repeat (first | assumption | exact Below.refl _ _ | apply Below.drew | refine below_alloc (by omega) _ ?_))) (by omega) hb1; have hz1 := hB1.size; (first | have zb1 := zbox hb1 | have zb1 := zboxd hb1 | skip); clear hb1)
      | (go_at_call 108; refine Calls.mono (i_findSymbol D g _ Fg _ (Hg.out _ (Hw.out _ (by (repeat (first | assumption | exact Below.refl _ _ | apply Below.drew | refine below_alloc (by omega) _ ?_))))) (symAt x y.pos)) ?_; rintro en w2 ⟨us, F2, rfl, hR2, hF2, hb2⟩; generalize hX : (findS g.symbols (symAt x y.pos)).getD Sym.zero = X at hR2; have HX := hide hX; clear hX; obtain ⟨A, cap, hus, HR2⟩ := sym_form hR2; subst hus; have hB2 : Below (w.heap.size + 4) W0 w2 := below_step (by (repeat (first | assumption | exact Below.refl _ _ | apply Below.drew | refine below_alloc (by omega) _ ?_))) (by omega) hb2; have hz2 := hB2.size
         (first
           | (have zb2 := zbox hb2; have q0 := cell_at (i := 0) zb2.1 (by simp); have q1 := cell_at (i := 1) zb2.1 (by simp); simp only [Array.getD_eq_getD_getElem?, List.getElem?_toArray, List.getElem?_cons_succ, List.getElem?_cons_zero, Option.getD_some] at q0 q1; have z0 := frozen_of_row w2 _ 0 _ _ zb2.1; have z1 := frozen_of_row w2 _ 1 _ _ zb2.1; (try simp only [drew_heap] at q0); (try simp only [drew_heap] at q1); (try simp only [drew_heap] at z0); (try simp only [drew_heap] at z1))
           | (have zb2 := zcarry zb1 hb2; have q0 := cell_at (i := 0) zb2.1 (by simp); have q1 := cell_at (i := 1) zb2.1 (by simp); simp only [Array.getD_eq_getD_getElem?, List.getElem?_toArray, List.getElem?_cons_succ, List.getElem?_cons_zero, Option.getD_some] at q0 q1; have z0 := frozen_of_row w2 _ 0 _ _ zb2.1; have z1 := frozen_of_row w2 _ 1 _ _ zb2.1; (try simp only [drew_heap] at q0); (try simp only [drew_heap] at q1); (try simp only [drew_heap] at z0); (try simp only [drew_heap] at z1))
           | skip)
         clear hb2))
  all_goals
    first
    | (have C : CellsAt _ w1.heap.size 0 _ := cells_set2 zb2.1 (.string X.name) (.slice A X.attrs.length cap)
       have hWF := below_set2 (u := .string X.name) (v := .slice A X.attrs.length cap) (Below.refl w.heap.size w2) (g := w1.heap.size) (by omega)
       generalize ((w2.setCell ⟨w1.heap.size, 0, none⟩ (.string X.name)).setCell ⟨w1.heap.size, 1, none⟩ (.slice A X.attrs.length cap)) = WF at *
       generalize w1.heap.size = kb at C ⊢)
    | (have C : CellsAt _ W0.heap.size 0 _ := cells_set2 zb2.1 (.string X.name) (.slice A X.attrs.length cap)
       have hWF := below_set2 (u := .string X.name) (v := .slice A X.attrs.length cap) (Below.refl w.heap.size w2) (g := W0.heap.size) (by omega)
       generalize ((w2.setCell ⟨W0.heap.size, 0, none⟩ (.string X.name)).setCell ⟨W0.heap.size, 1, none⟩ (.slice A X.attrs.length cap)) = WF at *
       generalize W0.heap.size = kb at C ⊢)
    | (have C := CellsAt.new w2 [.string X.name, .slice A X.attrs.length cap] 79
       have hWF : Below w.heap.size w2 (w2.alloc (Obj.cells #[.string X.name, .slice A X.attrs.length cap] 79)) := (Below.refl w.heap.size w2).alloc (by omega) _
       generalize w2.alloc (Obj.cells #[.string X.name, .slice A X.attrs.length cap] 79) = WF at *
       generalize w2.heap.size = kb at C ⊢)
  all_goals
    have hF : Below (w.heap.size + 4) W0 WF := by assumption
    have s0 := C 0 _ rfl
    have s1 := C 1 _ rfl
    simp only [Nat.zero_add, Nat.add_zero] at s0 s1
    have e1 := c1 WF hF
    have HRx : Hid (SymR D WF X [.string X.name, .slice A X.attrs.length cap] F2) := hide ((SymR.good D).below HR2.out.1 hWF (fun k hk => LG.out k (hF2 k hk)))
    have HF := hide hF
    have HF2 := hide hF2
    have hzF := hF.size
    clear hF2 C hWF HR2 c1 c0 a0 a1 b0 b1 b2 b3 b4 b5
    go_wp2_with (first
      | (go_at_call 161; refine Calls.mono (i_FindAttribute D X _ F2 _ HRx.out y.name) ?_; rintro en w3 ⟨us, F3, rfl, hR3, _, hb3⟩
         obtain ⟨u0, u1, u2, u3, rfl⟩ := list4 ((AtrR.good D).len hR3)
         obtain rfl := AtrR.plain D _ _ _ _ hR3
         have hf3 : Below (w.heap.size + 4) W0 w3 := below_step HF.out (by omega) hb3
         have H3 := hide hR3; have H13 := hide (AtrR.one hR3); have HZ := hide (HR0.out w3 hf3); have Hf3 := hide hf3
         clear hR3 hb3 hf3)
      | (refine wpList_store_at 128 (.tmp 6) (.tmp 31) rfl Hia.out rfl rfl rfl rfl H13.out HZ.out (by decide) ?_; intro W4 hP; have HP := hide hP; clear hP))
    have hW : Below w.heap.size w W4 := (Hw.out _ Hf3.out).trans (HP.out.below (by omega))
    have hW2 : Below 0 w3 W4 := HP.out.below (by omega)
    have hC := HP.out.cellsAt
    have x0 := hC 0 _ rfl
    have x1 := hC 1 _ rfl
    have x2 := hC 2 _ rfl
    have x3 := hC 3 _ rfl
    simp only [Nat.zero_add, Nat.add_zero] at x0 x1 x2 x3
    exact bodyPost_ret (v := .tuple #[.agg #[u0, u1, u2, u3], .bool (findA X.attrs y.name).isSome]) (by simp [results, Try.results120, go_sem, x0, x1, x2, x3]) rfl
      ⟨[u0, u1, u2, u3], [], by rw [Hat.out, HX.out], by rw [Hat.out, HX.out]; exact (AtrR.good D).below H3.out hW2 (by simp), Fresh.nil _ _, hW⟩
end Go.Proofs.Ythifibjkgiggfaa
