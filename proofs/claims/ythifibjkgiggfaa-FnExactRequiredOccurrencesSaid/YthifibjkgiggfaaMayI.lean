/- May an equation use an occurrence: the program's. Conditions: none beyond that the values can be read. -/
import Derived.Test.YthifibjkgiggfaaAt
namespace Go.Proofs.Ythifibjkgiggfaa
set_option maxRecDepth 100000
open Go.RowKit Go.WideShapes
set_option linter.unusedVariables false

/-- May an equation use an occurrence. -/
def mayU (g : Grm) (x : Rul) (y : Occ) : Bool := match attrAt g x y with
  | none => false
  | some a => (a.mode == if y.pos = 0 then 1 else 2)
theorem far_set2 (W : World) (b k : Nat) (u v : Value) (h : k ≠ b) : ((W.setCell ⟨b, 0, none⟩ u).setCell ⟨b, 1, none⟩ v).heap[k]? = W.heap[k]? := by
  simp [World.setCell, Array.getElem?_modify, Ne.symm h]
set_option maxRecDepth 100000 in
set_option maxHeartbeats 4000000 in
theorem i_MayUse (D : Nat) (g : Grm) (x : Rul) (y : Occ) (cg cr co : List Value) (Fg Fr Fo : List Nat) (w : World) (hg : GrmR D w g cg Fg) (hr : RulR D w x cr Fr) (ho : OccR D w y co Fo) :
    Calls Try.prog 54 #[.agg cg.toArray, .agg cr.toArray, .agg co.toArray] w fun en w' => en = .returned (.bool (mayU g x y)) ∧ Below w.heap.size w w' := by
  have LG := hide ((GrmR.good D).lt hg)
  have LR := hide ((RulR.good D).lt hr)
  obtain ⟨p0, p1, rfl⟩ := list2 ((GrmR.good D).len hg)
  obtain ⟨r0, r1, r2, r3, r4, r5, rfl⟩ := list_6 ((RulR.good D).len hr)
  obtain ⟨q0, q1, rfl⟩ := list2 ((OccR.good D).len ho)
  have ho2 := ho
  obtain ⟨_, _, o0, o1, rfl⟩ := ho2
  obtain rfl := Option.some.inj o0
  obtain rfl := Option.some.inj o1
  obtain ⟨CG, CR, CO, hz0, hw0⟩ := boxes3 w [p0, p1] [r0, r1, r2, r3, r4, r5] [.int .i64 y.pos, .string y.name] 69 39 41
  show Calls _ _ #[.agg #[p0, p1], .agg #[r0, r1, r2, r3, r4, r5], .agg #[.int .i64 y.pos, .string y.name]] w _
  go_enter Try.func54, Try.ntmps54
  go_wp2_with fail
  have Hg : Hid (∀ W : World, Below w.heap.size w W → GrmR D W g [p0, p1] Fg) := hide fun W hW => (GrmR.good D).below hg hW LG.out
  have Hr : Hid (∀ W : World, Below w.heap.size w W → RulR D W x [r0, r1, r2, r3, r4, r5] Fr) := hide fun W hW => (RulR.good D).below hr hW LR.out
  have Ho : Hid (∀ W : World, Below w.heap.size w W → OccR D W y [.int .i64 y.pos, .string y.name] []) := hide fun W hW => (OccR.good D).below ho hW (by simp)
  generalize ((w.alloc (Obj.cells #[p0, p1] 69)).alloc (Obj.cells #[r0, r1, r2, r3, r4, r5] 39)).alloc (Obj.cells #[.int .i64 y.pos, .string y.name] 41) = W0 at CG CR CO hz0 hw0 ⊢
  have hn0 : w.heap.size + 3 ≤ W0.heap.size := by omega
  have Hw : Hid (∀ W : World, Below (w.heap.size + 3) W0 W → Below w.heap.size w W) := hide fun W h => hw0.trans (h.mono (by omega))
  have hB0 : Below (w.heap.size + 3) W0 W0 := Below.refl _ _
  have a0 := cell_rule CG (n := w.heap.size + 3) (by omega) 0 rfl
  have a1 := cell_rule CG (n := w.heap.size + 3) (by omega) 1 rfl
  have b0 := cell_rule CR (n := w.heap.size + 3) (by omega) 0 rfl
  have b1 := cell_rule CR (n := w.heap.size + 3) (by omega) 1 rfl
  have b2 := cell_rule CR (n := w.heap.size + 3) (by omega) 2 rfl
  have b3 := cell_rule CR (n := w.heap.size + 3) (by omega) 3 rfl
  have b4 := cell_rule CR (n := w.heap.size + 3) (by omega) 4 rfl
  have b5 := cell_rule CR (n := w.heap.size + 3) (by omega) 5 rfl
  have c0 := cell_rule CO (n := w.heap.size + 3) (by omega) 0 rfl
  have c1 := cell_rule CO (n := w.heap.size + 3) (by omega) 1 rfl
  have Hn := hide hn0
  clear CG CR CO hw0 hg hr ho o0 o1
  have hia : (Try.prog.info? 128).map (·.size) = some 4 := by kernel_rfl
  have Hia := hide hia
  clear hia
  by_cases hp : y.pos = 0
  all_goals
    cases hA : attrAt g x y with
    | none =>
      have Hm : Hid (mayU g x y = false) := hide (by unfold mayU; rw [hA])
      have HA := hide hA
      clear hA
      go_wp2_with (first
        | (go_at_call 120; refine Calls.mono (i_attributeAt D g x y _ _ _ Fg Fr [] _ (Hg.out _ (Hw.out _ hB0)) (Hr.out _ (Hw.out _ hB0)) (Ho.out _ (Hw.out _ hB0))) ?_; rw [HA.out]; rintro en w3 ⟨us, F3, rfl, hR3, _, hb3⟩; obtain ⟨u0, u1, u2, u3, rfl⟩ := list4 ((AtrR.good D).len hR3); have H13 := hide (AtrR.one hR3); have HZ := hide (heap_alloc_new w3 (.cells #[.string ⟨#[]⟩, .int .i64 0, .int .i64 0, .bool false] 128)); have hB3 : Below (w.heap.size + 3) W0 w3 := hb3.mono Hn.out; have hBx := below_alloc hn0 (.cells #[.string ⟨#[]⟩, .int .i64 0, .int .i64 0, .bool false] 128) hB3; clear hR3 hb3)
        | (refine wpList_store_at 128 (.tmp 7) (.tmp 14) rfl Hia.out rfl rfl rfl rfl H13.out HZ.out (by decide) ?_; intro W4 hP; have hB4 : Below (w.heap.size + 3) W0 W4 := hBx.trans (hP.below (Nat.le_trans hn0 hB3.size)); have x2 := hP.cellsAt 2 _ rfl; simp only [Nat.zero_add] at x2; clear hP))
      go_ret
      exact ⟨by rw [Hm.out]; rfl, Hw.out _ (by assumption)⟩
    | some A =>
      have Hm : Hid (mayU g x y = (A.mode == if y.pos = 0 then 1 else 2)) := hide (by unfold mayU; rw [hA])
      have HA := hide hA
      clear hA
      go_wp2_with (first
        | (go_at_call 120; refine Calls.mono (i_attributeAt D g x y _ _ _ Fg Fr [] _ (Hg.out _ (Hw.out _ hB0)) (Hr.out _ (Hw.out _ hB0)) (Ho.out _ (Hw.out _ hB0))) ?_; rw [HA.out]; rintro en w3 ⟨us, F3, rfl, hR3, _, hb3⟩; obtain ⟨u0, u1, u2, u3, rfl⟩ := list4 ((AtrR.good D).len hR3); have H13 := hide (AtrR.one hR3); have HZ := hide (heap_alloc_new w3 (.cells #[.string ⟨#[]⟩, .int .i64 0, .int .i64 0, .bool false] 128)); obtain ⟨_, _, _, _, hu2, _⟩ := hR3; obtain rfl := Option.some.inj hu2;  have hB3 : Below (w.heap.size + 3) W0 w3 := hb3.mono Hn.out; have hBx := below_alloc hn0 (.cells #[.string ⟨#[]⟩, .int .i64 0, .int .i64 0, .bool false] 128) hB3; clear hb3)
        | (refine wpList_store_at 128 (.tmp 7) (.tmp 14) rfl Hia.out rfl rfl rfl rfl H13.out HZ.out (by decide) ?_; intro W4 hP; have hB4 : Below (w.heap.size + 3) W0 W4 := hBx.trans (hP.below (Nat.le_trans hn0 hB3.size)); have x2 := hP.cellsAt 2 _ rfl; simp only [Nat.zero_add] at x2; clear hP))
      go_ret
      exact ⟨by rw [Hm.out]; simp [hp], Hw.out _ (by assumption)⟩
end Go.Proofs.Ythifibjkgiggfaa
