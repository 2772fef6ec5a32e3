/- A rule copied into new memory: the reference's side. -/
import Derived.Test.YtaihdnlpdibkoaaCopyE
import Derived.Test.YtaihdnlpdibkoaaClone
import Derived.Test.YtaihdnlpdibkoaaRegAl2
import Derived.Test.YtaihdnlpdibkoaaMade
import Derived.Test.YtaihdnlpdibkoaaFindP
import Derived.Test.YtaihdnlpdibkoaaMarkA
import Derived.Deep.RegionHeld3
import Derived.Deep.CutRange
namespace Go.Proofs.Ytaihdnlpdibkoaa
set_option maxRecDepth 100000
open Go.RowKit Go.WideShapes
set_option linter.unusedVariables false

theorem infoEqn : (Try.prog.info? 106).map (fun i => (i.zero, i.size, i.bytes)) = some (some (.agg #[.int .i64 0, .string ByteArray.empty, .int .i64 0, .int .i64 0, .int .i64 0, .int .i64 0, .string ByteArray.empty, .string ByteArray.empty, .slice none 0 0]), 9, 112) := by kernel_rfl
theorem infoConT : (Try.prog.info? 109).map (fun i => (i.zero, i.size, i.bytes)) = some (some (.agg #[.string ByteArray.empty, .string ByteArray.empty, .int .i64 0, .int .i64 0, .int .i64 0, .int .i64 0, .string ByteArray.empty, .string ByteArray.empty, .slice none 0 0, .int .i64 0, .int .i64 0, .int .i64 0, .int .i64 0, .string ByteArray.empty, .string ByteArray.empty, .slice none 0 0]), 16, 208) := by kernel_rfl
theorem CellsAt.part {w : World} {b off : Nat} {cs : List Value} (h : CellsAt w b off cs) (k n : Nat) : CellsAt w b (off + k) ((cs.drop k).take n) := fun j u hu => by
  rw [List.getElem?_take] at hu
  split at hu
  · rw [List.getElem?_drop] at hu
    have := h (k + j) u hu
    rwa [show off + k + j = off + (k + j) by omega]
  · cases hu
theorem ConR.of {D : Nat} {W : World} {X : Con} {us vs : List Value} {F G : List Nat} (h0 : X.ok) (h1 : ExR D W X.target us F) (h2 : ExR D W X.value vs G) : ConR D W X (.string X.symbol :: .string X.name :: (us ++ vs)) (F ++ G) := by
  have hl := (ExR.good D).len h1
  have hl2 := (ExR.good D).len h2
  refine ⟨F, G, by simp [hl, hl2], h0, rfl, rfl, ?_, ?_, rfl⟩
  · show ExR D W X.target ((us ++ vs).take 7) F
    rw [List.take_append_of_le_length (by omega), List.take_of_length_le (by omega)]
    exact h1
  · show ExR D W X.value (((us ++ vs).drop 7).take 7) G
    rw [List.drop_append_of_le_length (by omega), List.drop_of_length_le (by omega), List.nil_append, List.take_of_length_le (by omega)]
    exact h2
theorem EqnR.of {D : Nat} {w W : World} {X : Eqn} {o0 o1 : Value} {us : List Value} {F0 G : List Nat} (h0 : OccR D w X.at_ [o0, o1] F0) (h1 : ExR D W X.expr us G) : EqnR D W X (o0 :: o1 :: us) G := by
  have hl := (ExR.good D).len h1
  refine ⟨[], G, by simp [hl], ⟨h0.1, h0.2.1, h0.2.2.1, h0.2.2.2.1, rfl⟩, ?_, rfl⟩
  show ExR D W X.expr (us.take 7) G
  rw [List.take_of_length_le (by omega)]
  exact h1
theorem two_new (W : World) (o o' : Obj) : ((W.alloc o).alloc o').drew.heap[W.heap.size + 1]? = some o' := by
  have h := heap_alloc_new (W.alloc o) o'
  rw [World.size_alloc] at h
  exact h
set_option maxRecDepth 100000 in
set_option maxHeartbeats 2000000 in
theorem s_l9Copy (D : Nat) (x : Rul) (cs : List Value) (F : List Nat) (w : World) (h : RulR D w x cs F) (hbk : bulkRul D x ≤ 1048576) :
    Calls Try.prog 37 #[.agg cs.toArray] w fun en w' => ∃ us F', en = .returned (.agg (List.toArray us)) ∧ RulR D w' x us F' ∧ Fresh w.heap.size w' F' ∧ Below w.heap.size w w' := by
  obtain ⟨c0, c1, c2, c3, c4, c5, rfl⟩ := list_6 ((RulR.good D).len h)
  obtain ⟨v2, F2, v4, F4, v5, F5, _, hk, h0, h1, ⟨h2, g2⟩, h3, ⟨h4, g4⟩, ⟨h5, g5⟩, rfl⟩ := h
  obtain rfl := Option.some.inj h0
  obtain rfl := Option.some.inj h1
  obtain rfl := Option.some.inj h2
  obtain rfl := Option.some.inj h3
  obtain rfl := Option.some.inj h4
  obtain rfl := Option.some.inj h5
  obtain ⟨A2, cap2, rfl, hlc2, hm2⟩ := g2.form
  obtain ⟨A4, cap4, rfl, hlc4, hm4⟩ := g4.form
  obtain ⟨A5, cap5, rfl, hlc5, hm5⟩ := g5.form
  obtain ⟨hl2, hl4, hl5⟩ := bulk_rul hbk
  have HF2 := hide (g2.lt (StrR.good D))
  have HF4 := hide (g4.lt (EqnR.good D))
  have HF5 := hide (g5.lt (ConR.good D))
  have Hg2 := hide g2
  have Hg4 := hide g4
  have Hg5 := hide g5
  have Hk := hide hk
  obtain ⟨C0, hR0, hz0, hw0⟩ := boxR w [.string x.name, .string x.left, .slice A2 x.right.length cap2, .bool x.lit, .slice A4 x.eqs.length cap4, .slice A5 x.cons.length cap5] [.string ⟨#[]⟩, .string ⟨#[]⟩, .slice none 0 0, .bool false, .slice none 0 0, .slice none 0 0] 31 31
  show Calls _ _ #[.agg #[.string x.name, .string x.left, .slice A2 x.right.length cap2, .bool x.lit, .slice A4 x.eqs.length cap4, .slice A5 x.cons.length cap5]] w _
  clear g2 g4 g5 h0 h1 h2 h3 h4 h5 hk
  go_enter Try.func37, Try.ntmps37
  go_upto_region 1 with fail
  generalize (w.alloc (Obj.cells #[.string x.name, .string x.left, .slice A2 x.right.length cap2, .bool x.lit, .slice A4 x.eqs.length cap4, .slice A5 x.cons.length cap5] 31)).alloc (Obj.cells #[.string ⟨#[]⟩, .string ⟨#[]⟩, .slice none 0 0, .bool false, .slice none 0 0, .slice none 0 0] 31) = W0 at C0 hR0 hz0 hw0 ⊢
  have hn0 : w.heap.size + 2 ≤ W0.heap.size := by omega
  have hB0 : Below (w.heap.size + 2) W0 W0 := Below.refl _ _
  have e0 := cell_rule C0 (n := w.heap.size + 2) (by omega) 0 rfl
  have e1 := cell_rule C0 (n := w.heap.size + 2) (by omega) 1 rfl
  have e2 := cell_rule C0 (n := w.heap.size + 2) (by omega) 2 rfl
  have e3 := cell_rule C0 (n := w.heap.size + 2) (by omega) 3 rfl
  have HR0 := hide hR0
  have Hw0 := hide hw0
  have HC0 := hide C0
  have Hg0 : Hid (SlR 1 (StrR D) W0 x.right (.slice A2 x.right.length cap2) F2) := hide (Hg2.out.below (StrR.good D) hw0 HF2.out)
  have Hg0a : Hid (SlR 1 (StrR D) (W0.alloc (Obj.cells #[.string ⟨#[]⟩, .string ⟨#[]⟩, .slice none 0 0, .bool false, .slice none 0 0, .slice none 0 0] 31)) x.right (.slice A2 x.right.length cap2) F2) := hide (Hg0.out.below (StrR.good D) ((Below.refl w.heap.size W0).alloc (by omega) _) HF2.out)
  have hir : (Try.prog.info? 31).map (·.size) = some 6 := by kernel_rfl
  have Hir := hide hir
  clear C0 hz0 hw0 hR0 hir
  have N0 : ∀ W : World, (W.alloc (.cells #[.string ⟨#[]⟩, .string ⟨#[]⟩, .slice none 0 0, .bool false, .slice none 0 0, .slice none 0 0] 31)).cell? ⟨W.heap.size, 0, none⟩ = some (.string ⟨#[]⟩) := fun W => cell_of_row _ _ 0 _ _ _ (heap_alloc_new W _)
  have M0 : ∀ W : World, (W.alloc (.cells #[.string ⟨#[]⟩, .string ⟨#[]⟩, .slice none 0 0, .bool false, .slice none 0 0, .slice none 0 0] 31)).frozen? ⟨W.heap.size, 0, none⟩ = false := fun W => frozen_of_row _ _ 0 _ _ (heap_alloc_new W _)
  have N1 : ∀ W : World, (W.alloc (.cells #[.string ⟨#[]⟩, .string ⟨#[]⟩, .slice none 0 0, .bool false, .slice none 0 0, .slice none 0 0] 31)).cell? ⟨W.heap.size, 1, none⟩ = some (.string ⟨#[]⟩) := fun W => cell_of_row _ _ 1 _ _ _ (heap_alloc_new W _)
  have M1 : ∀ W : World, (W.alloc (.cells #[.string ⟨#[]⟩, .string ⟨#[]⟩, .slice none 0 0, .bool false, .slice none 0 0, .slice none 0 0] 31)).frozen? ⟨W.heap.size, 1, none⟩ = false := fun W => frozen_of_row _ _ 1 _ _ (heap_alloc_new W _)
  have N2 : ∀ W : World, (W.alloc (.cells #[.string ⟨#[]⟩, .string ⟨#[]⟩, .slice none 0 0, .bool false, .slice none 0 0, .slice none 0 0] 31)).cell? ⟨W.heap.size, 2, none⟩ = some (.slice none 0 0) := fun W => cell_of_row _ _ 2 _ _ _ (heap_alloc_new W _)
  have M2 : ∀ W : World, (W.alloc (.cells #[.string ⟨#[]⟩, .string ⟨#[]⟩, .slice none 0 0, .bool false, .slice none 0 0, .slice none 0 0] 31)).frozen? ⟨W.heap.size, 2, none⟩ = false := fun W => frozen_of_row _ _ 2 _ _ (heap_alloc_new W _)
  have N3 : ∀ W : World, (W.alloc (.cells #[.string ⟨#[]⟩, .string ⟨#[]⟩, .slice none 0 0, .bool false, .slice none 0 0, .slice none 0 0] 31)).cell? ⟨W.heap.size, 3, none⟩ = some (.bool false) := fun W => cell_of_row _ _ 3 _ _ _ (heap_alloc_new W _)
  have M3 : ∀ W : World, (W.alloc (.cells #[.string ⟨#[]⟩, .string ⟨#[]⟩, .slice none 0 0, .bool false, .slice none 0 0, .slice none 0 0] 31)).frozen? ⟨W.heap.size, 3, none⟩ = false := fun W => frozen_of_row _ _ 3 _ _ (heap_alloc_new W _)
  have N4 : ∀ W : World, (W.alloc (.cells #[.string ⟨#[]⟩, .string ⟨#[]⟩, .slice none 0 0, .bool false, .slice none 0 0, .slice none 0 0] 31)).cell? ⟨W.heap.size, 4, none⟩ = some (.slice none 0 0) := fun W => cell_of_row _ _ 4 _ _ _ (heap_alloc_new W _)
  have M4 : ∀ W : World, (W.alloc (.cells #[.string ⟨#[]⟩, .string ⟨#[]⟩, .slice none 0 0, .bool false, .slice none 0 0, .slice none 0 0] 31)).frozen? ⟨W.heap.size, 4, none⟩ = false := fun W => frozen_of_row _ _ 4 _ _ (heap_alloc_new W _)
  have N5 : ∀ W : World, (W.alloc (.cells #[.string ⟨#[]⟩, .string ⟨#[]⟩, .slice none 0 0, .bool false, .slice none 0 0, .slice none 0 0] 31)).cell? ⟨W.heap.size, 5, none⟩ = some (.slice none 0 0) := fun W => cell_of_row _ _ 5 _ _ _ (heap_alloc_new W _)
  have M5 : ∀ W : World, (W.alloc (.cells #[.string ⟨#[]⟩, .string ⟨#[]⟩, .slice none 0 0, .bool false, .slice none 0 0, .slice none 0 0] 31)).frozen? ⟨W.heap.size, 5, none⟩ = false := fun W => frozen_of_row _ _ 5 _ _ (heap_alloc_new W _)
  go_cut [3] from 7 (fun p wx => ∃ (b : Nat) (A : Option Addr) (cap : Nat) (G : List Nat), p = .pointer (some ⟨b, 0, none⟩) ∧ w.heap.size + 2 ≤ b ∧ b ∉ G ∧ (∃ old : Array Value, old.size = 6 ∧ wx.heap[b]? = some (.cells old 31 (0, 0))) ∧ CellsAt wx b 0 [.string x.name, .string x.left, .slice A x.right.length cap, .bool x.lit, .slice none 0 0, .slice none 0 0] ∧ SlR 1 (StrR D) wx x.right (.slice A x.right.length cap) G ∧ Fresh (w.heap.size + 2) wx G ∧ Below (w.heap.size + 2) W0 wx)
  case first =>
    go_region_held3 (fun W => Below (w.heap.size + 2) W0 W)
      (with_reducible first | assumption | exact Below.drew (by assumption) | exact below_alloc hn0 _ (by assumption) | exact Below.drew (below_alloc hn0 _ (by assumption)) | exact Below.drew (below_alloc hn0 _ (below_alloc hn0 _ (by assumption))) | exact below_set6 hB2 (by omega) | exact below_set6 (below_alloc hn0 _ hB2) (by omega))
      ((first
        | (refine step_all2 rfl (.tmp 13) (.tmp 15) 27 9 rfl Try.underlying27 infoStr3 rfl (by decide) (StrR.good D) (StrR.plain D) (fun w x cs F h => StrR.one h) W0 _ x.right A2 cap2 F2 Hg0.out ?hw rfl rfl (by omega) (by omega) ?_
           case hw => (repeat (first | exact Below.refl _ _ | apply Below.drew | refine below_alloc (by simp) _ ?_))
           intro v1 w1 hO hB hk hz ho
           obtain ⟨G, hG1, hG2, hG3⟩ := hO.slr1 (StrR.good D)
           obtain ⟨A6, cap6, rfl, _, _⟩ := hG1.form
           replace hO := hide hO
           replace hG1 := hide hG1
           have hB2 : Below (w.heap.size + 2) W0 w1 := hB.mono hn0
           have hs2 := hB2.size
           (first
            | (have hr1 : w1.heap[W0.heap.size]? = some (.cells #[.string ⟨#[]⟩, .string ⟨#[]⟩, .slice none 0 0, .bool false, .slice none 0 0, .slice none 0 0] 31 (0, 0)) := blk_below (heap_alloc_new W0 _) hB (by simp)
               have q0 := cell_at (i := 0) hr1 (by simp); have y0 := frozen_of_row w1 _ 0 _ _ hr1; have q1 := cell_at (i := 1) hr1 (by simp); have y1 := frozen_of_row w1 _ 1 _ _ hr1; have q2 := cell_at (i := 2) hr1 (by simp); have y2 := frozen_of_row w1 _ 2 _ _ hr1; have q3 := cell_at (i := 3) hr1 (by simp); have y3 := frozen_of_row w1 _ 3 _ _ hr1; have q4 := cell_at (i := 4) hr1 (by simp); have y4 := frozen_of_row w1 _ 4 _ _ hr1; have q5 := cell_at (i := 5) hr1 (by simp); have y5 := frozen_of_row w1 _ 5 _ _ hr1; simp only [Array.getD_eq_getD_getElem?, List.getElem?_toArray, List.getElem?_cons_succ, List.getElem?_cons_zero, Option.getD_some] at q0 q1 q2 q3 q4 q5; replace hr1 := hide hr1)
            | (have hr1 : w1.heap[W0.heap.size + 1]? = some (.cells #[.string ⟨#[]⟩, .string ⟨#[]⟩, .slice none 0 0, .bool false, .slice none 0 0, .slice none 0 0] 31 (0, 0)) := (hk _ (show W0.heap.size + 1 < ((W0.alloc (.cells #[] 9)).alloc (.cells #[.string ⟨#[]⟩, .string ⟨#[]⟩, .slice none 0 0, .bool false, .slice none 0 0, .slice none 0 0] 31)).heap.size by simp) (by omega)).trans (two_new W0 (.cells #[] 9) (.cells #[.string ⟨#[]⟩, .string ⟨#[]⟩, .slice none 0 0, .bool false, .slice none 0 0, .slice none 0 0] 31))
               obtain ⟨b1, hb1⟩ : ∃ b1, b1 = W0.heap.size + 1 := ⟨_, rfl⟩
               rw [← hb1] at hr1 ⊢
               have hb2 : w.heap.size + 2 ≤ b1 := by omega
               replace hb1 := hide hb1
               have q0 := cell_at (i := 0) hr1 (by simp); have y0 := frozen_of_row w1 _ 0 _ _ hr1; have q1 := cell_at (i := 1) hr1 (by simp); have y1 := frozen_of_row w1 _ 1 _ _ hr1; have q2 := cell_at (i := 2) hr1 (by simp); have y2 := frozen_of_row w1 _ 2 _ _ hr1; have q3 := cell_at (i := 3) hr1 (by simp); have y3 := frozen_of_row w1 _ 3 _ _ hr1; have q4 := cell_at (i := 4) hr1 (by simp); have y4 := frozen_of_row w1 _ 4 _ _ hr1; have q5 := cell_at (i := 5) hr1 (by simp); have y5 := frozen_of_row w1 _ 5 _ _ hr1; simp only [Array.getD_eq_getD_getElem?, List.getElem?_toArray, List.getElem?_cons_succ, List.getElem?_cons_zero, Option.getD_some] at q0 q1 q2 q3 q4 q5; replace hr1 := hide hr1)
            | skip)
           replace hk := hide hk
           replace ho := hide ho
           replace hB := hide hB
           replace hG3 := hide hG3
           replace hG2 := hide hG2)
        | (refine step_all2 rfl (.tmp 13) (.tmp 15) 27 9 rfl Try.underlying27 infoStr3 rfl (by decide) (StrR.good D) (StrR.plain D) (fun w x cs F h => StrR.one h) (W0.alloc (Obj.cells #[.string ⟨#[]⟩, .string ⟨#[]⟩, .slice none 0 0, .bool false, .slice none 0 0, .slice none 0 0] 31)) _ x.right A2 cap2 F2 Hg0a.out ?hw (by rw [World.size_alloc]; rfl) rfl (by omega) (by omega) ?_
           case hw => (repeat (first | exact Below.refl _ _ | apply Below.drew | refine below_alloc (by simp) _ ?_))
           intro v1 w1 hO hB hk hz ho
           obtain ⟨G, hG1, hG2, hG3⟩ := hO.slr1 (StrR.good D)
           obtain ⟨A6, cap6, rfl, _, _⟩ := hG1.form
           replace hO := hide hO
           replace hG1 := hide hG1
           have hB2 : Below (w.heap.size + 2) W0 w1 := (below_alloc hn0 _ hB0).trans (hB.mono (by simp; omega))
           have hs2 := hB2.size
           (first
            | (have hr1 : w1.heap[W0.heap.size]? = some (.cells #[.string ⟨#[]⟩, .string ⟨#[]⟩, .slice none 0 0, .bool false, .slice none 0 0, .slice none 0 0] 31 (0, 0)) := blk_below (heap_alloc_new W0 _) hB (by simp)
               have q0 := cell_at (i := 0) hr1 (by simp); have y0 := frozen_of_row w1 _ 0 _ _ hr1; have q1 := cell_at (i := 1) hr1 (by simp); have y1 := frozen_of_row w1 _ 1 _ _ hr1; have q2 := cell_at (i := 2) hr1 (by simp); have y2 := frozen_of_row w1 _ 2 _ _ hr1; have q3 := cell_at (i := 3) hr1 (by simp); have y3 := frozen_of_row w1 _ 3 _ _ hr1; have q4 := cell_at (i := 4) hr1 (by simp); have y4 := frozen_of_row w1 _ 4 _ _ hr1; have q5 := cell_at (i := 5) hr1 (by simp); have y5 := frozen_of_row w1 _ 5 _ _ hr1; simp only [Array.getD_eq_getD_getElem?, List.getElem?_toArray, List.getElem?_cons_succ, List.getElem?_cons_zero, Option.getD_some] at q0 q1 q2 q3 q4 q5; replace hr1 := hide hr1)
            | (have hr1 : w1.heap[W0.heap.size + 1]? = some (.cells #[.string ⟨#[]⟩, .string ⟨#[]⟩, .slice none 0 0, .bool false, .slice none 0 0, .slice none 0 0] 31 (0, 0)) := (hk _ (show W0.heap.size + 1 < ((W0.alloc (.cells #[] 9)).alloc (.cells #[.string ⟨#[]⟩, .string ⟨#[]⟩, .slice none 0 0, .bool false, .slice none 0 0, .slice none 0 0] 31)).heap.size by simp) (by omega)).trans (two_new W0 (.cells #[] 9) (.cells #[.string ⟨#[]⟩, .string ⟨#[]⟩, .slice none 0 0, .bool false, .slice none 0 0, .slice none 0 0] 31))
               obtain ⟨b1, hb1⟩ : ∃ b1, b1 = W0.heap.size + 1 := ⟨_, rfl⟩
               rw [← hb1] at hr1 ⊢
               have hb2 : w.heap.size + 2 ≤ b1 := by omega
               replace hb1 := hide hb1
               have q0 := cell_at (i := 0) hr1 (by simp); have y0 := frozen_of_row w1 _ 0 _ _ hr1; have q1 := cell_at (i := 1) hr1 (by simp); have y1 := frozen_of_row w1 _ 1 _ _ hr1; have q2 := cell_at (i := 2) hr1 (by simp); have y2 := frozen_of_row w1 _ 2 _ _ hr1; have q3 := cell_at (i := 3) hr1 (by simp); have y3 := frozen_of_row w1 _ 3 _ _ hr1; have q4 := cell_at (i := 4) hr1 (by simp); have y4 := frozen_of_row w1 _ 4 _ _ hr1; have q5 := cell_at (i := 5) hr1 (by simp); have y5 := frozen_of_row w1 _ 5 _ _ hr1; simp only [Array.getD_eq_getD_getElem?, List.getElem?_toArray, List.getElem?_cons_succ, List.getElem?_cons_zero, Option.getD_some] at q0 q1 q2 q3 q4 q5; replace hr1 := hide hr1)
            | skip)
           replace hk := hide hk
           replace ho := hide ho
           replace hB := hide hB
           replace hG3 := hide hG3
           replace hG2 := hide hG2)))
    · go_wp2_with fail
      go_meet
      have hnb : w1.heap.size ∉ G := fun hk => Nat.lt_irrefl _ (hG2.out.lt _ hk)
      exact ⟨_, A6, cap6, G, rfl, by omega, hnb, ⟨_, rfl, heap_alloc_new w1 _⟩, CellsAt.new w1 [.string x.name, .string x.left, .slice A6 x.right.length cap6, .bool x.lit, .slice none 0 0, .slice none 0 0] 31, hG1.out.below (StrR.good D) ((Below.refl w1.heap.size w1).alloc (Nat.le_refl _) _) hG2.out.lt, (hG2.out.mono hn0).keep (fun k hk => Below.heap_alloc w1 _ k (hG2.out.lt k hk)), below_alloc hn0 _ hB2⟩
    · go_wp2_with fail
      go_meet
      have hb1o := hb1.out
      have hnb : b1 ∉ G := fun hk => by
        have g1 := ho.out _ (hG3.out _ hk)
        rcases g1 with g1 | g1
        · omega
        · change ((W0.alloc _).alloc _).heap.size ≤ _ at g1
          rw [World.size_alloc, World.size_alloc] at g1
          omega
      obtain ⟨t0, t1, t2, t3, t4⟩ := box_end (StrR.good D) (put_set6 (.string x.name) (.string x.left) (.slice A6 x.right.length cap6) (.bool x.lit) (.slice none 0 0) (.slice none 0 0) hr1.out (by simp)) (B := w.heap.size + 2) (by omega) hB2 hG1.out (hG2.out.mono hn0) hnb
      exact ⟨_, A6, cap6, G, rfl, by omega, hnb, t0, t1, t2, t3, t4⟩
    · go_wp2_with fail
      go_meet
      have hnb : W0.heap.size ∉ G := fun hk => by
        have g1 := hG2.out.from_ _ hk
        rw [World.size_alloc] at g1
        omega
      obtain ⟨t0, t1, t2, t3, t4⟩ := box_end (StrR.good D) (put_set6 (.string x.name) (.string x.left) (.slice A6 x.right.length cap6) (.bool x.lit) (.slice none 0 0) (.slice none 0 0) hr1.out (by simp)) (B := w.heap.size + 2) (by omega) hB2 hG1.out (hG2.out.mono (by rw [World.size_alloc]; omega)) hnb
      exact ⟨_, A6, cap6, G, rfl, by omega, hnb, t0, t1, t2, t3, t4⟩
  case rest =>
    obtain ⟨b, A, cap, G, rfl, hb, hbG, hold, hcat, hsl, hfr, hbw⟩ := hcut
    obtain ⟨old, ho1, ho2⟩ := hold
    have hb1 : b < wc.heap.size := blk_lt ho2
    have Hbx0 : Hid (wc.heap[b]? = some (.cells #[.string x.name, .string x.left, .slice A x.right.length cap, .bool x.lit, .slice none 0 0, .slice none 0 0] 31 (0, 0))) := hide (whole_of ho2 ho1 hcat)
    have Hsl := hide hsl
    have Hfr := hide hfr
    have HbG := hide hbG
    have Hg0' : Hid (wc.grownBy wc (some b)) := hide ⟨rfl, rfl, rfl, Nat.le_refl _, fun _ _ _ => rfl⟩
    have HQ : Hid (∀ y ∈ x.eqs, bulkE D y.expr ≤ 1048576) := hide (bulk_eqs hbk)
    have HQ2 : Hid (∀ y ∈ x.cons, bulkE D y.target ≤ 1048576 ∧ bulkE D y.value ≤ 1048576) := hide (bulk_cons hbk)
    have E4 := hide (cell_rule HC0.out (n := w.heap.size + 2) (by omega) 4 rfl)
    have E5 := hide (cell_rule HC0.out (n := w.heap.size + 2) (by omega) 5 rfl)
    have Hio : Hid ((Try.prog.info? 65).map (·.size) = some 2) := hide (by kernel_rfl)
    have Hix : Hid ((Try.prog.info? 52).map (·.size) = some 7) := hide (by kernel_rfl)
    have Hic : Hid ((Try.prog.info? 109).map (·.size) = some 16) := hide (by kernel_rfl)
    clear ho1 ho2 hcat hsl hfr hbG hbk
    go_wp2_with fail
    go_loopw [4] (fun i wr => ∃ (j : Nat) (v : Value) (F' : List Nat), j ≤ x.eqs.length ∧ i = .int .i64 j ∧ Hid (wc.grownBy wr (some b)) ∧ Hid (wr.heap[b]? = some (.cells #[.string x.name, .string x.left, .slice A x.right.length cap, .bool x.lit, v, .slice none 0 0] 31 (0, 0))) ∧ Hid (OwnS 9 (EqnR D) wc.heap.size 106 wr (x.eqs.take j) v F')) (fun i _ => x.eqs.length - (intOf i).toNat)
    case atStart => exact ⟨0, _, [], by omega, rfl, Hg0', Hbx0, hide (OwnS.nil _)⟩
    case round =>
      obtain ⟨j, v, F', hj, rfl, Hgr, Hbx, Hown⟩ := hrel
      have hwc : Below w.heap.size w wc := Hw0.out.trans (hbw.mono (by omega))
      have hzc := hwc.size
      have hwr : Below w.heap.size w wr := hwc.grown Hgr.out (by omega) (fun k hk => by injection hk with hk; omega)
      have hwr2 : Below (w.heap.size + 2) W0 wr := hbw.grown Hgr.out (by have := hbw.size; omega) (fun k hk => by injection hk with hk; omega)
      have hwcr : wc.heap.size ≤ wr.heap.size := Hgr.out.size
      have qc4 := E4.out wr hwr2
      by_cases hlt : j < x.eqs.length
      · have hX : x.eqs[j]? = some x.eqs[j] := List.getElem?_eq_getElem hlt
        generalize x.eqs[j] = X at hX
        obtain ⟨be, off, es, Fk, hA, _, hbF, hFk, hcl, hcatE, hR⟩ := SlR.get (EqnR.good D) (Hg4.out.below (EqnR.good D) hwr HF4.out) hX
        subst hA
        have HX := hide hX
        have hbke : bulkE D X.expr ≤ 1048576 := HQ.out X (List.mem_of_getElem? hX)
        have hbew : be < w.heap.size := HF4.out be hbF
        have hbe : be < wr.heap.size := by omega
        obtain ⟨Av, capv, hv, _, _⟩ := Hown.out.form
        rw [List.length_take, Nat.min_eq_left hj] at hv
        subst hv
        obtain ⟨F0, FE, h9, hO, hE, hFe⟩ := hR
        obtain ⟨o0, o1, e0, e1, e2, e3, e4, e5, e6, rfl⟩ := list_9 h9
        have HO : Hid (OccR D wr X.at_ [o0, o1] F0) := hide hO
        have HE : Hid (ExR D wr X.expr [e0, e1, e2, e3, e4, e5, e6] FE) := hide hE
        have HFE : Hid (∀ k ∈ FE, k < wr.heap.size) := hide ((ExR.good D).lt hE)
        have Hco : Hid (CellsAt wr be (off + j * 9) [o0, o1]) := hide (hcatE.part 0 2)
        have Hcx : Hid (CellsAt wr be (off + j * 9 + 2) [e0, e1, e2, e3, e4, e5, e6]) := hide (hcatE.part 2 7)
        have hbwc : b < wc.heap.size := hb1
        have hbr : b < wr.heap.size := by omega
        have hwz : w.heap.size < wr.heap.size := by omega
        have q4 := cell_at (i := 4) Hbx.out (by simp)
        have HFl := hide Hown.out.fresh.lt
        have HVl : Hid (∀ k, (Value.slice Av j capv).ownBlock = some k → k < wr.heap.size) := hide (fun k hk => (Hown.out.blk k hk).2)
        have Htl : Hid ((x.eqs.take j ++ [X]).length = j + 1) := hide (by simp; omega)
        have Hb1 : Hid ((x.eqs.take j).length + 1 ≤ 1099511627776) := hide (by rw [List.length_take]; omega)
        have Hb2 : Hid (((x.eqs.take j).length + 1) * 112 ≤ 140737488355328) := hide (by rw [List.length_take]; omega)
        have hj0 : (0 : Int) ≤ (j : Int) := by omega
        have hj1 : (j : Int) < (x.eqs.length : Int) := by omega
        clear hX hbF hFk hcl hcatE hO hE hFe h9
        go_wp2_with fail
        refine region_invA (fun a0 l a' w' => ∃ x0 x1 x2 x3 x4 x5 x6 x7 x8 x9 x10 x11 x12 x13 x14 x15 x16 x17 x18 : Value, a' = (((((((((((((((((((a0.put (some 25) x0).put (some 26) x1).put (some 27) x2).put (some 28) x3).put (some 29) x4).put (some 30) x5).put (some 31) x6).put (some 32) x7).put (some 33) x8).put (some 34) x9).put (some 35) x10).put (some 36) x11).put (some 37) x12).put (some 38) x13).put (some 39) x14).put (some 40) x15).put (some 41) x16).put (some 42) x17).put (some 43) x18) ∧ (l 19 = true → ∀ i, i < 19 → l i = true) ∧ (l 19 = true → ∃ (W1 : World) (A8 : Option Addr) (cap8 : Nat) (F8 : List Nat), OwnS 9 (EqnR D) wc.heap.size 106 W1 (x.eqs.take j ++ [X]) (.slice A8 (j + 1) cap8) F8 ∧ Below wc.heap.size wr W1 ∧ w' = W1.setCell ⟨b, 4, none⟩ (.slice A8 (j + 1) cap8)) ∧ (l 19 = false → (l 17 = true → ∀ i, i < 17 → l i = true) ∧ (l 17 = false → Below wr.heap.size wr w') ∧ (l 0 = true → x0 = .pointer (some ⟨b, 4, none⟩)) ∧ (l 1 = true → x1 = .slice Av j capv) ∧ (l 2 = true → x2 = .pointer (some ⟨w.heap.size, 4, none⟩)) ∧ (l 3 = true → x3 = .slice (some ⟨be, off, none⟩) x.eqs.length cap4) ∧ (l 4 = true → x4 = .int .i64 (j : Int)) ∧ (l 5 = true → x5 = .pointer (some ⟨be, off + j * 9, none⟩)) ∧ (l 6 = true → x6 = .pointer (some ⟨be, off + j * 9, none⟩)) ∧ (l 7 = true → x7 = .agg #[o0, o1]) ∧ (l 8 = true → x8 = .pointer (some ⟨w.heap.size, 4, none⟩)) ∧ (l 9 = true → x9 = .slice (some ⟨be, off, none⟩) x.eqs.length cap4) ∧ (l 10 = true → x10 = .int .i64 (j : Int)) ∧ (l 11 = true → x11 = .pointer (some ⟨be, off + j * 9, none⟩)) ∧ (l 12 = true → x12 = .pointer (some ⟨be, off + j * 9 + 2, none⟩)) ∧ (l 13 = true → x13 = .agg #[e0, e1, e2, e3, e4, e5, e6]) ∧ (l 14 = true → (l 17 = false → AgM wr.heap.size (ExR D) w' X.expr x14)) ∧ (l 15 = true → (l 17 = false → AgM wr.heap.size (EqnR D) w' X x15)) ∧ (l 16 = true → (l 17 = false → SlM wr.heap.size (EqnR D) 106 w' X x16)) ∧ (l 17 = true → ∃ (A8 : Option Addr) (cap8 : Nat) (F8 : List Nat), x17 = .slice A8 (j + 1) cap8 ∧ OwnS 9 (EqnR D) wc.heap.size 106 w' (x.eqs.take j ++ [X]) (.slice A8 (j + 1) cap8) F8 ∧ Below wc.heap.size wr w') ∧ (l 18 = true → x18 = .pointer (some ⟨b, 4, none⟩)))) rfl (by kernel_rfl) ?h0 ?hstep ?hend
        case h0 => exact ⟨u25, u26, u27, u28, u29, u30, u31, u32, u33, u34, u35, u36, u37, u38, u39, u40, u41, u42, u43, by kernel_rfl, fun h => absurd h (by decide), fun h => absurd h (by decide), fun _ => ⟨fun h => absurd h (by decide), fun _ => (Below.refl _ _).drew, fun h => absurd h (by decide), fun h => absurd h (by decide), fun h => absurd h (by decide), fun h => absurd h (by decide), fun h => absurd h (by decide), fun h => absurd h (by decide), fun h => absurd h (by decide), fun h => absurd h (by decide), fun h => absurd h (by decide), fun h => absurd h (by decide), fun h => absurd h (by decide), fun h => absurd h (by decide), fun h => absurd h (by decide), fun h => absurd h (by decide), fun h => absurd h (by decide), fun h => absurd h (by decide), fun h => absurd h (by decide), fun h => absurd h (by decide), fun h => absurd h (by decide)⟩⟩
        case hstep =>
          refine ⟨?s0, ?s1, ?s2, ?s3, ?s4, ?s5, ?s6, ?s7, ?s8, ?s9, ?s10, ?s11, ?s12, ?s13, ?s14, ?s15, ?s16, ?s17, ?s18, ?s19, trivial⟩
          case s0 =>
            intro l a' w' hk hpre hJ K hK
            obtain ⟨x0, x1, x2, x3, x4, x5, x6, x7, x8, x9, x10, x11, x12, x13, x14, x15, x16, x17, x18, ha, hall, hfin, hfs⟩ := hJ
            have h12 : l 19 = false := upd_last hall hk (by decide)
            clear hall hfin
            obtain ⟨hA17, hB, f0, f1, f2, f3, f4, f5, f6, f7, f8, f9, f10, f11, f12, f13, f14, f15, f16, f17, f18⟩ := hfs h12
            clear hfs
            have h17 : l 17 = false := upd_last hA17 hk (by decide)
            have hBw := hB h17

            subst ha
            go_simp
            exact hK.out _ _ ⟨.pointer (some ⟨b, 4, none⟩), x1, x2, x3, x4, x5, x6, x7, x8, x9, x10, x11, x12, x13, x14, x15, x16, x17, x18, by kernel_rfl, fun h => absurd (updL_ne h (by decide)) (by rw [h12]; decide), fun h => absurd (updL_ne h (by decide)) (by rw [h12]; decide), fun _ => ⟨updL_all hA17 (by decide), fun h => hB (updL_f h), fun _ => rfl, fun h => f1 (updL_ne h (by decide)), fun h => f2 (updL_ne h (by decide)), fun h => f3 (updL_ne h (by decide)), fun h => f4 (updL_ne h (by decide)), fun h => f5 (updL_ne h (by decide)), fun h => f6 (updL_ne h (by decide)), fun h => f7 (updL_ne h (by decide)), fun h => f8 (updL_ne h (by decide)), fun h => f9 (updL_ne h (by decide)), fun h => f10 (updL_ne h (by decide)), fun h => f11 (updL_ne h (by decide)), fun h => f12 (updL_ne h (by decide)), fun h => f13 (updL_ne h (by decide)), fun h => AgM.monoC (ExR.good D) (Below.refl _ _) (f14 (updL_ne h (by decide))), fun h => AgM.monoC (EqnR.good D) (Below.refl _ _) (f15 (updL_ne h (by decide))), fun h => SlM.monoC (EqnR.good D) (Below.refl _ _) (f16 (updL_ne h (by decide))), fun h => absurd (updL_ne h (by decide)) (by rw [h17]; decide), fun h => f18 (updL_ne h (by decide))⟩⟩
          case s1 =>
            intro l a' w' hk hpre hJ K hK
            obtain ⟨x0, x1, x2, x3, x4, x5, x6, x7, x8, x9, x10, x11, x12, x13, x14, x15, x16, x17, x18, ha, hall, hfin, hfs⟩ := hJ
            have h12 : l 19 = false := upd_last hall hk (by decide)
            clear hall hfin
            obtain ⟨hA17, hB, f0, f1, f2, f3, f4, f5, f6, f7, f8, f9, f10, f11, f12, f13, f14, f15, f16, f17, f18⟩ := hfs h12
            clear hfs
            have p0 : l 0 = true := hpre 0 (by kernel_rfl)
            have h17 : l 17 = false := upd_last hA17 hk (by decide)
            have hBw := hB h17
            obtain rfl := f0 p0
            have q : w'.cell? ⟨b, 4, none⟩ = some (.slice Av j capv) := (hBw.cell (p := ⟨b, 4, none⟩) hbr).trans q4
            subst ha
            go_simp
            exact hK.out _ _ ⟨.pointer (some ⟨b, 4, none⟩), .slice Av j capv, x2, x3, x4, x5, x6, x7, x8, x9, x10, x11, x12, x13, x14, x15, x16, x17, x18, by kernel_rfl, fun h => absurd (updL_ne h (by decide)) (by rw [h12]; decide), fun h => absurd (updL_ne h (by decide)) (by rw [h12]; decide), fun _ => ⟨updL_all hA17 (by decide), fun h => hB (updL_f h), fun h => f0 (updL_ne h (by decide)), fun _ => rfl, fun h => f2 (updL_ne h (by decide)), fun h => f3 (updL_ne h (by decide)), fun h => f4 (updL_ne h (by decide)), fun h => f5 (updL_ne h (by decide)), fun h => f6 (updL_ne h (by decide)), fun h => f7 (updL_ne h (by decide)), fun h => f8 (updL_ne h (by decide)), fun h => f9 (updL_ne h (by decide)), fun h => f10 (updL_ne h (by decide)), fun h => f11 (updL_ne h (by decide)), fun h => f12 (updL_ne h (by decide)), fun h => f13 (updL_ne h (by decide)), fun h => AgM.monoC (ExR.good D) (Below.refl _ _) (f14 (updL_ne h (by decide))), fun h => AgM.monoC (EqnR.good D) (Below.refl _ _) (f15 (updL_ne h (by decide))), fun h => SlM.monoC (EqnR.good D) (Below.refl _ _) (f16 (updL_ne h (by decide))), fun h => absurd (updL_ne h (by decide)) (by rw [h17]; decide), fun h => f18 (updL_ne h (by decide))⟩⟩
          case s2 =>
            intro l a' w' hk hpre hJ K hK
            obtain ⟨x0, x1, x2, x3, x4, x5, x6, x7, x8, x9, x10, x11, x12, x13, x14, x15, x16, x17, x18, ha, hall, hfin, hfs⟩ := hJ
            have h12 : l 19 = false := upd_last hall hk (by decide)
            clear hall hfin
            obtain ⟨hA17, hB, f0, f1, f2, f3, f4, f5, f6, f7, f8, f9, f10, f11, f12, f13, f14, f15, f16, f17, f18⟩ := hfs h12
            clear hfs
            have h17 : l 17 = false := upd_last hA17 hk (by decide)
            have hBw := hB h17

            subst ha
            go_simp
            exact hK.out _ _ ⟨x0, x1, .pointer (some ⟨w.heap.size, 4, none⟩), x3, x4, x5, x6, x7, x8, x9, x10, x11, x12, x13, x14, x15, x16, x17, x18, by kernel_rfl, fun h => absurd (updL_ne h (by decide)) (by rw [h12]; decide), fun h => absurd (updL_ne h (by decide)) (by rw [h12]; decide), fun _ => ⟨updL_all hA17 (by decide), fun h => hB (updL_f h), fun h => f0 (updL_ne h (by decide)), fun h => f1 (updL_ne h (by decide)), fun _ => rfl, fun h => f3 (updL_ne h (by decide)), fun h => f4 (updL_ne h (by decide)), fun h => f5 (updL_ne h (by decide)), fun h => f6 (updL_ne h (by decide)), fun h => f7 (updL_ne h (by decide)), fun h => f8 (updL_ne h (by decide)), fun h => f9 (updL_ne h (by decide)), fun h => f10 (updL_ne h (by decide)), fun h => f11 (updL_ne h (by decide)), fun h => f12 (updL_ne h (by decide)), fun h => f13 (updL_ne h (by decide)), fun h => AgM.monoC (ExR.good D) (Below.refl _ _) (f14 (updL_ne h (by decide))), fun h => AgM.monoC (EqnR.good D) (Below.refl _ _) (f15 (updL_ne h (by decide))), fun h => SlM.monoC (EqnR.good D) (Below.refl _ _) (f16 (updL_ne h (by decide))), fun h => absurd (updL_ne h (by decide)) (by rw [h17]; decide), fun h => f18 (updL_ne h (by decide))⟩⟩
          case s3 =>
            intro l a' w' hk hpre hJ K hK
            obtain ⟨x0, x1, x2, x3, x4, x5, x6, x7, x8, x9, x10, x11, x12, x13, x14, x15, x16, x17, x18, ha, hall, hfin, hfs⟩ := hJ
            have h12 : l 19 = false := upd_last hall hk (by decide)
            clear hall hfin
            obtain ⟨hA17, hB, f0, f1, f2, f3, f4, f5, f6, f7, f8, f9, f10, f11, f12, f13, f14, f15, f16, f17, f18⟩ := hfs h12
            clear hfs
            have p2 : l 2 = true := hpre 2 (by kernel_rfl)
            have h17 : l 17 = false := upd_last hA17 hk (by decide)
            have hBw := hB h17
            obtain rfl := f2 p2
            have q : w'.cell? ⟨w.heap.size, 4, none⟩ = some (.slice (some ⟨be, off, none⟩) x.eqs.length cap4) := (hBw.cell (p := ⟨w.heap.size, 4, none⟩) hwz).trans qc4
            subst ha
            go_simp
            exact hK.out _ _ ⟨x0, x1, .pointer (some ⟨w.heap.size, 4, none⟩), .slice (some ⟨be, off, none⟩) x.eqs.length cap4, x4, x5, x6, x7, x8, x9, x10, x11, x12, x13, x14, x15, x16, x17, x18, by kernel_rfl, fun h => absurd (updL_ne h (by decide)) (by rw [h12]; decide), fun h => absurd (updL_ne h (by decide)) (by rw [h12]; decide), fun _ => ⟨updL_all hA17 (by decide), fun h => hB (updL_f h), fun h => f0 (updL_ne h (by decide)), fun h => f1 (updL_ne h (by decide)), fun h => f2 (updL_ne h (by decide)), fun _ => rfl, fun h => f4 (updL_ne h (by decide)), fun h => f5 (updL_ne h (by decide)), fun h => f6 (updL_ne h (by decide)), fun h => f7 (updL_ne h (by decide)), fun h => f8 (updL_ne h (by decide)), fun h => f9 (updL_ne h (by decide)), fun h => f10 (updL_ne h (by decide)), fun h => f11 (updL_ne h (by decide)), fun h => f12 (updL_ne h (by decide)), fun h => f13 (updL_ne h (by decide)), fun h => AgM.monoC (ExR.good D) (Below.refl _ _) (f14 (updL_ne h (by decide))), fun h => AgM.monoC (EqnR.good D) (Below.refl _ _) (f15 (updL_ne h (by decide))), fun h => SlM.monoC (EqnR.good D) (Below.refl _ _) (f16 (updL_ne h (by decide))), fun h => absurd (updL_ne h (by decide)) (by rw [h17]; decide), fun h => f18 (updL_ne h (by decide))⟩⟩
          case s4 =>
            intro l a' w' hk hpre hJ K hK
            obtain ⟨x0, x1, x2, x3, x4, x5, x6, x7, x8, x9, x10, x11, x12, x13, x14, x15, x16, x17, x18, ha, hall, hfin, hfs⟩ := hJ
            have h12 : l 19 = false := upd_last hall hk (by decide)
            clear hall hfin
            obtain ⟨hA17, hB, f0, f1, f2, f3, f4, f5, f6, f7, f8, f9, f10, f11, f12, f13, f14, f15, f16, f17, f18⟩ := hfs h12
            clear hfs
            have h17 : l 17 = false := upd_last hA17 hk (by decide)
            have hBw := hB h17

            subst ha
            go_simp
            exact hK.out _ _ ⟨x0, x1, x2, x3, .int .i64 (j : Int), x5, x6, x7, x8, x9, x10, x11, x12, x13, x14, x15, x16, x17, x18, by kernel_rfl, fun h => absurd (updL_ne h (by decide)) (by rw [h12]; decide), fun h => absurd (updL_ne h (by decide)) (by rw [h12]; decide), fun _ => ⟨updL_all hA17 (by decide), fun h => hB (updL_f h), fun h => f0 (updL_ne h (by decide)), fun h => f1 (updL_ne h (by decide)), fun h => f2 (updL_ne h (by decide)), fun h => f3 (updL_ne h (by decide)), fun _ => rfl, fun h => f5 (updL_ne h (by decide)), fun h => f6 (updL_ne h (by decide)), fun h => f7 (updL_ne h (by decide)), fun h => f8 (updL_ne h (by decide)), fun h => f9 (updL_ne h (by decide)), fun h => f10 (updL_ne h (by decide)), fun h => f11 (updL_ne h (by decide)), fun h => f12 (updL_ne h (by decide)), fun h => f13 (updL_ne h (by decide)), fun h => AgM.monoC (ExR.good D) (Below.refl _ _) (f14 (updL_ne h (by decide))), fun h => AgM.monoC (EqnR.good D) (Below.refl _ _) (f15 (updL_ne h (by decide))), fun h => SlM.monoC (EqnR.good D) (Below.refl _ _) (f16 (updL_ne h (by decide))), fun h => absurd (updL_ne h (by decide)) (by rw [h17]; decide), fun h => f18 (updL_ne h (by decide))⟩⟩
          case s5 =>
            intro l a' w' hk hpre hJ K hK
            obtain ⟨x0, x1, x2, x3, x4, x5, x6, x7, x8, x9, x10, x11, x12, x13, x14, x15, x16, x17, x18, ha, hall, hfin, hfs⟩ := hJ
            have h12 : l 19 = false := upd_last hall hk (by decide)
            clear hall hfin
            obtain ⟨hA17, hB, f0, f1, f2, f3, f4, f5, f6, f7, f8, f9, f10, f11, f12, f13, f14, f15, f16, f17, f18⟩ := hfs h12
            clear hfs
            have p3 : l 3 = true := hpre 3 (by kernel_rfl)
            have p4 : l 4 = true := hpre 4 (by kernel_rfl)
            have h17 : l 17 = false := upd_last hA17 hk (by decide)
            have hBw := hB h17
            obtain rfl := f3 p3
            obtain rfl := f4 p4

            subst ha
            go_simp
            exact hK.out _ _ ⟨x0, x1, x2, .slice (some ⟨be, off, none⟩) x.eqs.length cap4, .int .i64 (j : Int), .pointer (some ⟨be, off + j * 9, none⟩), x6, x7, x8, x9, x10, x11, x12, x13, x14, x15, x16, x17, x18, by kernel_rfl, fun h => absurd (updL_ne h (by decide)) (by rw [h12]; decide), fun h => absurd (updL_ne h (by decide)) (by rw [h12]; decide), fun _ => ⟨updL_all hA17 (by decide), fun h => hB (updL_f h), fun h => f0 (updL_ne h (by decide)), fun h => f1 (updL_ne h (by decide)), fun h => f2 (updL_ne h (by decide)), fun h => f3 (updL_ne h (by decide)), fun h => f4 (updL_ne h (by decide)), fun _ => rfl, fun h => f6 (updL_ne h (by decide)), fun h => f7 (updL_ne h (by decide)), fun h => f8 (updL_ne h (by decide)), fun h => f9 (updL_ne h (by decide)), fun h => f10 (updL_ne h (by decide)), fun h => f11 (updL_ne h (by decide)), fun h => f12 (updL_ne h (by decide)), fun h => f13 (updL_ne h (by decide)), fun h => AgM.monoC (ExR.good D) (Below.refl _ _) (f14 (updL_ne h (by decide))), fun h => AgM.monoC (EqnR.good D) (Below.refl _ _) (f15 (updL_ne h (by decide))), fun h => SlM.monoC (EqnR.good D) (Below.refl _ _) (f16 (updL_ne h (by decide))), fun h => absurd (updL_ne h (by decide)) (by rw [h17]; decide), fun h => f18 (updL_ne h (by decide))⟩⟩
          case s6 =>
            intro l a' w' hk hpre hJ K hK
            obtain ⟨x0, x1, x2, x3, x4, x5, x6, x7, x8, x9, x10, x11, x12, x13, x14, x15, x16, x17, x18, ha, hall, hfin, hfs⟩ := hJ
            have h12 : l 19 = false := upd_last hall hk (by decide)
            clear hall hfin
            obtain ⟨hA17, hB, f0, f1, f2, f3, f4, f5, f6, f7, f8, f9, f10, f11, f12, f13, f14, f15, f16, f17, f18⟩ := hfs h12
            clear hfs
            have p5 : l 5 = true := hpre 5 (by kernel_rfl)
            have h17 : l 17 = false := upd_last hA17 hk (by decide)
            have hBw := hB h17
            obtain rfl := f5 p5

            subst ha
            go_simp
            exact hK.out _ _ ⟨x0, x1, x2, x3, x4, .pointer (some ⟨be, off + j * 9, none⟩), .pointer (some ⟨be, off + j * 9, none⟩), x7, x8, x9, x10, x11, x12, x13, x14, x15, x16, x17, x18, by kernel_rfl, fun h => absurd (updL_ne h (by decide)) (by rw [h12]; decide), fun h => absurd (updL_ne h (by decide)) (by rw [h12]; decide), fun _ => ⟨updL_all hA17 (by decide), fun h => hB (updL_f h), fun h => f0 (updL_ne h (by decide)), fun h => f1 (updL_ne h (by decide)), fun h => f2 (updL_ne h (by decide)), fun h => f3 (updL_ne h (by decide)), fun h => f4 (updL_ne h (by decide)), fun h => f5 (updL_ne h (by decide)), fun _ => rfl, fun h => f7 (updL_ne h (by decide)), fun h => f8 (updL_ne h (by decide)), fun h => f9 (updL_ne h (by decide)), fun h => f10 (updL_ne h (by decide)), fun h => f11 (updL_ne h (by decide)), fun h => f12 (updL_ne h (by decide)), fun h => f13 (updL_ne h (by decide)), fun h => AgM.monoC (ExR.good D) (Below.refl _ _) (f14 (updL_ne h (by decide))), fun h => AgM.monoC (EqnR.good D) (Below.refl _ _) (f15 (updL_ne h (by decide))), fun h => SlM.monoC (EqnR.good D) (Below.refl _ _) (f16 (updL_ne h (by decide))), fun h => absurd (updL_ne h (by decide)) (by rw [h17]; decide), fun h => f18 (updL_ne h (by decide))⟩⟩
          case s7 =>
            intro l a' w' hk hpre hJ K hK
            obtain ⟨x0, x1, x2, x3, x4, x5, x6, x7, x8, x9, x10, x11, x12, x13, x14, x15, x16, x17, x18, ha, hall, hfin, hfs⟩ := hJ
            have h12 : l 19 = false := upd_last hall hk (by decide)
            clear hall hfin
            obtain ⟨hA17, hB, f0, f1, f2, f3, f4, f5, f6, f7, f8, f9, f10, f11, f12, f13, f14, f15, f16, f17, f18⟩ := hfs h12
            clear hfs
            have p6 : l 6 = true := hpre 6 (by kernel_rfl)
            have h17 : l 17 = false := upd_last hA17 hk (by decide)
            have hBw := hB h17
            obtain rfl := f6 p6

            refine step_load rfl 65 (.tmp 31) rfl Try.underlying65 rfl (cs := [o0, o1]) (b := be) (off := off + j * 9) Hio.out (by rw [ha]; kernel_rfl) rfl (Hco.out.below hBw hbe) ?_
            subst ha
            exact hK.out _ _ ⟨x0, x1, x2, x3, x4, x5, .pointer (some ⟨be, off + j * 9, none⟩), .agg #[o0, o1], x8, x9, x10, x11, x12, x13, x14, x15, x16, x17, x18, by kernel_rfl, fun h => absurd (updL_ne h (by decide)) (by rw [h12]; decide), fun h => absurd (updL_ne h (by decide)) (by rw [h12]; decide), fun _ => ⟨updL_all hA17 (by decide), fun h => hB (updL_f h), fun h => f0 (updL_ne h (by decide)), fun h => f1 (updL_ne h (by decide)), fun h => f2 (updL_ne h (by decide)), fun h => f3 (updL_ne h (by decide)), fun h => f4 (updL_ne h (by decide)), fun h => f5 (updL_ne h (by decide)), fun h => f6 (updL_ne h (by decide)), fun _ => rfl, fun h => f8 (updL_ne h (by decide)), fun h => f9 (updL_ne h (by decide)), fun h => f10 (updL_ne h (by decide)), fun h => f11 (updL_ne h (by decide)), fun h => f12 (updL_ne h (by decide)), fun h => f13 (updL_ne h (by decide)), fun h => AgM.monoC (ExR.good D) (Below.refl _ _) (f14 (updL_ne h (by decide))), fun h => AgM.monoC (EqnR.good D) (Below.refl _ _) (f15 (updL_ne h (by decide))), fun h => SlM.monoC (EqnR.good D) (Below.refl _ _) (f16 (updL_ne h (by decide))), fun h => absurd (updL_ne h (by decide)) (by rw [h17]; decide), fun h => f18 (updL_ne h (by decide))⟩⟩
          case s8 =>
            intro l a' w' hk hpre hJ K hK
            obtain ⟨x0, x1, x2, x3, x4, x5, x6, x7, x8, x9, x10, x11, x12, x13, x14, x15, x16, x17, x18, ha, hall, hfin, hfs⟩ := hJ
            have h12 : l 19 = false := upd_last hall hk (by decide)
            clear hall hfin
            obtain ⟨hA17, hB, f0, f1, f2, f3, f4, f5, f6, f7, f8, f9, f10, f11, f12, f13, f14, f15, f16, f17, f18⟩ := hfs h12
            clear hfs
            have h17 : l 17 = false := upd_last hA17 hk (by decide)
            have hBw := hB h17

            subst ha
            go_simp
            exact hK.out _ _ ⟨x0, x1, x2, x3, x4, x5, x6, x7, .pointer (some ⟨w.heap.size, 4, none⟩), x9, x10, x11, x12, x13, x14, x15, x16, x17, x18, by kernel_rfl, fun h => absurd (updL_ne h (by decide)) (by rw [h12]; decide), fun h => absurd (updL_ne h (by decide)) (by rw [h12]; decide), fun _ => ⟨updL_all hA17 (by decide), fun h => hB (updL_f h), fun h => f0 (updL_ne h (by decide)), fun h => f1 (updL_ne h (by decide)), fun h => f2 (updL_ne h (by decide)), fun h => f3 (updL_ne h (by decide)), fun h => f4 (updL_ne h (by decide)), fun h => f5 (updL_ne h (by decide)), fun h => f6 (updL_ne h (by decide)), fun h => f7 (updL_ne h (by decide)), fun _ => rfl, fun h => f9 (updL_ne h (by decide)), fun h => f10 (updL_ne h (by decide)), fun h => f11 (updL_ne h (by decide)), fun h => f12 (updL_ne h (by decide)), fun h => f13 (updL_ne h (by decide)), fun h => AgM.monoC (ExR.good D) (Below.refl _ _) (f14 (updL_ne h (by decide))), fun h => AgM.monoC (EqnR.good D) (Below.refl _ _) (f15 (updL_ne h (by decide))), fun h => SlM.monoC (EqnR.good D) (Below.refl _ _) (f16 (updL_ne h (by decide))), fun h => absurd (updL_ne h (by decide)) (by rw [h17]; decide), fun h => f18 (updL_ne h (by decide))⟩⟩
          case s9 =>
            intro l a' w' hk hpre hJ K hK
            obtain ⟨x0, x1, x2, x3, x4, x5, x6, x7, x8, x9, x10, x11, x12, x13, x14, x15, x16, x17, x18, ha, hall, hfin, hfs⟩ := hJ
            have h12 : l 19 = false := upd_last hall hk (by decide)
            clear hall hfin
            obtain ⟨hA17, hB, f0, f1, f2, f3, f4, f5, f6, f7, f8, f9, f10, f11, f12, f13, f14, f15, f16, f17, f18⟩ := hfs h12
            clear hfs
            have p8 : l 8 = true := hpre 8 (by kernel_rfl)
            have h17 : l 17 = false := upd_last hA17 hk (by decide)
            have hBw := hB h17
            obtain rfl := f8 p8
            have q : w'.cell? ⟨w.heap.size, 4, none⟩ = some (.slice (some ⟨be, off, none⟩) x.eqs.length cap4) := (hBw.cell (p := ⟨w.heap.size, 4, none⟩) hwz).trans qc4
            subst ha
            go_simp
            exact hK.out _ _ ⟨x0, x1, x2, x3, x4, x5, x6, x7, .pointer (some ⟨w.heap.size, 4, none⟩), .slice (some ⟨be, off, none⟩) x.eqs.length cap4, x10, x11, x12, x13, x14, x15, x16, x17, x18, by kernel_rfl, fun h => absurd (updL_ne h (by decide)) (by rw [h12]; decide), fun h => absurd (updL_ne h (by decide)) (by rw [h12]; decide), fun _ => ⟨updL_all hA17 (by decide), fun h => hB (updL_f h), fun h => f0 (updL_ne h (by decide)), fun h => f1 (updL_ne h (by decide)), fun h => f2 (updL_ne h (by decide)), fun h => f3 (updL_ne h (by decide)), fun h => f4 (updL_ne h (by decide)), fun h => f5 (updL_ne h (by decide)), fun h => f6 (updL_ne h (by decide)), fun h => f7 (updL_ne h (by decide)), fun h => f8 (updL_ne h (by decide)), fun _ => rfl, fun h => f10 (updL_ne h (by decide)), fun h => f11 (updL_ne h (by decide)), fun h => f12 (updL_ne h (by decide)), fun h => f13 (updL_ne h (by decide)), fun h => AgM.monoC (ExR.good D) (Below.refl _ _) (f14 (updL_ne h (by decide))), fun h => AgM.monoC (EqnR.good D) (Below.refl _ _) (f15 (updL_ne h (by decide))), fun h => SlM.monoC (EqnR.good D) (Below.refl _ _) (f16 (updL_ne h (by decide))), fun h => absurd (updL_ne h (by decide)) (by rw [h17]; decide), fun h => f18 (updL_ne h (by decide))⟩⟩
          case s10 =>
            intro l a' w' hk hpre hJ K hK
            obtain ⟨x0, x1, x2, x3, x4, x5, x6, x7, x8, x9, x10, x11, x12, x13, x14, x15, x16, x17, x18, ha, hall, hfin, hfs⟩ := hJ
            have h12 : l 19 = false := upd_last hall hk (by decide)
            clear hall hfin
            obtain ⟨hA17, hB, f0, f1, f2, f3, f4, f5, f6, f7, f8, f9, f10, f11, f12, f13, f14, f15, f16, f17, f18⟩ := hfs h12
            clear hfs
            have h17 : l 17 = false := upd_last hA17 hk (by decide)
            have hBw := hB h17

            subst ha
            go_simp
            exact hK.out _ _ ⟨x0, x1, x2, x3, x4, x5, x6, x7, x8, x9, .int .i64 (j : Int), x11, x12, x13, x14, x15, x16, x17, x18, by kernel_rfl, fun h => absurd (updL_ne h (by decide)) (by rw [h12]; decide), fun h => absurd (updL_ne h (by decide)) (by rw [h12]; decide), fun _ => ⟨updL_all hA17 (by decide), fun h => hB (updL_f h), fun h => f0 (updL_ne h (by decide)), fun h => f1 (updL_ne h (by decide)), fun h => f2 (updL_ne h (by decide)), fun h => f3 (updL_ne h (by decide)), fun h => f4 (updL_ne h (by decide)), fun h => f5 (updL_ne h (by decide)), fun h => f6 (updL_ne h (by decide)), fun h => f7 (updL_ne h (by decide)), fun h => f8 (updL_ne h (by decide)), fun h => f9 (updL_ne h (by decide)), fun _ => rfl, fun h => f11 (updL_ne h (by decide)), fun h => f12 (updL_ne h (by decide)), fun h => f13 (updL_ne h (by decide)), fun h => AgM.monoC (ExR.good D) (Below.refl _ _) (f14 (updL_ne h (by decide))), fun h => AgM.monoC (EqnR.good D) (Below.refl _ _) (f15 (updL_ne h (by decide))), fun h => SlM.monoC (EqnR.good D) (Below.refl _ _) (f16 (updL_ne h (by decide))), fun h => absurd (updL_ne h (by decide)) (by rw [h17]; decide), fun h => f18 (updL_ne h (by decide))⟩⟩
          case s11 =>
            intro l a' w' hk hpre hJ K hK
            obtain ⟨x0, x1, x2, x3, x4, x5, x6, x7, x8, x9, x10, x11, x12, x13, x14, x15, x16, x17, x18, ha, hall, hfin, hfs⟩ := hJ
            have h12 : l 19 = false := upd_last hall hk (by decide)
            clear hall hfin
            obtain ⟨hA17, hB, f0, f1, f2, f3, f4, f5, f6, f7, f8, f9, f10, f11, f12, f13, f14, f15, f16, f17, f18⟩ := hfs h12
            clear hfs
            have p9 : l 9 = true := hpre 9 (by kernel_rfl)
            have p10 : l 10 = true := hpre 10 (by kernel_rfl)
            have h17 : l 17 = false := upd_last hA17 hk (by decide)
            have hBw := hB h17
            obtain rfl := f9 p9
            obtain rfl := f10 p10

            subst ha
            go_simp
            exact hK.out _ _ ⟨x0, x1, x2, x3, x4, x5, x6, x7, x8, .slice (some ⟨be, off, none⟩) x.eqs.length cap4, .int .i64 (j : Int), .pointer (some ⟨be, off + j * 9, none⟩), x12, x13, x14, x15, x16, x17, x18, by kernel_rfl, fun h => absurd (updL_ne h (by decide)) (by rw [h12]; decide), fun h => absurd (updL_ne h (by decide)) (by rw [h12]; decide), fun _ => ⟨updL_all hA17 (by decide), fun h => hB (updL_f h), fun h => f0 (updL_ne h (by decide)), fun h => f1 (updL_ne h (by decide)), fun h => f2 (updL_ne h (by decide)), fun h => f3 (updL_ne h (by decide)), fun h => f4 (updL_ne h (by decide)), fun h => f5 (updL_ne h (by decide)), fun h => f6 (updL_ne h (by decide)), fun h => f7 (updL_ne h (by decide)), fun h => f8 (updL_ne h (by decide)), fun h => f9 (updL_ne h (by decide)), fun h => f10 (updL_ne h (by decide)), fun _ => rfl, fun h => f12 (updL_ne h (by decide)), fun h => f13 (updL_ne h (by decide)), fun h => AgM.monoC (ExR.good D) (Below.refl _ _) (f14 (updL_ne h (by decide))), fun h => AgM.monoC (EqnR.good D) (Below.refl _ _) (f15 (updL_ne h (by decide))), fun h => SlM.monoC (EqnR.good D) (Below.refl _ _) (f16 (updL_ne h (by decide))), fun h => absurd (updL_ne h (by decide)) (by rw [h17]; decide), fun h => f18 (updL_ne h (by decide))⟩⟩
          case s12 =>
            intro l a' w' hk hpre hJ K hK
            obtain ⟨x0, x1, x2, x3, x4, x5, x6, x7, x8, x9, x10, x11, x12, x13, x14, x15, x16, x17, x18, ha, hall, hfin, hfs⟩ := hJ
            have h12 : l 19 = false := upd_last hall hk (by decide)
            clear hall hfin
            obtain ⟨hA17, hB, f0, f1, f2, f3, f4, f5, f6, f7, f8, f9, f10, f11, f12, f13, f14, f15, f16, f17, f18⟩ := hfs h12
            clear hfs
            have p11 : l 11 = true := hpre 11 (by kernel_rfl)
            have h17 : l 17 = false := upd_last hA17 hk (by decide)
            have hBw := hB h17
            obtain rfl := f11 p11

            subst ha
            go_simp
            exact hK.out _ _ ⟨x0, x1, x2, x3, x4, x5, x6, x7, x8, x9, x10, .pointer (some ⟨be, off + j * 9, none⟩), .pointer (some ⟨be, off + j * 9 + 2, none⟩), x13, x14, x15, x16, x17, x18, by kernel_rfl, fun h => absurd (updL_ne h (by decide)) (by rw [h12]; decide), fun h => absurd (updL_ne h (by decide)) (by rw [h12]; decide), fun _ => ⟨updL_all hA17 (by decide), fun h => hB (updL_f h), fun h => f0 (updL_ne h (by decide)), fun h => f1 (updL_ne h (by decide)), fun h => f2 (updL_ne h (by decide)), fun h => f3 (updL_ne h (by decide)), fun h => f4 (updL_ne h (by decide)), fun h => f5 (updL_ne h (by decide)), fun h => f6 (updL_ne h (by decide)), fun h => f7 (updL_ne h (by decide)), fun h => f8 (updL_ne h (by decide)), fun h => f9 (updL_ne h (by decide)), fun h => f10 (updL_ne h (by decide)), fun h => f11 (updL_ne h (by decide)), fun _ => rfl, fun h => f13 (updL_ne h (by decide)), fun h => AgM.monoC (ExR.good D) (Below.refl _ _) (f14 (updL_ne h (by decide))), fun h => AgM.monoC (EqnR.good D) (Below.refl _ _) (f15 (updL_ne h (by decide))), fun h => SlM.monoC (EqnR.good D) (Below.refl _ _) (f16 (updL_ne h (by decide))), fun h => absurd (updL_ne h (by decide)) (by rw [h17]; decide), fun h => f18 (updL_ne h (by decide))⟩⟩
          case s13 =>
            intro l a' w' hk hpre hJ K hK
            obtain ⟨x0, x1, x2, x3, x4, x5, x6, x7, x8, x9, x10, x11, x12, x13, x14, x15, x16, x17, x18, ha, hall, hfin, hfs⟩ := hJ
            have h12 : l 19 = false := upd_last hall hk (by decide)
            clear hall hfin
            obtain ⟨hA17, hB, f0, f1, f2, f3, f4, f5, f6, f7, f8, f9, f10, f11, f12, f13, f14, f15, f16, f17, f18⟩ := hfs h12
            clear hfs
            have p12 : l 12 = true := hpre 12 (by kernel_rfl)
            have h17 : l 17 = false := upd_last hA17 hk (by decide)
            have hBw := hB h17
            obtain rfl := f12 p12

            refine step_load rfl 52 (.tmp 37) rfl Try.underlying52 rfl (cs := [e0, e1, e2, e3, e4, e5, e6]) (b := be) (off := off + j * 9 + 2) Hix.out (by rw [ha]; kernel_rfl) rfl (Hcx.out.below hBw hbe) ?_
            subst ha
            exact hK.out _ _ ⟨x0, x1, x2, x3, x4, x5, x6, x7, x8, x9, x10, x11, .pointer (some ⟨be, off + j * 9 + 2, none⟩), .agg #[e0, e1, e2, e3, e4, e5, e6], x14, x15, x16, x17, x18, by kernel_rfl, fun h => absurd (updL_ne h (by decide)) (by rw [h12]; decide), fun h => absurd (updL_ne h (by decide)) (by rw [h12]; decide), fun _ => ⟨updL_all hA17 (by decide), fun h => hB (updL_f h), fun h => f0 (updL_ne h (by decide)), fun h => f1 (updL_ne h (by decide)), fun h => f2 (updL_ne h (by decide)), fun h => f3 (updL_ne h (by decide)), fun h => f4 (updL_ne h (by decide)), fun h => f5 (updL_ne h (by decide)), fun h => f6 (updL_ne h (by decide)), fun h => f7 (updL_ne h (by decide)), fun h => f8 (updL_ne h (by decide)), fun h => f9 (updL_ne h (by decide)), fun h => f10 (updL_ne h (by decide)), fun h => f11 (updL_ne h (by decide)), fun h => f12 (updL_ne h (by decide)), fun _ => rfl, fun h => AgM.monoC (ExR.good D) (Below.refl _ _) (f14 (updL_ne h (by decide))), fun h => AgM.monoC (EqnR.good D) (Below.refl _ _) (f15 (updL_ne h (by decide))), fun h => SlM.monoC (EqnR.good D) (Below.refl _ _) (f16 (updL_ne h (by decide))), fun h => absurd (updL_ne h (by decide)) (by rw [h17]; decide), fun h => f18 (updL_ne h (by decide))⟩⟩
          case s14 =>
            intro l a' w' hk hpre hJ K hK
            obtain ⟨x0, x1, x2, x3, x4, x5, x6, x7, x8, x9, x10, x11, x12, x13, x14, x15, x16, x17, x18, ha, hall, hfin, hfs⟩ := hJ
            have h12 : l 19 = false := upd_last hall hk (by decide)
            clear hall hfin
            obtain ⟨hA17, hB, f0, f1, f2, f3, f4, f5, f6, f7, f8, f9, f10, f11, f12, f13, f14, f15, f16, f17, f18⟩ := hfs h12
            clear hfs
            have p13 : l 13 = true := hpre 13 (by kernel_rfl)
            have h17 : l 17 = false := upd_last hA17 hk (by decide)
            have hBw := hB h17
            obtain rfl := f13 p13

            subst ha
            go_simp
            go_at_call 78
            refine Calls.mono (s_l4Copy D X.expr [e0, e1, e2, e3, e4, e5, e6] FE w' ((ExR.good D).below HE.out hBw HFE.out) hbke) ?_
            rintro en w2 ⟨us, G2, rfl, hR2, hf2, hb2⟩
            exact hK.out _ _ ⟨x0, x1, x2, x3, x4, x5, x6, x7, x8, x9, x10, x11, x12, .agg #[e0, e1, e2, e3, e4, e5, e6], .agg (List.toArray us), x15, x16, x17, x18, by kernel_rfl, fun h => absurd (updL_ne h (by decide)) (by rw [h12]; decide), fun h => absurd (updL_ne h (by decide)) (by rw [h12]; decide), fun _ => ⟨updL_all hA17 (by decide), fun h => hBw.trans (hb2.mono hBw.size), fun h => f0 (updL_ne h (by decide)), fun h => f1 (updL_ne h (by decide)), fun h => f2 (updL_ne h (by decide)), fun h => f3 (updL_ne h (by decide)), fun h => f4 (updL_ne h (by decide)), fun h => f5 (updL_ne h (by decide)), fun h => f6 (updL_ne h (by decide)), fun h => f7 (updL_ne h (by decide)), fun h => f8 (updL_ne h (by decide)), fun h => f9 (updL_ne h (by decide)), fun h => f10 (updL_ne h (by decide)), fun h => f11 (updL_ne h (by decide)), fun h => f12 (updL_ne h (by decide)), fun h => f13 (updL_ne h (by decide)), fun _ => fun _ => ⟨us, G2, rfl, hR2, hf2.mono hBw.size⟩, fun h => AgM.monoC (EqnR.good D) hb2 (f15 (updL_ne h (by decide))), fun h => SlM.monoC (EqnR.good D) hb2 (f16 (updL_ne h (by decide))), fun h => absurd (updL_ne h (by decide)) (by rw [h17]; decide), fun h => f18 (updL_ne h (by decide))⟩⟩
          case s15 =>
            intro l a' w' hk hpre hJ K hK
            obtain ⟨x0, x1, x2, x3, x4, x5, x6, x7, x8, x9, x10, x11, x12, x13, x14, x15, x16, x17, x18, ha, hall, hfin, hfs⟩ := hJ
            have h12 : l 19 = false := upd_last hall hk (by decide)
            clear hall hfin
            obtain ⟨hA17, hB, f0, f1, f2, f3, f4, f5, f6, f7, f8, f9, f10, f11, f12, f13, f14, f15, f16, f17, f18⟩ := hfs h12
            clear hfs
            have p7 : l 7 = true := hpre 7 (by kernel_rfl)
            have p14 : l 14 = true := hpre 14 (by kernel_rfl)
            have h17 : l 17 = false := upd_last hA17 hk (by decide)
            have hBw := hB h17
            obtain rfl := f7 p7
            obtain ⟨us, G2, rfl, hm⟩ := f14 p14 h17
            obtain ⟨u0, u1, u2, u3, u4, u5, u6, rfl⟩ := list7 ((ExR.good D).len hm.1)
            subst ha
            go_simp
            exact hK.out _ _ ⟨x0, x1, x2, x3, x4, x5, x6, .agg #[o0, o1], x8, x9, x10, x11, x12, x13, .agg #[u0, u1, u2, u3, u4, u5, u6], .agg #[o0, o1, u0, u1, u2, u3, u4, u5, u6], x16, x17, x18, by kernel_rfl, fun h => absurd (updL_ne h (by decide)) (by rw [h12]; decide), fun h => absurd (updL_ne h (by decide)) (by rw [h12]; decide), fun _ => ⟨updL_all hA17 (by decide), fun h => hB (updL_f h), fun h => f0 (updL_ne h (by decide)), fun h => f1 (updL_ne h (by decide)), fun h => f2 (updL_ne h (by decide)), fun h => f3 (updL_ne h (by decide)), fun h => f4 (updL_ne h (by decide)), fun h => f5 (updL_ne h (by decide)), fun h => f6 (updL_ne h (by decide)), fun h => f7 (updL_ne h (by decide)), fun h => f8 (updL_ne h (by decide)), fun h => f9 (updL_ne h (by decide)), fun h => f10 (updL_ne h (by decide)), fun h => f11 (updL_ne h (by decide)), fun h => f12 (updL_ne h (by decide)), fun h => f13 (updL_ne h (by decide)), fun h => AgM.monoC (ExR.good D) (Below.refl _ _) (f14 (updL_ne h (by decide))), fun _ => fun _ => ⟨[o0, o1, u0, u1, u2, u3, u4, u5, u6], G2, rfl, EqnR.of HO.out hm.1, hm.2⟩, fun h => SlM.monoC (EqnR.good D) (Below.refl _ _) (f16 (updL_ne h (by decide))), fun h => absurd (updL_ne h (by decide)) (by rw [h17]; decide), fun h => f18 (updL_ne h (by decide))⟩⟩
          case s16 =>
            intro l a' w' hk hpre hJ K hK
            obtain ⟨x0, x1, x2, x3, x4, x5, x6, x7, x8, x9, x10, x11, x12, x13, x14, x15, x16, x17, x18, ha, hall, hfin, hfs⟩ := hJ
            have h12 : l 19 = false := upd_last hall hk (by decide)
            clear hall hfin
            obtain ⟨hA17, hB, f0, f1, f2, f3, f4, f5, f6, f7, f8, f9, f10, f11, f12, f13, f14, f15, f16, f17, f18⟩ := hfs h12
            clear hfs
            have p15 : l 15 = true := hpre 15 (by kernel_rfl)
            have h17 : l 17 = false := upd_last hA17 hk (by decide)
            have hBw := hB h17
            obtain ⟨us, G2, rfl, hm⟩ := f15 p15 h17
            obtain ⟨u0, u1, u2, u3, u4, u5, u6, u7, u8, rfl⟩ := list_9 ((EqnR.good D).len hm.1)
            subst ha
            go_simp
            exact hK.out _ _ ⟨x0, x1, x2, x3, x4, x5, x6, x7, x8, x9, x10, x11, x12, x13, x14, .agg #[u0, u1, u2, u3, u4, u5, u6, u7, u8], .slice (some ⟨w'.heap.size, 0, none⟩) 1 1, x17, x18, by kernel_rfl, fun h => absurd (updL_ne h (by decide)) (by rw [h12]; decide), fun h => absurd (updL_ne h (by decide)) (by rw [h12]; decide), fun _ => ⟨updL_all hA17 (by decide), fun h => hBw.alloc hBw.size _, fun h => f0 (updL_ne h (by decide)), fun h => f1 (updL_ne h (by decide)), fun h => f2 (updL_ne h (by decide)), fun h => f3 (updL_ne h (by decide)), fun h => f4 (updL_ne h (by decide)), fun h => f5 (updL_ne h (by decide)), fun h => f6 (updL_ne h (by decide)), fun h => f7 (updL_ne h (by decide)), fun h => f8 (updL_ne h (by decide)), fun h => f9 (updL_ne h (by decide)), fun h => f10 (updL_ne h (by decide)), fun h => f11 (updL_ne h (by decide)), fun h => f12 (updL_ne h (by decide)), fun h => f13 (updL_ne h (by decide)), fun h => AgM.monoC (ExR.good D) ((Below.refl _ _).alloc (Nat.le_refl _) _) (f14 (updL_ne h (by decide))), fun h => AgM.monoC (EqnR.good D) ((Below.refl _ _).alloc (Nat.le_refl _) _) (f15 (updL_ne h (by decide))), fun _ => fun _ => ⟨_, [u0, u1, u2, u3, u4, u5, u6, u7, u8], G2, rfl, New.made hBw.size _ _, hm.below (EqnR.good D) ((Below.refl _ _).alloc (Nat.le_refl _) _)⟩, fun h => absurd (updL_ne h (by decide)) (by rw [h17]; decide), fun h => f18 (updL_ne h (by decide))⟩⟩
          case s17 =>
            intro l a' w' hk hpre hJ K hK
            obtain ⟨x0, x1, x2, x3, x4, x5, x6, x7, x8, x9, x10, x11, x12, x13, x14, x15, x16, x17, x18, ha, hall, hfin, hfs⟩ := hJ
            have h12 : l 19 = false := upd_last hall hk (by decide)
            clear hall hfin
            obtain ⟨hA17, hB, f0, f1, f2, f3, f4, f5, f6, f7, f8, f9, f10, f11, f12, f13, f14, f15, f16, f17, f18⟩ := hfs h12
            clear hfs
            have p1 : l 1 = true := hpre 1 (by kernel_rfl)
            have p16 : l 16 = true := hpre 16 (by kernel_rfl)
            obtain rfl := f1 p1
            obtain ⟨g8, us, G2, rfl, hg, hm⟩ := f16 p16 hk
            have hBw := hB hk
            refine step_ownQ rfl (.tmp 26) (.tmp 41) 28 106 rfl Try.underlying28 infoEqn rfl (by decide) (EqnR.good D) wr.heap.size w' wc.heap.size (.slice Av j capv) (x.eqs.take j) F' (Hown.out.below (EqnR.good D) hBw) (by rw [ha]; kernel_rfl) HFl.out HVl.out X us G2 hm (EqnR.one hm.1) g8 (by rw [ha]; kernel_rfl) hg Hb1.out Hb2.out hwcr ?_
            intro v8 w8 hown8 hbl8 hgr8
            obtain ⟨A8, cap8, hv8, _, _⟩ := hown8.form
            rw [Htl.out] at hv8
            subst hv8
            have hB8 : Below wc.heap.size wr w8 := (hBw.mono hwcr).trans hbl8
            subst ha
            exact hK.out _ _ ⟨x0, .slice Av j capv, x2, x3, x4, x5, x6, x7, x8, x9, x10, x11, x12, x13, x14, x15, .slice (some ⟨g8, 0, none⟩) 1 1, .slice A8 (j + 1) cap8, x18, by kernel_rfl, fun h => absurd (updL_ne h (by decide)) (by rw [h12]; decide), fun h => absurd (updL_ne h (by decide)) (by rw [h12]; decide), fun _ => ⟨fun _ => deep_all hpre (by kernel_rfl) _, fun h2 => absurd h2 (by rw [updL_self]; decide), fun h => f0 (updL_ne h (by decide)), fun h => f1 (updL_ne h (by decide)), fun h => f2 (updL_ne h (by decide)), fun h => f3 (updL_ne h (by decide)), fun h => f4 (updL_ne h (by decide)), fun h => f5 (updL_ne h (by decide)), fun h => f6 (updL_ne h (by decide)), fun h => f7 (updL_ne h (by decide)), fun h => f8 (updL_ne h (by decide)), fun h => f9 (updL_ne h (by decide)), fun h => f10 (updL_ne h (by decide)), fun h => f11 (updL_ne h (by decide)), fun h => f12 (updL_ne h (by decide)), fun h => f13 (updL_ne h (by decide)), fun h => fun h2 => absurd h2 (by rw [updL_self]; decide), fun h => fun h2 => absurd h2 (by rw [updL_self]; decide), fun h => fun h2 => absurd h2 (by rw [updL_self]; decide), fun _ => ⟨A8, cap8, _, rfl, hown8, hB8⟩, fun h => f18 (updL_ne h (by decide))⟩⟩
          case s18 =>
            intro l a' w' hk hpre hJ K hK
            obtain ⟨x0, x1, x2, x3, x4, x5, x6, x7, x8, x9, x10, x11, x12, x13, x14, x15, x16, x17, x18, ha, hall, hfin, hfs⟩ := hJ
            have h12 : l 19 = false := upd_last hall hk (by decide)
            clear hall hfin
            obtain ⟨hA17, hB, f0, f1, f2, f3, f4, f5, f6, f7, f8, f9, f10, f11, f12, f13, f14, f15, f16, f17, f18⟩ := hfs h12
            clear hfs
            subst ha
            go_simp
            exact hK.out _ _ ⟨x0, x1, x2, x3, x4, x5, x6, x7, x8, x9, x10, x11, x12, x13, x14, x15, x16, x17, .pointer (some ⟨b, 4, none⟩), by kernel_rfl, fun h => absurd (updL_ne h (by decide)) (by rw [h12]; decide), fun h => absurd (updL_ne h (by decide)) (by rw [h12]; decide), fun _ => ⟨updL_all hA17 (by decide), fun h => hB (updL_f h), fun h => f0 (updL_ne h (by decide)), fun h => f1 (updL_ne h (by decide)), fun h => f2 (updL_ne h (by decide)), fun h => f3 (updL_ne h (by decide)), fun h => f4 (updL_ne h (by decide)), fun h => f5 (updL_ne h (by decide)), fun h => f6 (updL_ne h (by decide)), fun h => f7 (updL_ne h (by decide)), fun h => f8 (updL_ne h (by decide)), fun h => f9 (updL_ne h (by decide)), fun h => f10 (updL_ne h (by decide)), fun h => f11 (updL_ne h (by decide)), fun h => f12 (updL_ne h (by decide)), fun h => f13 (updL_ne h (by decide)), fun h => AgM.monoC (ExR.good D) (Below.refl _ _) (f14 (updL_ne h (by decide))), fun h => AgM.monoC (EqnR.good D) (Below.refl _ _) (f15 (updL_ne h (by decide))), fun h => SlM.monoC (EqnR.good D) (Below.refl _ _) (f16 (updL_ne h (by decide))), fun h => (f17 (updL_ne h (by decide))), fun _ => rfl⟩⟩
          case s19 =>
            intro l a' w' hk hpre hJ K hK
            obtain ⟨x0, x1, x2, x3, x4, x5, x6, x7, x8, x9, x10, x11, x12, x13, x14, x15, x16, x17, x18, ha, hall, hfin, hfs⟩ := hJ
            have h12 : l 19 = false := hk
            clear hall hfin
            obtain ⟨hA17, hB, f0, f1, f2, f3, f4, f5, f6, f7, f8, f9, f10, f11, f12, f13, f14, f15, f16, f17, f18⟩ := hfs h12
            clear hfs
            have p17 : l 17 = true := hpre 17 (by kernel_rfl)
            have p18 : l 18 = true := hpre 18 (by kernel_rfl)
            clear hA17 hB f0 f1 f2 f3 f4 f5 f6 f7 f8 f9 f10 f11 f12 f13 f14 f15 f16
            obtain ⟨A8, cap8, F8, rfl, hown8, hB8⟩ := f17 p17
            obtain rfl := f18 p18
            clear f17 f18
            have hbx := blk_below Hbx.out hB8 hbwc
            have q := cell_at (i := 4) hbx (by simp)
            have y := frozen_of_row w' _ 4 _ _ hbx
            subst ha
            go_simp
            exact hK.out _ _ ⟨x0, x1, x2, x3, x4, x5, x6, x7, x8, x9, x10, x11, x12, x13, x14, x15, x16, .slice A8 (j + 1) cap8, .pointer (some ⟨b, 4, none⟩), by kernel_rfl, fun _ => deep_all hpre (by kernel_rfl) _, fun _ => ⟨w', A8, cap8, F8, hown8, hB8, rfl⟩, fun h => absurd h (by simp [updL])⟩
        case hend =>
          intro l a' w' hl hJ
          obtain ⟨x0, x1, x2, x3, x4, x5, x6, x7, x8, x9, x10, x11, x12, x13, x14, x15, x16, x17, x18, ha, _, hfin, _⟩ := hJ
          simp [go_sem] at ha
          subst ha
          replace hfin := hfin (hl 19 (by decide))
          clear hl
          obtain ⟨W1, A8, cap8, F8, hown8, hB8, rfl⟩ := hfin
          have hbx1 := blk_below Hbx.out hB8 hbwc
          have hb9 := heap_setCell_same W1 b 4 _ _ (.slice A8 (j + 1) cap8) hbx1
          have Hb9 : Hid ((W1.setCell ⟨b, 4, none⟩ (.slice A8 (j + 1) cap8)).heap[b]? = some (.cells #[.string x.name, .string x.left, .slice A x.right.length cap, .bool x.lit, .slice A8 (j + 1) cap8, .slice none 0 0] 31 (0, 0))) := hide hb9
          have Hg9 : Hid (wc.grownBy (W1.setCell ⟨b, 4, none⟩ (.slice A8 (j + 1) cap8)) (some b)) := hide (mk_cell (mk_base Hgr.out hB8 (Nat.le_refl _)))
          have Ho9 := hide (OwnS.same (EqnR.good D) hown8 (fun k h1 h2 => heap_setCell_other W1 ⟨b, 4, none⟩ k (.slice A8 (j + 1) cap8) (by show k ≠ b; omega)) (by simp))
          clear hown8 hB8 hbx1 hb9
          generalize W1.setCell ⟨b, 4, none⟩ (.slice A8 (j + 1) cap8) = W9 at Hb9 Hg9 Ho9 ⊢
          go_wp2_with fail
          go_roundw
          case rel => exact ⟨j + 1, _, F8, by omega, by go_num, Hg9, Hb9, hide (by rw [take_snoc HX.out]; exact Ho9.out)⟩
          case measure => simp [intOf]; omega
      · have hjl : j = x.eqs.length := by omega
        subst hjl
        rw [List.take_length] at Hown
        obtain ⟨W1, hW1⟩ : ∃ W, W = wr := ⟨_, rfl⟩
        subst hW1
        have hb1W : b < W1.heap.size := by omega
        have Hg1 := Hgr
        have Hown1 := Hown
        have Hbx1 := Hbx
        have hwr1 := hwr
        have hwr21 := hwr2
        obtain ⟨FQ, hFQ⟩ : ∃ F, F = F' := ⟨_, rfl⟩
        subst hFQ
        clear Hgr Hown hlt hj hwr hwr2
        go_wp2_with fail
        go_loopw [5] (fun i wr => ∃ (j : Nat) (u : Value) (F' : List Nat), j ≤ x.cons.length ∧ i = .int .i64 j ∧ Hid (W1.grownBy wr (some b)) ∧ Hid (wr.heap[b]? = some (.cells #[.string x.name, .string x.left, .slice A x.right.length cap, .bool x.lit, v, u] 31 (0, 0))) ∧ Hid (OwnS 16 (ConR D) W1.heap.size 109 wr (x.cons.take j) u F')) (fun i _ => x.cons.length - (intOf i).toNat)
        case atStart => exact ⟨0, _, [], by omega, rfl, hide ⟨rfl, rfl, rfl, Nat.le_refl _, fun _ _ _ => rfl⟩, Hbx1, hide (OwnS.nil _)⟩
        case round =>
          obtain ⟨j, u, F', hj, rfl, Hgr, Hbx, Hown⟩ := hrel
          have hwr : Below w.heap.size w wr := hwr1.grown Hgr.out (by omega) (fun k hk => by injection hk with hk; omega)
          have hwr2 : Below (w.heap.size + 2) W0 wr := hwr21.grown Hgr.out (by omega) (fun k hk => by injection hk with hk; omega)
          have hwcr0 : W1.heap.size ≤ wr.heap.size := Hgr.out.size
          have qc5 := E5.out wr hwr2
          by_cases hlt : j < x.cons.length
          · have hX : x.cons[j]? = some x.cons[j] := List.getElem?_eq_getElem hlt
            generalize x.cons[j] = X at hX
            obtain ⟨be, off, es, Fk, hA, _, hbF, hFk, hcl, hcatE, hR⟩ := SlR.get (ConR.good D) (Hg5.out.below (ConR.good D) hwr HF5.out) hX
            subst hA
            have HX := hide hX
            have hbkq := HQ2.out X (List.mem_of_getElem? hX)
            have hbew : be < w.heap.size := HF5.out be hbF
            have hbe : be < wr.heap.size := by omega
            have HoneC := hide (ConR.one hR)
            obtain ⟨Au, capu, hv, _, _⟩ := Hown.out.form
            rw [List.length_take, Nat.min_eq_left hj] at hv
            subst hv
            obtain ⟨FT, FV, h16, hok, hs0, hs1, hT, hV, hFe⟩ := hR
            obtain ⟨c0, c1, c2, c3, c4, c5, c6, c7, c8, c9, c10, c11, c12, c13, c14, c15, rfl⟩ := list_16 h16
            obtain rfl := Option.some.inj hs0
            obtain rfl := Option.some.inj hs1
            have Hok := hide hok
            have Hce := hide hcatE
            have Hn : Hid (([.string X.symbol, .string X.name, c2, c3, c4, c5, c6, c7, c8, c9, c10, c11, c12, c13, c14, c15] : List Value).length = 16) := hide rfl
            have hj0 : (0 : Int) ≤ (j : Int) := by omega
            have hj1 : (j : Int) < (x.cons.length : Int) := by omega
            have HT := hide hT
            have HV := hide hV
            clear hX hbF hFk hcl hcatE hok hs0 hs1 hT hV hFe h16
            go_wp2_with (first
              | refine wpList_load_at 109 (.tmp 54) rfl Try.underlying109 rfl Hic.out rfl rfl Hn.out Hce.out ?_
              | (refine wpList_store_new 109 (.tmp 6) (.tmp 55) rfl Hic.out rfl rfl rfl rfl Hn.out HoneC.out rfl ?_; refine hold ?_))
            have hb6 := heap_alloc_new wr (Obj.cells #[.string X.symbol, .string X.name, c2, c3, c4, c5, c6, c7, c8, c9, c10, c11, c12, c13, c14, c15] 109)
            have hBV : Below wr.heap.size wr (wr.alloc (Obj.cells #[.string X.symbol, .string X.name, c2, c3, c4, c5, c6, c7, c8, c9, c10, c11, c12, c13, c14, c15] 109)) := (Below.refl _ _).alloc (Nat.le_refl _) _
            generalize wr.alloc (Obj.cells #[.string X.symbol, .string X.name, c2, c3, c4, c5, c6, c7, c8, c9, c10, c11, c12, c13, c14, c15] 109) = V1 at hb6 hBV ⊢
            have hpV : wr.heap.size < V1.heap.size := blk_lt hb6
            have HownV : Hid (OwnS 16 (ConR D) W1.heap.size 109 V1 (x.cons.take j) (.slice Au j capu) F') := hide (Hown.out.below (ConR.good D) hBV)
            have HbxV : Hid (V1.heap[b]? = some (.cells #[.string x.name, .string x.left, .slice A x.right.length cap, .bool x.lit, v, .slice Au j capu] 31 (0, 0))) := hide (blk_below Hbx.out hBV (by omega))
            have HgrV : Hid (W1.grownBy V1 (some b)) := hide (mk_base Hgr.out hBV hwcr0)
            have HFT0 := hide ((ExR.good D).lt HT.out)
            have HFV0 := hide ((ExR.good D).lt HV.out)
            have HET : Hid (ExR D V1 X.target [c2, c3, c4, c5, c6, c7, c8] FT) := hide ((ExR.good D).below HT.out hBV HFT0.out)
            have HEV : Hid (ExR D V1 X.value [c9, c10, c11, c12, c13, c14, c15] FV) := hide ((ExR.good D).below HV.out hBV HFV0.out)
            have HFT : Hid (∀ k ∈ FT, k < V1.heap.size) := hide (fun k hk => Nat.lt_trans (HFT0.out k hk) hpV)
            have HFV : Hid (∀ k ∈ FV, k < V1.heap.size) := hide (fun k hk => Nat.lt_trans (HFV0.out k hk) hpV)
            have HcB : Hid (CellsAt V1 wr.heap.size 0 [.string X.symbol, .string X.name, c2, c3, c4, c5, c6, c7, c8, c9, c10, c11, c12, c13, c14, c15]) := hide (fun i u hu => by
              rw [cell_of_row _ _ _ _ _ _ hb6, Nat.zero_add]
              simpa using hu)
            have HcT : Hid (CellsAt V1 wr.heap.size 2 [c2, c3, c4, c5, c6, c7, c8]) := hide (HcB.out.sub 2 7)
            have HcV : Hid (CellsAt V1 wr.heap.size 9 [c9, c10, c11, c12, c13, c14, c15]) := hide (HcB.out.sub 9 7)
            have z0 := cell_at (i := 0) hb6 (by simp)
            have z1 := cell_at (i := 1) hb6 (by simp)
            have hwcr : W1.heap.size ≤ V1.heap.size := by omega
            have hbr : b < V1.heap.size := by omega
            have q5 := cell_at (i := 5) HbxV.out (by simp)
            have HFl : Hid (∀ k ∈ F', k < V1.heap.size) := hide HownV.out.fresh.lt
            have HVl : Hid (∀ k, (Value.slice Au j capu).ownBlock = some k → k < V1.heap.size) := hide (fun k hk => (HownV.out.blk k hk).2)
            have Htl : Hid ((x.cons.take j ++ [X]).length = j + 1) := hide (by simp; omega)
            have Hb1 : Hid ((x.cons.take j).length + 1 ≤ 1099511627776) := hide (by rw [List.length_take]; omega)
            have Hb2 : Hid (((x.cons.take j).length + 1) * 208 ≤ 140737488355328) := hide (by rw [List.length_take]; omega)
            clear hb6 hBV HFT0 HFV0 HT HV
            refine Hold.go ?_
            go_wp2_with fail
            refine region_invA (fun a0 l a' w' => ∃ x0 x1 x2 x3 x4 x5 x6 x7 x8 x9 x10 x11 x12 x13 x14 x15 : Value, a' = ((((((((((((((((a0.put (some 56) x0).put (some 57) x1).put (some 58) x2).put (some 59) x3).put (some 60) x4).put (some 61) x5).put (some 62) x6).put (some 63) x7).put (some 64) x8).put (some 65) x9).put (some 66) x10).put (some 67) x11).put (some 68) x12).put (some 69) x13).put (some 70) x14).put (some 71) x15) ∧ (l 16 = true → ∀ i, i < 16 → l i = true) ∧ (l 16 = true → ∃ (W5 : World) (A8 : Option Addr) (cap8 : Nat) (F8 : List Nat), OwnS 16 (ConR D) W1.heap.size 109 W5 (x.cons.take j ++ [X]) (.slice A8 (j + 1) cap8) F8 ∧ Below W1.heap.size V1 W5 ∧ w' = W5.setCell ⟨b, 5, none⟩ (.slice A8 (j + 1) cap8)) ∧ (l 16 = false → (l 14 = true → ∀ i, i < 14 → l i = true) ∧ (l 14 = false → Below V1.heap.size V1 w') ∧ (l 8 = true → l 11 = true → l 14 = false → Two V1.heap.size (ExR D) w' X.target X.value x8 x11) ∧ (l 0 = true → x0 = .pointer (some ⟨b, 5, none⟩)) ∧ (l 1 = true → x1 = .slice Au j capu) ∧ (l 2 = true → x2 = .pointer (some ⟨wr.heap.size, 0, none⟩)) ∧ (l 3 = true → x3 = .string X.symbol) ∧ (l 4 = true → x4 = .pointer (some ⟨wr.heap.size, 1, none⟩)) ∧ (l 5 = true → x5 = .string X.name) ∧ (l 6 = true → x6 = .pointer (some ⟨wr.heap.size, 2, none⟩)) ∧ (l 7 = true → x7 = .agg #[c2, c3, c4, c5, c6, c7, c8]) ∧ (l 8 = true → (l 14 = false → AgM V1.heap.size (ExR D) w' X.target x8)) ∧ (l 9 = true → x9 = .pointer (some ⟨wr.heap.size, 9, none⟩)) ∧ (l 10 = true → x10 = .agg #[c9, c10, c11, c12, c13, c14, c15]) ∧ (l 11 = true → (l 14 = false → AgM V1.heap.size (ExR D) w' X.value x11)) ∧ (l 12 = true → (l 14 = false → AgM V1.heap.size (ConR D) w' X x12)) ∧ (l 13 = true → (l 14 = false → SlM V1.heap.size (ConR D) 109 w' X x13)) ∧ (l 14 = true → ∃ (A8 : Option Addr) (cap8 : Nat) (F8 : List Nat), x14 = .slice A8 (j + 1) cap8 ∧ OwnS 16 (ConR D) W1.heap.size 109 w' (x.cons.take j ++ [X]) (.slice A8 (j + 1) cap8) F8 ∧ Below W1.heap.size V1 w') ∧ (l 15 = true → x15 = .pointer (some ⟨b, 5, none⟩)))) rfl (by kernel_rfl) ?h0 ?hstep ?hend
            case h0 => exact ⟨u56, u57, u58, u59, u60, u61, u62, u63, u64, u65, u66, u67, u68, u69, u70, u71, by kernel_rfl, fun h => absurd h (by decide), fun h => absurd h (by decide), fun _ => ⟨fun h => absurd h (by decide), fun _ => (Below.refl _ _).drew, fun h => absurd h (by decide), fun h => absurd h (by decide), fun h => absurd h (by decide), fun h => absurd h (by decide), fun h => absurd h (by decide), fun h => absurd h (by decide), fun h => absurd h (by decide), fun h => absurd h (by decide), fun h => absurd h (by decide), fun h => absurd h (by decide), fun h => absurd h (by decide), fun h => absurd h (by decide), fun h => absurd h (by decide), fun h => absurd h (by decide), fun h => absurd h (by decide), fun h => absurd h (by decide), fun h => absurd h (by decide)⟩⟩
            case hstep =>
              refine ⟨?s0, ?s1, ?s2, ?s3, ?s4, ?s5, ?s6, ?s7, ?s8, ?s9, ?s10, ?s11, ?s12, ?s13, ?s14, ?s15, ?s16, trivial⟩
              case s0 =>
                intro l a' w' hk hpre hJ K hK
                obtain ⟨x0, x1, x2, x3, x4, x5, x6, x7, x8, x9, x10, x11, x12, x13, x14, x15, ha, hall, hfin, hfs⟩ := hJ
                have h12 : l 16 = false := upd_last hall hk (by decide)
                clear hall hfin
                obtain ⟨hA17, hB, hd, f0, f1, f2, f3, f4, f5, f6, f7, f8, f9, f10, f11, f12, f13, f14, f15⟩ := hfs h12
                clear hfs
                have h14 : l 14 = false := upd_last hA17 hk (by decide)
                have hBw := hB h14

                subst ha
                go_simp
                exact hK.out _ _ ⟨.pointer (some ⟨b, 5, none⟩), x1, x2, x3, x4, x5, x6, x7, x8, x9, x10, x11, x12, x13, x14, x15, by kernel_rfl, fun h => absurd (updL_ne h (by decide)) (by rw [h12]; decide), fun h => absurd (updL_ne h (by decide)) (by rw [h12]; decide), fun _ => ⟨updL_all hA17 (by decide), fun h => hB (updL_f h), fun h1 h2 h3 => (hd (updL_ne h1 (by decide)) (updL_ne h2 (by decide)) (updL_f h3)).mono (ExR.good D) (Below.refl _ _), fun _ => rfl, fun h => f1 (updL_ne h (by decide)), fun h => f2 (updL_ne h (by decide)), fun h => f3 (updL_ne h (by decide)), fun h => f4 (updL_ne h (by decide)), fun h => f5 (updL_ne h (by decide)), fun h => f6 (updL_ne h (by decide)), fun h => f7 (updL_ne h (by decide)), fun h => AgM.monoC (ExR.good D) (Below.refl _ _) (f8 (updL_ne h (by decide))), fun h => f9 (updL_ne h (by decide)), fun h => f10 (updL_ne h (by decide)), fun h => AgM.monoC (ExR.good D) (Below.refl _ _) (f11 (updL_ne h (by decide))), fun h => AgM.monoC (ConR.good D) (Below.refl _ _) (f12 (updL_ne h (by decide))), fun h => SlM.monoC (ConR.good D) (Below.refl _ _) (f13 (updL_ne h (by decide))), fun h => absurd (updL_ne h (by decide)) (by rw [h14]; decide), fun h => f15 (updL_ne h (by decide))⟩⟩
              case s1 =>
                intro l a' w' hk hpre hJ K hK
                obtain ⟨x0, x1, x2, x3, x4, x5, x6, x7, x8, x9, x10, x11, x12, x13, x14, x15, ha, hall, hfin, hfs⟩ := hJ
                have h12 : l 16 = false := upd_last hall hk (by decide)
                clear hall hfin
                obtain ⟨hA17, hB, hd, f0, f1, f2, f3, f4, f5, f6, f7, f8, f9, f10, f11, f12, f13, f14, f15⟩ := hfs h12
                clear hfs
                have p0 : l 0 = true := hpre 0 (by kernel_rfl)
                have h14 : l 14 = false := upd_last hA17 hk (by decide)
                have hBw := hB h14
                obtain rfl := f0 p0
                have q : w'.cell? ⟨b, 5, none⟩ = some (.slice Au j capu) := (hBw.cell (p := ⟨b, 5, none⟩) hbr).trans q5
                subst ha
                go_simp
                exact hK.out _ _ ⟨.pointer (some ⟨b, 5, none⟩), .slice Au j capu, x2, x3, x4, x5, x6, x7, x8, x9, x10, x11, x12, x13, x14, x15, by kernel_rfl, fun h => absurd (updL_ne h (by decide)) (by rw [h12]; decide), fun h => absurd (updL_ne h (by decide)) (by rw [h12]; decide), fun _ => ⟨updL_all hA17 (by decide), fun h => hB (updL_f h), fun h1 h2 h3 => (hd (updL_ne h1 (by decide)) (updL_ne h2 (by decide)) (updL_f h3)).mono (ExR.good D) (Below.refl _ _), fun h => f0 (updL_ne h (by decide)), fun _ => rfl, fun h => f2 (updL_ne h (by decide)), fun h => f3 (updL_ne h (by decide)), fun h => f4 (updL_ne h (by decide)), fun h => f5 (updL_ne h (by decide)), fun h => f6 (updL_ne h (by decide)), fun h => f7 (updL_ne h (by decide)), fun h => AgM.monoC (ExR.good D) (Below.refl _ _) (f8 (updL_ne h (by decide))), fun h => f9 (updL_ne h (by decide)), fun h => f10 (updL_ne h (by decide)), fun h => AgM.monoC (ExR.good D) (Below.refl _ _) (f11 (updL_ne h (by decide))), fun h => AgM.monoC (ConR.good D) (Below.refl _ _) (f12 (updL_ne h (by decide))), fun h => SlM.monoC (ConR.good D) (Below.refl _ _) (f13 (updL_ne h (by decide))), fun h => absurd (updL_ne h (by decide)) (by rw [h14]; decide), fun h => f15 (updL_ne h (by decide))⟩⟩
              case s2 =>
                intro l a' w' hk hpre hJ K hK
                obtain ⟨x0, x1, x2, x3, x4, x5, x6, x7, x8, x9, x10, x11, x12, x13, x14, x15, ha, hall, hfin, hfs⟩ := hJ
                have h12 : l 16 = false := upd_last hall hk (by decide)
                clear hall hfin
                obtain ⟨hA17, hB, hd, f0, f1, f2, f3, f4, f5, f6, f7, f8, f9, f10, f11, f12, f13, f14, f15⟩ := hfs h12
                clear hfs
                have h14 : l 14 = false := upd_last hA17 hk (by decide)
                have hBw := hB h14

                subst ha
                go_simp
                exact hK.out _ _ ⟨x0, x1, .pointer (some ⟨wr.heap.size, 0, none⟩), x3, x4, x5, x6, x7, x8, x9, x10, x11, x12, x13, x14, x15, by kernel_rfl, fun h => absurd (updL_ne h (by decide)) (by rw [h12]; decide), fun h => absurd (updL_ne h (by decide)) (by rw [h12]; decide), fun _ => ⟨updL_all hA17 (by decide), fun h => hB (updL_f h), fun h1 h2 h3 => (hd (updL_ne h1 (by decide)) (updL_ne h2 (by decide)) (updL_f h3)).mono (ExR.good D) (Below.refl _ _), fun h => f0 (updL_ne h (by decide)), fun h => f1 (updL_ne h (by decide)), fun _ => rfl, fun h => f3 (updL_ne h (by decide)), fun h => f4 (updL_ne h (by decide)), fun h => f5 (updL_ne h (by decide)), fun h => f6 (updL_ne h (by decide)), fun h => f7 (updL_ne h (by decide)), fun h => AgM.monoC (ExR.good D) (Below.refl _ _) (f8 (updL_ne h (by decide))), fun h => f9 (updL_ne h (by decide)), fun h => f10 (updL_ne h (by decide)), fun h => AgM.monoC (ExR.good D) (Below.refl _ _) (f11 (updL_ne h (by decide))), fun h => AgM.monoC (ConR.good D) (Below.refl _ _) (f12 (updL_ne h (by decide))), fun h => SlM.monoC (ConR.good D) (Below.refl _ _) (f13 (updL_ne h (by decide))), fun h => absurd (updL_ne h (by decide)) (by rw [h14]; decide), fun h => f15 (updL_ne h (by decide))⟩⟩
              case s3 =>
                intro l a' w' hk hpre hJ K hK
                obtain ⟨x0, x1, x2, x3, x4, x5, x6, x7, x8, x9, x10, x11, x12, x13, x14, x15, ha, hall, hfin, hfs⟩ := hJ
                have h12 : l 16 = false := upd_last hall hk (by decide)
                clear hall hfin
                obtain ⟨hA17, hB, hd, f0, f1, f2, f3, f4, f5, f6, f7, f8, f9, f10, f11, f12, f13, f14, f15⟩ := hfs h12
                clear hfs
                have p2 : l 2 = true := hpre 2 (by kernel_rfl)
                have h14 : l 14 = false := upd_last hA17 hk (by decide)
                have hBw := hB h14
                obtain rfl := f2 p2
                have q : w'.cell? ⟨wr.heap.size, 0, none⟩ = some (.string X.symbol) := (hBw.cell (p := ⟨wr.heap.size, 0, none⟩) hpV).trans z0
                subst ha
                go_simp
                exact hK.out _ _ ⟨x0, x1, .pointer (some ⟨wr.heap.size, 0, none⟩), .string X.symbol, x4, x5, x6, x7, x8, x9, x10, x11, x12, x13, x14, x15, by kernel_rfl, fun h => absurd (updL_ne h (by decide)) (by rw [h12]; decide), fun h => absurd (updL_ne h (by decide)) (by rw [h12]; decide), fun _ => ⟨updL_all hA17 (by decide), fun h => hB (updL_f h), fun h1 h2 h3 => (hd (updL_ne h1 (by decide)) (updL_ne h2 (by decide)) (updL_f h3)).mono (ExR.good D) (Below.refl _ _), fun h => f0 (updL_ne h (by decide)), fun h => f1 (updL_ne h (by decide)), fun h => f2 (updL_ne h (by decide)), fun _ => rfl, fun h => f4 (updL_ne h (by decide)), fun h => f5 (updL_ne h (by decide)), fun h => f6 (updL_ne h (by decide)), fun h => f7 (updL_ne h (by decide)), fun h => AgM.monoC (ExR.good D) (Below.refl _ _) (f8 (updL_ne h (by decide))), fun h => f9 (updL_ne h (by decide)), fun h => f10 (updL_ne h (by decide)), fun h => AgM.monoC (ExR.good D) (Below.refl _ _) (f11 (updL_ne h (by decide))), fun h => AgM.monoC (ConR.good D) (Below.refl _ _) (f12 (updL_ne h (by decide))), fun h => SlM.monoC (ConR.good D) (Below.refl _ _) (f13 (updL_ne h (by decide))), fun h => absurd (updL_ne h (by decide)) (by rw [h14]; decide), fun h => f15 (updL_ne h (by decide))⟩⟩
              case s4 =>
                intro l a' w' hk hpre hJ K hK
                obtain ⟨x0, x1, x2, x3, x4, x5, x6, x7, x8, x9, x10, x11, x12, x13, x14, x15, ha, hall, hfin, hfs⟩ := hJ
                have h12 : l 16 = false := upd_last hall hk (by decide)
                clear hall hfin
                obtain ⟨hA17, hB, hd, f0, f1, f2, f3, f4, f5, f6, f7, f8, f9, f10, f11, f12, f13, f14, f15⟩ := hfs h12
                clear hfs
                have h14 : l 14 = false := upd_last hA17 hk (by decide)
                have hBw := hB h14

                subst ha
                go_simp
                exact hK.out _ _ ⟨x0, x1, x2, x3, .pointer (some ⟨wr.heap.size, 1, none⟩), x5, x6, x7, x8, x9, x10, x11, x12, x13, x14, x15, by kernel_rfl, fun h => absurd (updL_ne h (by decide)) (by rw [h12]; decide), fun h => absurd (updL_ne h (by decide)) (by rw [h12]; decide), fun _ => ⟨updL_all hA17 (by decide), fun h => hB (updL_f h), fun h1 h2 h3 => (hd (updL_ne h1 (by decide)) (updL_ne h2 (by decide)) (updL_f h3)).mono (ExR.good D) (Below.refl _ _), fun h => f0 (updL_ne h (by decide)), fun h => f1 (updL_ne h (by decide)), fun h => f2 (updL_ne h (by decide)), fun h => f3 (updL_ne h (by decide)), fun _ => rfl, fun h => f5 (updL_ne h (by decide)), fun h => f6 (updL_ne h (by decide)), fun h => f7 (updL_ne h (by decide)), fun h => AgM.monoC (ExR.good D) (Below.refl _ _) (f8 (updL_ne h (by decide))), fun h => f9 (updL_ne h (by decide)), fun h => f10 (updL_ne h (by decide)), fun h => AgM.monoC (ExR.good D) (Below.refl _ _) (f11 (updL_ne h (by decide))), fun h => AgM.monoC (ConR.good D) (Below.refl _ _) (f12 (updL_ne h (by decide))), fun h => SlM.monoC (ConR.good D) (Below.refl _ _) (f13 (updL_ne h (by decide))), fun h => absurd (updL_ne h (by decide)) (by rw [h14]; decide), fun h => f15 (updL_ne h (by decide))⟩⟩
              case s5 =>
                intro l a' w' hk hpre hJ K hK
                obtain ⟨x0, x1, x2, x3, x4, x5, x6, x7, x8, x9, x10, x11, x12, x13, x14, x15, ha, hall, hfin, hfs⟩ := hJ
                have h12 : l 16 = false := upd_last hall hk (by decide)
                clear hall hfin
                obtain ⟨hA17, hB, hd, f0, f1, f2, f3, f4, f5, f6, f7, f8, f9, f10, f11, f12, f13, f14, f15⟩ := hfs h12
                clear hfs
                have p4 : l 4 = true := hpre 4 (by kernel_rfl)
                have h14 : l 14 = false := upd_last hA17 hk (by decide)
                have hBw := hB h14
                obtain rfl := f4 p4
                have q : w'.cell? ⟨wr.heap.size, 1, none⟩ = some (.string X.name) := (hBw.cell (p := ⟨wr.heap.size, 1, none⟩) hpV).trans z1
                subst ha
                go_simp
                exact hK.out _ _ ⟨x0, x1, x2, x3, .pointer (some ⟨wr.heap.size, 1, none⟩), .string X.name, x6, x7, x8, x9, x10, x11, x12, x13, x14, x15, by kernel_rfl, fun h => absurd (updL_ne h (by decide)) (by rw [h12]; decide), fun h => absurd (updL_ne h (by decide)) (by rw [h12]; decide), fun _ => ⟨updL_all hA17 (by decide), fun h => hB (updL_f h), fun h1 h2 h3 => (hd (updL_ne h1 (by decide)) (updL_ne h2 (by decide)) (updL_f h3)).mono (ExR.good D) (Below.refl _ _), fun h => f0 (updL_ne h (by decide)), fun h => f1 (updL_ne h (by decide)), fun h => f2 (updL_ne h (by decide)), fun h => f3 (updL_ne h (by decide)), fun h => f4 (updL_ne h (by decide)), fun _ => rfl, fun h => f6 (updL_ne h (by decide)), fun h => f7 (updL_ne h (by decide)), fun h => AgM.monoC (ExR.good D) (Below.refl _ _) (f8 (updL_ne h (by decide))), fun h => f9 (updL_ne h (by decide)), fun h => f10 (updL_ne h (by decide)), fun h => AgM.monoC (ExR.good D) (Below.refl _ _) (f11 (updL_ne h (by decide))), fun h => AgM.monoC (ConR.good D) (Below.refl _ _) (f12 (updL_ne h (by decide))), fun h => SlM.monoC (ConR.good D) (Below.refl _ _) (f13 (updL_ne h (by decide))), fun h => absurd (updL_ne h (by decide)) (by rw [h14]; decide), fun h => f15 (updL_ne h (by decide))⟩⟩
              case s6 =>
                intro l a' w' hk hpre hJ K hK
                obtain ⟨x0, x1, x2, x3, x4, x5, x6, x7, x8, x9, x10, x11, x12, x13, x14, x15, ha, hall, hfin, hfs⟩ := hJ
                have h12 : l 16 = false := upd_last hall hk (by decide)
                clear hall hfin
                obtain ⟨hA17, hB, hd, f0, f1, f2, f3, f4, f5, f6, f7, f8, f9, f10, f11, f12, f13, f14, f15⟩ := hfs h12
                clear hfs
                have h14 : l 14 = false := upd_last hA17 hk (by decide)
                have hBw := hB h14

                subst ha
                go_simp
                exact hK.out _ _ ⟨x0, x1, x2, x3, x4, x5, .pointer (some ⟨wr.heap.size, 2, none⟩), x7, x8, x9, x10, x11, x12, x13, x14, x15, by kernel_rfl, fun h => absurd (updL_ne h (by decide)) (by rw [h12]; decide), fun h => absurd (updL_ne h (by decide)) (by rw [h12]; decide), fun _ => ⟨updL_all hA17 (by decide), fun h => hB (updL_f h), fun h1 h2 h3 => (hd (updL_ne h1 (by decide)) (updL_ne h2 (by decide)) (updL_f h3)).mono (ExR.good D) (Below.refl _ _), fun h => f0 (updL_ne h (by decide)), fun h => f1 (updL_ne h (by decide)), fun h => f2 (updL_ne h (by decide)), fun h => f3 (updL_ne h (by decide)), fun h => f4 (updL_ne h (by decide)), fun h => f5 (updL_ne h (by decide)), fun _ => rfl, fun h => f7 (updL_ne h (by decide)), fun h => AgM.monoC (ExR.good D) (Below.refl _ _) (f8 (updL_ne h (by decide))), fun h => f9 (updL_ne h (by decide)), fun h => f10 (updL_ne h (by decide)), fun h => AgM.monoC (ExR.good D) (Below.refl _ _) (f11 (updL_ne h (by decide))), fun h => AgM.monoC (ConR.good D) (Below.refl _ _) (f12 (updL_ne h (by decide))), fun h => SlM.monoC (ConR.good D) (Below.refl _ _) (f13 (updL_ne h (by decide))), fun h => absurd (updL_ne h (by decide)) (by rw [h14]; decide), fun h => f15 (updL_ne h (by decide))⟩⟩
              case s7 =>
                intro l a' w' hk hpre hJ K hK
                obtain ⟨x0, x1, x2, x3, x4, x5, x6, x7, x8, x9, x10, x11, x12, x13, x14, x15, ha, hall, hfin, hfs⟩ := hJ
                have h12 : l 16 = false := upd_last hall hk (by decide)
                clear hall hfin
                obtain ⟨hA17, hB, hd, f0, f1, f2, f3, f4, f5, f6, f7, f8, f9, f10, f11, f12, f13, f14, f15⟩ := hfs h12
                clear hfs
                have p6 : l 6 = true := hpre 6 (by kernel_rfl)
                have h14 : l 14 = false := upd_last hA17 hk (by decide)
                have hBw := hB h14
                obtain rfl := f6 p6

                refine step_load rfl 52 (.tmp 62) rfl Try.underlying52 rfl (cs := [c2, c3, c4, c5, c6, c7, c8]) (b := wr.heap.size) (off := 2) Hix.out (by rw [ha]; kernel_rfl) rfl (HcT.out.below hBw hpV) ?_
                subst ha
                exact hK.out _ _ ⟨x0, x1, x2, x3, x4, x5, .pointer (some ⟨wr.heap.size, 2, none⟩), .agg #[c2, c3, c4, c5, c6, c7, c8], x8, x9, x10, x11, x12, x13, x14, x15, by kernel_rfl, fun h => absurd (updL_ne h (by decide)) (by rw [h12]; decide), fun h => absurd (updL_ne h (by decide)) (by rw [h12]; decide), fun _ => ⟨updL_all hA17 (by decide), fun h => hB (updL_f h), fun h1 h2 h3 => (hd (updL_ne h1 (by decide)) (updL_ne h2 (by decide)) (updL_f h3)).mono (ExR.good D) (Below.refl _ _), fun h => f0 (updL_ne h (by decide)), fun h => f1 (updL_ne h (by decide)), fun h => f2 (updL_ne h (by decide)), fun h => f3 (updL_ne h (by decide)), fun h => f4 (updL_ne h (by decide)), fun h => f5 (updL_ne h (by decide)), fun h => f6 (updL_ne h (by decide)), fun _ => rfl, fun h => AgM.monoC (ExR.good D) (Below.refl _ _) (f8 (updL_ne h (by decide))), fun h => f9 (updL_ne h (by decide)), fun h => f10 (updL_ne h (by decide)), fun h => AgM.monoC (ExR.good D) (Below.refl _ _) (f11 (updL_ne h (by decide))), fun h => AgM.monoC (ConR.good D) (Below.refl _ _) (f12 (updL_ne h (by decide))), fun h => SlM.monoC (ConR.good D) (Below.refl _ _) (f13 (updL_ne h (by decide))), fun h => absurd (updL_ne h (by decide)) (by rw [h14]; decide), fun h => f15 (updL_ne h (by decide))⟩⟩
              case s8 =>
                intro l a' w' hk hpre hJ K hK
                obtain ⟨x0, x1, x2, x3, x4, x5, x6, x7, x8, x9, x10, x11, x12, x13, x14, x15, ha, hall, hfin, hfs⟩ := hJ
                have h12 : l 16 = false := upd_last hall hk (by decide)
                clear hall hfin
                obtain ⟨hA17, hB, hd, f0, f1, f2, f3, f4, f5, f6, f7, f8, f9, f10, f11, f12, f13, f14, f15⟩ := hfs h12
                clear hfs
                have p7 : l 7 = true := hpre 7 (by kernel_rfl)
                have h14 : l 14 = false := upd_last hA17 hk (by decide)
                have hBw := hB h14
                obtain rfl := f7 p7

                subst ha
                go_simp
                go_at_call 78
                refine Calls.mono (s_l4Copy D X.target [c2, c3, c4, c5, c6, c7, c8] FT w' ((ExR.good D).below HET.out hBw HFT.out) hbkq.1) ?_
                rintro en w2 ⟨us, G2, rfl, hR2, hf2, hb2⟩
                exact hK.out _ _ ⟨x0, x1, x2, x3, x4, x5, x6, .agg #[c2, c3, c4, c5, c6, c7, c8], .agg (List.toArray us), x9, x10, x11, x12, x13, x14, x15, by kernel_rfl, fun h => absurd (updL_ne h (by decide)) (by rw [h12]; decide), fun h => absurd (updL_ne h (by decide)) (by rw [h12]; decide), fun _ => ⟨updL_all hA17 (by decide), fun h => hBw.trans (hb2.mono hBw.size), fun h1 h2 h3 => Two.left (ExR.good D) (f11 (updL_ne h2 (by decide)) (updL_f h3)) hb2 hR2 hf2 hBw.size, fun h => f0 (updL_ne h (by decide)), fun h => f1 (updL_ne h (by decide)), fun h => f2 (updL_ne h (by decide)), fun h => f3 (updL_ne h (by decide)), fun h => f4 (updL_ne h (by decide)), fun h => f5 (updL_ne h (by decide)), fun h => f6 (updL_ne h (by decide)), fun h => f7 (updL_ne h (by decide)), fun _ => fun _ => ⟨us, G2, rfl, hR2, hf2.mono hBw.size⟩, fun h => f9 (updL_ne h (by decide)), fun h => f10 (updL_ne h (by decide)), fun h => AgM.monoC (ExR.good D) hb2 (f11 (updL_ne h (by decide))), fun h => AgM.monoC (ConR.good D) hb2 (f12 (updL_ne h (by decide))), fun h => SlM.monoC (ConR.good D) hb2 (f13 (updL_ne h (by decide))), fun h => absurd (updL_ne h (by decide)) (by rw [h14]; decide), fun h => f15 (updL_ne h (by decide))⟩⟩
              case s9 =>
                intro l a' w' hk hpre hJ K hK
                obtain ⟨x0, x1, x2, x3, x4, x5, x6, x7, x8, x9, x10, x11, x12, x13, x14, x15, ha, hall, hfin, hfs⟩ := hJ
                have h12 : l 16 = false := upd_last hall hk (by decide)
                clear hall hfin
                obtain ⟨hA17, hB, hd, f0, f1, f2, f3, f4, f5, f6, f7, f8, f9, f10, f11, f12, f13, f14, f15⟩ := hfs h12
                clear hfs
                have h14 : l 14 = false := upd_last hA17 hk (by decide)
                have hBw := hB h14

                subst ha
                go_simp
                exact hK.out _ _ ⟨x0, x1, x2, x3, x4, x5, x6, x7, x8, .pointer (some ⟨wr.heap.size, 9, none⟩), x10, x11, x12, x13, x14, x15, by kernel_rfl, fun h => absurd (updL_ne h (by decide)) (by rw [h12]; decide), fun h => absurd (updL_ne h (by decide)) (by rw [h12]; decide), fun _ => ⟨updL_all hA17 (by decide), fun h => hB (updL_f h), fun h1 h2 h3 => (hd (updL_ne h1 (by decide)) (updL_ne h2 (by decide)) (updL_f h3)).mono (ExR.good D) (Below.refl _ _), fun h => f0 (updL_ne h (by decide)), fun h => f1 (updL_ne h (by decide)), fun h => f2 (updL_ne h (by decide)), fun h => f3 (updL_ne h (by decide)), fun h => f4 (updL_ne h (by decide)), fun h => f5 (updL_ne h (by decide)), fun h => f6 (updL_ne h (by decide)), fun h => f7 (updL_ne h (by decide)), fun h => AgM.monoC (ExR.good D) (Below.refl _ _) (f8 (updL_ne h (by decide))), fun _ => rfl, fun h => f10 (updL_ne h (by decide)), fun h => AgM.monoC (ExR.good D) (Below.refl _ _) (f11 (updL_ne h (by decide))), fun h => AgM.monoC (ConR.good D) (Below.refl _ _) (f12 (updL_ne h (by decide))), fun h => SlM.monoC (ConR.good D) (Below.refl _ _) (f13 (updL_ne h (by decide))), fun h => absurd (updL_ne h (by decide)) (by rw [h14]; decide), fun h => f15 (updL_ne h (by decide))⟩⟩
              case s10 =>
                intro l a' w' hk hpre hJ K hK
                obtain ⟨x0, x1, x2, x3, x4, x5, x6, x7, x8, x9, x10, x11, x12, x13, x14, x15, ha, hall, hfin, hfs⟩ := hJ
                have h12 : l 16 = false := upd_last hall hk (by decide)
                clear hall hfin
                obtain ⟨hA17, hB, hd, f0, f1, f2, f3, f4, f5, f6, f7, f8, f9, f10, f11, f12, f13, f14, f15⟩ := hfs h12
                clear hfs
                have p9 : l 9 = true := hpre 9 (by kernel_rfl)
                have h14 : l 14 = false := upd_last hA17 hk (by decide)
                have hBw := hB h14
                obtain rfl := f9 p9

                refine step_load rfl 52 (.tmp 65) rfl Try.underlying52 rfl (cs := [c9, c10, c11, c12, c13, c14, c15]) (b := wr.heap.size) (off := 9) Hix.out (by rw [ha]; kernel_rfl) rfl (HcV.out.below hBw hpV) ?_
                subst ha
                exact hK.out _ _ ⟨x0, x1, x2, x3, x4, x5, x6, x7, x8, .pointer (some ⟨wr.heap.size, 9, none⟩), .agg #[c9, c10, c11, c12, c13, c14, c15], x11, x12, x13, x14, x15, by kernel_rfl, fun h => absurd (updL_ne h (by decide)) (by rw [h12]; decide), fun h => absurd (updL_ne h (by decide)) (by rw [h12]; decide), fun _ => ⟨updL_all hA17 (by decide), fun h => hB (updL_f h), fun h1 h2 h3 => (hd (updL_ne h1 (by decide)) (updL_ne h2 (by decide)) (updL_f h3)).mono (ExR.good D) (Below.refl _ _), fun h => f0 (updL_ne h (by decide)), fun h => f1 (updL_ne h (by decide)), fun h => f2 (updL_ne h (by decide)), fun h => f3 (updL_ne h (by decide)), fun h => f4 (updL_ne h (by decide)), fun h => f5 (updL_ne h (by decide)), fun h => f6 (updL_ne h (by decide)), fun h => f7 (updL_ne h (by decide)), fun h => AgM.monoC (ExR.good D) (Below.refl _ _) (f8 (updL_ne h (by decide))), fun h => f9 (updL_ne h (by decide)), fun _ => rfl, fun h => AgM.monoC (ExR.good D) (Below.refl _ _) (f11 (updL_ne h (by decide))), fun h => AgM.monoC (ConR.good D) (Below.refl _ _) (f12 (updL_ne h (by decide))), fun h => SlM.monoC (ConR.good D) (Below.refl _ _) (f13 (updL_ne h (by decide))), fun h => absurd (updL_ne h (by decide)) (by rw [h14]; decide), fun h => f15 (updL_ne h (by decide))⟩⟩
              case s11 =>
                intro l a' w' hk hpre hJ K hK
                obtain ⟨x0, x1, x2, x3, x4, x5, x6, x7, x8, x9, x10, x11, x12, x13, x14, x15, ha, hall, hfin, hfs⟩ := hJ
                have h12 : l 16 = false := upd_last hall hk (by decide)
                clear hall hfin
                obtain ⟨hA17, hB, hd, f0, f1, f2, f3, f4, f5, f6, f7, f8, f9, f10, f11, f12, f13, f14, f15⟩ := hfs h12
                clear hfs
                have p10 : l 10 = true := hpre 10 (by kernel_rfl)
                have h14 : l 14 = false := upd_last hA17 hk (by decide)
                have hBw := hB h14
                obtain rfl := f10 p10

                subst ha
                go_simp
                go_at_call 78
                refine Calls.mono (s_l4Copy D X.value [c9, c10, c11, c12, c13, c14, c15] FV w' ((ExR.good D).below HEV.out hBw HFV.out) hbkq.2) ?_
                rintro en w2 ⟨us, G2, rfl, hR2, hf2, hb2⟩
                exact hK.out _ _ ⟨x0, x1, x2, x3, x4, x5, x6, x7, x8, x9, .agg #[c9, c10, c11, c12, c13, c14, c15], .agg (List.toArray us), x12, x13, x14, x15, by kernel_rfl, fun h => absurd (updL_ne h (by decide)) (by rw [h12]; decide), fun h => absurd (updL_ne h (by decide)) (by rw [h12]; decide), fun _ => ⟨updL_all hA17 (by decide), fun h => hBw.trans (hb2.mono hBw.size), fun h1 h2 h3 => Two.right (ExR.good D) (f8 (updL_ne h1 (by decide)) (updL_f h3)) hb2 hR2 hf2 hBw.size, fun h => f0 (updL_ne h (by decide)), fun h => f1 (updL_ne h (by decide)), fun h => f2 (updL_ne h (by decide)), fun h => f3 (updL_ne h (by decide)), fun h => f4 (updL_ne h (by decide)), fun h => f5 (updL_ne h (by decide)), fun h => f6 (updL_ne h (by decide)), fun h => f7 (updL_ne h (by decide)), fun h => AgM.monoC (ExR.good D) hb2 (f8 (updL_ne h (by decide))), fun h => f9 (updL_ne h (by decide)), fun h => f10 (updL_ne h (by decide)), fun _ => fun _ => ⟨us, G2, rfl, hR2, hf2.mono hBw.size⟩, fun h => AgM.monoC (ConR.good D) hb2 (f12 (updL_ne h (by decide))), fun h => SlM.monoC (ConR.good D) hb2 (f13 (updL_ne h (by decide))), fun h => absurd (updL_ne h (by decide)) (by rw [h14]; decide), fun h => f15 (updL_ne h (by decide))⟩⟩
              case s12 =>
                intro l a' w' hk hpre hJ K hK
                obtain ⟨x0, x1, x2, x3, x4, x5, x6, x7, x8, x9, x10, x11, x12, x13, x14, x15, ha, hall, hfin, hfs⟩ := hJ
                have h12 : l 16 = false := upd_last hall hk (by decide)
                clear hall hfin
                obtain ⟨hA17, hB, hd, f0, f1, f2, f3, f4, f5, f6, f7, f8, f9, f10, f11, f12, f13, f14, f15⟩ := hfs h12
                clear hfs
                have p3 : l 3 = true := hpre 3 (by kernel_rfl)
                have p5 : l 5 = true := hpre 5 (by kernel_rfl)
                have p8 : l 8 = true := hpre 8 (by kernel_rfl)
                have p11 : l 11 = true := hpre 11 (by kernel_rfl)
                have h14 : l 14 = false := upd_last hA17 hk (by decide)
                have hBw := hB h14
                obtain rfl := f3 p3
                obtain rfl := f5 p5
                obtain ⟨us, G2, vs, G3, rfl, rfl, hm, hm3, hdis⟩ := hd p8 p11 h14
                obtain ⟨u0, u1, u2, u3, u4, u5, u6, rfl⟩ := list7 ((ExR.good D).len hm.1)
                obtain ⟨v0, v1, v2, v3, v4, v5, v6, rfl⟩ := list7 ((ExR.good D).len hm3.1)
                subst ha
                go_simp
                exact hK.out _ _ ⟨x0, x1, x2, .string X.symbol, x4, .string X.name, x6, x7, .agg #[u0, u1, u2, u3, u4, u5, u6], x9, x10, .agg #[v0, v1, v2, v3, v4, v5, v6], .agg #[.string X.symbol, .string X.name, u0, u1, u2, u3, u4, u5, u6, v0, v1, v2, v3, v4, v5, v6], x13, x14, x15, by kernel_rfl, fun h => absurd (updL_ne h (by decide)) (by rw [h12]; decide), fun h => absurd (updL_ne h (by decide)) (by rw [h12]; decide), fun _ => ⟨updL_all hA17 (by decide), fun h => hB (updL_f h), fun h1 h2 h3 => (hd (updL_ne h1 (by decide)) (updL_ne h2 (by decide)) (updL_f h3)).mono (ExR.good D) (Below.refl _ _), fun h => f0 (updL_ne h (by decide)), fun h => f1 (updL_ne h (by decide)), fun h => f2 (updL_ne h (by decide)), fun h => f3 (updL_ne h (by decide)), fun h => f4 (updL_ne h (by decide)), fun h => f5 (updL_ne h (by decide)), fun h => f6 (updL_ne h (by decide)), fun h => f7 (updL_ne h (by decide)), fun h => AgM.monoC (ExR.good D) (Below.refl _ _) (f8 (updL_ne h (by decide))), fun h => f9 (updL_ne h (by decide)), fun h => f10 (updL_ne h (by decide)), fun h => AgM.monoC (ExR.good D) (Below.refl _ _) (f11 (updL_ne h (by decide))), fun _ => fun _ => ⟨[.string X.symbol, .string X.name, u0, u1, u2, u3, u4, u5, u6, v0, v1, v2, v3, v4, v5, v6], G2 ++ G3, rfl, ConR.of Hok.out hm.1 hm3.1, hm.2.glue hm3.2 hdis⟩, fun h => SlM.monoC (ConR.good D) (Below.refl _ _) (f13 (updL_ne h (by decide))), fun h => absurd (updL_ne h (by decide)) (by rw [h14]; decide), fun h => f15 (updL_ne h (by decide))⟩⟩
              case s13 =>
                intro l a' w' hk hpre hJ K hK
                obtain ⟨x0, x1, x2, x3, x4, x5, x6, x7, x8, x9, x10, x11, x12, x13, x14, x15, ha, hall, hfin, hfs⟩ := hJ
                have h12 : l 16 = false := upd_last hall hk (by decide)
                clear hall hfin
                obtain ⟨hA17, hB, hd, f0, f1, f2, f3, f4, f5, f6, f7, f8, f9, f10, f11, f12, f13, f14, f15⟩ := hfs h12
                clear hfs
                have p12 : l 12 = true := hpre 12 (by kernel_rfl)
                have h14 : l 14 = false := upd_last hA17 hk (by decide)
                have hBw := hB h14
                obtain ⟨us, G2, rfl, hm⟩ := f12 p12 h14
                obtain ⟨q0, q1, q2, q3, q4, q5, q6, q7, q8, q9, q10, q11, q12, q13, q14, q15, rfl⟩ := list_16 ((ConR.good D).len hm.1)
                subst ha
                go_simp
                exact hK.out _ _ ⟨x0, x1, x2, x3, x4, x5, x6, x7, x8, x9, x10, x11, .agg #[q0, q1, q2, q3, q4, q5, q6, q7, q8, q9, q10, q11, q12, q13, q14, q15], .slice (some ⟨w'.heap.size, 0, none⟩) 1 1, x14, x15, by kernel_rfl, fun h => absurd (updL_ne h (by decide)) (by rw [h12]; decide), fun h => absurd (updL_ne h (by decide)) (by rw [h12]; decide), fun _ => ⟨updL_all hA17 (by decide), fun h => hBw.alloc hBw.size _, fun h1 h2 h3 => (hd (updL_ne h1 (by decide)) (updL_ne h2 (by decide)) (updL_f h3)).mono (ExR.good D) ((Below.refl _ _).alloc (Nat.le_refl _) _), fun h => f0 (updL_ne h (by decide)), fun h => f1 (updL_ne h (by decide)), fun h => f2 (updL_ne h (by decide)), fun h => f3 (updL_ne h (by decide)), fun h => f4 (updL_ne h (by decide)), fun h => f5 (updL_ne h (by decide)), fun h => f6 (updL_ne h (by decide)), fun h => f7 (updL_ne h (by decide)), fun h => AgM.monoC (ExR.good D) ((Below.refl _ _).alloc (Nat.le_refl _) _) (f8 (updL_ne h (by decide))), fun h => f9 (updL_ne h (by decide)), fun h => f10 (updL_ne h (by decide)), fun h => AgM.monoC (ExR.good D) ((Below.refl _ _).alloc (Nat.le_refl _) _) (f11 (updL_ne h (by decide))), fun h => AgM.monoC (ConR.good D) ((Below.refl _ _).alloc (Nat.le_refl _) _) (f12 (updL_ne h (by decide))), fun _ => fun _ => ⟨_, [q0, q1, q2, q3, q4, q5, q6, q7, q8, q9, q10, q11, q12, q13, q14, q15], G2, rfl, New.made hBw.size _ _, hm.below (ConR.good D) ((Below.refl _ _).alloc (Nat.le_refl _) _)⟩, fun h => absurd (updL_ne h (by decide)) (by rw [h14]; decide), fun h => f15 (updL_ne h (by decide))⟩⟩
              case s14 =>
                intro l a' w' hk hpre hJ K hK
                obtain ⟨x0, x1, x2, x3, x4, x5, x6, x7, x8, x9, x10, x11, x12, x13, x14, x15, ha, hall, hfin, hfs⟩ := hJ
                have h12 : l 16 = false := upd_last hall hk (by decide)
                clear hall hfin
                obtain ⟨hA17, hB, hd, f0, f1, f2, f3, f4, f5, f6, f7, f8, f9, f10, f11, f12, f13, f14, f15⟩ := hfs h12
                clear hfs
                have p1 : l 1 = true := hpre 1 (by kernel_rfl)
                have p13 : l 13 = true := hpre 13 (by kernel_rfl)
                obtain rfl := f1 p1
                obtain ⟨g8, us, G2, rfl, hg, hm⟩ := f13 p13 hk
                have hBw := hB hk
                refine step_ownQ rfl (.tmp 57) (.tmp 69) 29 109 rfl Try.underlying29 infoConT rfl (by decide) (ConR.good D) V1.heap.size w' W1.heap.size (.slice Au j capu) (x.cons.take j) F' (HownV.out.below (ConR.good D) hBw) (by rw [ha]; kernel_rfl) HFl.out HVl.out X us G2 hm (ConR.one hm.1) g8 (by rw [ha]; kernel_rfl) hg Hb1.out Hb2.out hwcr ?_
                intro v8 w8 hown8 hbl8 hgr8
                obtain ⟨A8, cap8, hv8, _, _⟩ := hown8.form
                rw [Htl.out] at hv8
                subst hv8
                have hB8 : Below W1.heap.size V1 w8 := (hBw.mono hwcr).trans hbl8
                subst ha
                exact hK.out _ _ ⟨x0, .slice Au j capu, x2, x3, x4, x5, x6, x7, x8, x9, x10, x11, x12, .slice (some ⟨g8, 0, none⟩) 1 1, .slice A8 (j + 1) cap8, x15, by kernel_rfl, fun h => absurd (updL_ne h (by decide)) (by rw [h12]; decide), fun h => absurd (updL_ne h (by decide)) (by rw [h12]; decide), fun _ => ⟨fun _ => deep_all hpre (by kernel_rfl) _, fun h2 => absurd h2 (by rw [updL_self]; decide), fun _ _ h2 => absurd h2 (by rw [updL_self]; decide), fun h => f0 (updL_ne h (by decide)), fun h => f1 (updL_ne h (by decide)), fun h => f2 (updL_ne h (by decide)), fun h => f3 (updL_ne h (by decide)), fun h => f4 (updL_ne h (by decide)), fun h => f5 (updL_ne h (by decide)), fun h => f6 (updL_ne h (by decide)), fun h => f7 (updL_ne h (by decide)), fun h => fun h2 => absurd h2 (by rw [updL_self]; decide), fun h => f9 (updL_ne h (by decide)), fun h => f10 (updL_ne h (by decide)), fun h => fun h2 => absurd h2 (by rw [updL_self]; decide), fun h => fun h2 => absurd h2 (by rw [updL_self]; decide), fun h => fun h2 => absurd h2 (by rw [updL_self]; decide), fun _ => ⟨A8, cap8, _, rfl, hown8, hB8⟩, fun h => f15 (updL_ne h (by decide))⟩⟩
              case s15 =>
                intro l a' w' hk hpre hJ K hK
                obtain ⟨x0, x1, x2, x3, x4, x5, x6, x7, x8, x9, x10, x11, x12, x13, x14, x15, ha, hall, hfin, hfs⟩ := hJ
                have h12 : l 16 = false := upd_last hall hk (by decide)
                clear hall hfin
                obtain ⟨hA17, hB, hd, f0, f1, f2, f3, f4, f5, f6, f7, f8, f9, f10, f11, f12, f13, f14, f15⟩ := hfs h12
                clear hfs
                subst ha
                go_simp
                exact hK.out _ _ ⟨x0, x1, x2, x3, x4, x5, x6, x7, x8, x9, x10, x11, x12, x13, x14, .pointer (some ⟨b, 5, none⟩), by kernel_rfl, fun h => absurd (updL_ne h (by decide)) (by rw [h12]; decide), fun h => absurd (updL_ne h (by decide)) (by rw [h12]; decide), fun _ => ⟨updL_all hA17 (by decide), fun h => hB (updL_f h), fun h1 h2 h3 => (hd (updL_ne h1 (by decide)) (updL_ne h2 (by decide)) (updL_f h3)).mono (ExR.good D) (Below.refl _ _), fun h => f0 (updL_ne h (by decide)), fun h => f1 (updL_ne h (by decide)), fun h => f2 (updL_ne h (by decide)), fun h => f3 (updL_ne h (by decide)), fun h => f4 (updL_ne h (by decide)), fun h => f5 (updL_ne h (by decide)), fun h => f6 (updL_ne h (by decide)), fun h => f7 (updL_ne h (by decide)), fun h => AgM.monoC (ExR.good D) (Below.refl _ _) (f8 (updL_ne h (by decide))), fun h => f9 (updL_ne h (by decide)), fun h => f10 (updL_ne h (by decide)), fun h => AgM.monoC (ExR.good D) (Below.refl _ _) (f11 (updL_ne h (by decide))), fun h => AgM.monoC (ConR.good D) (Below.refl _ _) (f12 (updL_ne h (by decide))), fun h => SlM.monoC (ConR.good D) (Below.refl _ _) (f13 (updL_ne h (by decide))), fun h => (f14 (updL_ne h (by decide))), fun _ => rfl⟩⟩
              case s16 =>
                intro l a' w' hk hpre hJ K hK
                obtain ⟨x0, x1, x2, x3, x4, x5, x6, x7, x8, x9, x10, x11, x12, x13, x14, x15, ha, hall, hfin, hfs⟩ := hJ
                have h12 : l 16 = false := hk
                clear hall hfin
                obtain ⟨hA17, hB, hd, f0, f1, f2, f3, f4, f5, f6, f7, f8, f9, f10, f11, f12, f13, f14, f15⟩ := hfs h12
                clear hfs
                have p14 : l 14 = true := hpre 14 (by kernel_rfl)
                have p15 : l 15 = true := hpre 15 (by kernel_rfl)
                clear hA17 hB hd f0 f1 f2 f3 f4 f5 f6 f7 f8 f9 f10 f11 f12 f13
                obtain ⟨A8, cap8, F8, rfl, hown8, hB8⟩ := f14 p14
                obtain rfl := f15 p15
                clear f14 f15
                have hbx := blk_below HbxV.out hB8 hb1W
                have q := cell_at (i := 5) hbx (by simp)
                have y := frozen_of_row w' _ 5 _ _ hbx
                subst ha
                go_simp
                exact hK.out _ _ ⟨x0, x1, x2, x3, x4, x5, x6, x7, x8, x9, x10, x11, x12, x13, .slice A8 (j + 1) cap8, .pointer (some ⟨b, 5, none⟩), by kernel_rfl, fun _ => deep_all hpre (by kernel_rfl) _, fun _ => ⟨w', A8, cap8, F8, hown8, hB8, rfl⟩, fun h => absurd h (by simp [updL])⟩
            case hend =>
              intro l a' w' hl hJ
              obtain ⟨x0, x1, x2, x3, x4, x5, x6, x7, x8, x9, x10, x11, x12, x13, x14, x15, ha, _, hfin, _⟩ := hJ
              simp [go_sem] at ha
              subst ha
              replace hfin := hfin (hl 16 (by decide))
              clear hl
              obtain ⟨W5, A8, cap8, F8, hown8, hB8, rfl⟩ := hfin
              have hbx1 := blk_below HbxV.out hB8 hb1W
              have hb9 := heap_setCell_same W5 b 5 _ _ (.slice A8 (j + 1) cap8) hbx1
              have Hb9 : Hid ((W5.setCell ⟨b, 5, none⟩ (.slice A8 (j + 1) cap8)).heap[b]? = some (.cells #[.string x.name, .string x.left, .slice A x.right.length cap, .bool x.lit, v, .slice A8 (j + 1) cap8] 31 (0, 0))) := hide hb9
              have Hg9 : Hid (W1.grownBy (W5.setCell ⟨b, 5, none⟩ (.slice A8 (j + 1) cap8)) (some b)) := hide (mk_cell (mk_base HgrV.out hB8 (Nat.le_refl _)))
              have Ho9 := hide (OwnS.same (ConR.good D) hown8 (fun k h1 h2 => heap_setCell_other W5 ⟨b, 5, none⟩ k (.slice A8 (j + 1) cap8) (by show k ≠ b; omega)) (by simp))
              clear hown8 hB8 hbx1 hb9
              generalize W5.setCell ⟨b, 5, none⟩ (.slice A8 (j + 1) cap8) = W9 at Hb9 Hg9 Ho9 ⊢
              go_wp2_with fail
              go_roundw
              case rel => exact ⟨j + 1, _, F8, by omega, by go_num, Hg9, Hb9, hide (by rw [take_snoc HX.out]; exact Ho9.out)⟩
              case measure => simp [intOf]; omega
          · have hjl : j = x.cons.length := by omega
            subst hjl
            rw [List.take_length] at Hown
            obtain ⟨Av, capv, rfl, _, _⟩ := Hown1.out.form
            obtain ⟨Au, capu, rfl, _, _⟩ := Hown.out.form
            have hHc6 : CellsAt wr b 0 [.string x.name, .string x.left, .slice A x.right.length cap, .bool x.lit, .slice Av x.eqs.length capv, .slice Au x.cons.length capu] := fun i u hu => by
              rw [cell_of_row _ _ _ _ _ _ Hbx.out, Nat.zero_add]
              simpa using hu
            have Hc6 := hide hHc6
            have HZ := hide (blk_below HR0.out hwr2 (by omega))
            have Hn6 : Hid (([.string x.name, .string x.left, .slice A x.right.length cap, .bool x.lit, .slice Av x.eqs.length capv, .slice Au x.cons.length capu] : List Value).length = 6) := hide rfl
            have H16 : Hid (∀ v ∈ ([.string x.name, .string x.left, .slice A x.right.length cap, .bool x.lit, .slice Av x.eqs.length capv, .slice Au x.cons.length capu] : List Value), v.oneCell' = true) := hide (by simp [Value.oneCell'])
            clear hHc6
            go_wp2_with (first
              | refine wpList_load_at 31 (.tmp 3) rfl Try.underlying31 rfl Hir.out rfl rfl Hn6.out Hc6.out ?_
              | (refine wpList_store_at 31 (.tmp 2) (.tmp 72) (cs := [.string x.name, .string x.left, .slice A x.right.length cap, .bool x.lit, .slice Av x.eqs.length capv, .slice Au x.cons.length capu]) rfl Hir.out rfl rfl rfl Hn6.out H16.out HZ.out (by decide) ?_; intro WF hQ; have HQF := hide hQ; clear hQ))
            obtain ⟨G4, hG4, hf4⟩ := Hown1.out.slr (EqnR.good D)
            obtain ⟨G5, hG5, hf5⟩ := Hown.out.slr (ConR.good D)
            have hlG : ∀ k ∈ G, k < wc.heap.size := Hfr.out.lt
            have hlG4 : ∀ k ∈ G4, k < W1.heap.size := hf4.lt
            have hw1 : wc.heap.size ≤ W1.heap.size := hwcr
            have sG : ∀ k ∈ G, WF.heap[k]? = wc.heap[k]? := fun k hk => by
              have h1 := hlG k hk
              have h2 := Hfr.out.from_ k hk
              have h3 : k ≠ b := fun e => HbG.out (e ▸ hk)
              rw [HQF.out.far k (by omega), Hgr.out.block k (by omega) (by intro e; injection e; omega), Hg1.out.block k h1 (by intro e; injection e; omega)]
            have s4 : ∀ k ∈ G4, WF.heap[k]? = W1.heap[k]? := fun k hk => by
              have h1 := hlG4 k hk
              have h2 := hf4.from_ k hk
              rw [HQF.out.far k (by omega), Hgr.out.block k (by omega) (by intro e; injection e; omega)]
            have s5 : ∀ k ∈ G5, WF.heap[k]? = wr.heap[k]? := fun k hk => by
              have h2 := hf5.from_ k hk
              rw [HQF.out.far k (by omega)]
            have hzF : WF.heap.size = wr.heap.size := HQF.out.size
            have x0 := HQF.out.cellsAt 0 _ rfl
            have x1 := HQF.out.cellsAt 1 _ rfl
            have x2 := HQF.out.cellsAt 2 _ rfl
            have x3 := HQF.out.cellsAt 3 _ rfl
            have x4 := HQF.out.cellsAt 4 _ rfl
            have x5 := HQF.out.cellsAt 5 _ rfl
            simp only [Nat.zero_add] at x0 x1 x2 x3 x4 x5
            exact bodyPost_ret (v := .agg #[.string x.name, .string x.left, .slice A x.right.length cap, .bool x.lit, .slice Av x.eqs.length capv, .slice Au x.cons.length capu]) (by simp [results, Try.results37, go_sem, x0, x1, x2, x3, x4, x5]) rfl
              ⟨[.string x.name, .string x.left, .slice A x.right.length cap, .bool x.lit, .slice Av x.eqs.length capv, .slice Au x.cons.length capu], G ++ (G4 ++ G5), rfl, ⟨_, G, _, G4, _, G5, rfl, Hk.out, rfl, rfl, ⟨rfl, Hsl.out.frame (StrR.good D) sG (by omega)⟩, rfl, ⟨rfl, hG4.frame (EqnR.good D) s4 (by omega)⟩, ⟨rfl, hG5.frame (ConR.good D) s5 (by omega)⟩, rfl⟩,
                ((Hfr.out.keep sG).mono (by omega)).append ((hf4.keep s4).append (hf5.keep s5) hlG4 hw1) (fun k hk => hlG k hk) (by omega), hwr.trans (HQF.out.below (by omega))⟩

end Go.Proofs.Ytaihdnlpdibkoaa
