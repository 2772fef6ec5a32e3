/- AttributeUses, the reference's side. Conditions: the expression has at most the size 2^20. -/
import Derived.Test.YtaihdnlpdibkoaaUseJ
namespace Go.Proofs.Ytaihdnlpdibkoaa
set_option maxRecDepth 100000
open Go.RowKit Go.WideShapes
set_option linter.unusedVariables false

set_option maxRecDepth 100000 in
set_option maxHeartbeats 2000000 in
theorem s_AttributeUses (D : Nat) (x : Ex) (cs : List Value) (F : List Nat) (w : World) (h : ExR D w x cs F) (hbk : bulkE D x ≤ 1048576) :
    Calls Try.prog 16 #[.agg cs.toArray] w fun en w' => ∃ v' G, en = .returned v' ∧ SlR 2 (OccR D) w' (sortO (usesE D x)) v' G ∧ Fresh w.heap.size w' G ∧ Below w.heap.size w w' := by
  have hn : (usesE D x).length ≤ 2097152 := by
    have := usesE_len D x
    have := cnt_le_bulk D x
    omega
  have hF := (ExR.good D).lt h
  obtain ⟨c0, c1, c2, c3, c4, c5, c6, rfl⟩ := list7 ((ExR.good D).len h)
  have Hn : Hid (([c0, c1, c2, c3, c4, c5, c6] : List Value).length = 7) := hide rfl
  have Hix : Hid ((Try.prog.info? 52).map (·.size) = some 7) := hide (by kernel_rfl)
  have ha : Below w.heap.size w (w.alloc (.cells #[c0, c1, c2, c3, c4, c5, c6] 52)) := (Below.refl _ _).alloc (Nat.le_refl _) _
  have hC := CellsAt.new w [c0, c1, c2, c3, c4, c5, c6] 52
  have hz := World.size_alloc w (.cells #[c0, c1, c2, c3, c4, c5, c6] 52)
  show Calls _ _ #[.agg #[c0, c1, c2, c3, c4, c5, c6]] w _
  go_enter Try.func16, Try.ntmps16
  go_wp2_with fail
  generalize w.alloc (.cells #[c0, c1, c2, c3, c4, c5, c6] 52) = W0 at ha hC hz ⊢
  have hb : Below w.heap.size w (W0.alloc (.cells #[] 65)) := ha.alloc ha.size _
  have hbl := heap_alloc_new W0 (.cells #[] 65)
  rw [hz] at hbl
  have HE := hide ((ExR.good D).below h hb hF)
  have HL : Hid (LR w.heap.size (W0.alloc (.cells #[] 65)) [] (w.heap.size + 1) 0) := hide ⟨fun i u hu => by simp [flatO] at hu, fun x hx => (by cases hx), Nat.le_refl _, by simp [maxLen], by omega, _, _, hbl⟩
  have HC := hide hC
  have Hb := hide hb
  clear h ha hC hb hbl hF
  go_wp2_with (refine wpList_load_at 52 (.tmp 1) rfl Try.underlying52 rfl Hix.out rfl rfl Hn.out HC.out ?_)
  have hU := t_Uses D x _ F _ w.heap.size (w.heap.size + 1) 0 [] HE.out HL.out Hb.out.size (by rw [List.length_nil, Nat.zero_add]; exact hn)
  rw [List.length_nil, show putsE D x [] = sortO (usesE D x) from rfl] at hU
  refine Calls.mono hU ?_
  rintro en w2 ⟨g, cap, rfl, hL, hb2⟩
  clear hU
  have HL2 := hide hL
  have Hb2 := hide (below_step Hb.out (Nat.le_refl _) hb2)
  clear hL hb2
  go_wp2_with fail
  go_ret
  obtain ⟨G, hG, hf⟩ := HL2.out.slr (D := D)
  exact ⟨_, G, rfl, hG, hf, Hb2.out⟩
end Go.Proofs.Ytaihdnlpdibkoaa
