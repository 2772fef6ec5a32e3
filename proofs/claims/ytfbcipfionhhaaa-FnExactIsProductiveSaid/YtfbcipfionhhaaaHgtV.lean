/- A symbol's least height, and whether it has one: the reference's. Conditions: the grammar has at most the size 2^20. -/
import Derived.Test.YtfbcipfionhhaaaHgtU
namespace Go.Proofs.Ytfbcipfionhhaaa
set_option maxRecDepth 100000
open Go.RowKit Go.WideShapes
set_option linter.unusedVariables false

theorem minH_no {g : Grm} {s : ByteArray} (h : symIdx g s = none) : minH g s = 0 := hOf_no h
set_option maxRecDepth 100000 in
set_option maxHeartbeats 2000000 in
theorem s_MinHeight (D : Nat) (x : Grm) (cs : List Value) (F : List Nat) (w : World) (h : GrmR D w x cs F) (s : ByteArray) (hbk : x.symbols.length ≤ 1048576) :
    Calls Try.prog 25 #[.agg cs.toArray, .string s] w fun en w' => en = .returned (.int .i64 (minH x s : Int)) ∧ Below w.heap.size w w' := by
  obtain ⟨p0, p1, rfl⟩ := list2 ((GrmR.good D).len h)
  have HFe := hide ((GrmR.good D).lt h)
  have HG : Hid (∀ W : World, Below w.heap.size w W → GrmR D W x [p0, p1] F) := hide fun W hW => (GrmR.good D).below h hW HFe.out
  obtain ⟨C0, hz0, hw0⟩ := boxes1 w [p0, p1] 52
  have Hbk := hide hbk
  show Calls _ _ #[.agg #[p0, p1], .string s] w _
  clear h
  go_enter Try.func25, Try.ntmps25
  go_wp2_with fail
  generalize w.alloc (Obj.cells #[p0, p1] 52) = W0 at C0 hz0 hw0 ⊢
  have hn0 : w.heap.size + 1 ≤ W0.heap.size := by omega
  have Hw : Hid (∀ W : World, Below (w.heap.size + 1) W0 W → Below w.heap.size w W) := hide fun W h => hw0.trans (h.mono (by omega))
  have hB0 : Below (w.heap.size + 1) W0 W0 := Below.refl _ _
  have e0 := cell_rule C0 (n := w.heap.size + 1) (by omega) 0 rfl
  have e1 := cell_rule C0 (n := w.heap.size + 1) (by omega) 1 rfl
  clear C0 hz0 hw0
  go_wp2_with fail
  refine Calls.mono (s_l12At D x _ F _ (HG.out _ (Hw.out _ hB0)) s) ?_
  rintro en W1 ⟨rfl, hb1⟩
  have hB1 : Below (w.heap.size + 1) W0 W1 := below_step hB0 hn0 hb1
  clear hb1
  cases hq : symIdx x s with
  | none =>
    have Hat : Hid (atI x s = -1) := hide (atI_no hq)
    have Hm : Hid (minH x s = 0) := hide (minH_no hq)
    rw [Hat.out]
    clear hq
    go_wp2_with fail
    go_ret
    exact ⟨ret_int (by rw [Hm.out]; rfl), Hw.out _ hB1⟩
  | some ix =>
    have hix := symIdx_lt hq
    have Hat : Hid (atI x s = (ix : Int)) := hide (atI_hit hq)
    have Hq := hide hq
    rw [Hat.out]
    clear hq
    have hi0 : (0 : Int) ≤ (ix : Int) := by omega
    have hi1 : (ix : Int) < (x.symbols.length : Int) := by omega
    go_wp2_with fail
    refine Calls.mono (s_l12Heights D x _ F _ (HG.out _ (Hw.out _ hB1)) Hbk.out) ?_
    rintro en W2 ⟨A, c, rfl, hrd, hb2⟩
    have hB2 : Below (w.heap.size + 1) W0 W2 := below_step hB1 hn0 hb2
    obtain ⟨bh, offh, v, rfl, hbh, hv, hcv⟩ := hrd.get (k := ix) (by omega)
    have Hm : Hid (minH x s = v) := hide (by unfold minH; exact hOf_hit Hq.out hv)
    clear hrd hv hb2
    go_wp2_with fail
    go_ret
    exact ⟨ret_int (by rw [Hm.out]), Hw.out _ hB2⟩
set_option maxRecDepth 100000 in
theorem s_IsProductive (D : Nat) (x : Grm) (cs : List Value) (F : List Nat) (w : World) (h : GrmR D w x cs F) (s : ByteArray) (hbk : x.symbols.length ≤ 1048576) :
    Calls Try.prog 27 #[.agg cs.toArray, .string s] w fun en w' => en = .returned (.bool (decide (0 < minH x s))) ∧ Below w.heap.size w w' := by
  obtain ⟨p0, p1, rfl⟩ := list2 ((GrmR.good D).len h)
  have HFe := hide ((GrmR.good D).lt h)
  have HG : Hid (∀ W : World, Below w.heap.size w W → GrmR D W x [p0, p1] F) := hide fun W hW => (GrmR.good D).below h hW HFe.out
  obtain ⟨C0, hz0, hw0⟩ := boxes1 w [p0, p1] 52
  have Hbk := hide hbk
  show Calls _ _ #[.agg #[p0, p1], .string s] w _
  clear h
  go_enter Try.func27, Try.ntmps27
  go_wp2_with fail
  generalize w.alloc (Obj.cells #[p0, p1] 52) = W0 at C0 hz0 hw0 ⊢
  have hn0 : w.heap.size + 1 ≤ W0.heap.size := by omega
  have Hw : Hid (∀ W : World, Below (w.heap.size + 1) W0 W → Below w.heap.size w W) := hide fun W h => hw0.trans (h.mono (by omega))
  have hB0 : Below (w.heap.size + 1) W0 W0 := Below.refl _ _
  have e0 := cell_rule C0 (n := w.heap.size + 1) (by omega) 0 rfl
  have e1 := cell_rule C0 (n := w.heap.size + 1) (by omega) 1 rfl
  clear C0 hz0 hw0
  go_wp2_with fail
  refine Calls.mono (s_MinHeight D x _ F _ (HG.out _ (Hw.out _ hB0)) s Hbk.out) ?_
  rintro en W1 ⟨rfl, hb1⟩
  have hB1 : Below (w.heap.size + 1) W0 W1 := below_step hB0 hn0 hb1
  clear hb1
  go_wp2_with fail
  go_ret
  exact ⟨ret_bool (by simp), Hw.out _ hB1⟩
end Go.Proofs.Ytfbcipfionhhaaa
