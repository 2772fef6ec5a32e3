/- Valid symbols: the program. Conditions: a symbol has at most 2^20 attributes. -/
import Derived.Test.YtilndebjnibgjaaDoorSymValS
import Derived.Test.YtilndebjnibgjaaDoorSymValC
namespace Go.Proofs.YtilndebjnibgjaaDoor
set_option maxRecDepth 100000
open Go.RowKit Go.WideShapes
set_option linter.unusedVariables false

theorem sym_short {D : Nat} {x : Sym} (h : bulkSym D x ≤ 1048576) : x.attrs.length ≤ 1048576 := by
  have := sumBy_nonneg (bulkAtr_nonneg D) x.attrs
  unfold bulkSym at h
  omega
theorem has_any (l : List Atr) (j : Nat) (an : ByteArray) : (l.take j).any (fun a => a.name.toList == an.toList) = hasS ((l.map (·.name)).take j) an := by
  unfold hasS
  rw [← List.map_take, List.any_map]
  rfl
/-- Valid, and no earlier one of the same name. -/
def okA (l : List Atr) (j : Nat) : Bool := match l[j]? with | some y => vA y && !(l.take j).any (fun a => a.name.toList == y.name.toList) | none => true
theorem okA_at {l : List Atr} {j : Nat} {y : Atr} (h : l[j]? = some y) : okA l j = (vA y && !(l.take j).any (fun a => a.name.toList == y.name.toList)) := by unfold okA; rw [h]
theorem okA_all (x : Sym) : (List.range x.attrs.length).all (okA x.attrs) = (x.attrs.all vA && distS (nms x)) := by
  rw [Bool.eq_iff_iff]
  simp only [List.all_eq_true, List.mem_range, Bool.and_eq_true, distS, nms_len]
  constructor
  · intro h
    refine ⟨fun y hy => ?_, fun j hj => ?_⟩
    · obtain ⟨j, hj⟩ := List.getElem?_of_mem hy
      have := h j (List.getElem?_eq_some_iff.1 hj).1
      rw [okA_at hj] at this
      simp at this
      exact this.1
    · have hx : x.attrs[j]? = some x.attrs[j] := List.getElem?_eq_getElem hj
      have := h j hj
      rw [okA_at hx, has_any] at this
      rw [disB_at (x := x.attrs[j].name) (by simp [nms, hx])]
      simp at this
      simpa [nms] using this.2
  · rintro ⟨h1, h2⟩ j hj
    have hx : x.attrs[j]? = some x.attrs[j] := List.getElem?_eq_getElem hj
    have h3 := h2 j hj
    rw [disB_at (x := x.attrs[j].name) (by simp [nms, hx])] at h3
    rw [okA_at hx, has_any, h1 _ (List.mem_of_getElem? hx)]
    simpa [nms] using h3
theorem all_range_bad {f : Nat → Bool} {n j : Nat} (hj : j < n) (h : f j = false) : (List.range n).all f = false := by
  rw [List.all_eq_false]
  exact ⟨j, by simp; exact hj, by simp [h]⟩
theorem all_range_next {f : Nat → Bool} {j : Nat} (h : (List.range j).all f = true) (hj : f j = true) : (List.range (j + 1)).all f = true := by
  rw [List.range_succ, List.all_append, h]
  simp [hj]
theorem validY_eq (x : Sym) : validY x = ((List.range x.attrs.length).all (okA x.attrs) && (validN x.name && decide (x.attrs.length ≤ 4))) := by
  rw [okA_all]
  unfold validY
  cases x.attrs.all vA <;> cases validN x.name <;> cases decide (x.attrs.length ≤ 4) <;> cases distS (nms x) <;> rfl
set_option maxRecDepth 100000 in
set_option maxHeartbeats 2000000 in
theorem i_IsValidSymbol (D : Nat) (x : Sym) (cs : List Value) (F : List Nat) (w : World) (h : SymR D w x cs F) (hn : x.attrs.length ≤ 1048576) :
    Calls Tryd.prog 14 #[.agg cs.toArray] w fun en w' => en = .returned (.bool (validY x)) ∧ Below w.heap.size w w' := by
  obtain ⟨c0, c1, rfl⟩ := list2 ((SymR.good D).len h)
  obtain ⟨v1, F1, _, hk, h0, ⟨h1, g1⟩, rfl⟩ := h
  obtain rfl := Option.some.inj h0
  obtain rfl := Option.some.inj h1
  obtain ⟨A, cap, rfl, hlc, hm⟩ := g1.form
  have Hname := hide hk.name
  have HF := hide (g1.lt (AtrR.good D))
  have Hs := hide g1
  have Hv := hide (validY_eq x)
  have hmm : x.attrs.length ≤ 9223372036854775807 := by omega
  have hcc : (x.attrs.length : Int) ≤ (cap : Int) := by omega
  clear hk g1 hlc hm
  obtain ⟨C, hz0, hw0⟩ := boxes1 w [.string x.name, .slice A x.attrs.length cap] 26
  go_enter Tryd.func14, Tryd.ntmps14
  go_wp2_with fail
  generalize w.alloc (Obj.cells #[.string x.name, .slice A x.attrs.length cap] 26) = W0 at C hz0 hw0 ⊢
  have hn0 : w.heap.size + 1 ≤ W0.heap.size := by omega
  have Hw : Hid (∀ W : World, Below (w.heap.size + 1) W0 W → Below w.heap.size w W) := hide fun W h => hw0.trans (h.mono (by omega))
  have e0 := cell_rule C (n := w.heap.size + 1) (by omega) 0 (v := .string x.name) rfl
  have e1 := cell_rule C (n := w.heap.size + 1) (by omega) 1 (v := .slice A x.attrs.length cap) rfl
  have hA0 : ∀ (W : World) (o : Obj), Below (w.heap.size + 1) W0 W → Below (w.heap.size + 1) W0 (W.alloc o) := fun _ o h => below_alloc hn0 o h
  clear C hz0 hw0
  go_loopw [8] (fun i wr => ∃ j : Nat, j ≤ x.attrs.length ∧ i = .int .i64 j ∧ Hid ((List.range j).all (okA x.attrs) = true) ∧ Hid (Below (w.heap.size + 1) W0 wr)) (fun i _ => x.attrs.length - (intOf i).toNat)
  case atStart => exact ⟨0, by omega, rfl, hide rfl, hide (Below.refl _ _)⟩
  case round =>
    obtain ⟨j, hj, rfl, Hall, Hb⟩ := hrel
    have hBr := Hb.out
    by_cases hlt : j < x.attrs.length
    · have hx : x.attrs[j]? = some x.attrs[j] := List.getElem?_eq_getElem hlt
      generalize x.attrs[j] = y at hx
      have Hx := hide hx
      obtain ⟨b, off, cs, Fk, hA, _, hbF, hFk, hcl, hcat, hR⟩ := SlR.get (AtrR.good D) (Hs.out.below (AtrR.good D) (Hw.out _ Hb.out) HF.out) hx
      subst hA
      obtain ⟨c0, c1, c2, c3, rfl⟩ := list4 hcl
      obtain ⟨_, hk, h0, h1, h2, h3, rfl⟩ := hR
      obtain rfl := Option.some.inj h0
      obtain rfl := Option.some.inj h1
      obtain rfl := Option.some.inj h2
      obtain rfl := Option.some.inj h3
      obtain ⟨g0, g1, g2, g3⟩ := hcat.four
      have hblt := Nat.lt_of_lt_of_le (HF.out b hbF) (Hw.out _ Hb.out).size
      have Hky := hide hk.name
      have hj0 : (0 : Int) ≤ (j : Int) := by omega
      have hj1 : (j : Int) < (x.attrs.length : Int) := by omega
      have hj2 : (j : Int) ≤ (cap : Int) := by omega
      have Cy := CellsAt.new wr [.string y.name, .int .i64 y.type, .int .i64 y.mode, .bool y.circ] 33
      have hbx : Below (w.heap.size + 1) W0 (wr.alloc (Obj.cells #[.string y.name, .int .i64 y.type, .int .i64 y.mode, .bool y.circ] 33)) := hA0 _ _ hBr
      have hzx := World.size_alloc wr (Obj.cells #[.string y.name, .int .i64 y.type, .int .i64 y.mode, .bool y.circ] 33)
      clear hx hcat hFk hbF hcl hk h0 h1 h2 h3
      have HCy := hide Cy
      have Hzx := hide hzx
      clear Cy hzx
      go_wp2_with fail
      generalize wr.alloc (Obj.cells #[.string y.name, .int .i64 y.type, .int .i64 y.mode, .bool y.circ] 33) = V1 at HCy Hzx hbx ⊢
      refine (i_IsValidAttribute y.name y.type y.mode y.circ Hky.out V1).mono ?_
      rintro e w2 ⟨rfl, hb2⟩
      have hB2 : Below (w.heap.size + 1) W0 w2 := below_step hbx hn0 hb2
      have HC2 : Hid (w2.cell? ⟨wr.heap.size, 0, none⟩ = some (.string y.name)) := hide ((hb2.cell (p := ⟨wr.heap.size, 0, none⟩) (by have := Hzx.out; simp only; omega)).trans (HCy.out 0 _ rfl))
      have Hs2 := hide (Hs.out.below (AtrR.good D) (Hw.out _ hB2) HF.out)
      clear hb2
      cases hq : validA y.name y.type y.mode y.circ
      · have Hbad := hide (all_range_bad (f := okA x.attrs) hlt (by rw [okA_at Hx.out, show vA y = false from hq]; rfl))
        clear hq
        go_wp2_with fail
        go_ret
        exact ⟨ret_bool (by rw [Hv.out, Hbad.out]; rfl), Hw.out _ hB2⟩
      · have Hq := hide hq
        clear hq
        have HCon := hide (con_name D x.attrs (some ⟨b, off, none⟩) cap j _ w2 Hs2.out hj wr.heap.size y.name HC2.out)
        cases hr : (x.attrs.take j).any (fun a => a.name.toList == y.name.toList)
        all_goals
          have Hr := hide hr
          clear hr
          go_wp2_with fail
          refine Calls.mono HCon.out ?_
          rintro en w3 ⟨rfl, hb3⟩
          have hB3 : Below (w.heap.size + 1) W0 w3 := below_step hB2 hn0 hb3
          clear hb3
          rw [Hr.out]
          go_wp2_with fail
        · have Hnx := hide (all_range_next (f := okA x.attrs) Hall.out (by rw [okA_at Hx.out, show vA y = true from Hq.out, Hr.out]; rfl))
          have HB3 := hide hB3
          clear hB3
          go_roundw
          case rel => exact ⟨j + 1, by omega, by go_num, Hnx, HB3⟩
          case measure => simp [intOf]; omega
        · have Hbad := hide (all_range_bad (f := okA x.attrs) hlt (by rw [okA_at Hx.out, Hr.out]; simp))
          go_ret
          exact ⟨ret_bool (by rw [Hv.out, Hbad.out]; rfl), Hw.out _ hB3⟩
    · have hjl : j = x.attrs.length := by omega
      have Hv2 : Hid (validY x = (validN x.name && decide (x.attrs.length ≤ 4))) := hide (by have := Hall.out; rw [hjl] at this; rw [Hv.out, this]; rfl)
      go_wp2_with fail
      refine (i_IsValidName x.name _ Hname.out).mono ?_
      rintro e w2 ⟨rfl, rfl⟩
      cases hq : validN x.name
      · go_wp2_with fail
        go_ret
        exact ⟨ret_bool (by rw [Hv2.out, hq]; rfl), Hw.out _ hBr⟩
      · have Hq := hide hq
        clear hq
        go_wp2_with fail
        go_ret
        exact ⟨ret_bool (by rw [Hv2.out, Hq.out, Bool.true_and]; first | done | rfl | (rw [Bool.eq_iff_iff]; simp only [decide_eq_true_eq]; omega)), Hw.out _ hBr⟩
end Go.Proofs.YtilndebjnibgjaaDoor
