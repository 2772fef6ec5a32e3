/- A symbol's least height, and whether it has one: the program's. Conditions: the grammar has at most the size 2^20. -/
import Derived.Test.YtfbcipfionhhaaaHgtJ
namespace Go.Proofs.Ytfbcipfionhhaaa
set_option maxRecDepth 100000
open Go.RowKit Go.WideShapes
set_option linter.unusedVariables false

set_option maxRecDepth 100000 in
set_option maxHeartbeats 2000000 in
theorem i_MinHeight (D : Nat) (x : Grm) (cs : List Value) (F : List Nat) (w : World) (h : GrmR D w x cs F) (s : ByteArray) (hbk : x.symbols.length ≤ 1048576) :
    Calls Try.prog 26 #[.agg cs.toArray, .string s] w fun en w' => en = .returned (.int .i64 (minH x s : Int)) ∧ Below w.heap.size w w' := by
  obtain ⟨p0, p1, rfl⟩ := list2 ((GrmR.good D).len h)
  have HFe := hide ((GrmR.good D).lt h)
  have HG : Hid (∀ W : World, Below w.heap.size w W → GrmR D W x [p0, p1] F) := hide fun W hW => (GrmR.good D).below h hW HFe.out
  obtain ⟨v0, F0, v1, F1, _, ⟨h0, g0⟩, ⟨h1, g1⟩, rfl⟩ := h
  obtain rfl := Option.some.inj h0
  obtain rfl := Option.some.inj h1
  obtain ⟨A0, k0, rfl, hc0, hm0⟩ := g0.form
  unfold maxLen at hm0
  have L := hide (g0.lt (SymR.good D))
  have Hs := hide g0
  have hll : x.symbols.length ≤ 9223372036854775807 := by omega
  have hi : (Try.prog.info? 94).map (·.size) = some 2 := by kernel_rfl
  have Hi := hide hi
  have Hbk := hide hbk
  obtain ⟨C0, hz0, hw0⟩ := boxes1 w [.slice A0 x.symbols.length k0, p1] 52
  show Calls _ _ #[.agg #[.slice A0 x.symbols.length k0, p1], .string s] w _
  clear g0 g1 h0 h1 hc0 hm0 hi
  go_enter Try.func26, Try.ntmps26
  go_wp2_with fail
  generalize w.alloc (Obj.cells #[.slice A0 x.symbols.length k0, p1] 52) = W0 at C0 hz0 hw0 ⊢
  have hn0 : w.heap.size + 1 ≤ W0.heap.size := by omega
  have Hw : Hid (∀ W : World, Below (w.heap.size + 1) W0 W → Below w.heap.size w W) := hide fun W h => hw0.trans (h.mono (by omega))
  have hB0 : Below (w.heap.size + 1) W0 W0 := Below.refl _ _
  have e0 := cell_rule C0 (n := w.heap.size + 1) (by omega) 0 rfl
  have e1 := cell_rule C0 (n := w.heap.size + 1) (by omega) 1 rfl
  clear C0 hz0 hw0
  go_wp2_with fail
  go_loopw [10] (fun i wr => ∃ j : Nat, j ≤ x.symbols.length ∧ i = .int .i64 j ∧ Hid (∀ (k : Nat) (y : Sym), k < j → x.symbols[k]? = some y → (y.name.toList == s.toList) = false) ∧ Hid (Below (w.heap.size + 1) W0 wr)) (fun i _ => x.symbols.length - (intOf i).toNat)
  case atStart => exact ⟨0, by omega, rfl, hide (fun k y hk => absurd hk (by omega)), hide hB0⟩
  case round =>
    obtain ⟨j, hj, rfl, Hno, Hb⟩ := hrel
    have hBr := Hb.out
    by_cases hlt : j < x.symbols.length
    · have hX : x.symbols[j]? = some x.symbols[j] := List.getElem?_eq_getElem hlt
      generalize x.symbols[j] = X at hX
      obtain ⟨b, off, cs, Fk, hA, _, hbF, hFk, hcl, hcat, hR⟩ := SlR.get (SymR.good D) Hs.out hX
      subst hA
      have H1 := hide (SymR.one hR)
      obtain ⟨c0, c1, rfl⟩ := list2 hcl
      have hc0 : c0 = .string X.name := Option.some.inj (by simpa using h_symName hR)
      subst hc0
      have HX := hide hX
      have Hc : Hid (CellsAt wr b (off + j * 2) [.string X.name, c1]) := hide (hcat.below (Hw.out wr hBr) (L.out b hbF))
      have Hn : Hid ([.string X.name, c1].length = 2) := hide rfl
      have hj0 : (0 : Int) ≤ (j : Int) := by omega
      have hj1 : (j : Int) < (x.symbols.length : Int) := by omega
      clear hX hcat hFk hbF hcl hR
      go_wp2_with (first
        | refine wpList_load_at 94 (.tmp 13) rfl Try.underlying94 rfl Hi.out rfl rfl Hn.out Hc.out ?_
        | (refine wpList_store_new 94 (.tmp 6) (.tmp 14) rfl Hi.out rfl rfl rfl rfl Hn.out H1.out rfl ?_; refine hold ?_))
      have C := CellsAt.new wr [.string X.name, c1] 94
      have hz := World.size_alloc wr (Obj.cells #[.string X.name, c1] 94)
      have hwv : Below (w.heap.size + 1) W0 (wr.alloc (Obj.cells #[.string X.name, c1] 94)) := hBr.alloc (Nat.le_trans hn0 hBr.size) _
      generalize wr.alloc (Obj.cells #[.string X.name, c1] 94) = V1 at C hz hwv ⊢
      have ex := cell_rule C (n := wr.heap.size + 1) (by omega) 0 rfl
      have hVV : Below (wr.heap.size + 1) V1 V1 := Below.refl _ _
      clear C hz
      refine Hold.go ?_
      cases hq : (X.name.toList == s.toList)
      · have Hq := hide hq
        go_wp2_with fail
        go_roundw
        case rel =>
          refine ⟨j + 1, by omega, by go_num, hide fun k z hk hz => ?_, hide hwv⟩
          by_cases hkj : k < j
          · exact Hno.out k z hkj hz
          · obtain rfl : k = j := by omega
            have := HX.out
            rw [hz] at this
            obtain rfl := Option.some.inj this
            exact Hq.out
        case measure => simp [intOf]; omega
      · have Hsi := hide (symIdx_hit Hno.out HX.out hq)
        go_wp2_with fail
        refine Calls.mono (i_heights D x _ _ _ (HG.out _ (Hw.out _ hwv)) Hbk.out) ?_
        rintro en W2 ⟨A, c, rfl, hrd, hb2⟩
        have hB2 : Below (w.heap.size + 1) W0 W2 := below_step hwv hn0 hb2
        obtain ⟨bh, offh, v, rfl, hbh, hv, hcv⟩ := hrd.get hlt
        have Hm : Hid (minH x s = v) := hide (by unfold minH; exact hOf_hit Hsi.out hv)
        clear hrd hv hb2
        go_wp2_with fail
        go_ret
        exact ⟨ret_int (by rw [Hm.out]), Hw.out _ hB2⟩
    · have Hm : Hid (minH x s = 0) := hide (minH_no (symIdx_no fun k y hy => Hno.out k y (by have := (List.getElem?_eq_some_iff.1 hy).1; omega) hy))
      go_wp2_with fail
      go_ret
      exact ⟨ret_int (by rw [Hm.out]; rfl), Hw.out _ hBr⟩
set_option maxRecDepth 100000 in
theorem i_IsProductive (D : Nat) (x : Grm) (cs : List Value) (F : List Nat) (w : World) (h : GrmR D w x cs F) (s : ByteArray) (hbk : x.symbols.length ≤ 1048576) :
    Calls Try.prog 28 #[.agg cs.toArray, .string s] w fun en w' => en = .returned (.bool (decide (0 < minH x s))) ∧ Below w.heap.size w w' := by
  obtain ⟨p0, p1, rfl⟩ := list2 ((GrmR.good D).len h)
  have HFe := hide ((GrmR.good D).lt h)
  have HG : Hid (∀ W : World, Below w.heap.size w W → GrmR D W x [p0, p1] F) := hide fun W hW => (GrmR.good D).below h hW HFe.out
  obtain ⟨C0, hz0, hw0⟩ := boxes1 w [p0, p1] 52
  have Hbk := hide hbk
  show Calls _ _ #[.agg #[p0, p1], .string s] w _
  clear h
  go_enter Try.func28, Try.ntmps28
  go_wp2_with fail
  generalize w.alloc (Obj.cells #[p0, p1] 52) = W0 at C0 hz0 hw0 ⊢
  have hn0 : w.heap.size + 1 ≤ W0.heap.size := by omega
  have Hw : Hid (∀ W : World, Below (w.heap.size + 1) W0 W → Below w.heap.size w W) := hide fun W h => hw0.trans (h.mono (by omega))
  have hB0 : Below (w.heap.size + 1) W0 W0 := Below.refl _ _
  have e0 := cell_rule C0 (n := w.heap.size + 1) (by omega) 0 rfl
  have e1 := cell_rule C0 (n := w.heap.size + 1) (by omega) 1 rfl
  clear C0 hz0 hw0
  go_wp2_with fail
  refine Calls.mono (i_MinHeight D x _ F _ (HG.out _ (Hw.out _ hB0)) s Hbk.out) ?_
  rintro en W1 ⟨rfl, hb1⟩
  have hB1 : Below (w.heap.size + 1) W0 W1 := below_step hB0 hn0 hb1
  clear hb1
  go_wp2_with fail
  go_ret
  exact ⟨ret_bool (by simp), Hw.out _ hB1⟩
theorem nsymsH {D : Nat} {x : Grm} (h : bulkGrm D x ≤ 1048576) : x.symbols.length ≤ 1048576 := by
  have := sumBy_nonneg (bulkRul_nonneg D) x.rules
  have := sumBy_nonneg (bulkSym_nonneg D) x.symbols
  unfold bulkGrm at h
  omega
end Go.Proofs.Ytfbcipfionhhaaa
