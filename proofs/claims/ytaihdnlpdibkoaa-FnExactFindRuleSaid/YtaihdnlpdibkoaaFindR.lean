/- Rules sought in a grammar and copied: both sides. Conditions: the grammar has at most the size 2^20. -/
import Derived.Test.YtaihdnlpdibkoaaFind
import Derived.Test.YtaihdnlpdibkoaaCopyI
namespace Go.Proofs.Ytaihdnlpdibkoaa
set_option maxRecDepth 100000
open Go.RowKit Go.WideShapes
set_option linter.unusedVariables false
set_option maxRecDepth 100000 in
set_option maxHeartbeats 2000000 in
theorem i_FindRule (D : Nat) (x : Grm) (cs : List Value) (F : List Nat) (w : World) (h : GrmR D w x cs F) (s : ByteArray) (hbk : bulkGrm D x ≤ 1048576) :
    Calls Try.prog 9 #[.agg cs.toArray, .string s] w fun en w' => ∃ us F', en = .returned (.tuple #[.agg (List.toArray us), .bool (findR x.rules s).isSome]) ∧ RulR D w' ((findR x.rules s).getD Rul.zero) us F' ∧ Fresh w.heap.size w' F' ∧ Below w.heap.size w w' := by
  have HLF := hide ((GrmR.good D).lt h)
  obtain ⟨p0, p1, rfl⟩ := list2 ((GrmR.good D).len h)
  have H1g := hide (GrmR.one h)
  have Hbk := hide (findR_bulk hbk s)
  have Hh : Hid (∀ W : World, Below w.heap.size w W → GrmR D W x [p0, p1] F) := hide fun W hW => (GrmR.good D).below h hW HLF.out
  have hi : (Try.prog.info? 31).map (·.size) = some 6 := by kernel_rfl
  have hig : (Try.prog.info? 37).map (·.size) = some 2 := by kernel_rfl
  have Hi := hide hi
  have Hig := hide hig
  obtain ⟨C0, hR0, hz0, hw0⟩ := boxR w [p0, p1] [.string ⟨#[]⟩, .string ⟨#[]⟩, .slice none 0 0, .bool false, .slice none 0 0, .slice none 0 0] 37 31
  show Calls _ _ #[.agg #[p0, p1], .string s] w _
  clear h hi hig hbk
  go_enter Try.func9, Try.ntmps9
  go_wp2_with fail
  generalize (w.alloc (Obj.cells #[p0, p1] 37)).alloc (Obj.cells #[.string ⟨#[]⟩, .string ⟨#[]⟩, .slice none 0 0, .bool false, .slice none 0 0, .slice none 0 0] 31) = W0 at C0 hR0 hz0 hw0 ⊢
  have hn0 : w.heap.size + 2 ≤ W0.heap.size := by omega
  have HC0 := hide C0
  have Hng : Hid ([p0, p1].length = 2) := hide rfl
  have HR0 := hide hR0
  have Hw0 := hide hw0
  clear C0 hz0 hw0 hR0
  go_wp2_with (refine wpList_load_at 37 (.tmp 2) rfl Try.underlying37 rfl Hig.out rfl rfl Hng.out HC0.out ?_)
  refine Calls.mono (i_findRule D x _ F W0 (Hh.out W0 Hw0.out) s) ?_
  rintro en w2 ⟨us, F2, rfl, hR2, _, hb2⟩
  generalize hX : (findR x.rules s).getD Rul.zero = X at hR2 Hbk
  generalize hfb : (findR x.rules s).isSome = fb
  have HX := hide hX
  have HFb := hide hfb
  clear hX hfb
  have H12 := hide (RulR.one hR2)
  obtain ⟨u0, u1, u2, u3, u4, u5, rfl⟩ := list_6 ((RulR.good D).len hR2)
  have HF2 := hide ((RulR.good D).lt hR2)
  have HR2 := hide hR2
  have Hb2 : Hid (Below (w.heap.size + 2) W0 w2) := hide (hb2.mono hn0)
  have Hn2 : Hid (([u0, u1, u2, u3, u4, u5] : List Value).length = 6) := hide rfl
  have hz2 : w.heap.size + 2 ≤ w2.heap.size := Nat.le_trans hn0 hb2.size
  clear hR2 hb2
  go_wp2_with (refine wpList_store_new 31 (.tmp 6) (.tmp 12) rfl Hi.out rfl rfl rfl rfl Hn2.out H12.out rfl ?_; refine hold ?_)
  have C := CellsAt.new w2 [u0, u1, u2, u3, u4, u5] 31
  have hwv : Below w2.heap.size w2 (w2.alloc (Obj.cells #[u0, u1, u2, u3, u4, u5] 31)) := (Below.refl _ _).alloc (Nat.le_refl _) _
  generalize w2.alloc (Obj.cells #[u0, u1, u2, u3, u4, u5] 31) = V1 at C hwv ⊢
  have HRV : Hid (RulR D V1 X [u0, u1, u2, u3, u4, u5] F2) := hide ((RulR.good D).below HR2.out hwv HF2.out)
  have HC := hide C
  have Hwv := hide hwv
  clear C hwv
  refine Hold.go ?_
  go_wp2_with (refine wpList_load_at 31 (.tmp 6) rfl Try.underlying31 rfl Hi.out rfl rfl Hn2.out HC.out ?_)
  refine Calls.mono (i_copyRule D X _ F2 V1 HRV.out Hbk.out) ?_
  rintro en w3 ⟨vs, F3, rfl, hR3, hf3, hb3⟩
  have H13 := hide (RulR.one hR3)
  obtain ⟨v0, v1, v2, v3, v4, v5, rfl⟩ := list_6 ((RulR.good D).len hR3)
  have hw3 : Below (w.heap.size + 2) W0 w3 := (Hb2.out.trans (Hwv.out.mono hz2)).trans (hb3.mono (Nat.le_trans hz2 Hwv.out.size))
  have HZ := hide (blk_below HR0.out hw3 (by omega))
  have Hn3 : Hid (([v0, v1, v2, v3, v4, v5] : List Value).length = 6) := hide rfl
  have hzV : w.heap.size + 2 ≤ V1.heap.size := Nat.le_trans hz2 Hwv.out.size
  have HR3 := hide hR3
  have Hf3 := hide hf3
  have Hw3 := hide hw3
  clear hR3 hf3 hb3 hw3
  go_wp2_with (refine wpList_store_at 31 (.tmp 4) (.tmp 15) rfl Hi.out rfl rfl rfl Hn3.out H13.out HZ.out (by decide) ?_; intro WF hQ; have HQ := hide hQ; clear hQ)
  have hfar : ∀ k ∈ F3, WF.heap[k]? = w3.heap[k]? := fun k hk => HQ.out.far k (by have := Hf3.out.from_ k hk; omega)
  have hW : Below w.heap.size w WF := (Hw0.out.trans (Hw3.out.mono (by omega))).trans (HQ.out.below (by omega))
  have hC := HQ.out.cellsAt
  have x0 := hC 0 _ rfl; have x1 := hC 1 _ rfl; have x2 := hC 2 _ rfl; have x3 := hC 3 _ rfl; have x4 := hC 4 _ rfl; have x5 := hC 5 _ rfl
  simp only [Nat.zero_add, Nat.add_zero] at x0 x1 x2 x3 x4 x5
  exact bodyPost_ret (v := .tuple #[.agg #[v0, v1, v2, v3, v4, v5], .bool fb]) (by simp [results, Try.results9, go_sem, x0, x1, x2, x3, x4, x5]) rfl
    ⟨[v0, v1, v2, v3, v4, v5], F3, by rw [HFb.out], by rw [HX.out]; exact (RulR.good D).frame HR3.out hfar (by rw [HQ.out.size]; exact Nat.le_refl _), (Hf3.out.keep hfar).mono (by omega), hW⟩
set_option maxRecDepth 100000 in
set_option maxHeartbeats 2000000 in
theorem s_FindRule (D : Nat) (x : Grm) (cs : List Value) (F : List Nat) (w : World) (h : GrmR D w x cs F) (s : ByteArray) (hbk : bulkGrm D x ≤ 1048576) :
    Calls Try.prog 7 #[.agg cs.toArray, .string s] w fun en w' => ∃ us F', en = .returned (.tuple #[.agg (List.toArray us), .bool (findR x.rules s).isSome]) ∧ RulR D w' ((findR x.rules s).getD Rul.zero) us F' ∧ Fresh w.heap.size w' F' ∧ Below w.heap.size w w' := by
  obtain ⟨p0, p1, rfl⟩ := list2 ((GrmR.good D).len h)
  obtain ⟨v0, F0, v1, F1, _, ⟨h0, g0⟩, ⟨h1, g1⟩, rfl⟩ := h
  obtain rfl := Option.some.inj h0
  obtain rfl := Option.some.inj h1
  obtain ⟨A0, k0, rfl, hc0, hm0⟩ := g0.form
  obtain ⟨A1, k1, rfl, hc1, hm1⟩ := g1.form
  unfold maxLen at hm0 hm1
  have L := hide (g1.lt (RulR.good D))
  have Hs := hide g1
  have Hbk := hide hbk
  have hll : x.rules.length ≤ 9223372036854775807 := by omega
  have hi : (Try.prog.info? 31).map (·.size) = some 6 := by kernel_rfl
  have Hi := hide hi
  obtain ⟨C0, hR0, hz0, hw0⟩ := boxR w [.slice A0 x.symbols.length k0, .slice A1 x.rules.length k1] [.string ⟨#[]⟩, .string ⟨#[]⟩, .slice none 0 0, .bool false, .slice none 0 0, .slice none 0 0] 37 31
  show Calls _ _ #[.agg #[.slice A0 x.symbols.length k0, .slice A1 x.rules.length k1], .string s] w _
  clear g0 g1 h0 h1 hc0 hc1 hm0 hm1 hi hbk
  go_enter Try.func7, Try.ntmps7
  go_wp2_with fail
  generalize (w.alloc (Obj.cells #[.slice A0 x.symbols.length k0, .slice A1 x.rules.length k1] 37)).alloc (Obj.cells #[.string ⟨#[]⟩, .string ⟨#[]⟩, .slice none 0 0, .bool false, .slice none 0 0, .slice none 0 0] 31) = W0 at C0 hR0 hz0 hw0 ⊢
  have hn0 : w.heap.size + 2 ≤ W0.heap.size := by omega
  have Hw : Hid (∀ W : World, Below (w.heap.size + 2) W0 W → Below w.heap.size w W) := hide fun W h => hw0.trans (h.mono (by omega))
  have hB0 : Below (w.heap.size + 2) W0 W0 := Below.refl _ _
  have e0 := cell_rule C0 (n := w.heap.size + 2) (by omega) 0 rfl
  have e1 := cell_rule C0 (n := w.heap.size + 2) (by omega) 1 rfl
  have HR0 : Hid (∀ W : World, Below (w.heap.size + 2) W0 W → W.heap[w.heap.size + 1]? = some (.cells #[.string ⟨#[]⟩, .string ⟨#[]⟩, .slice none 0 0, .bool false, .slice none 0 0, .slice none 0 0] 31 (0, 0))) := hide fun W h => blk_below hR0 h (by omega)
  clear C0 hz0 hw0 hR0
  go_wp2_with fail
  go_loopw [6] (fun i wr => ∃ j : Nat, j ≤ x.rules.length ∧ i = .int .i64 j ∧ Hid (∀ (k : Nat) (y : Rul), k < j → x.rules[k]? = some y → (y.name.toList == s.toList) = false) ∧ Hid (Below (w.heap.size + 2) W0 wr)) (fun i _ => x.rules.length - (intOf i).toNat)
  case atStart => exact ⟨0, by omega, rfl, hide (fun k y hk => absurd hk (by omega)), hide hB0⟩
  case round =>
    obtain ⟨j, hj, rfl, Hno, Hb⟩ := hrel
    have hBr := Hb.out
    by_cases hlt : j < x.rules.length
    · have hX : x.rules[j]? = some x.rules[j] := List.getElem?_eq_getElem hlt
      generalize x.rules[j] = X at hX
      obtain ⟨b, off, cs, Fk, hA, _, hbF, hFk, hcl, hcat, hR⟩ := SlR.get (RulR.good D) Hs.out hX
      subst hA
      have hRk := hR
      obtain ⟨c0, c1, c2, c3, c4, c5, rfl⟩ := list_6 hcl
      have hc0 : c0 = .string X.name := Option.some.inj (by simpa using RulR.name hR)
      subst hc0
      have HX := hide hX
      have Hbx := hide (bulk_rules Hbk.out X (List.mem_of_getElem? hX))
      have HlF : Hid (∀ k ∈ Fk, k < w.heap.size) := hide fun k hk => L.out k (hFk k hk)
      have HR : Hid (RulR D wr X [.string X.name, c1, c2, c3, c4, c5] Fk) := hide ((RulR.good D).below hRk (Hw.out wr hBr) HlF.out)
      have hlb : b < w.heap.size := L.out b hbF
      have hcw := hcat.below (Hw.out wr hBr) hlb
      have p0 : wr.cell? ⟨b, off + j * 6, none⟩ = some (.string X.name) := hcw 0 _ rfl
      have Hc := hide hcw
      have Hn : Hid ([.string X.name, c1, c2, c3, c4, c5].length = 6) := hide rfl
      have hj0 : (0 : Int) ≤ (j : Int) := by omega
      have hj1 : (j : Int) < (x.rules.length : Int) := by omega
      clear hX hcat hFk hbF hcl hR hRk hcw
      cases hq : (X.name.toList == s.toList)
      · have Hq := hide hq
        go_wp2_with fail
        go_roundw
        case rel =>
          refine ⟨j + 1, by omega, by go_num, hide fun k z hk hz => ?_, Hb⟩
          by_cases hkj : k < j
          · exact Hno.out k z hkj hz
          · obtain rfl : k = j := by omega
            have := HX.out
            rw [hz] at this
            obtain rfl := Option.some.inj this
            exact Hq.out
        case measure => simp [intOf]; omega
      · have Hf : Hid (findR x.rules s = some X) := hide (find_hit Hno.out HX.out hq)
        go_wp2_with (refine wpList_load_at 31 (.tmp 25) rfl Try.underlying31 rfl Hi.out rfl rfl Hn.out Hc.out ?_)
        refine Calls.mono (s_l9Copy D X _ Fk wr HR.out Hbx.out) ?_
        rintro en w2 ⟨us, F2, rfl, hR2, hf2, hb2⟩
        have H12 := hide (RulR.one hR2)
        obtain ⟨u0, u1, u2, u3, u4, u5, rfl⟩ := list_6 ((RulR.good D).len hR2)
        have HR2 := hide hR2
        have Hf2 := hide hf2
        have Hb2 : Hid (Below (w.heap.size + 2) W0 w2) := hide (hBr.trans (hb2.mono (Nat.le_trans hn0 hBr.size)))
        have Hz2 := hide (Nat.le_trans hn0 hBr.size)
        have HZ := hide (HR0.out w2 Hb2.out)
        have Hn2 : Hid ([u0, u1, u2, u3, u4, u5].length = 6) := hide rfl
        clear hR2 hf2 hb2
        go_wp2_with (refine wpList_store_at 31 (.tmp 4) (.tmp 27) rfl Hi.out rfl rfl rfl Hn2.out H12.out HZ.out (by decide) ?_; intro WF hP; have HP := hide hP; clear hP)
        have hfar : ∀ k ∈ F2, WF.heap[k]? = w2.heap[k]? := fun k hk => HP.out.far k (by have := Hf2.out.from_ k hk; have := Hz2.out; omega)
        have hW : Below w.heap.size w WF := (Hw.out w2 Hb2.out).trans (HP.out.below (by omega))
        have hC := HP.out.cellsAt
        have x0 := hC 0 _ rfl; have x1 := hC 1 _ rfl; have x2 := hC 2 _ rfl; have x3 := hC 3 _ rfl; have x4 := hC 4 _ rfl; have x5 := hC 5 _ rfl
        simp only [Nat.zero_add, Nat.add_zero] at x0 x1 x2 x3 x4 x5
        exact bodyPost_ret (v := .tuple #[.agg #[u0, u1, u2, u3, u4, u5], .bool true]) (by simp [results, Try.results7, go_sem, x0, x1, x2, x3, x4, x5]) rfl
          ⟨[u0, u1, u2, u3, u4, u5], F2, by rw [Hf.out]; rfl, by rw [Hf.out]; exact (RulR.good D).frame HR2.out hfar (by rw [HP.out.size]; exact Nat.le_refl _), (Hf2.out.keep hfar).mono (by have := Hz2.out; omega), hW⟩
    · have Hf : Hid (findR x.rules s = none) := hide (find_no fun k y hy => Hno.out k y (by have := (List.getElem?_eq_some_iff.1 hy).1; omega) hy)
      have HZ := hide (HR0.out wr hBr)
      have H1z : Hid (∀ v ∈ ([.string ⟨#[]⟩, .string ⟨#[]⟩, .slice none 0 0, .bool false, .slice none 0 0, .slice none 0 0] : List Value), v.oneCell' = true) := hide (RulR.one (RulR.zero D w))
      go_wp2_with (refine wpList_store_at 31 (.tmp 4) (.tmp 28) rfl Hi.out rfl rfl rfl rfl H1z.out HZ.out (by decide) ?_; intro WF hP; have HP := hide hP; clear hP)
      have hW : Below w.heap.size w WF := (Hw.out wr hBr).trans (HP.out.below (by omega))
      have hC := HP.out.cellsAt
      have x0 := hC 0 _ rfl; have x1 := hC 1 _ rfl; have x2 := hC 2 _ rfl; have x3 := hC 3 _ rfl; have x4 := hC 4 _ rfl; have x5 := hC 5 _ rfl
      simp only [Nat.zero_add, Nat.add_zero] at x0 x1 x2 x3 x4 x5
      exact bodyPost_ret (v := .tuple #[.agg #[.string ⟨#[]⟩, .string ⟨#[]⟩, .slice none 0 0, .bool false, .slice none 0 0, .slice none 0 0], .bool false]) (by simp [results, Try.results7, go_sem, x0, x1, x2, x3, x4, x5]) rfl
        ⟨[.string ⟨#[]⟩, .string ⟨#[]⟩, .slice none 0 0, .bool false, .slice none 0 0, .slice none 0 0], [], by rw [Hf.out]; rfl, by rw [Hf.out]; exact RulR.zero D _, Fresh.nil _ _, hW⟩
end Go.Proofs.Ytaihdnlpdibkoaa
