/- Symbols sought in a grammar and copied: both sides. Conditions: the grammar has at most the size 2^20. -/
import Derived.Test.YthifibjkgiggfaaClone
import Derived.Test.YthifibjkgiggfaaCopyE
namespace Go.Proofs.Ythifibjkgiggfaa
set_option maxRecDepth 100000
open Go.RowKit Go.WideShapes
set_option linter.unusedVariables false
set_option maxRecDepth 100000 in
set_option maxHeartbeats 2000000 in
theorem i_FindSymbol (D : Nat) (x : Grm) (cs : List Value) (F : List Nat) (w : World) (h : GrmR D w x cs F) (s : ByteArray) (hbk : bulkGrm D x ≤ 1048576) :
    Calls Try.prog 46 #[.agg cs.toArray, .string s] w fun en w' => ∃ us F', en = .returned (.tuple #[.agg (List.toArray us), .bool (findS x.symbols s).isSome]) ∧ SymR D w' ((findS x.symbols s).getD Sym.zero) us F' ∧ Fresh w.heap.size w' F' ∧ Below w.heap.size w w' := by
  have HLF := hide ((GrmR.good D).lt h)
  obtain ⟨p0, p1, rfl⟩ := list2 ((GrmR.good D).len h)
  have H1g := hide (GrmR.one h)
  have Hln := hide (bulk_attrs (findS_bulk hbk s))
  have Hh : Hid (∀ W : World, Below w.heap.size w W → GrmR D W x [p0, p1] F) := hide fun W hW => (GrmR.good D).below h hW HLF.out
  have hi : (Try.prog.info? 79).map (·.size) = some 2 := by kernel_rfl
  have hig : (Try.prog.info? 69).map (·.size) = some 2 := by kernel_rfl
  have hi1 : (Try.prog.info? 77).map (·.size) = some 1 := by kernel_rfl
  have Hi := hide hi
  have Hig := hide hig
  have Hi1 := hide hi1
  obtain ⟨C0, hR0, hz0, hw0⟩ := boxR w [p0, p1] [.string ⟨#[]⟩, .slice none 0 0] 69 79
  show Calls _ _ #[.agg #[p0, p1], .string s] w _
  clear h hi hig hi1
  go_enter Try.func46, Try.ntmps46
  go_wp2_with fail
  generalize (w.alloc (Obj.cells #[p0, p1] 69)).alloc (Obj.cells #[.string ⟨#[]⟩, .slice none 0 0] 79) = W0 at C0 hR0 hz0 hw0 ⊢
  have hn0 : w.heap.size + 2 ≤ W0.heap.size := by omega
  have HC0 := hide C0
  have Hng : Hid ([p0, p1].length = 2) := hide rfl
  have HR0 := hide hR0
  have Hw0 := hide hw0
  clear C0 hz0 hw0 hR0
  go_wp2_with (refine wpList_load_at 69 (.tmp 2) rfl Try.underlying69 rfl Hig.out rfl rfl Hng.out HC0.out ?_)
  refine Calls.mono (i_findSymbol D x _ F W0 (Hh.out W0 Hw0.out) s) ?_
  rintro en w2 ⟨us, F2, rfl, hR2, _, hb2⟩
  generalize hX : (findS x.symbols s).getD Sym.zero = X at hR2 Hln
  generalize hfb : (findS x.symbols s).isSome = fb
  have HX := hide hX
  have HFb := hide hfb
  clear hX hfb
  have H12 := hide (SymR.one hR2)
  obtain ⟨u0, u1, rfl⟩ := list2 ((SymR.good D).len hR2)
  obtain ⟨v1, F1, _, hk, h0, ⟨h1, g1⟩, rfl⟩ := hR2
  obtain rfl := Option.some.inj h0
  obtain rfl := Option.some.inj h1
  obtain ⟨A, cap, rfl, _, _⟩ := g1.form
  have HF := hide (g1.lt (AtrR.good D))
  have Hk := hide hk
  have Hg := hide g1
  have Hb2 : Hid (Below (w.heap.size + 2) W0 w2) := hide (hb2.mono hn0)
  have Hn2 : Hid (([.string X.name, .slice A X.attrs.length cap] : List Value).length = 2) := hide rfl
  have hz2 : w.heap.size + 2 ≤ w2.heap.size := Nat.le_trans hn0 hb2.size
  clear hk g1 hb2 h0 h1
  go_wp2_with (refine wpList_store_new 79 (.tmp 6) (.tmp 12) rfl Hi.out rfl rfl rfl rfl Hn2.out H12.out rfl ?_; refine hold ?_)
  have C := CellsAt.new w2 [.string X.name, .slice A X.attrs.length cap] 79
  have hB1 := heap_alloc_new w2 (.cells #[.string X.name, .slice A X.attrs.length cap] 79)
  have hz := World.size_alloc w2 (Obj.cells #[.string X.name, .slice A X.attrs.length cap] 79)
  have hwv : Below w2.heap.size w2 (w2.alloc (Obj.cells #[.string X.name, .slice A X.attrs.length cap] 79)) := (Below.refl _ _).alloc (Nat.le_refl _) _
  generalize w2.alloc (Obj.cells #[.string X.name, .slice A X.attrs.length cap] 79) = V1 at C hz hwv hB1 ⊢
  have ex := cell_rule C (n := w2.heap.size + 1) (by omega) 1 rfl
  have hVV : Below (w2.heap.size + 1) V1 V1 := Below.refl _ _
  have Hg1 : Hid (SlR 4 (AtrR D) V1 X.attrs (.slice A X.attrs.length cap) F2) := hide (Hg.out.below (AtrR.good D) hwv HF.out)
  have HC := hide C
  have HB1 := hide hB1
  have Hwv := hide hwv
  have Hz := hide hz
  clear C hB1 hwv hz
  refine Hold.go ?_
  go_wp2_with fail
  refine Calls.mono (t_CloneA D X.attrs _ F2 V1 Hg1.out Hln.out) ?_
  rintro en w3 ⟨v3, G, rfl, hG, hGf, hb3⟩
  obtain ⟨A3, cap3, rfl, _, _⟩ := hG.form
  have HG := hide hG
  have HGf := hide hGf
  have Hb3 := hide hb3
  have H13 : Hid (∀ v ∈ ([.slice A3 X.attrs.length cap3] : List Value), v.oneCell' = true) := hide (by simp [Value.oneCell'])
  have HV3 : Hid (w3.heap[w2.heap.size]? = some (.cells #[.string X.name, .slice A X.attrs.length cap] 79 (0, 0))) := hide (blk_below HB1.out hb3 (by have := Hz.out; omega))
  clear hG hGf hb3
  go_wp2_with (refine wpList_store_any 77 (.tmp 17) (.tmp 16) rfl (cs := [.slice A3 X.attrs.length cap3]) rfl Hi1.out rfl rfl rfl rfl H13.out HV3.out (by simp) ?_; intro W1 hP; have HP := hide hP; clear hP; refine hold ?_)
  have HCx : Hid (CellsAt W1 w2.heap.size 0 [.string X.name, .slice A3 X.attrs.length cap3]) := hide fun q u hu => by
    have h6 := HP.out.cellsAt
    have h0 := HP.out.keeps HV3.out (o' := 0) (us := [.string X.name]) (fun q u hu => by
      rw [cell_of_row _ _ _ _ _ _ HV3.out]
      rcases q with _ | q
      · exact hu
      · simp at hu) (.inl (by simp))
    rcases q with _ | _ | q
    · exact h0 0 u hu
    · exact h6 0 u hu
    · simp at hu
  have HZ : Hid (W1.heap[w.heap.size + 1]? = some (.cells #[.string ⟨#[]⟩, .slice none 0 0] 79 (0, 0))) := hide ((HP.out.far _ (by omega)).trans (blk_below (blk_below (blk_below HR0.out Hb2.out (by omega)) Hwv.out (by omega)) Hb3.out (by have := Hz.out; omega)))
  have HnO : Hid (([.string X.name, .slice A3 X.attrs.length cap3] : List Value).length = 2) := hide rfl
  have H1O : Hid (∀ v ∈ ([.string X.name, .slice A3 X.attrs.length cap3] : List Value), v.oneCell' = true) := hide (by simp [Value.oneCell'])
  refine Hold.go ?_
  go_wp2_with (first
    | refine wpList_load_at 79 (.tmp 6) rfl Try.underlying79 rfl Hi.out rfl rfl HnO.out HCx.out ?_
    | (refine wpList_store_at 79 (.tmp 4) (.tmp 18) rfl Hi.out rfl rfl rfl HnO.out H1O.out HZ.out (by decide) ?_; intro WF hQ; have HQ := hide hQ; clear hQ))
  have hzv := Hz.out
  have hfar := far2 HP.out HQ.out (show w2.heap.size < V1.heap.size by omega) (show w.heap.size + 1 < V1.heap.size by omega) HGf.out.from_
  have hzz : w3.heap.size ≤ WF.heap.size := by rw [HQ.out.size, HP.out.size]; exact Nat.le_refl _
  have hW3 : Below w.heap.size w w3 := ((Hw0.out.trans (Hb2.out.mono (by omega))).trans (Hwv.out.mono (by omega))).trans (Hb3.out.mono (by omega))
  have hW : Below w.heap.size w WF := (hW3.trans (HP.out.below (by omega))).trans (HQ.out.below (by omega))
  obtain ⟨x0, x1⟩ := HQ.out.cellsAt.two0
  exact bodyPost_ret (v := .tuple #[.agg #[.string X.name, .slice A3 X.attrs.length cap3], .bool fb]) (by simp [results, Try.results46, go_sem, x0, x1]) rfl
    ⟨[.string X.name, .slice A3 X.attrs.length cap3], G, by rw [HFb.out], by rw [HX.out]; exact ⟨_, G, rfl, Hk.out, rfl, ⟨rfl, HG.out.frame (AtrR.good D) hfar hzz⟩, rfl⟩, (HGf.out.keep hfar).mono (by omega), hW⟩
set_option maxRecDepth 100000 in
set_option maxHeartbeats 2000000 in
theorem s_FindSymbol (D : Nat) (x : Grm) (cs : List Value) (F : List Nat) (w : World) (h : GrmR D w x cs F) (s : ByteArray) (hbk : bulkGrm D x ≤ 1048576) :
    Calls Try.prog 45 #[.agg cs.toArray, .string s] w fun en w' => ∃ us F', en = .returned (.tuple #[.agg (List.toArray us), .bool (findS x.symbols s).isSome]) ∧ SymR D w' ((findS x.symbols s).getD Sym.zero) us F' ∧ Fresh w.heap.size w' F' ∧ Below w.heap.size w w' := by
  obtain ⟨p0, p1, rfl⟩ := list2 ((GrmR.good D).len h)
  obtain ⟨v0, F0, v1, F1, _, ⟨h0, g0⟩, ⟨h1, g1⟩, rfl⟩ := h
  obtain rfl := Option.some.inj h0
  obtain rfl := Option.some.inj h1
  obtain ⟨A0, k0, rfl, hc0, hm0⟩ := g0.form
  obtain ⟨A1, k1, rfl, hc1, hm1⟩ := g1.form
  unfold maxLen at hm0 hm1
  have L := hide (g0.lt (SymR.good D))
  have Hs := hide g0
  have Hbk := hide hbk
  have hll : x.symbols.length ≤ 9223372036854775807 := by omega
  have hi : (Try.prog.info? 79).map (·.size) = some 2 := by kernel_rfl
  have Hi := hide hi
  obtain ⟨C0, hR0, hz0, hw0⟩ := boxR w [.slice A0 x.symbols.length k0, .slice A1 x.rules.length k1] [.string ⟨#[]⟩, .slice none 0 0] 69 79
  show Calls _ _ #[.agg #[.slice A0 x.symbols.length k0, .slice A1 x.rules.length k1], .string s] w _
  clear g0 g1 h0 h1 hc0 hc1 hm0 hm1 hi hbk
  go_enter Try.func45, Try.ntmps45
  go_wp2_with fail
  generalize (w.alloc (Obj.cells #[.slice A0 x.symbols.length k0, .slice A1 x.rules.length k1] 69)).alloc (Obj.cells #[.string ⟨#[]⟩, .slice none 0 0] 79) = W0 at C0 hR0 hz0 hw0 ⊢
  have hn0 : w.heap.size + 2 ≤ W0.heap.size := by omega
  have Hw : Hid (∀ W : World, Below (w.heap.size + 2) W0 W → Below w.heap.size w W) := hide fun W h => hw0.trans (h.mono (by omega))
  have hB0 : Below (w.heap.size + 2) W0 W0 := Below.refl _ _
  have e0 := cell_rule C0 (n := w.heap.size + 2) (by omega) 0 rfl
  have e1 := cell_rule C0 (n := w.heap.size + 2) (by omega) 1 rfl
  have HR0 : Hid (∀ W : World, Below (w.heap.size + 2) W0 W → W.heap[w.heap.size + 1]? = some (.cells #[.string ⟨#[]⟩, .slice none 0 0] 79 (0, 0))) := hide fun W h => blk_below hR0 h (by omega)
  clear C0 hz0 hw0 hR0
  go_wp2_with fail
  go_loopw [6] (fun i wr => ∃ j : Nat, j ≤ x.symbols.length ∧ i = .int .i64 j ∧ Hid (∀ (k : Nat) (y : Sym), k < j → x.symbols[k]? = some y → (y.name.toList == s.toList) = false) ∧ Hid (Below (w.heap.size + 2) W0 wr)) (fun i _ => x.symbols.length - (intOf i).toNat)
  case atStart => exact ⟨0, by omega, rfl, hide (fun k y hk => absurd hk (by omega)), hide hB0⟩
  case round =>
    obtain ⟨j, hj, rfl, Hno, Hb⟩ := hrel
    have hBr := Hb.out
    by_cases hlt : j < x.symbols.length
    · have hX : x.symbols[j]? = some x.symbols[j] := List.getElem?_eq_getElem hlt
      generalize x.symbols[j] = X at hX
      obtain ⟨b, off, cs, Fk, hA, _, hbF, hFk, hcl, hcat, hR⟩ := SlR.get (SymR.good D) Hs.out hX
      subst hA
      have hRk := hR
      obtain ⟨c0, c1, rfl⟩ := list2 hcl
      have hc0 : c0 = .string X.name := Option.some.inj (by simpa using SymR.name hR)
      subst hc0
      have HX := hide hX
      have Hbx := hide (bulk_syms Hbk.out X (List.mem_of_getElem? hX))
      have HlF : Hid (∀ k ∈ Fk, k < w.heap.size) := hide fun k hk => L.out k (hFk k hk)
      have HR : Hid (SymR D wr X [.string X.name, c1] Fk) := hide ((SymR.good D).below hRk (Hw.out wr hBr) HlF.out)
      have hlb : b < w.heap.size := L.out b hbF
      have hcw := hcat.below (Hw.out wr hBr) hlb
      have p0 : wr.cell? ⟨b, off + j * 2, none⟩ = some (.string X.name) := hcw 0 _ rfl
      have Hc := hide hcw
      have Hn : Hid ([.string X.name, c1].length = 2) := hide rfl
      have hj0 : (0 : Int) ≤ (j : Int) := by omega
      have hj1 : (j : Int) < (x.symbols.length : Int) := by omega
      clear hX hcat hFk hbF hcl hR hRk hcw
      cases hq : (X.name.toList == s.toList)
      · have Hq := hide hq
        go_wp2_with fail
        go_roundw
        case rel =>
          refine ⟨j + 1, by omega, by go_num, hide fun k z hk hz => ?_, Hb⟩
          by_cases hkj : k < j
          · exact Hno.out k z hkj hz
          · obtain rfl : k = j := by omega
            have := HX.out
            rw [hz] at this
            obtain rfl := Option.some.inj this
            exact Hq.out
        case measure => simp [intOf]; omega
      · have Hf : Hid (findS x.symbols s = some X) := hide (find_hit Hno.out HX.out hq)
        go_wp2_with (refine wpList_load_at 79 (.tmp 25) rfl Try.underlying79 rfl Hi.out rfl rfl Hn.out Hc.out ?_)
        refine Calls.mono (s_l10Symbol D X _ Fk wr HR.out Hbx.out) ?_
        rintro en w2 ⟨us, F2, rfl, hR2, hf2, hb2⟩
        have H12 := hide (SymR.one hR2)
        obtain ⟨u0, u1, rfl⟩ := list2 ((SymR.good D).len hR2)
        have HR2 := hide hR2
        have Hf2 := hide hf2
        have Hb2 : Hid (Below (w.heap.size + 2) W0 w2) := hide (hBr.trans (hb2.mono (Nat.le_trans hn0 hBr.size)))
        have Hz2 := hide (Nat.le_trans hn0 hBr.size)
        have HZ := hide (HR0.out w2 Hb2.out)
        have Hn2 : Hid ([u0, u1].length = 2) := hide rfl
        clear hR2 hf2 hb2
        go_wp2_with (refine wpList_store_at 79 (.tmp 4) (.tmp 27) rfl Hi.out rfl rfl rfl Hn2.out H12.out HZ.out (by decide) ?_; intro WF hP; have HP := hide hP; clear hP)
        have hfar : ∀ k ∈ F2, WF.heap[k]? = w2.heap[k]? := fun k hk => HP.out.far k (by have := Hf2.out.from_ k hk; have := Hz2.out; omega)
        have hW : Below w.heap.size w WF := (Hw.out w2 Hb2.out).trans (HP.out.below (by omega))
        have hC := HP.out.cellsAt
        have x0 := hC 0 _ rfl; have x1 := hC 1 _ rfl
        simp only [Nat.zero_add, Nat.add_zero] at x0 x1
        exact bodyPost_ret (v := .tuple #[.agg #[u0, u1], .bool true]) (by simp [results, Try.results45, go_sem, x0, x1]) rfl
          ⟨[u0, u1], F2, by rw [Hf.out]; rfl, by rw [Hf.out]; exact (SymR.good D).frame HR2.out hfar (by rw [HP.out.size]; exact Nat.le_refl _), (Hf2.out.keep hfar).mono (by have := Hz2.out; omega), hW⟩
    · have Hf : Hid (findS x.symbols s = none) := hide (find_no fun k y hy => Hno.out k y (by have := (List.getElem?_eq_some_iff.1 hy).1; omega) hy)
      have HZ := hide (HR0.out wr hBr)
      have H1z : Hid (∀ v ∈ ([.string ⟨#[]⟩, .slice none 0 0] : List Value), v.oneCell' = true) := hide (SymR.one (SymR.zero D w))
      go_wp2_with (refine wpList_store_at 79 (.tmp 4) (.tmp 28) rfl Hi.out rfl rfl rfl rfl H1z.out HZ.out (by decide) ?_; intro WF hP; have HP := hide hP; clear hP)
      have hW : Below w.heap.size w WF := (Hw.out wr hBr).trans (HP.out.below (by omega))
      have hC := HP.out.cellsAt
      have x0 := hC 0 _ rfl; have x1 := hC 1 _ rfl
      simp only [Nat.zero_add, Nat.add_zero] at x0 x1
      exact bodyPost_ret (v := .tuple #[.agg #[.string ⟨#[]⟩, .slice none 0 0], .bool false]) (by simp [results, Try.results45, go_sem, x0, x1]) rfl
        ⟨[.string ⟨#[]⟩, .slice none 0 0], [], by rw [Hf.out]; rfl, by rw [Hf.out]; exact SymR.zero D _, Fresh.nil _ _, hW⟩
end Go.Proofs.Ythifibjkgiggfaa
