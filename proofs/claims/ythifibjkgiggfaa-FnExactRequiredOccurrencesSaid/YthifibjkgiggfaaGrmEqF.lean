/- slices.EqualFunc over symbols and rules. Conditions: none beyond that they can be read. -/
import Derived.Test.YthifibjkgiggfaaAtrEq
import Derived.Test.YthifibjkgiggfaaWhole
namespace Go.Proofs.Ythifibjkgiggfaa
set_option maxRecDepth 100000
open Go.RowKit Go.WideShapes
set_option linter.unusedVariables false
set_option maxHeartbeats 2000000 in
theorem i_eqFuncSym (D : Nat) (l l' : List Sym) (A A' : Option Addr) (cap cap' : Nat) (F F' : List Nat) (w : World) (hs : SlR 2 (SymR D) w l (.slice A l.length cap) F) (hs' : SlR 2 (SymR D) w l' (.slice A' l'.length cap') F') :
    Calls Try.prog 98 #[.slice A l.length cap, .slice A' l'.length cap', .func (.func 99) #[] #[]] w fun en w' => en = .returned (.bool (eqL (eqSym D) l l')) ∧ Below w.heap.size w w' := by
  have HF := hide (hs.lt (SymR.good D))
  have HF' := hide (hs'.lt (SymR.good D))
  obtain ⟨_, hlc, hm⟩ := hs.bnd
  obtain ⟨_, hlc', hm'⟩ := hs'.bnd
  unfold maxLen at hm hm'
  have Hs := hide hs
  have Hs' := hide hs'
  clear hs hs'
  by_cases hll : l.length = l'.length
  · generalize hq : l'.length = q0 at *
    have Hq := hide hq
    clear hq
    subst hll
    go_enter Try.func98, Try.ntmps98
    go_wp2_with fail
    go_loopw [17] (fun i wr => ∃ j : Nat, j ≤ l.length ∧ i = .int .i64 j ∧ Hid (∀ k x y, k < j → l[k]? = some x → l'[k]? = some y → eqSym D x y = true) ∧ Hid (Below w.heap.size w wr)) (fun i _ => l.length - (intOf i).toNat)
    case atStart => exact ⟨0, by omega, rfl, hide (fun k x y h => absurd h (by omega)), hide (Below.refl _ _)⟩
    case round =>
      obtain ⟨j, hj, rfl, Hall, Hb⟩ := hrel
      by_cases hlt : j < l.length
      · have hx : l[j]? = some l[j] := List.getElem?_eq_getElem hlt
        have hlt' : j < l'.length := by rw [Hq.out]; exact hlt
        have hy : l'[j]? = some l'[j] := List.getElem?_eq_getElem hlt'
        generalize l[j] = x at hx
        generalize l'[j] = y at hy
        clear hlt'
        have Hx := hide hx
        have Hy := hide hy
        obtain ⟨b, off, cs, Fk, hA, _, hbF, hFk, hcl, hcat, hR⟩ := SlR.get (SymR.good D) (Hs.out.below (SymR.good D) Hb.out HF.out) hx
        subst hA
        obtain ⟨b', off', cs', Fk', hA, _, hbF', hFk', hcl', hcat', hR'⟩ := SlR.get (SymR.good D) (Hs'.out.below (SymR.good D) Hb.out HF'.out) hy
        subst hA
        have hblt := Nat.lt_of_lt_of_le (HF.out b hbF) Hb.out.size
        have hblt' := Nat.lt_of_lt_of_le (HF'.out b' hbF') Hb.out.size
        have h1 := SymR.one hR
        have h1' := SymR.one hR'
        have HFk := hide ((SymR.good D).lt hR)
        have HFk' := hide ((SymR.good D).lt hR')
        have HR := hide hR
        have HR' := hide hR'
        obtain ⟨C1, C2, _, hbb⟩ := boxes2 wr cs cs' 79 79
        have hcaty := hcat'.below ((Below.refl wr.heap.size wr).alloc (Nat.le_refl _) (.cells cs.toArray 79)) hblt'
        have hi : (Try.prog.info? 79).map (·.size) = some 2 := by kernel_rfl
        have Hi := hide hi
        have Hn := hide hcl
        have Hn' := hide hcl'
        have H1 := hide h1
        have H1' := hide h1'
        have Hc := hide hcat
        have Hcy := hide hcaty
        have HC1 := hide C1
        have HC2 := hide C2
        have hj0 : (0 : Int) ≤ (j : Int) := by omega
        have hj1 : (j : Int) < (l.length : Int) := by omega
        have hBr : Below wr.heap.size wr wr := Below.refl _ _
        have hBa : ∀ (W : World) (o : Obj), Below wr.heap.size wr W → Below wr.heap.size wr (W.alloc o) := fun _ o h => below_alloc (Nat.le_refl _) o h
        clear hx hy hR hR' hcat hcat' hFk hFk' hbF hbF' hcl hcl' C1 C2 hcaty hi h1 h1'
        go_wp2_with (first
          | refine wpList_load_at 79 (.tmp 20) rfl Try.underlying79 rfl Hi.out rfl rfl Hn.out Hc.out ?_
          | refine wpList_store_new 79 (.tmp 8) (.tmp 21) rfl Hi.out rfl rfl rfl rfl Hn.out H1.out rfl ?_
          | refine wpList_load_at 79 (.tmp 24) rfl Try.underlying79 rfl Hi.out rfl rfl Hn'.out Hcy.out ?_
          | refine wpList_store_new 79 (.tmp 9) (.tmp 25) rfl Hi.out rfl rfl rfl (World.size_alloc _ _) Hn'.out H1'.out rfl ?_
          | refine wpList_load_at 79 (.tmp 8) rfl Try.underlying79 rfl Hi.out rfl rfl Hn.out HC1.out ?_
          | refine wpList_load_at 79 (.tmp 9) rfl Try.underlying79 rfl Hi.out rfl rfl Hn'.out HC2.out ?_)
        generalize (wr.alloc (Obj.cells cs.toArray 79)).alloc (Obj.cells cs'.toArray 79) = W0 at hbb ⊢
        refine Calls.mono (i_clSym D x y cs cs' Fk Fk' W0 ((SymR.good D).below HR.out hbb HFk.out) ((SymR.good D).below HR'.out hbb HFk'.out)) ?_
        rintro en w2 ⟨rfl, hb2⟩
        have HB2 : Hid (Below w.heap.size w w2) := hide (Hb.out.trans ((hbb.trans (hb2.mono hbb.size)).mono Hb.out.size))
        clear hb2 hbb
        cases hxy : eqSym D x y
        · have Hbad := hide (eqL_bad (f := eqSym D) Hx.out Hy.out hxy)
          clear hxy
          go_wp2_with fail
          go_ret
          exact ⟨ret_bool Hbad.out.symm, HB2.out⟩
        · have Hxy := hide hxy
          clear hxy
          go_wp2_with fail
          go_roundw
          case rel =>
            refine ⟨j + 1, by omega, by go_num, hide (fun k x' y' hk hx' hy' => ?_), HB2⟩
            by_cases hkj : k < j
            · exact Hall.out k x' y' hkj hx' hy'
            · have hkj' : k = j := by omega
              subst hkj'
              rw [Hx.out] at hx'
              rw [Hy.out] at hy'
              injection hx' with hx'
              injection hy' with hy'
              rw [← hx', ← hy']
              exact Hxy.out
          case measure => simp [intOf]; omega
      · have Hyes : Hid (eqL (eqSym D) l l' = true) := hide (eqL_all Hq.out.symm (fun k x y hx hy => Hall.out k x y (by have := (List.getElem?_eq_some_iff.1 hx).1; omega) hx hy))
        go_wp2_with fail
        go_ret
        exact ⟨ret_bool Hyes.out.symm, Hb.out⟩
  · have hne : ((l.length : Int) != (l'.length : Int)) = true := by rw [bne_iff_ne]; omega
    have Hno := hide (eqL_len (f := eqSym D) hll)
    clear hll
    go_enter Try.func98, Try.ntmps98
    go_wp2_with fail
    go_ret
    exact ⟨ret_bool Hno.out.symm, Below.refl _ _⟩
set_option maxHeartbeats 2000000 in
theorem i_eqFuncRul (D : Nat) (l l' : List Rul) (A A' : Option Addr) (cap cap' : Nat) (F F' : List Nat) (w : World) (hs : SlR 6 (RulR D) w l (.slice A l.length cap) F) (hs' : SlR 6 (RulR D) w l' (.slice A' l'.length cap') F') :
    Calls Try.prog 101 #[.slice A l.length cap, .slice A' l'.length cap', .func (.func 102) #[] #[]] w fun en w' => en = .returned (.bool (eqL (eqRul D) l l')) ∧ Below w.heap.size w w' := by
  have HF := hide (hs.lt (RulR.good D))
  have HF' := hide (hs'.lt (RulR.good D))
  obtain ⟨_, hlc, hm⟩ := hs.bnd
  obtain ⟨_, hlc', hm'⟩ := hs'.bnd
  unfold maxLen at hm hm'
  have Hs := hide hs
  have Hs' := hide hs'
  clear hs hs'
  by_cases hll : l.length = l'.length
  · generalize hq : l'.length = q0 at *
    have Hq := hide hq
    clear hq
    subst hll
    go_enter Try.func101, Try.ntmps101
    go_wp2_with fail
    go_loopw [17] (fun i wr => ∃ j : Nat, j ≤ l.length ∧ i = .int .i64 j ∧ Hid (∀ k x y, k < j → l[k]? = some x → l'[k]? = some y → eqRul D x y = true) ∧ Hid (Below w.heap.size w wr)) (fun i _ => l.length - (intOf i).toNat)
    case atStart => exact ⟨0, by omega, rfl, hide (fun k x y h => absurd h (by omega)), hide (Below.refl _ _)⟩
    case round =>
      obtain ⟨j, hj, rfl, Hall, Hb⟩ := hrel
      by_cases hlt : j < l.length
      · have hx : l[j]? = some l[j] := List.getElem?_eq_getElem hlt
        have hlt' : j < l'.length := by rw [Hq.out]; exact hlt
        have hy : l'[j]? = some l'[j] := List.getElem?_eq_getElem hlt'
        generalize l[j] = x at hx
        generalize l'[j] = y at hy
        clear hlt'
        have Hx := hide hx
        have Hy := hide hy
        obtain ⟨b, off, cs, Fk, hA, _, hbF, hFk, hcl, hcat, hR⟩ := SlR.get (RulR.good D) (Hs.out.below (RulR.good D) Hb.out HF.out) hx
        subst hA
        obtain ⟨b', off', cs', Fk', hA, _, hbF', hFk', hcl', hcat', hR'⟩ := SlR.get (RulR.good D) (Hs'.out.below (RulR.good D) Hb.out HF'.out) hy
        subst hA
        have hblt := Nat.lt_of_lt_of_le (HF.out b hbF) Hb.out.size
        have hblt' := Nat.lt_of_lt_of_le (HF'.out b' hbF') Hb.out.size
        have h1 := RulR.one hR
        have h1' := RulR.one hR'
        have HFk := hide ((RulR.good D).lt hR)
        have HFk' := hide ((RulR.good D).lt hR')
        have HR := hide hR
        have HR' := hide hR'
        obtain ⟨C1, C2, _, hbb⟩ := boxes2 wr cs cs' 39 39
        have hcaty := hcat'.below ((Below.refl wr.heap.size wr).alloc (Nat.le_refl _) (.cells cs.toArray 39)) hblt'
        have hi : (Try.prog.info? 39).map (·.size) = some 6 := by kernel_rfl
        have Hi := hide hi
        have Hn := hide hcl
        have Hn' := hide hcl'
        have H1 := hide h1
        have H1' := hide h1'
        have Hc := hide hcat
        have Hcy := hide hcaty
        have HC1 := hide C1
        have HC2 := hide C2
        have hj0 : (0 : Int) ≤ (j : Int) := by omega
        have hj1 : (j : Int) < (l.length : Int) := by omega
        have hBr : Below wr.heap.size wr wr := Below.refl _ _
        have hBa : ∀ (W : World) (o : Obj), Below wr.heap.size wr W → Below wr.heap.size wr (W.alloc o) := fun _ o h => below_alloc (Nat.le_refl _) o h
        clear hx hy hR hR' hcat hcat' hFk hFk' hbF hbF' hcl hcl' C1 C2 hcaty hi h1 h1'
        go_wp2_with (first
          | refine wpList_load_at 39 (.tmp 20) rfl Try.underlying39 rfl Hi.out rfl rfl Hn.out Hc.out ?_
          | refine wpList_store_new 39 (.tmp 8) (.tmp 21) rfl Hi.out rfl rfl rfl rfl Hn.out H1.out rfl ?_
          | refine wpList_load_at 39 (.tmp 24) rfl Try.underlying39 rfl Hi.out rfl rfl Hn'.out Hcy.out ?_
          | refine wpList_store_new 39 (.tmp 9) (.tmp 25) rfl Hi.out rfl rfl rfl (World.size_alloc _ _) Hn'.out H1'.out rfl ?_
          | refine wpList_load_at 39 (.tmp 8) rfl Try.underlying39 rfl Hi.out rfl rfl Hn.out HC1.out ?_
          | refine wpList_load_at 39 (.tmp 9) rfl Try.underlying39 rfl Hi.out rfl rfl Hn'.out HC2.out ?_)
        generalize (wr.alloc (Obj.cells cs.toArray 39)).alloc (Obj.cells cs'.toArray 39) = W0 at hbb ⊢
        refine Calls.mono (i_EqualRule D x y cs cs' Fk Fk' W0 ((RulR.good D).below HR.out hbb HFk.out) ((RulR.good D).below HR'.out hbb HFk'.out)) ?_
        rintro en w2 ⟨rfl, hb2⟩
        have HB2 : Hid (Below w.heap.size w w2) := hide (Hb.out.trans ((hbb.trans (hb2.mono hbb.size)).mono Hb.out.size))
        clear hb2 hbb
        cases hxy : eqRul D x y
        · have Hbad := hide (eqL_bad (f := eqRul D) Hx.out Hy.out hxy)
          clear hxy
          go_wp2_with fail
          go_ret
          exact ⟨ret_bool Hbad.out.symm, HB2.out⟩
        · have Hxy := hide hxy
          clear hxy
          go_wp2_with fail
          go_roundw
          case rel =>
            refine ⟨j + 1, by omega, by go_num, hide (fun k x' y' hk hx' hy' => ?_), HB2⟩
            by_cases hkj : k < j
            · exact Hall.out k x' y' hkj hx' hy'
            · have hkj' : k = j := by omega
              subst hkj'
              rw [Hx.out] at hx'
              rw [Hy.out] at hy'
              injection hx' with hx'
              injection hy' with hy'
              rw [← hx', ← hy']
              exact Hxy.out
          case measure => simp [intOf]; omega
      · have Hyes : Hid (eqL (eqRul D) l l' = true) := hide (eqL_all Hq.out.symm (fun k x y hx hy => Hall.out k x y (by have := (List.getElem?_eq_some_iff.1 hx).1; omega) hx hy))
        go_wp2_with fail
        go_ret
        exact ⟨ret_bool Hyes.out.symm, Hb.out⟩
  · have hne : ((l.length : Int) != (l'.length : Int)) = true := by rw [bne_iff_ne]; omega
    have Hno := hide (eqL_len (f := eqRul D) hll)
    clear hll
    go_enter Try.func101, Try.ntmps101
    go_wp2_with fail
    go_ret
    exact ⟨ret_bool Hno.out.symm, Below.refl _ _⟩
end Go.Proofs.Ythifibjkgiggfaa
