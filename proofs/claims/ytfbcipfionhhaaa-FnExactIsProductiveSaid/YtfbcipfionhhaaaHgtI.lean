/- Heights: the program's closure that looks a height up. Conditions: grammar and row of heights can be read. -/
import Derived.Test.YtfbcipfionhhaaaHgtU
namespace Go.Proofs.Ytfbcipfionhhaaa
set_option maxRecDepth 100000
open Go.RowKit Go.WideShapes
set_option linter.unusedVariables false

set_option maxRecDepth 100000 in
set_option maxHeartbeats 2000000 in
theorem i_height (D : Nat) (x : Grm) (A0 : Option Addr) (k0 : Nat) (F0 : List Nat) (w : World) (hs : SlR 2 (SymR D) w x.symbols (.slice A0 x.symbols.length k0) F0) (B : Nat) (hg : w.cell? ⟨B, 0, none⟩ = some (.slice A0 x.symbols.length k0))
    (s : ByteArray) (O : Nat) (A : Option Addr) (c : Nat) (ho : w.cell? ⟨O, 0, none⟩ = some (.slice A x.symbols.length c)) (hh : List Nat) (hr : Rd w w.heap.size A x.symbols.length (hh.map enc)) :
    Calls Try.prog 85 #[.string s, .pointer (some ⟨B, 0, none⟩), .pointer (some ⟨O, 0, none⟩)] w fun en w' => en = .returned (.int .i64 (hOf x hh s : Int)) ∧ Below w.heap.size w w' := by
  obtain ⟨A', k0', he, hc0, hm0⟩ := hs.form
  injection he with e1 e2 e3
  subst e1 e3
  clear e2
  unfold maxLen at hm0
  have L := hide (hs.lt (SymR.good D))
  have Hs := hide hs
  have hll : x.symbols.length ≤ 9223372036854775807 := by omega
  have hi : (Try.prog.info? 94).map (·.size) = some 2 := by kernel_rfl
  have Hi := hide hi
  have Hr := hide hr
  have hBl := cell_lt hg
  have hOl := cell_lt ho
  have e0 : ∀ W : World, Below w.heap.size w W → W.cell? ⟨B, 0, none⟩ = some (.slice A0 x.symbols.length k0) := fun W h => (h.cell (p := ⟨B, 0, none⟩) hBl).trans hg
  have eo : ∀ W : World, Below w.heap.size w W → W.cell? ⟨O, 0, none⟩ = some (.slice A x.symbols.length c) := fun W h => (h.cell (p := ⟨O, 0, none⟩) hOl).trans ho
  have hB0 : Below w.heap.size w w := Below.refl _ _
  clear hs hm0 hi hr hg ho
  go_enter Try.func85, Try.ntmps85
  go_wp2_with fail
  go_loopw [10] (fun i wr => ∃ j : Nat, j ≤ x.symbols.length ∧ i = .int .i64 j ∧ Hid (∀ (k : Nat) (y : Sym), k < j → x.symbols[k]? = some y → (y.name.toList == s.toList) = false) ∧ Hid (Below w.heap.size w wr)) (fun i _ => x.symbols.length - (intOf i).toNat)
  case atStart => exact ⟨0, by omega, rfl, hide (fun k y hk => absurd hk (by omega)), hide hB0⟩
  case round =>
    obtain ⟨j, hj, rfl, Hno, Hb⟩ := hrel
    have hBr := Hb.out
    by_cases hlt : j < x.symbols.length
    · have hX : x.symbols[j]? = some x.symbols[j] := List.getElem?_eq_getElem hlt
      generalize x.symbols[j] = X at hX
      obtain ⟨b, off, cs, Fk, hA, _, hbF, hFk, hcl, hcat, hR⟩ := SlR.get (SymR.good D) Hs.out hX
      subst hA
      have H1 := hide (SymR.one hR)
      obtain ⟨c0, c1, rfl⟩ := list2 hcl
      have hc0 : c0 = .string X.name := Option.some.inj (by simpa using h_symName hR)
      subst hc0
      have HX := hide hX
      have hlb : b < w.heap.size := L.out b hbF
      have Hc : Hid (CellsAt wr b (off + j * 2) [.string X.name, c1]) := hide (hcat.below hBr hlb)
      have Hn : Hid ([.string X.name, c1].length = 2) := hide rfl
      have hj0 : (0 : Int) ≤ (j : Int) := by omega
      have hj1 : (j : Int) < (x.symbols.length : Int) := by omega
      clear hX hcat hFk hbF hcl hR
      go_wp2_with (first
        | refine wpList_load_at 94 (.tmp 13) rfl Try.underlying94 rfl Hi.out rfl rfl Hn.out Hc.out ?_
        | (refine wpList_store_new 94 (.tmp 6) (.tmp 14) rfl Hi.out rfl rfl rfl rfl Hn.out H1.out rfl ?_; refine hold ?_))
      have C := CellsAt.new wr [.string X.name, c1] 94
      have hz := World.size_alloc wr (Obj.cells #[.string X.name, c1] 94)
      have hwv : Below w.heap.size w (wr.alloc (Obj.cells #[.string X.name, c1] 94)) := hBr.alloc hBr.size _
      generalize wr.alloc (Obj.cells #[.string X.name, c1] 94) = V1 at C hz hwv ⊢
      have ex := cell_rule C (n := wr.heap.size + 1) (by omega) 0 rfl
      have hVV : Below (wr.heap.size + 1) V1 V1 := Below.refl _ _
      clear C hz
      refine Hold.go ?_
      cases hq : (X.name.toList == s.toList)
      · have Hq := hide hq
        go_wp2_with fail
        go_roundw
        case rel =>
          refine ⟨j + 1, by omega, by go_num, hide fun k z hk hz => ?_, hide hwv⟩
          by_cases hkj : k < j
          · exact Hno.out k z hkj hz
          · obtain rfl : k = j := by omega
            have := HX.out
            rw [hz] at this
            obtain rfl := Option.some.inj this
            exact Hq.out
        case measure => simp [intOf]; omega
      · obtain ⟨bh, offh, v, hAh, hbh, hv, hcv⟩ := (Hr.out.below hwv).get (k := j) hlt
        subst hAh
        have Hf : Hid (hOf x hh s = v) := hide (hOf_hit (symIdx_hit Hno.out HX.out hq) hv)
        clear hv
        go_wp2_with fail
        go_ret
        exact ⟨ret_int (by rw [Hf.out]), hwv⟩
    · have Hf : Hid (hOf x hh s = 0) := hide (hOf_no (symIdx_no fun k y hy => Hno.out k y (by have := (List.getElem?_eq_some_iff.1 hy).1; omega) hy))
      go_wp2_with fail
      go_ret
      exact ⟨ret_int (by rw [Hf.out]; rfl), hBr⟩
end Go.Proofs.Ytfbcipfionhhaaa
