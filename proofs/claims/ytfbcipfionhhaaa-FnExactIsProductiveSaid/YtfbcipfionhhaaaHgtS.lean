/- Heights: the reference's place of a symbol, and whether a rule reaches it. Conditions: the grammar and the row of heights can be read. -/
import Derived.Test.YtfbcipfionhhaaaHgtR
import Derived.Deep.RegionHeld3
import Derived.Deep.QuietTactic
import Derived.BigQuiet
namespace Go.Proofs.Ytfbcipfionhhaaa
set_option maxRecDepth 100000
open Go.RowKit Go.WideShapes
set_option linter.unusedVariables false

theorem h_symName {D : Nat} {w : World} {x : Sym} {cs : List Value} {F : List Nat} (h : SymR D w x cs F) : cs[0]? = some (.string x.name) := by
  obtain ⟨_, _, _, _, h0, _⟩ := h
  exact h0
set_option maxRecDepth 100000 in
set_option maxHeartbeats 2000000 in
theorem s_l12At (D : Nat) (x : Grm) (cs : List Value) (F : List Nat) (w : World) (h : GrmR D w x cs F) (s : ByteArray) :
    Calls Try.prog 61 #[.agg cs.toArray, .string s] w fun en w' => en = .returned (.int .i64 (atI x s)) ∧ Below w.heap.size w w' := by
  obtain ⟨p0, p1, rfl⟩ := list2 ((GrmR.good D).len h)
  obtain ⟨v0, F0, v1, F1, _, ⟨h0, g0⟩, ⟨h1, g1⟩, rfl⟩ := h
  obtain rfl := Option.some.inj h0
  obtain rfl := Option.some.inj h1
  obtain ⟨A0, k0, rfl, hc0, hm0⟩ := g0.form
  obtain ⟨A1, k1, rfl, hc1, hm1⟩ := g1.form
  unfold maxLen at hm0 hm1
  have L := hide (g0.lt (SymR.good D))
  have Hs := hide g0
  have hll : x.symbols.length ≤ 9223372036854775807 := by omega
  obtain ⟨C0, hz0, hw0⟩ := boxes1 w [.slice A0 x.symbols.length k0, .slice A1 x.rules.length k1] 52
  show Calls _ _ #[.agg #[.slice A0 x.symbols.length k0, .slice A1 x.rules.length k1], .string s] w _
  clear g0 g1 h0 h1 hc0 hc1 hm0 hm1
  go_enter Try.func61, Try.ntmps61
  go_wp2_with fail
  generalize w.alloc (Obj.cells #[.slice A0 x.symbols.length k0, .slice A1 x.rules.length k1] 52) = W0 at C0 hz0 hw0 ⊢
  have hn0 : w.heap.size + 1 ≤ W0.heap.size := by omega
  have Hw : Hid (∀ W : World, Below (w.heap.size + 1) W0 W → Below w.heap.size w W) := hide fun W h => hw0.trans (h.mono (by omega))
  have hB0 : Below (w.heap.size + 1) W0 W0 := Below.refl _ _
  have e0 := cell_rule C0 (n := w.heap.size + 1) (by omega) 0 rfl
  clear C0 hz0 hw0
  go_wp2_with fail
  go_loopw [5] (fun i wr => ∃ j : Nat, j ≤ x.symbols.length ∧ i = .int .i64 j ∧ Hid (∀ (k : Nat) (y : Sym), k < j → x.symbols[k]? = some y → (y.name.toList == s.toList) = false) ∧ Hid (Below (w.heap.size + 1) W0 wr)) (fun i _ => x.symbols.length - (intOf i).toNat)
  case atStart => exact ⟨0, by omega, rfl, hide (fun k y hk => absurd hk (by omega)), hide hB0⟩
  case round =>
    obtain ⟨j, hj, rfl, Hno, Hb⟩ := hrel
    have hBr := Hb.out
    by_cases hlt : j < x.symbols.length
    · have hX : x.symbols[j]? = some x.symbols[j] := List.getElem?_eq_getElem hlt
      generalize x.symbols[j] = X at hX
      obtain ⟨b, off, cs, Fk, hA, _, hbF, hFk, hcl, hcat, hR⟩ := SlR.get (SymR.good D) Hs.out hX
      subst hA
      obtain ⟨c0, c1, rfl⟩ := list2 hcl
      have hc0 : c0 = .string X.name := Option.some.inj (by simpa using h_symName hR)
      subst hc0
      have HX := hide hX
      have hlb : b < w.heap.size := L.out b hbF
      have hcw := hcat.below (Hw.out wr hBr) hlb
      have p0 : wr.cell? ⟨b, off + j * 2, none⟩ = some (.string X.name) := hcw 0 _ rfl
      have hj0 : (0 : Int) ≤ (j : Int) := by omega
      have hj1 : (j : Int) < (x.symbols.length : Int) := by omega
      clear hX hcat hFk hbF hcl hR hcw
      cases hq : (X.name.toList == s.toList)
      · have Hq := hide hq
        go_wp2_with fail
        go_roundw
        case rel =>
          refine ⟨j + 1, by omega, by go_num, hide fun k z hk hz => ?_, Hb⟩
          by_cases hkj : k < j
          · exact Hno.out k z hkj hz
          · obtain rfl : k = j := by omega
            have := HX.out
            rw [hz] at this
            obtain rfl := Option.some.inj this
            exact Hq.out
        case measure => simp [intOf]; omega
      · have Hf : Hid (atI x s = (j : Int)) := hide (atI_hit (symIdx_hit Hno.out HX.out hq))
        go_wp2_with fail
        go_ret
        exact ⟨ret_int Hf.out.symm, Hw.out _ hBr⟩
    · have Hf : Hid (atI x s = -1) := hide (atI_no (symIdx_no fun k y hy => Hno.out k y (by have := (List.getElem?_eq_some_iff.1 hy).1; omega) hy))
      go_wp2_with fail
      go_ret
      exact ⟨ret_int Hf.out.symm, Hw.out _ hBr⟩
end Go.Proofs.Ytfbcipfionhhaaa
