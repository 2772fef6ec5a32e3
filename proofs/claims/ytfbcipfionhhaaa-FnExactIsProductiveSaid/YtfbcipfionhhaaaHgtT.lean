/- Heights: whether a rule of a symbol has only children with heights: the reference's. Conditions: the grammar and the row of heights can be read. -/
import Derived.Test.YtfbcipfionhhaaaHgtS
namespace Go.Proofs.Ytfbcipfionhhaaa
set_option maxRecDepth 100000
open Go.RowKit Go.WideShapes
set_option linter.unusedVariables false

theorem h_rule {D : Nat} {w : World} {x : Rul} {c0 c1 c2 c3 c4 c5 : Value} {F : List Nat} (h : RulR D w x [c0, c1, c2, c3, c4, c5] F) :
    c1 = .string x.left ∧ ∃ A2 k2, c2 = .slice A2 x.right.length k2 ∧ Rd w w.heap.size A2 x.right.length (x.right.map Value.string) ∧ x.right.length ≤ 9223372036854775807 := by
  obtain ⟨v2, F2, v4, F4, v5, F5, hl, hk, h0, h1, ⟨h2, g2⟩, h3, ⟨h4, g4⟩, ⟨h5, g5⟩, rfl⟩ := h
  obtain rfl := Option.some.inj h2
  obtain ⟨A2, k2, rfl, hc2, hm2⟩ := g2.form
  unfold maxLen at hm2
  exact ⟨Option.some.inj (by simpa using h1), A2, k2, rfl, g2.strs.1, by omega⟩
theorem reach_hit {g : Grm} {hh : List Nat} {s : ByteArray} {r : Rul} {j : Nat} (hr : g.rules[j]? = some r) (hk : rOk g hh s r = true) : reach g hh s = true := by
  unfold reach
  rw [List.any_eq_true]
  exact ⟨r, List.mem_of_getElem? hr, hk⟩
theorem reach_no {g : Grm} {hh : List Nat} {s : ByteArray} (h : ∀ (k : Nat) (r : Rul), g.rules[k]? = some r → rOk g hh s r = false) : reach g hh s = false := by
  unfold reach
  rw [List.any_eq_false]
  intro r hr
  obtain ⟨k, hk, rfl⟩ := List.mem_iff_getElem.1 hr
  rw [h k _ (List.getElem?_eq_getElem hk)]
  simp
set_option maxRecDepth 100000 in
set_option maxHeartbeats 4000000 in
theorem s_l12Reached (D : Nat) (x : Grm) (cs : List Value) (F : List Nat) (w : World) (h : GrmR D w x cs F) (s : ByteArray) (hh : List Nat) (hhl : hh.length = x.symbols.length) (A : Option Addr) (n c : Nat) (hr : Rd w w.heap.size A n (hh.map enc)) :
    Calls Try.prog 84 #[.agg cs.toArray, .string s, .slice A n c] w fun en w' => en = .returned (.bool (reach x hh s)) ∧ Below w.heap.size w w' := by
  obtain ⟨p0, p1, rfl⟩ := list2 ((GrmR.good D).len h)
  have HFe := hide ((GrmR.good D).lt h)
  have HG : Hid (∀ W : World, Below w.heap.size w W → GrmR D W x [p0, p1] F) := hide fun W hW => (GrmR.good D).below h hW HFe.out
  obtain ⟨v0, F0, v1, F1, _, ⟨h0, g0⟩, ⟨h1, g1⟩, rfl⟩ := h
  obtain rfl := Option.some.inj h0
  obtain rfl := Option.some.inj h1
  obtain ⟨A0, k0, rfl, hc0, hm0⟩ := g0.form
  obtain ⟨A1, k1, rfl, hc1, hm1⟩ := g1.form
  unfold maxLen at hm0 hm1
  have L := hide (g1.lt (RulR.good D))
  have Hs := hide g1
  have hll : x.rules.length ≤ 9223372036854775807 := by omega
  have hsl : x.symbols.length ≤ 9223372036854775807 := by omega
  have hi : (Try.prog.info? 46).map (·.size) = some 6 := by kernel_rfl
  have Hi := hide hi
  have Hr := hide hr
  have hnl := hr.len
  have Hhl := hide hhl
  obtain ⟨C0, hz0, hw0⟩ := boxes1 w [.slice A0 x.symbols.length k0, .slice A1 x.rules.length k1] 52
  show Calls _ _ #[.agg #[.slice A0 x.symbols.length k0, .slice A1 x.rules.length k1], .string s, .slice A n c] w _
  clear g0 g1 h0 h1 hc0 hc1 hm0 hm1 hi hr
  go_enter Try.func84, Try.ntmps84
  go_wp2_with fail
  generalize w.alloc (Obj.cells #[.slice A0 x.symbols.length k0, .slice A1 x.rules.length k1] 52) = W0 at C0 hz0 hw0 ⊢
  have hn0 : w.heap.size + 1 ≤ W0.heap.size := by omega
  have Hw : Hid (∀ W : World, Below (w.heap.size + 1) W0 W → Below w.heap.size w W) := hide fun W h => hw0.trans (h.mono (by omega))
  have hB0 : Below (w.heap.size + 1) W0 W0 := Below.refl _ _
  have e0 := cell_rule C0 (n := w.heap.size + 1) (by omega) 0 rfl
  have e1 := cell_rule C0 (n := w.heap.size + 1) (by omega) 1 rfl
  clear C0 hz0 hw0
  go_wp2_with fail
  go_loopw [7] (fun i wr => ∃ j : Nat, j ≤ x.rules.length ∧ i = .int .i64 j ∧ Hid (∀ (k : Nat) (y : Rul), k < j → x.rules[k]? = some y → rOk x hh s y = false) ∧ Hid (Below (w.heap.size + 1) W0 wr)) (fun i _ => x.rules.length - (intOf i).toNat)
  case atStart => exact ⟨0, by omega, rfl, hide (fun k y hk => absurd hk (by omega)), hide hB0⟩
  case round =>
    obtain ⟨j, hj, rfl, Hno, Hb⟩ := hrel
    obtain ⟨wo, rfl⟩ : ∃ wo, wo = wr := ⟨_, rfl⟩
    have hBr := Hb.out
    by_cases hlt : j < x.rules.length
    · have hX : x.rules[j]? = some x.rules[j] := List.getElem?_eq_getElem hlt
      generalize x.rules[j] = X at hX
      obtain ⟨b, off, cs, Fk, hA, _, hbF, hFk, hcl, hcat, hR⟩ := SlR.get (RulR.good D) Hs.out hX
      subst hA
      have H1 := hide (RulR.one hR)
      obtain ⟨c0, c1, c2, c3, c4, c5, rfl⟩ := list_6 hcl
      obtain ⟨rfl, A2, k2, rfl, hrd, hrl⟩ := h_rule hR
      have HX := hide hX
      have hlb : b < w.heap.size := L.out b hbF
      have hcw := hcat.below (Hw.out wo hBr) hlb
      have Hc := hide hcw
      have Hn : Hid ([c0, .string X.left, .slice A2 X.right.length k2, c3, c4, c5].length = 6) := hide rfl
      have Hrd := hide hrd
      have hj0 : (0 : Int) ≤ (j : Int) := by omega
      have hj1 : (j : Int) < (x.rules.length : Int) := by omega
      have hbase : w.heap.size + 1 ≤ wo.heap.size := Nat.le_trans hn0 hBr.size
      clear hX hcat hFk hbF hcl hR hcw hrd
      go_wp2_with (first
        | refine wpList_load_at 46 (.tmp 22) rfl Try.underlying46 rfl Hi.out rfl rfl Hn.out Hc.out ?_
        | (refine wpList_store_new 46 (.tmp 8) (.tmp 23) rfl Hi.out rfl rfl rfl rfl Hn.out H1.out rfl ?_; refine hold ?_))
      have C := CellsAt.new wo [c0, .string X.left, .slice A2 X.right.length k2, c3, c4, c5] 46
      have hz := World.size_alloc wo (Obj.cells #[c0, .string X.left, .slice A2 X.right.length k2, c3, c4, c5] 46)
      have hwv : Below (w.heap.size + 1) W0 (wo.alloc (Obj.cells #[c0, .string X.left, .slice A2 X.right.length k2, c3, c4, c5] 46)) := hBr.alloc hbase _
      generalize wo.alloc (Obj.cells #[c0, .string X.left, .slice A2 X.right.length k2, c3, c4, c5] 46) = V1 at C hz hwv ⊢
      have ex1 := cell_rule C (n := wo.heap.size + 1) (by omega) 1 rfl
      have ex2 := cell_rule C (n := wo.heap.size + 1) (by omega) 2 rfl
      have hVV : Below (wo.heap.size + 1) V1 V1 := Below.refl _ _
      have hVz : wo.heap.size + 1 ≤ V1.heap.size := by omega
      have Hwv := hide hwv
      clear C hz
      refine Hold.go ?_
      generalize wo.heap.size = kb at ex1 ex2 hVV hVz hbase ⊢
      go_wp2_with fail
      go_loopw [9, 10] (fun gd i wr2 => ∃ m : Nat, m ≤ X.right.length ∧ i = .int .i64 m ∧ gd = .bool ((X.left.toList == s.toList) && (X.right.take m).all (childOk x hh)) ∧ Hid (Below (kb + 1) V1 wr2)) (fun _ i _ => X.right.length - (intOf i).toNat)
      case atStart => exact ⟨0, by omega, rfl, by simp, hide hVV⟩
      case round =>
        obtain ⟨m, hm, rfl, rfl, Hb2⟩ := hrel
        have hb2 := Hb2.out
        have hW2 : Below (w.heap.size + 1) W0 wr := Hwv.out.trans (hb2.mono (by omega))
        have Hww : Hid (Below w.heap.size w wr) := hide (Hw.out _ hW2)
        by_cases hlm : m < X.right.length
        · obtain ⟨b2, off2, ch, rfl, hb2l, hch, hcc⟩ := (Hrd.out.below Hww.out).get hlm
          have hall := all_snoc' (g := x) (h := hh) hch
          generalize (X.left.toList == s.toList) = lq at hall ⊢
          have hgd : (lq && (X.right.take (m + 1)).all (childOk x hh)) = ((lq && (X.right.take m).all (childOk x hh)) && childOk x hh ch) := by rw [hall, Bool.and_assoc]
          have Hgd := hide hgd
          clear hgd hall
          generalize (lq && (X.right.take m).all (childOk x hh)) = gd at Hgd ⊢
          have hs2 : kb + 1 ≤ wr.heap.size := Nat.le_trans hVz hb2.size
          have hs0 : w.heap.size + 1 ≤ wr.heap.size := Nat.le_trans hn0 hW2.size
          have q0 : ∀ W : World, Below wr.heap.size wr W → W.cell? ⟨w.heap.size, 0, none⟩ = some (.slice A0 x.symbols.length k0) := fun W hW => e0 W (hW2.trans (hW.mono hs0))
          have q1 := fun (W : World) (hW : Below wr.heap.size wr W) => e1 W (hW2.trans (hW.mono hs0))
          have q2 : ∀ W : World, Below wr.heap.size wr W → W.cell? ⟨kb, 2, none⟩ = some (.slice (some ⟨b2, off2, none⟩) X.right.length k2) := fun W hW => ex2 W (hb2.trans (hW.mono hs2))
          have hb2s : b2 < wr.heap.size := cell_lt hcc
          have q3 : ∀ W : World, Below wr.heap.size wr W → W.cell? ⟨b2, off2 + m, none⟩ = some (.string ch) := fun W hW => (hW.cell (p := ⟨b2, off2 + m, none⟩) hb2s).trans hcc
          have hrr : Below wr.heap.size wr wr := Below.refl _ _
          have hm0 : (0 : Int) ≤ (m : Int) := by omega
          have hm1 : (m : Int) < (X.right.length : Int) := by omega
          clear hcc hb2l
          have hws : w.heap.size ≤ wr.heap.size := Hww.out.size
          go_wp2_with fail
          cases hq : symIdx x ch with
          | none =>
            have Hk : Hid (childOk x hh ch = false) := hide (by unfold childOk; rw [hOf_no hq]; rfl)
            have Hat : Hid (atI x ch = -1) := hide (atI_no hq)
            clear hq
            go_region_held3 (fun W => Below wr.heap.size wr W) (first | assumption | exact Below.drew (by assumption))
            (first | (go_at_call 61; refine Calls.mono (s_l12At D x _ _ _ (HG.out _ (Hww.out.trans (Below.mono (by (repeat (first | assumption | exact Below.refl _ _ | apply Below.drew))) hws))) ch) ?_; rintro en w1 ⟨rfl, hb1⟩; rw [Hat.out]; have hB1 : Below wr.heap.size wr w1 := below_step (by (repeat (first | assumption | exact Below.refl _ _ | apply Below.drew))) (Nat.le_refl _) hb1; clear hb1))
            have Hk2 : Hid ((lq && (X.right.take (m + 1)).all (childOk x hh)) = false) := hide (by rw [Hgd.out, Hk.out, Bool.and_false])
            have HB1 := hide (hb2.trans (hB1.mono hs2))
            cases gd
            all_goals
              go_wp2_with fail
              go_roundw
              case rel => exact ⟨m + 1, by omega, by go_num, by rw [Hk2.out], HB1⟩
              case measure => simp [intOf]; omega
          | some ix =>
            have hix := symIdx_lt hq
            obtain ⟨bh, offh, v, hAh, hbh, hv, hcv⟩ := (Hr.out.below Hww.out).get (k := ix) (by omega)
            have Hk : Hid (childOk x hh ch = decide (0 < v)) := hide (by unfold childOk; rw [hOf_hit hq hv])
            have Hat : Hid (atI x ch = (ix : Int)) := hide (atI_hit hq)
            have hcv2 : ∀ W : World, Below wr.heap.size wr W → W.cell? ⟨bh, offh + ix, none⟩ = some (.int .i64 (v : Int)) := fun W hW => (hW.cell (p := ⟨bh, offh + ix, none⟩) (cell_lt hcv)).trans hcv
            clear hq hv hcv
            go_region_held3 (fun W => Below wr.heap.size wr W) (first | assumption | exact Below.drew (by assumption))
            (first | (go_at_call 61; refine Calls.mono (s_l12At D x _ _ _ (HG.out _ (Hww.out.trans (Below.mono (by (repeat (first | assumption | exact Below.refl _ _ | apply Below.drew))) hws))) ch) ?_; rintro en w1 ⟨rfl, hb1⟩; rw [Hat.out]; have hB1 : Below wr.heap.size wr w1 := below_step (by (repeat (first | assumption | exact Below.refl _ _ | apply Below.drew))) (Nat.le_refl _) hb1; clear hb1))
            have hB1' := hB1
            have hcw := hcv2 _ hB1
            subst hAh
            have hi0 : (0 : Int) ≤ (ix : Int) := by omega
            have hi1 : (ix : Int) < (n : Int) := by omega
            have hmx : max (ix : Int) 0 = (ix : Int) := by omega
            have HB1 := hide (hb2.trans (hB1.mono hs2))
            clear hcv2
            cases gd
            · have Hk2 : Hid ((lq && (X.right.take (m + 1)).all (childOk x hh)) = false) := hide (by rw [Hgd.out, Bool.false_and])
              go_wp2_with (go_at_call 109; refine (s_l1Max _ _ _).mono ?_; rintro e w' ⟨rfl, rfl⟩)
              go_roundw
              case rel => exact ⟨m + 1, by omega, by go_num, by rw [Hk2.out], HB1⟩
              case measure => simp [intOf]; omega
            · have Hk2 : Hid ((lq && (X.right.take (m + 1)).all (childOk x hh)) = decide (0 < v)) := hide (by rw [Hgd.out, Hk.out, Bool.true_and])
              by_cases hv0 : 0 < v
              · have hv1 : (0 : Int) < (v : Int) := by omega
                go_wp2_with (go_at_call 109; refine (s_l1Max _ _ _).mono ?_; rintro e w' ⟨rfl, rfl⟩; rw [hmx])
                go_roundw
                case rel => exact ⟨m + 1, by omega, by go_num, by rw [Hk2.out, decide_eq_true hv0], HB1⟩
                case measure => simp [intOf]; omega
              · have hv1 : ¬ (0 : Int) < (v : Int) := by omega
                go_wp2_with (go_at_call 109; refine (s_l1Max _ _ _).mono ?_; rintro e w' ⟨rfl, rfl⟩; rw [hmx])
                go_roundw
                case rel => exact ⟨m + 1, by omega, by go_num, by rw [Hk2.out, decide_eq_false hv0], HB1⟩
                case measure => simp [intOf]; omega
        · have hml : m = X.right.length := by omega
          subst hml
          have Hrk : Hid (((X.left.toList == s.toList) && (X.right.take X.right.length).all (childOk x hh)) = rOk x hh s X) := hide (by rw [List.take_length]; rfl)
          rw [Hrk.out]
          cases hrk : rOk x hh s X
          · have Hq := hide hrk
            go_wp2_with fail
            go_roundw
            case rel =>
              refine ⟨j + 1, by omega, by go_num, hide fun k z hk hz => ?_, hide hW2⟩
              by_cases hkj : k < j
              · exact Hno.out k z hkj hz
              · obtain rfl : k = j := by omega
                have := HX.out
                rw [hz] at this
                obtain rfl := Option.some.inj this
                exact Hq.out
            case measure => simp [intOf]; omega
          · have Hf : Hid (reach x hh s = true) := hide (reach_hit HX.out hrk)
            go_wp2_with fail
            go_ret
            exact ⟨ret_bool Hf.out.symm, Hww.out⟩
    · have Hf : Hid (reach x hh s = false) := hide (reach_no fun k y hy => Hno.out k y (by have := (List.getElem?_eq_some_iff.1 hy).1; omega) hy)
      go_wp2_with fail
      go_ret
      exact ⟨ret_bool Hf.out.symm, Hw.out _ hBr⟩
end Go.Proofs.Ytfbcipfionhhaaa
