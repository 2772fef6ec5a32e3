/- Heights: all rounds, and a symbol's height: the reference's. Conditions: the grammar has at most the size 2^20. -/
import Derived.Test.YtfbcipfionhhaaaHgtT
import Derived.OwnWalk
namespace Go.Proofs.Ytfbcipfionhhaaa
set_option maxRecDepth 100000
open Go.RowKit Go.WideShapes
set_option linter.unusedVariables false

theorem infoInt : (Try.prog.info? 3).map (fun i => (i.zero, i.size, i.bytes)) = some (some (.int .i64 0), 1, 8) := by kernel_rfl
theorem HRow.cells {B : Nat} {w : World} {g n c : Nat} {h : List Nat} (hr : HRow B w (.slice (some ⟨g, 0, none⟩) n c) h) : ∀ (j v : Nat), h[j]? = some v → w.cell? ⟨g, j, none⟩ = some (.int .i64 (v : Int)) := fun j v hv => by
  have hj := (List.getElem?_eq_some_iff.1 hv).1
  obtain ⟨b, off, x, hA, hb, hx, hc⟩ := hr.rd.get hj
  injection hA with hA
  injection hA with e1 e2 _
  subst e1 e2
  rw [hv] at hx
  obtain rfl := Option.some.inj hx
  rw [Nat.zero_add] at hc
  exact hc
theorem HRow.blk {B g n cap : Nat} {w : World} {h : List Nat} (hr : HRow B w (.slice (some ⟨g, 0, none⟩) n cap) h) (hl : h.length = n) (hn : 0 < n) :
    ∃ cur : Array Value, w.heap[g]? = some (.cells cur 3 (0, 0)) ∧ cur.size = cap ∧ n ≤ cap := by
  obtain ⟨g', cap', cur', h1, hB, _, h3, h4, h5, h6, h7⟩ := HRow.open_ hr (by omega)
  injection h1 with h1 _ hcap
  injection h1 with h1
  injection h1 with h1 _ _
  subst h1 hcap
  exact ⟨cur', h3, h6, by omega⟩
theorem HRow.set' {B g n cap i u : Nat} {w w' : World} {cur : Array Value} {h : List Nat} (hr : HRow B w (.slice (some ⟨g, 0, none⟩) n cap) h) (hl : h.length = n) (hi : i < n)
    (hc : w.heap[g]? = some (.cells cur 3 (0, 0))) (hP : Put w g i [enc u] cur 3 w') : HRow B w' (.slice (some ⟨g, 0, none⟩) n cap) (h.set i u) := by
  subst hl
  exact hr.set hi hc hP
set_option maxRecDepth 100000 in
set_option maxHeartbeats 4000000 in
theorem s_l12Heights (D : Nat) (x : Grm) (cs : List Value) (F : List Nat) (w : World) (h : GrmR D w x cs F) (hbk : x.symbols.length ≤ 1048576) :
    Calls Try.prog 62 #[.agg cs.toArray] w fun en w' => ∃ A c, en = .returned (.slice A x.symbols.length c) ∧ Rd w' w'.heap.size A x.symbols.length ((hts x x.symbols.length).map enc) ∧ Below w.heap.size w w' := by
  obtain ⟨p0, p1, rfl⟩ := list2 ((GrmR.good D).len h)
  have HFe := hide ((GrmR.good D).lt h)
  have HG : Hid (∀ W : World, Below w.heap.size w W → GrmR D W x [p0, p1] F) := hide fun W hW => (GrmR.good D).below h hW HFe.out
  obtain ⟨v0, F0, v1, F1, _, ⟨h0, g0⟩, ⟨h1, g1⟩, rfl⟩ := h
  obtain rfl := Option.some.inj h0
  obtain rfl := Option.some.inj h1
  obtain ⟨A0, k0, rfl, hc0, hm0⟩ := g0.form
  obtain ⟨A1, k1, rfl, hc1, hm1⟩ := g1.form
  unfold maxLen at hm0 hm1
  have L := hide (g0.lt (SymR.good D))
  have Hs := hide g0
  obtain ⟨i0, hii, hz0i, hz1i, hz2i⟩ := info_parts infoInt
  have Hii := hide hii
  have Hz0 := hide hz0i
  have Hz1 := hide hz1i
  have Hz2 := hide hz2i
  have Hi3 : Hid ((Try.prog.info? 3).map (·.size) = some 1) := hide (by kernel_rfl)
  obtain ⟨C0, hz0, hw0⟩ := boxes1 w [.slice A0 x.symbols.length k0, .slice A1 x.rules.length k1] 52
  show Calls _ _ #[.agg #[.slice A0 x.symbols.length k0, .slice A1 x.rules.length k1]] w _
  clear g0 g1 h0 h1 hc0 hc1 hm0 hm1 hii hz0i hz1i hz2i
  go_enter Try.func62, Try.ntmps62
  go_wp2_with (at_make; refine hold ?_)
  generalize w.alloc (Obj.cells #[.slice A0 x.symbols.length k0, .slice A1 x.rules.length k1] 52) = W0 at C0 hz0 hw0 ⊢
  have hn0 : w.heap.size + 1 ≤ W0.heap.size := by omega
  have Hw : Hid (∀ W : World, Below (w.heap.size + 1) W0 W → Below w.heap.size w W) := hide fun W h => hw0.trans (h.mono (by omega))
  have hB0 : Below (w.heap.size + 1) W0 W0 := Below.refl _ _
  have e0 := cell_rule C0 (n := w.heap.size + 1) (by omega) 0 rfl
  have e1 := cell_rule C0 (n := w.heap.size + 1) (by omega) 1 rfl
  clear C0 hz0 hw0
  have Hn0 := hide hn0
  have Hbk := hide hbk
  have Hmake : Hid (i0.bytes * x.symbols.length ≤ 281474976710656) := hide (by rw [Hz2.out]; omega)
  have Hmax : Hid (x.symbols.length ≤ maxLen) := hide (by unfold maxLen; omega)
  refine Hold.go ?_
  refine wpList_make_full _ rfl (.tmp 9) (.tmp 9) 90 rfl (w.heap.size + 1) 3 i0 (.int .i64 0) 1 Try.underlying90 Hii.out Hz0.out Hz1.out .i64 .i64 _ _ x.symbols.length rfl rfl rfl rfl Hmake.out Hmax.out Hn0.out ?_
  intro V hrow hgr
  have Hrow := hide (HRow.made hrow)
  have Hgr := hide hgr
  clear hrow hgr
  go_wp2_with fail
  have HV := hide ((Below.refl (w.heap.size + 1) W0).grown Hgr.out Hn0.out (fun k hk => by cases hk))
  have Hlen := hide (hts_len x)
  clear Hgr Hmake Hmax
  go_loopw [3, 4] (fun o i wr => ∃ r : Nat, 1 ≤ r ∧ r ≤ x.symbols.length + 1 ∧ i = .int .i64 r ∧ Hid (HRow (w.heap.size + 1) wr o (hts x (r - 1))) ∧ Hid (Below (w.heap.size + 1) W0 wr)) (fun _ i _ => x.symbols.length + 1 - (intOf i).toNat)
  case atStart => exact ⟨1, by omega, by omega, rfl, hide (show HRow _ _ _ (hts x 0) from Hrow.out), HV⟩
  case round =>
    obtain ⟨r, hr1, hrn, rfl, Ho, Hb⟩ := hrel
    obtain ⟨wo, rfl⟩ : ∃ wo, wo = wr := ⟨_, rfl⟩
    have hBr := Hb.out
    by_cases hlt : r ≤ x.symbols.length
    · have hhl := Hlen.out (r - 1)
      have Hstep : Hid (hts x r = stepH x r (hts x (r - 1))) := hide (by obtain ⟨q, rfl⟩ : ∃ q, r = q + 1 := ⟨r - 1, by omega⟩; rfl)
      generalize hts x (r - 1) = hh at hhl Ho Hstep
      obtain ⟨g, cap, cur, rfl, hg1, hg2, hg3, hg4, hg5, hg6, hg7⟩ := HRow.open_ Ho.out (by omega)
      rw [hhl] at Ho hg4 ⊢
      have Hcl := hide (HRow.cells Ho.out)
      have Hap : Hid (∀ (j : Nat) (u : Value), (hh.map enc)[j]? = some u → wo.cell? ⟨g, j, none⟩ = some u) := hide fun j u hu => by
        rw [List.getElem?_map] at hu
        cases hv : hh[j]? with
        | none => rw [hv] at hu; cases hu
        | some v => rw [hv] at hu; obtain rfl := Option.some.inj hu; exact HRow.cells Ho.out j v hv
      have Hhl := hide hhl
      have hcg : (x.symbols.length : Int) ≤ (cap : Int) := by omega
      have hbase : w.heap.size + 1 ≤ wo.heap.size := Nat.le_trans hn0 hBr.size
      clear hg3 hg6 hg7
      go_wp2_with (at_builtin; refine app_row rfl (.tmp 18) (.tmp 19) 90 rfl Try.underlying90 infoInt rfl wo hh _ g cap Hhl.out Hap.out rfl rfl (by omega) (by omega) ?_; intro v1 w1 hrow hbl; have Hrow1 := hide hrow; have Hbl := hide hbl; clear hrow hbl)
      obtain ⟨g1, cap1, cur1, rfl, hk1, hk2, hk3, hk4, hk5, hk6, hk7⟩ := HRow.open_ Hrow1.out (by rw [Hhl.out]; omega)
      have Hm0 : Hid (HRow wo.heap.size w1 (.slice (some ⟨g1, 0, none⟩) x.symbols.length cap1) (midH x r hh 0)) := hide (by
        rw [midH_zero]
        have h := Hrow1.out
        rw [Hhl.out] at h
        exact h)
      rw [Hhl.out]
      have hcg1 : (x.symbols.length : Int) ≤ (cap1 : Int) := by have := Hhl.out; omega
      clear hk2 hk3 hk6 hk7 Hrow1 Hap
      have hgs := hg2
      go_loopw [6] (fun i wr => ∃ j : Nat, j ≤ x.symbols.length ∧ i = .int .i64 j ∧ Hid (HRow wo.heap.size wr (.slice (some ⟨g1, 0, none⟩) x.symbols.length cap1) (midH x r hh j)) ∧ Hid (Below wo.heap.size wo wr)) (fun i _ => x.symbols.length - (intOf i).toNat)
      case atStart => exact ⟨0, by omega, rfl, Hm0, Hbl⟩
      case round =>
        obtain ⟨j, hj, rfl, Hm, Hb2⟩ := hrel
        have hb2 := Hb2.out
        have hW2 : Below (w.heap.size + 1) W0 wr := hBr.trans (hb2.mono hbase)
        have Hww : Hid (Below w.heap.size w wr) := hide (Hw.out _ hW2)
        by_cases hlj : j < x.symbols.length
        · have hX : x.symbols[j]? = some x.symbols[j] := List.getElem?_eq_getElem hlj
          generalize x.symbols[j] = X at hX
          obtain ⟨b, off, cs, Fk, hA, _, hbF, hFk, hcl, hcat, hR⟩ := SlR.get (SymR.good D) Hs.out hX
          subst hA
          obtain ⟨c0, c1, rfl⟩ := list2 hcl
          have hc0 : c0 = .string X.name := Option.some.inj (by simpa using h_symName hR)
          subst hc0
          have HX := hide hX
          have hlb : b < w.heap.size := L.out b hbF
          have hcw := hcat.below Hww.out hlb
          have p0 : wr.cell? ⟨b, off + j * 2, none⟩ = some (.string X.name) := hcw 0 _ rfl
          have hv : hh[j]? = some hh[j] := List.getElem?_eq_getElem (by have := Hhl.out; omega)
          generalize hh[j] = v at hv
          have HV2 := hide hv
          have q9 : wr.cell? ⟨g, j, none⟩ = some (.int .i64 (v : Int)) := (hb2.cell (p := ⟨g, j, none⟩) hgs).trans (Hcl.out j v hv)
          have hj0 : (0 : Int) ≤ (j : Int) := by omega
          have hj1 : (j : Int) < (x.symbols.length : Int) := by omega
          have hs0 : w.heap.size + 1 ≤ wr.heap.size := Nat.le_trans hn0 hW2.size
          have hws : w.heap.size ≤ wr.heap.size := Hww.out.size
          clear hX hcat hFk hbF hcl hR hcw hv
          by_cases hv0 : v = 0
          · subst hv0
            have q0 := fun (W : World) (hW : Below wr.heap.size wr W) => e0 W (hW2.trans (hW.mono hs0))
            have q1 := fun (W : World) (hW : Below wr.heap.size wr W) => e1 W (hW2.trans (hW.mono hs0))
            have q2 : ∀ W : World, Below wr.heap.size wr W → W.cell? ⟨b, off + j * 2, none⟩ = some (.string X.name) := fun W hW => (hW.cell (p := ⟨b, off + j * 2, none⟩) (cell_lt p0)).trans p0
            have q3 : ∀ W : World, Below wr.heap.size wr W → W.cell? ⟨g, j, none⟩ = some (.int .i64 0) := fun W hW => (hW.cell (p := ⟨g, j, none⟩) (cell_lt q9)).trans q9
            have hrr : Below wr.heap.size wr wr := Below.refl _ _
            have Hrd : Hid (∀ W : World, Below w.heap.size w W → Below wo.heap.size wo W → Rd W W.heap.size (some ⟨g, 0, none⟩) x.symbols.length (hh.map enc)) := hide fun W _ h2 => by
              have h := HRow.rd (Ho.out.below h2)
              rw [Hhl.out] at h
              exact h
            clear p0 q9 e0 e1
            go_wp2_with fail
            go_region_held3 (fun W => Below wr.heap.size wr W) (first | assumption | exact Below.drew (by assumption))
              (first | (go_at_call 84; refine Calls.mono (s_l12Reached D x _ _ _ (HG.out _ (Hww.out.trans (Below.mono (by (repeat (first | assumption | exact Below.refl _ _ | apply Below.drew))) hws))) X.name hh Hhl.out _ _ _ (Hrd.out _ (Hww.out.trans (Below.mono (by (repeat (first | assumption | exact Below.refl _ _ | apply Below.drew))) hws)) (Hb2.out.trans (Below.mono (by (repeat (first | assumption | exact Below.refl _ _ | apply Below.drew))) Hb2.out.size)))) ?_; rintro en w3 ⟨rfl, hb1⟩; have hB1 : Below wr.heap.size wr w3 := below_step (by (repeat (first | assumption | exact Below.refl _ _ | apply Below.drew))) (Nat.le_refl _) hb1; clear hb1))
            have HB1 := hide (hb2.trans (hB1.mono hb2.size))
            have HmB := hide (Hm.out.below hB1)
            have hb1s := hB1.size
            cases hrc : reach x hh X.name
            · have Hkeep : Hid (midH x r hh (j + 1) = midH x r hh j) := hide (midH_keep HX.out HV2.out Hhl.out (newH_not hrc))
              go_wp2_with fail
              go_roundw
              case rel => exact ⟨j + 1, by omega, by go_num, hide (by rw [Hkeep.out]; exact HmB.out), HB1⟩
              case measure => simp [intOf]; omega
            · have Hset : Hid (midH x r hh (j + 1) = (midH x r hh j).set j r) := hide (by rw [midH_set HX.out HV2.out Hhl.out, newH_reach hrc])
              obtain ⟨cur3, hc3, hz3, hf3⟩ := HmB.out.blk (midH_len x r hh Hhl.out j) (by omega)
              have Hc3 := hide hc3
              have Hfit : Hid (j + 1 ≤ cur3.size) := hide (by omega)
              clear hc3 hz3
              go_wp2_with (refine wpList_store_any 3 (.tmp 47) (.tmp 46) rfl (cs := [enc r]) rfl Hi3.out (by simp [Region.wanted]) rfl rfl rfl (by simp [enc, Value.oneCell']) Hc3.out Hfit.out ?_; intro w4 hP; have HP := hide hP; clear hP)
              go_roundw
              case rel => exact ⟨j + 1, by omega, by go_num, hide (by rw [Hset.out]; exact HmB.out.set' (midH_len x r hh Hhl.out j) (by omega) Hc3.out HP.out), hide (HB1.out.trans (HP.out.below hk1))⟩
              case measure => simp [intOf]; omega
          · have Hkeep : Hid (midH x r hh (j + 1) = midH x r hh j) := hide (midH_keep HX.out HV2.out Hhl.out (newH_pos (by omega)))
            have hv1 : ((v : Int) == 0) = false := by simpa using hv0
            have hv2 : ¬ (v : Int) = 0 := by omega
            go_wp2_with fail
            go_quiet (fail)
            go_wp2_with fail
            go_roundw
            case rel => exact ⟨j + 1, by omega, by go_num, hide (by rw [Hkeep.out]; exact Hm.out.below (below_drewN (Below.refl _ _) _)), hide (below_drewN hb2 _)⟩
            case measure => simp [intOf]; omega
        · have hjl : j = x.symbols.length := by omega
          subst hjl
          have Hfin : Hid (HRow (w.heap.size + 1) wr (.slice (some ⟨g1, 0, none⟩) x.symbols.length cap1) (hts x r)) := hide (by
            have h := Hm.out
            rw [midH_all x r hh Hhl.out, ← Hstep.out] at h
            exact h.mono hbase)
          go_wp2_with fail
          go_roundw
          case rel => exact ⟨r + 1, by omega, by omega, by go_num, hide (by rw [Nat.add_sub_cancel]; exact Hfin.out), hide hW2⟩
          case measure => simp [intOf]; omega
    · obtain rfl : r = x.symbols.length + 1 := by omega
      rw [Nat.add_sub_cancel] at Ho
      obtain ⟨Ao, co, rfl, hl1, hm1⟩ := HRow.form Ho.out
      rw [Hlen.out] at Ho ⊢
      go_wp2_with fail
      go_ret
      have h := Ho.out.rd
      rw [Hlen.out] at h
      exact ⟨Ao, co, rfl, h, Hw.out _ hBr⟩
end Go.Proofs.Ytfbcipfionhhaaa
