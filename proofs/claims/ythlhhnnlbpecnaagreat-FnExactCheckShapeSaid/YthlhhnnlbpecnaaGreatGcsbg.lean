/- Several texts of one proof in one file: The shape check: the reference. Valid symbols: the program. Conditions: each theorem names its own. -/
import Derived.Test.YthlhhnnlbpecnaaGreatGcsar
import Derived.Test.YthlhhnnlbpecnaaGreatGcsas
import Derived.Test.YthlhhnnlbpecnaaGreatGcsbf
import Derived.Test.YthlhhnnlbpecnaaGreatGcsav

/- The shape check: the reference. Conditions: the grammar has at most the size 2^20. -/
namespace Go.Proofs.YthlhhnnlbpecnaaGreat
set_option linter.unusedSimpArgs false
set_option linter.unusedVariables false
set_option maxRecDepth 100000
open Go.RowKit Go.WideShapes
set_option linter.unusedVariables false

set_option maxRecDepth 100000 in
set_option maxHeartbeats 4000000 in
theorem s_CheckShape (D : Nat) (g : Grm) (cg : List Value) (Fg : List Nat) (w : World) (hg : GrmR D w g cg Fg) (hbg : bulkGrm D g ≤ 1048576) (hD : 0 < D) :
    Calls Tryz.prog 5 #[.agg cg.toArray] w fun en w' => en = .returned (.tuple #[.int .i64 (chk D g).1, .int .i64 (chk D g).2]) ∧ Below w.heap.size w w' := by
  have hls := bulk_nsyms hbg
  have hlr := bulk_nrules hbg
  obtain ⟨gc0, gc1, rfl⟩ := list2 ((GrmR.good D).len hg)
  have LG := hide ((GrmR.good D).lt hg)
  obtain ⟨A0, k0, A1, k1, F0, F1, rfl, rfl, hs0, hs1, hk0, hk1⟩ := grm_open hg
  have Hg : Hid (∀ W : World, Below w.heap.size w W → GrmR D W g [.slice A0 g.symbols.length k0, .slice A1 g.rules.length k1] Fg) := hide fun W hW => (GrmR.good D).below hg hW LG.out
  have L0 := hide (hs0.lt (SymR.good D))
  have L1 := hide (hs1.lt (RulR.good D))
  have Hs0 : Hid (∀ W : World, Below w.heap.size w W → SlR 2 (SymR D) W g.symbols (.slice A0 g.symbols.length k0) F0) := hide fun W hW => hs0.below (SymR.good D) hW L0.out
  have Hs1 : Hid (∀ W : World, Below w.heap.size w W → SlR 6 (RulR D) W g.rules (.slice A1 g.rules.length k1) F1) := hide fun W hW => hs1.below (RulR.good D) hW L1.out
  have Hig : Hid ((Tryz.prog.info? 32).map (·.size) = some 2) := hide (by kernel_rfl)
  have Hir : Hid ((Tryz.prog.info? 50).map (·.size) = some 6) := hide (by kernel_rfl)
  have His : Hid ((Tryz.prog.info? 42).map (·.size) = some 2) := hide (by kernel_rfl)
  have Hbs := hide (bulk_syms hbg)
  have Hbr := hide (bulk_rules hbg)
  have Hbg := hide hbg
  have hk0i : (g.symbols.length : Int) ≤ (k0 : Int) := by omega
  have hk1i : (g.rules.length : Int) ≤ (k1 : Int) := by omega
  obtain ⟨CG, hz0, hw0⟩ := boxes1 w [.slice A0 g.symbols.length k0, .slice A1 g.rules.length k1] 32
  show Calls _ _ #[.agg #[.slice A0 g.symbols.length k0, .slice A1 g.rules.length k1]] w _
  clear hg hs0 hs1 hbg
  go_enter Tryz.func5, Tryz.ntmps5
  go_wp2_with fail
  generalize w.alloc (Obj.cells #[.slice A0 g.symbols.length k0, .slice A1 g.rules.length k1] 32) = W0 at CG hz0 hw0 ⊢
  have hn0 : w.heap.size + 1 ≤ W0.heap.size := by omega
  have Hw : Hid (∀ W : World, Below (w.heap.size + 1) W0 W → Below w.heap.size w W) := hide fun W h => hw0.trans (h.mono (by omega))
  have HcG : Hid (∀ W : World, Below (w.heap.size + 1) W0 W → CellsAt W w.heap.size 0 [.slice A0 g.symbols.length k0, .slice A1 g.rules.length k1]) := hide fun W h => CG.below h (by omega)
  have hB0 : Below (w.heap.size + 1) W0 W0 := Below.refl _ _
  have a0 := cell_rule CG (n := w.heap.size + 1) (by omega) 0 rfl
  have a1 := cell_rule CG (n := w.heap.size + 1) (by omega) 1 rfl
  have hBa0 : ∀ (W : World) (o : Obj), Below (w.heap.size + 1) W0 W → Below (w.heap.size + 1) W0 (W.alloc o) := fun W o h => below_alloc hn0 o h
  have Hz0 := hide hz0
  clear CG hz0 hw0
  obtain ⟨p1, hp1⟩ : ∃ p, p = inR g.symbols.length 1 4 := ⟨_, rfl⟩
  obtain ⟨p2, hp2⟩ : ∃ p, p = inR g.rules.length 1 8 := ⟨_, rfl⟩
  have Hp1 := hide hp1
  have Hp2 := hide hp2
  have C1 : Hid (∀ W : World, Calls Tryz.prog 11 #[.int .i64 (g.symbols.length : Int), .int .i64 1, .int .i64 4] W fun en w' => en = .returned (.bool p1) ∧ W = w') := hide fun W => hp1 ▸ s_l1In _ _ _ W
  have C2 : Hid (∀ W : World, Calls Tryz.prog 11 #[.int .i64 (g.rules.length : Int), .int .i64 1, .int .i64 8] W fun en w' => en = .returned (.bool p2) ∧ W = w') := hide fun W => hp2 ▸ s_l1In _ _ _ W
  clear hp1 hp2
  go_wp2_with fail
  refine Calls.mono (C1.out _) ?_
  rintro en w' ⟨rfl, rfl⟩
  cases p1
  · have Hres := hide (chk_size (D := D) (.inl Hp1.out.symm))
    go_wp2_with fail
    exact bodyPost_ret (v := .tuple #[.int .i64 (1), .int .i64 (0)]) (by simp [results, Tryz.results5, go_sem]) rfl ⟨ret_pair Hres.out rfl rfl, Hw.out _ hB0⟩
  go_wp2_with fail
  refine Calls.mono (C2.out _) ?_
  rintro en w' ⟨rfl, rfl⟩
  cases p2
  · have Hres := hide (chk_size (D := D) (.inr Hp2.out.symm))
    go_wp2_with fail
    exact bodyPost_ret (v := .tuple #[.int .i64 (1), .int .i64 (0)]) (by simp [results, Tryz.results5, go_sem]) rfl ⟨ret_pair Hres.out rfl rfl, Hw.out _ hB0⟩
  have HSF := hide (s_l11Bad D g _ Fg _ (Hg.out _ (Hw.out _ hB0)) Hbg.out)
  go_wp2_with fail
  refine Calls.mono HSF.out ?_
  rintro en w1 ⟨rfl, hb⟩
  have hB1 := below_step hB0 hn0 hb
  clear hb HSF
  by_cases hv : 0 ≤ badG D g
  · have Hres := hide (chk_bad (D := D) Hp1.out.symm Hp2.out.symm hv)
    go_wp2_with fail
    exact bodyPost_ret (v := .tuple #[.int .i64 (1), .int .i64 (badG D g)]) (by simp [results, Tryz.results5, go_sem]) rfl ⟨ret_pair Hres.out rfl rfl, Hw.out _ hB1⟩
  have hvn : badG D g < 0 := by omega
  have Hv := hide hvn
  have hlen0 : 0 < g.symbols.length := by
    have h := Hp1.out
    unfold inR at h
    simp at h
    omega
  have hli : (0 : Int) < (g.symbols.length : Int) := by omega
  have hX : g.symbols[0]? = some g.symbols[0] := List.getElem?_eq_getElem hlen0
  have hstart := start_at hX
  generalize g.symbols[0] = X at hX hstart
  obtain ⟨bs, offs, cs, Fk, hA, _, hbF, hFk, hcl, hcat, hR⟩ := SlR.get (SymR.good D) (Hs0.out W0 (Hw.out W0 hB0)) hX
  subst hA
  obtain ⟨c0, c1, rfl⟩ := list2 hcl
  obtain ⟨v1, F1', _, hk, h0, ⟨h1, g1⟩, hFe⟩ := hR
  obtain rfl := Option.some.inj h0
  obtain rfl := Option.some.inj h1
  obtain ⟨Aa, ka, rfl, hla, hma⟩ := g1.form
  unfold maxLen at hma
  have hlb2 : bs < w.heap.size + 1 := by have := L0.out bs hbF; omega
  have HFa : Hid (∀ m ∈ F1', m < w.heap.size + 1) := hide fun m hm => by have := L0.out m (hFk m (hFe ▸ hm)); omega
  have hat : X.attrs.length ≤ 1048576 := bulk_attrs (Hbs.out X (List.mem_of_getElem? hX))
  have Hga := hide g1
  have Hst := hide hstart
  simp only [Nat.zero_mul, Nat.add_zero] at hcat
  have es1 : ∀ W : World, Below (w.heap.size + 1) W0 W → W.cell? ⟨bs, offs + 1, none⟩ = some (.slice Aa X.attrs.length ka) := fun W h => (hcat.below h hlb2) 1 _ rfl
  have HB1 := hide hB1
  clear hX hstart hbF hFk hcl hcat hk h0 h1 g1 hFe hma
  go_wp2_with fail
  go_loopw [5] (fun i wr => ∃ j : Nat, j ≤ X.attrs.length ∧ i = .int .i64 j ∧ Hid ((X.attrs.take j).any (fun a => a.mode == 1) = false) ∧ Hid (Below (w.heap.size + 1) W0 wr)) (fun i _ => X.attrs.length - (intOf i).toNat)
  case atStart => exact ⟨0, by omega, rfl, hide rfl, HB1⟩
  case round =>
    clear hB1
    obtain ⟨j, hj, rfl, Hno, Hb⟩ := hrel
    have hBr := Hb.out
    by_cases hlt : j < X.attrs.length
    · have hY : X.attrs[j]? = some X.attrs[j] := List.getElem?_eq_getElem hlt
      generalize X.attrs[j] = Y at hY
      obtain ⟨ba, offa, cs, Fk, hA, _, hbF, hFk, hcl, hcat, hR⟩ := SlR.get (AtrR.good D) Hga.out hY
      subst hA
      obtain ⟨c0, c1, c2, c3, rfl⟩ := list4 hcl
      obtain ⟨_, hk, h0, h1, h2, h3, hFe⟩ := hR
      obtain rfl := Option.some.inj h2
      have hba : ba < w.heap.size + 1 := HFa.out ba hbF
      have ea2 : ∀ W : World, Below (w.heap.size + 1) W0 W → W.cell? ⟨ba, offa + j * 4 + 2, none⟩ = some (.int .i64 Y.mode) := fun W h => (hcat.below h hba) 2 _ rfl
      have HY := hide hY
      have hj0 : (0 : Int) ≤ (j : Int) := by omega
      have hj1 : (j : Int) < (X.attrs.length : Int) := by omega
      clear hY hbF hFk hcl hcat hk h0 h1 h2 h3 hFe
      by_cases hm : Y.mode = 1
      · have Hs : Hid (startB g = true) := hide (by rw [Hst.out]; exact any_at HY.out (show (Y.mode == 1) = true by rw [hm]; rfl))
        have Hres := hide (chk_start (D := D) Hp1.out.symm Hp2.out.symm Hv.out Hs.out)
        go_wp2_with fail
        exact bodyPost_ret (v := .tuple #[.int .i64 (2), .int .i64 (0)]) (by simp [results, Tryz.results5, go_sem]) rfl ⟨ret_pair Hres.out rfl rfl, Hw.out _ hBr⟩
      · have Hno2 := hide (any_next (p := fun a : Atr => a.mode == 1) HY.out Hno.out (show (Y.mode == 1) = false from beq_eq_false_iff_ne.2 hm))
        have hmd : decide (Y.mode = 1) = false := decide_eq_false hm
        go_wp2_with fail
        go_roundw
        case rel => exact ⟨j + 1, by omega, by go_num, Hno2, Hb⟩
        case measure => simp [intOf]; omega
    · have hjl : j = X.attrs.length := by omega
      have hj1 : ¬ (j : Int) < (X.attrs.length : Int) := by omega
      have Hp3 : Hid (false = startB g) := hide (by have := Hno.out; rw [hjl, List.take_length] at this; rw [Hst.out, this])
      obtain ⟨wo, rfl⟩ : ∃ wo, wo = wr := ⟨_, rfl⟩
      have HBo := hide hBr
      clear Hno
      go_wp2_with fail
      go_loopw [6] (fun v wr => ∃ c : Nat, 3 ≤ c ∧ c ≤ 7 ∧ v = .int .i64 c ∧ Hid (FromC D g c) ∧ Hid (Below (w.heap.size + 1) W0 wr)) (fun v _ => 7 - (intOf v).toNat)
      case atStart => exact ⟨3, by omega, by omega, rfl, hide (show FromC D g 3 from rfl), HBo⟩
      case round =>
        clear hj hjl hj1 hBr Hb
        obtain ⟨c, hc3, hc7, rfl, Hf, Hb⟩ := hrel
        have hBr := Hb.out
        by_cases hc6 : c ≤ 6
        · have hci : (c : Int) ≤ 6 := by omega
          obtain ⟨wo2, rfl⟩ : ∃ wo2, wo2 = wr := ⟨_, rfl⟩
          go_wp2_with fail
          go_loopw [7] (fun i wr => ∃ j : Nat, j ≤ g.rules.length ∧ i = .int .i64 j ∧ Hid (∀ (m : Nat) (y : Rul), m < j → g.rules[m]? = some y → brk D g c y = false) ∧ Hid (Below (w.heap.size + 1) W0 wr)) (fun i _ => g.rules.length - (intOf i).toNat)
          case atStart => exact ⟨0, by omega, rfl, hide (fun m y hm => absurd hm (by omega)), Hb⟩
          case round =>
            clear hBr
            obtain ⟨j, hj, rfl, Hno, Hb⟩ := hrel
            have hBr := Hb.out
            have hbase : w.heap.size + 1 ≤ wr.heap.size := Nat.le_trans hn0 hBr.size
            by_cases hlt : j < g.rules.length
            · have hX : g.rules[j]? = some g.rules[j] := List.getElem?_eq_getElem hlt
              generalize g.rules[j] = Y at hX
              obtain ⟨b, off, cs, Fk, hA, _, hbF, hFk, hcl, hcat, hR⟩ := SlR.get (RulR.good D) (Hs1.out W0 (Hw.out W0 hB0)) hX
              subst hA
              obtain ⟨c0, c1, c2, c3, c4, c5, rfl⟩ := list_6 hcl
              have HX := hide hX
              have HbX := hide (Hbr.out Y (List.mem_of_getElem? hX))
              have HJ : Hid (ReqJ D g Y) := hide (ReqJ.of_short Hbg.out HbX.out (Nat.le_trans (badG_good (Int.not_le.2 Hv.out) (List.mem_of_getElem? hX)) (by decide)))
              have hlb : b < w.heap.size + 1 := by have := L1.out b hbF; omega
              have HFk : Hid (∀ m ∈ Fk, m < w.heap.size + 1) := hide fun m hm => by have := L1.out m (hFk m hm); omega
              have HR := hide hR
              have HW : Hid (∀ W : World, Below wr.heap.size wr W → Below (w.heap.size + 1) W0 W) := hide fun W h => hBr.trans (h.mono hbase)
              have HcE : Hid (∀ W : World, Below wr.heap.size wr W → CellsAt W b (off + j * 6) [c0, c1, c2, c3, c4, c5]) := hide fun W h => hcat.below (HW.out W h) hlb
              have hj0 : (0 : Int) ≤ (j : Int) := by omega
              have hj1 : (j : Int) < (g.rules.length : Int) := by omega
              obtain ⟨q, hq⟩ : ∃ q, q = brk D g c Y := ⟨_, rfl⟩
              have Hq := hide hq.symm
              have Hbk : Hid (∀ W : World, Below wr.heap.size wr W → Calls Tryz.prog 13 #[.agg #[.slice (some ⟨bs, offs, none⟩) g.symbols.length k0, .slice (some ⟨b, off, none⟩) g.rules.length k1], .agg #[c0, c1, c2, c3, c4, c5], .int .i64 (c : Int)] W fun en w' => en = .returned (.bool q) ∧ Below W.heap.size W w') := hide fun W h => hq ▸ s_l11Breaks D g Y _ _ Fg Fk W (Hg.out W (Hw.out W (HW.out W h))) ((RulR.good D).below HR.out (HW.out W h) HFk.out) Hbg.out HbX.out HJ.out hD c hc3 hc6
              clear hX hbF hFk hcl hcat hR hq
              go_wp2_with fail
              refine region_invA (fun a0 l a' w' => ∃ x0 x1 x2 x3 x4 x5 x6 x7 : Value, a' = ((((((((a0.put (some 56) x0).put (some 57) x1).put (some 58) x2).put (some 59) x3).put (some 60) x4).put (some 61) x5).put (some 62) x6).put (some 63) x7) ∧ (l 7 = true → ∀ i, i < 7 → l i = true) ∧ (l 7 = true → x7 = .bool q ∧ Below wr.heap.size wr w') ∧ (l 7 = false → Below wr.heap.size wr w' ∧ (l 0 = true → x0 = .agg #[.slice (some ⟨bs, offs, none⟩) g.symbols.length k0, .slice (some ⟨b, off, none⟩) g.rules.length k1]) ∧ (l 1 = true → x1 = .pointer (some ⟨w.heap.size, 1, none⟩)) ∧ (l 2 = true → x2 = .slice (some ⟨b, off, none⟩) g.rules.length k1) ∧ (l 3 = true → x3 = .int .i64 (j : Int)) ∧ (l 4 = true → x4 = .pointer (some ⟨b, off + j * 6, none⟩)) ∧ (l 5 = true → x5 = .agg #[c0, c1, c2, c3, c4, c5]) ∧ (l 6 = true → x6 = .int .i64 (c : Int)))) rfl (by kernel_rfl) ?h0 ?hstep ?hend
              case h0 => exact ⟨u56, u57, u58, u59, u60, u61, u62, u63, by kernel_rfl, fun h => absurd h (by decide), fun h => absurd h (by decide), fun _ => ⟨(Below.refl _ _).drew, fun h => absurd h (by decide), fun h => absurd h (by decide), fun h => absurd h (by decide), fun h => absurd h (by decide), fun h => absurd h (by decide), fun h => absurd h (by decide), fun h => absurd h (by decide)⟩⟩
              case hstep =>
                refine ⟨?s0, ?s1, ?s2, ?s3, ?s4, ?s5, ?s6, ?s7, trivial⟩
                case s0 =>
                  intro l a' w' hk hpre hJ K hK
                  obtain ⟨x0, x1, x2, x3, x4, x5, x6, x7, ha, hall, hfin, hfs⟩ := hJ
                  have h12 : l 7 = false := upd_last hall hk (by decide)
                  clear hall hfin
                  obtain ⟨hB, f0, f1, f2, f3, f4, f5, f6⟩ := hfs h12
                  clear hfs
                  refine step_load rfl 32 (.tmp 1) rfl Tryz.underlying32 rfl (cs := [.slice (some ⟨bs, offs, none⟩) g.symbols.length k0, .slice (some ⟨b, off, none⟩) g.rules.length k1]) (b := w.heap.size) (off := 0) Hig.out (by rw [ha]; kernel_rfl) rfl (HcG.out _ (HW.out _ hB)) ?_
                  subst ha
                  exact hK.out _ _ ⟨.agg #[.slice (some ⟨bs, offs, none⟩) g.symbols.length k0, .slice (some ⟨b, off, none⟩) g.rules.length k1], x1, x2, x3, x4, x5, x6, x7, by kernel_rfl, fun h => absurd (updL_ne h (by decide)) (by rw [h12]; decide), fun h => absurd (updL_ne h (by decide)) (by rw [h12]; decide), fun _ => ⟨hB, fun _ => rfl, fun h => f1 (updL_ne h (by decide)), fun h => f2 (updL_ne h (by decide)), fun h => f3 (updL_ne h (by decide)), fun h => f4 (updL_ne h (by decide)), fun h => f5 (updL_ne h (by decide)), fun h => f6 (updL_ne h (by decide))⟩⟩
                case s1 =>
                  intro l a' w' hk hpre hJ K hK
                  obtain ⟨x0, x1, x2, x3, x4, x5, x6, x7, ha, hall, hfin, hfs⟩ := hJ
                  have h12 : l 7 = false := upd_last hall hk (by decide)
                  clear hall hfin
                  obtain ⟨hB, f0, f1, f2, f3, f4, f5, f6⟩ := hfs h12
                  clear hfs
                  subst ha
                  go_simp
                  exact hK.out _ _ ⟨x0, .pointer (some ⟨w.heap.size, 1, none⟩), x2, x3, x4, x5, x6, x7, by kernel_rfl, fun h => absurd (updL_ne h (by decide)) (by rw [h12]; decide), fun h => absurd (updL_ne h (by decide)) (by rw [h12]; decide), fun _ => ⟨hB, fun h => f0 (updL_ne h (by decide)), fun _ => rfl, fun h => f2 (updL_ne h (by decide)), fun h => f3 (updL_ne h (by decide)), fun h => f4 (updL_ne h (by decide)), fun h => f5 (updL_ne h (by decide)), fun h => f6 (updL_ne h (by decide))⟩⟩
                case s2 =>
                  intro l a' w' hk hpre hJ K hK
                  obtain ⟨x0, x1, x2, x3, x4, x5, x6, x7, ha, hall, hfin, hfs⟩ := hJ
                  have h12 : l 7 = false := upd_last hall hk (by decide)
                  clear hall hfin
                  obtain ⟨hB, f0, f1, f2, f3, f4, f5, f6⟩ := hfs h12
                  clear hfs
                  have p1 : l 1 = true := hpre 1 (by kernel_rfl)
                  obtain rfl := f1 p1
                  have hB9 := HW.out _ hB
                  subst ha
                  go_simp
                  exact hK.out _ _ ⟨x0, .pointer (some ⟨w.heap.size, 1, none⟩), .slice (some ⟨b, off, none⟩) g.rules.length k1, x3, x4, x5, x6, x7, by kernel_rfl, fun h => absurd (updL_ne h (by decide)) (by rw [h12]; decide), fun h => absurd (updL_ne h (by decide)) (by rw [h12]; decide), fun _ => ⟨hB, fun h => f0 (updL_ne h (by decide)), fun h => f1 (updL_ne h (by decide)), fun _ => rfl, fun h => f3 (updL_ne h (by decide)), fun h => f4 (updL_ne h (by decide)), fun h => f5 (updL_ne h (by decide)), fun h => f6 (updL_ne h (by decide))⟩⟩
                case s3 =>
                  intro l a' w' hk hpre hJ K hK
                  obtain ⟨x0, x1, x2, x3, x4, x5, x6, x7, ha, hall, hfin, hfs⟩ := hJ
                  have h12 : l 7 = false := upd_last hall hk (by decide)
                  clear hall hfin
                  obtain ⟨hB, f0, f1, f2, f3, f4, f5, f6⟩ := hfs h12
                  clear hfs
                  subst ha
                  go_simp
                  exact hK.out _ _ ⟨x0, x1, x2, .int .i64 (j : Int), x4, x5, x6, x7, by kernel_rfl, fun h => absurd (updL_ne h (by decide)) (by rw [h12]; decide), fun h => absurd (updL_ne h (by decide)) (by rw [h12]; decide), fun _ => ⟨hB, fun h => f0 (updL_ne h (by decide)), fun h => f1 (updL_ne h (by decide)), fun h => f2 (updL_ne h (by decide)), fun _ => rfl, fun h => f4 (updL_ne h (by decide)), fun h => f5 (updL_ne h (by decide)), fun h => f6 (updL_ne h (by decide))⟩⟩
                case s4 =>
                  intro l a' w' hk hpre hJ K hK
                  obtain ⟨x0, x1, x2, x3, x4, x5, x6, x7, ha, hall, hfin, hfs⟩ := hJ
                  have h12 : l 7 = false := upd_last hall hk (by decide)
                  clear hall hfin
                  obtain ⟨hB, f0, f1, f2, f3, f4, f5, f6⟩ := hfs h12
                  clear hfs
                  have p2 : l 2 = true := hpre 2 (by kernel_rfl)
                  have p3 : l 3 = true := hpre 3 (by kernel_rfl)
                  obtain rfl := f2 p2
                  obtain rfl := f3 p3
                  subst ha
                  go_simp
                  exact hK.out _ _ ⟨x0, x1, .slice (some ⟨b, off, none⟩) g.rules.length k1, .int .i64 (j : Int), .pointer (some ⟨b, off + j * 6, none⟩), x5, x6, x7, by kernel_rfl, fun h => absurd (updL_ne h (by decide)) (by rw [h12]; decide), fun h => absurd (updL_ne h (by decide)) (by rw [h12]; decide), fun _ => ⟨hB, fun h => f0 (updL_ne h (by decide)), fun h => f1 (updL_ne h (by decide)), fun h => f2 (updL_ne h (by decide)), fun h => f3 (updL_ne h (by decide)), fun _ => rfl, fun h => f5 (updL_ne h (by decide)), fun h => f6 (updL_ne h (by decide))⟩⟩
                case s5 =>
                  intro l a' w' hk hpre hJ K hK
                  obtain ⟨x0, x1, x2, x3, x4, x5, x6, x7, ha, hall, hfin, hfs⟩ := hJ
                  have h12 : l 7 = false := upd_last hall hk (by decide)
                  clear hall hfin
                  obtain ⟨hB, f0, f1, f2, f3, f4, f5, f6⟩ := hfs h12
                  clear hfs
                  have p4 : l 4 = true := hpre 4 (by kernel_rfl)
                  obtain rfl := f4 p4
                  refine step_load rfl 50 (.tmp 60) rfl Tryz.underlying50 rfl (cs := [c0, c1, c2, c3, c4, c5]) (b := b) (off := off + j * 6) Hir.out (by rw [ha]; kernel_rfl) rfl (HcE.out _ hB) ?_
                  subst ha
                  exact hK.out _ _ ⟨x0, x1, x2, x3, .pointer (some ⟨b, off + j * 6, none⟩), .agg #[c0, c1, c2, c3, c4, c5], x6, x7, by kernel_rfl, fun h => absurd (updL_ne h (by decide)) (by rw [h12]; decide), fun h => absurd (updL_ne h (by decide)) (by rw [h12]; decide), fun _ => ⟨hB, fun h => f0 (updL_ne h (by decide)), fun h => f1 (updL_ne h (by decide)), fun h => f2 (updL_ne h (by decide)), fun h => f3 (updL_ne h (by decide)), fun h => f4 (updL_ne h (by decide)), fun _ => rfl, fun h => f6 (updL_ne h (by decide))⟩⟩
                case s6 =>
                  intro l a' w' hk hpre hJ K hK
                  obtain ⟨x0, x1, x2, x3, x4, x5, x6, x7, ha, hall, hfin, hfs⟩ := hJ
                  have h12 : l 7 = false := upd_last hall hk (by decide)
                  clear hall hfin
                  obtain ⟨hB, f0, f1, f2, f3, f4, f5, f6⟩ := hfs h12
                  clear hfs
                  subst ha
                  go_simp
                  exact hK.out _ _ ⟨x0, x1, x2, x3, x4, x5, .int .i64 (c : Int), x7, by kernel_rfl, fun h => absurd (updL_ne h (by decide)) (by rw [h12]; decide), fun h => absurd (updL_ne h (by decide)) (by rw [h12]; decide), fun _ => ⟨hB, fun h => f0 (updL_ne h (by decide)), fun h => f1 (updL_ne h (by decide)), fun h => f2 (updL_ne h (by decide)), fun h => f3 (updL_ne h (by decide)), fun h => f4 (updL_ne h (by decide)), fun h => f5 (updL_ne h (by decide)), fun _ => rfl⟩⟩
                case s7 =>
                  intro l a' w' hk hpre hJ K hK
                  obtain ⟨x0, x1, x2, x3, x4, x5, x6, x7, ha, hall, hfin, hfs⟩ := hJ
                  have h12 : l 7 = false := hk
                  clear hall hfin
                  obtain ⟨hB, f0, f1, f2, f3, f4, f5, f6⟩ := hfs h12
                  clear hfs
                  have p0 : l 0 = true := hpre 0 (by kernel_rfl)
                  have p5 : l 5 = true := hpre 5 (by kernel_rfl)
                  have p6 : l 6 = true := hpre 6 (by kernel_rfl)
                  obtain rfl := f0 p0
                  obtain rfl := f5 p5
                  obtain rfl := f6 p6
                  subst ha
                  go_simp
                  go_at_call 13
                  refine Calls.mono (Hbk.out w' hB) ?_
                  rintro en w2 ⟨rfl, hb2⟩
                  exact hK.out _ _ ⟨.agg #[.slice (some ⟨bs, offs, none⟩) g.symbols.length k0, .slice (some ⟨b, off, none⟩) g.rules.length k1], x1, x2, x3, x4, .agg #[c0, c1, c2, c3, c4, c5], .int .i64 (c : Int), .bool q, by kernel_rfl, fun _ => deep_all hpre (by kernel_rfl) _, fun _ => ⟨rfl, hB.trans (hb2.mono hB.size)⟩, fun h => absurd h (by simp [updL])⟩
              case hend =>
                intro l a' w' hl hJ
                obtain ⟨x0, x1, x2, x3, x4, x5, x6, x7, ha, _, hfin, _⟩ := hJ
                simp [go_sem] at ha
                subst ha
                replace hfin := hfin (hl 7 (by decide))
                clear hl
                obtain ⟨rfl, hB⟩ := hfin
                have HB2 := hide (HW.out _ hB)
                clear hB
                cases q
                · have Hno2 := hide (brk_next Hno.out HX.out Hq.out)
                  go_wp2_with fail
                  go_roundw
                  case rel => exact ⟨j + 1, by omega, by go_num, Hno2, HB2⟩
                  case measure => simp [intOf]; omega
                · have Hres := hide (chk_hit Hp1.out.symm Hp2.out.symm Hv.out Hp3.out.symm hc6 Hf.out Hno.out HX.out Hq.out)
                  go_wp2_with fail
                  exact bodyPost_ret (v := .tuple #[.int .i64 ((c : Int)), .int .i64 ((j : Int))]) (by simp [results, Tryz.results5, go_sem]) rfl ⟨ret_pair Hres.out rfl rfl, Hw.out _ HB2.out⟩
            · have hjl : j = g.rules.length := by omega
              have hj1 : ¬ (j : Int) < (g.rules.length : Int) := by omega
              have Hf2 := hide (code_next hc6 Hf.out Hno.out hjl)
              go_wp2_with fail
              go_roundw
              case rel => exact ⟨c + 1, by omega, by omega, by go_num, Hf2, Hb⟩
              case measure => simp [intOf]; omega
        · have hc : c = 7 := by omega
          have hci : ¬ (c : Int) ≤ 6 := by omega
          have Hres := hide (chk_none Hp1.out.symm Hp2.out.symm Hv.out Hp3.out.symm hc Hf.out)
          go_wp2_with fail
          exact bodyPost_ret (v := .tuple #[.int .i64 (0), .int .i64 (0)]) (by simp [results, Tryz.results5, go_sem]) rfl ⟨ret_pair Hres.out rfl rfl, Hw.out _ hBr⟩
end Go.Proofs.YthlhhnnlbpecnaaGreat

/- Valid symbols: the program. Conditions: a symbol has at most 2^20 attributes. -/
namespace Go.Proofs.YthlhhnnlbpecnaaGreat
set_option linter.unusedSimpArgs false
set_option linter.unusedVariables false
set_option maxRecDepth 100000
open Go.RowKit Go.WideShapes
set_option linter.unusedVariables false

theorem sym_short {D : Nat} {x : Sym} (h : bulkSym D x ≤ 1048576) : x.attrs.length ≤ 1048576 := by
  have := sumBy_nonneg (bulkAtr_nonneg D) x.attrs
  unfold bulkSym at h
  omega
theorem has_any (l : List Atr) (j : Nat) (an : ByteArray) : (l.take j).any (fun a => a.name.toList == an.toList) = hasS ((l.map (·.name)).take j) an := by
  unfold hasS
  rw [← List.map_take, List.any_map]
  rfl
/-- Valid, and no earlier one of the same name. -/
def okA (l : List Atr) (j : Nat) : Bool := match l[j]? with | some y => vA y && !(l.take j).any (fun a => a.name.toList == y.name.toList) | none => true
theorem okA_at {l : List Atr} {j : Nat} {y : Atr} (h : l[j]? = some y) : okA l j = (vA y && !(l.take j).any (fun a => a.name.toList == y.name.toList)) := by unfold okA; rw [h]
theorem okA_all (x : Sym) : (List.range x.attrs.length).all (okA x.attrs) = (x.attrs.all vA && distS (nms x)) := by
  rw [Bool.eq_iff_iff]
  simp only [List.all_eq_true, List.mem_range, Bool.and_eq_true, distS, nms_len]
  constructor
  · intro h
    refine ⟨fun y hy => ?_, fun j hj => ?_⟩
    · obtain ⟨j, hj⟩ := List.getElem?_of_mem hy
      have := h j (List.getElem?_eq_some_iff.1 hj).1
      rw [okA_at hj] at this
      simp at this
      exact this.1
    · have hx : x.attrs[j]? = some x.attrs[j] := List.getElem?_eq_getElem hj
      have := h j hj
      rw [okA_at hx, has_any] at this
      rw [disB_at (x := x.attrs[j].name) (by simp [nms, hx])]
      simp at this
      simpa [nms] using this.2
  · rintro ⟨h1, h2⟩ j hj
    have hx : x.attrs[j]? = some x.attrs[j] := List.getElem?_eq_getElem hj
    have h3 := h2 j hj
    rw [disB_at (x := x.attrs[j].name) (by simp [nms, hx])] at h3
    rw [okA_at hx, has_any, h1 _ (List.mem_of_getElem? hx)]
    simpa [nms] using h3
theorem all_range_bad {f : Nat → Bool} {n j : Nat} (hj : j < n) (h : f j = false) : (List.range n).all f = false := by
  rw [List.all_eq_false]
  exact ⟨j, by simp; exact hj, by simp [h]⟩
theorem all_range_next {f : Nat → Bool} {j : Nat} (h : (List.range j).all f = true) (hj : f j = true) : (List.range (j + 1)).all f = true := by
  rw [List.range_succ, List.all_append, h]
  simp [hj]
theorem validY_eq (x : Sym) : validY x = ((List.range x.attrs.length).all (okA x.attrs) && (validN x.name && decide (x.attrs.length ≤ 4))) := by
  rw [okA_all]
  unfold validY
  cases x.attrs.all vA <;> cases validN x.name <;> cases decide (x.attrs.length ≤ 4) <;> cases distS (nms x) <;> rfl
set_option maxRecDepth 100000 in
set_option maxHeartbeats 2000000 in
theorem i_IsValidSymbol (D : Nat) (x : Sym) (cs : List Value) (F : List Nat) (w : World) (h : SymR D w x cs F) (hn : x.attrs.length ≤ 1048576) :
    Calls Tryz.prog 37 #[.agg cs.toArray] w fun en w' => en = .returned (.bool (validY x)) ∧ Below w.heap.size w w' := by
  obtain ⟨c0, c1, rfl⟩ := list2 ((SymR.good D).len h)
  obtain ⟨v1, F1, _, hk, h0, ⟨h1, g1⟩, rfl⟩ := h
  obtain rfl := Option.some.inj h0
  obtain rfl := Option.some.inj h1
  obtain ⟨A, cap, rfl, hlc, hm⟩ := g1.form
  have Hname := hide hk.name
  have HF := hide (g1.lt (AtrR.good D))
  have Hs := hide g1
  have Hv := hide (validY_eq x)
  have hmm : x.attrs.length ≤ 9223372036854775807 := by omega
  have hcc : (x.attrs.length : Int) ≤ (cap : Int) := by omega
  clear hk g1 hlc hm
  obtain ⟨C, hz0, hw0⟩ := boxes1 w [.string x.name, .slice A x.attrs.length cap] 42
  go_enter Tryz.func37, Tryz.ntmps37
  go_wp2_with fail
  generalize w.alloc (Obj.cells #[.string x.name, .slice A x.attrs.length cap] 42) = W0 at C hz0 hw0 ⊢
  have hn0 : w.heap.size + 1 ≤ W0.heap.size := by omega
  have Hw : Hid (∀ W : World, Below (w.heap.size + 1) W0 W → Below w.heap.size w W) := hide fun W h => hw0.trans (h.mono (by omega))
  have e0 := cell_rule C (n := w.heap.size + 1) (by omega) 0 (v := .string x.name) rfl
  have e1 := cell_rule C (n := w.heap.size + 1) (by omega) 1 (v := .slice A x.attrs.length cap) rfl
  have hA0 : ∀ (W : World) (o : Obj), Below (w.heap.size + 1) W0 W → Below (w.heap.size + 1) W0 (W.alloc o) := fun _ o h => below_alloc hn0 o h
  clear C hz0 hw0
  go_loopw [8] (fun i wr => ∃ j : Nat, j ≤ x.attrs.length ∧ i = .int .i64 j ∧ Hid ((List.range j).all (okA x.attrs) = true) ∧ Hid (Below (w.heap.size + 1) W0 wr)) (fun i _ => x.attrs.length - (intOf i).toNat)
  case atStart => exact ⟨0, by omega, rfl, hide rfl, hide (Below.refl _ _)⟩
  case round =>
    obtain ⟨j, hj, rfl, Hall, Hb⟩ := hrel
    have hBr := Hb.out
    by_cases hlt : j < x.attrs.length
    · have hx : x.attrs[j]? = some x.attrs[j] := List.getElem?_eq_getElem hlt
      generalize x.attrs[j] = y at hx
      have Hx := hide hx
      obtain ⟨b, off, cs, Fk, hA, _, hbF, hFk, hcl, hcat, hR⟩ := SlR.get (AtrR.good D) (Hs.out.below (AtrR.good D) (Hw.out _ Hb.out) HF.out) hx
      subst hA
      obtain ⟨c0, c1, c2, c3, rfl⟩ := list4 hcl
      obtain ⟨_, hk, h0, h1, h2, h3, rfl⟩ := hR
      obtain rfl := Option.some.inj h0
      obtain rfl := Option.some.inj h1
      obtain rfl := Option.some.inj h2
      obtain rfl := Option.some.inj h3
      obtain ⟨g0, g1, g2, g3⟩ := hcat.four
      have hblt := Nat.lt_of_lt_of_le (HF.out b hbF) (Hw.out _ Hb.out).size
      have Hky := hide hk.name
      have hj0 : (0 : Int) ≤ (j : Int) := by omega
      have hj1 : (j : Int) < (x.attrs.length : Int) := by omega
      have hj2 : (j : Int) ≤ (cap : Int) := by omega
      have Cy := CellsAt.new wr [.string y.name, .int .i64 y.type, .int .i64 y.mode, .bool y.circ] 44
      have hbx : Below (w.heap.size + 1) W0 (wr.alloc (Obj.cells #[.string y.name, .int .i64 y.type, .int .i64 y.mode, .bool y.circ] 44)) := hA0 _ _ hBr
      have hzx := World.size_alloc wr (Obj.cells #[.string y.name, .int .i64 y.type, .int .i64 y.mode, .bool y.circ] 44)
      clear hx hcat hFk hbF hcl hk h0 h1 h2 h3
      have HCy := hide Cy
      have Hzx := hide hzx
      clear Cy hzx
      go_wp2_with fail
      generalize wr.alloc (Obj.cells #[.string y.name, .int .i64 y.type, .int .i64 y.mode, .bool y.circ] 44) = V1 at HCy Hzx hbx ⊢
      refine (i_IsValidAttribute y.name y.type y.mode y.circ Hky.out V1).mono ?_
      rintro e w2 ⟨rfl, hb2⟩
      have hB2 : Below (w.heap.size + 1) W0 w2 := below_step hbx hn0 hb2
      have HC2 : Hid (w2.cell? ⟨wr.heap.size, 0, none⟩ = some (.string y.name)) := hide ((hb2.cell (p := ⟨wr.heap.size, 0, none⟩) (by have := Hzx.out; simp only; omega)).trans (HCy.out 0 _ rfl))
      have Hs2 := hide (Hs.out.below (AtrR.good D) (Hw.out _ hB2) HF.out)
      clear hb2
      cases hq : validA y.name y.type y.mode y.circ
      · have Hbad := hide (all_range_bad (f := okA x.attrs) hlt (by rw [okA_at Hx.out, show vA y = false from hq]; rfl))
        clear hq
        go_wp2_with fail
        go_ret
        exact ⟨ret_bool (by rw [Hv.out, Hbad.out]; rfl), Hw.out _ hB2⟩
      · have Hq := hide hq
        clear hq
        have HCon := hide (con_name D x.attrs (some ⟨b, off, none⟩) cap j _ w2 Hs2.out hj wr.heap.size y.name HC2.out)
        cases hr : (x.attrs.take j).any (fun a => a.name.toList == y.name.toList)
        all_goals
          have Hr := hide hr
          clear hr
          go_wp2_with fail
          refine Calls.mono HCon.out ?_
          rintro en w3 ⟨rfl, hb3⟩
          have hB3 : Below (w.heap.size + 1) W0 w3 := below_step hB2 hn0 hb3
          clear hb3
          rw [Hr.out]
          go_wp2_with fail
        · have Hnx := hide (all_range_next (f := okA x.attrs) Hall.out (by rw [okA_at Hx.out, show vA y = true from Hq.out, Hr.out]; rfl))
          have HB3 := hide hB3
          clear hB3
          go_roundw
          case rel => exact ⟨j + 1, by omega, by go_num, Hnx, HB3⟩
          case measure => simp [intOf]; omega
        · have Hbad := hide (all_range_bad (f := okA x.attrs) hlt (by rw [okA_at Hx.out, Hr.out]; simp))
          go_ret
          exact ⟨ret_bool (by rw [Hv.out, Hbad.out]; rfl), Hw.out _ hB3⟩
    · have hjl : j = x.attrs.length := by omega
      have Hv2 : Hid (validY x = (validN x.name && decide (x.attrs.length ≤ 4))) := hide (by have := Hall.out; rw [hjl] at this; rw [Hv.out, this]; rfl)
      go_wp2_with fail
      refine (i_IsValidName x.name _ Hname.out).mono ?_
      rintro e w2 ⟨rfl, rfl⟩
      cases hq : validN x.name
      · go_wp2_with fail
        go_ret
        exact ⟨ret_bool (by rw [Hv2.out, hq]; rfl), Hw.out _ hBr⟩
      · have Hq := hide hq
        clear hq
        go_wp2_with fail
        go_ret
        exact ⟨ret_bool (by rw [Hv2.out, Hq.out, Bool.true_and]; first | done | rfl | (rw [Bool.eq_iff_iff]; simp only [decide_eq_true_eq]; omega)), Hw.out _ hBr⟩
end Go.Proofs.YthlhhnnlbpecnaaGreat
