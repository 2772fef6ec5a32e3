/- Several texts of one proof in one file: A rule as lines: the reference's. Conditions: each theorem names its own. -/
import Derived.Test.YtjddmboaaebbiaaGreatDoorGxan
import Derived.Deep.RegionHeld3
import Derived.Deep.QuietTactic
import Derived.BigQuiet

/- A rule as lines: the reference's. Conditions: the rule has at most the size 2^20. -/
namespace Go.Proofs.YtjddmboaaebbiaaGreatDoor
set_option linter.unusedSimpArgs false
set_option linter.unusedVariables false
set_option maxRecDepth 100000
open Go.RowKit Go.WideShapes Go.Lib
set_option linter.unusedVariables false

set_option maxRecDepth 100000 in
set_option maxHeartbeats 8000000 in
theorem s_FormatRule (D : Nat) (x : Rul) (cs : List Value) (F : List Nat) (w : World) (h : RulR D w x cs F) (hbk : bulkRul D x ≤ 1048576) :
    Calls Tryz.prog 6 #[.agg cs.toArray] w fun en w' => ∃ v' G, en = .returned v' ∧ SlR 1 (StrR D) w' (fmtR D x) v' G ∧ Fresh w.heap.size w' G ∧ Below w.heap.size w w' := by
  have HFe := hide ((RulR.good D).lt h)
  obtain ⟨p0, p1, p2, p3, p4, p5, rfl⟩ := list_6 ((RulR.good D).len h)
  have HX0 : Hid (∀ W : World, Below w.heap.size w W → RulR D W x [p0, p1, p2, p3, p4, p5] F) := hide fun W hW => (RulR.good D).below h hW HFe.out
  obtain ⟨v2, F2, v4, F4, v5, F5, hl, hok, h0, h1, ⟨h2, g2⟩, h3, ⟨h4, g4⟩, ⟨h5, g5⟩, rfl⟩ := h
  obtain rfl := Option.some.inj h0
  obtain rfl := Option.some.inj h1
  obtain rfl := Option.some.inj h2
  obtain rfl := Option.some.inj h3
  obtain rfl := Option.some.inj h4
  obtain rfl := Option.some.inj h5
  obtain ⟨A2, c2, rfl, hc2, hm2⟩ := g2.form
  obtain ⟨A4, c4, rfl, hc4, hm4⟩ := g4.form
  obtain ⟨A5, c5, rfl, hc5, hm5⟩ := g5.form
  unfold maxLen at hm2 hm4 hm5
  have Lg2 := hide (g2.lt (StrR.good D))
  have Hg2 : Hid (∀ W : World, Below w.heap.size w W → SlR 1 (StrR D) W x.right (.slice A2 x.right.length c2) F2) := hide fun W hW => g2.below (StrR.good D) hW Lg2.out
  have Lg4 := hide (g4.lt (EqnR.good D))
  have Hg4 : Hid (∀ W : World, Below w.heap.size w W → SlR 9 (EqnR D) W x.eqs (.slice A4 x.eqs.length c4) F4) := hide fun W hW => g4.below (EqnR.good D) hW Lg4.out
  have Lg5 := hide (g5.lt (ConR.good D))
  have Hg5 : Hid (∀ W : World, Below w.heap.size w W → SlR 16 (ConR D) W x.cons (.slice A5 x.cons.length c5) F5) := hide fun W hW => g5.below (ConR.good D) hW Lg5.out
  have Hb := hide hbk
  have hle2 : x.eqs.length ≤ 1048576 := by
    have h1 := sumBy_nonneg (bulkEqn_nonneg D) x.eqs
    have h2 := bulkS_nonneg x.right
    have h3 := sumBy_nonneg (bulkCon_nonneg D) x.cons
    unfold bulkRul at hbk
    omega
  have HbE : Hid (∀ q ∈ x.eqs, bulkE D q.expr ≤ 1048576) := hide fun q hq => by
    have h1 := sumBy_mem (bulkEqn_nonneg D) hq
    have h2 := bulkS_nonneg x.right
    have h3 := sumBy_nonneg (bulkCon_nonneg D) x.cons
    have h4 : bulkE D q.expr ≤ bulkEqn D q := by unfold bulkEqn bulkOcc; omega
    unfold bulkRul at hbk
    omega
  have HbC : Hid (∀ q ∈ x.cons, bulkE D q.target ≤ 1048576 ∧ bulkE D q.value ≤ 1048576) := hide fun q hq => by
    have h1 := sumBy_mem (bulkCon_nonneg D) hq
    have h2 := bulkS_nonneg x.right
    have h3 := sumBy_nonneg (bulkEqn_nonneg D) x.eqs
    have h4 := bulkE_nonneg D q.target
    have h5 := bulkE_nonneg D q.value
    have h6 : bulkE D q.target + bulkE D q.value ≤ bulkCon D q := by unfold bulkCon; omega
    unfold bulkRul at hbk
    omega
  obtain ⟨C, hz0, hw0⟩ := boxes1 w [.string x.name, .string x.left, .slice A2 x.right.length c2, .bool x.lit, .slice A4 x.eqs.length c4, .slice A5 x.cons.length c5] 32
  show Calls _ _ #[.agg #[.string x.name, .string x.left, .slice A2 x.right.length c2, .bool x.lit, .slice A4 x.eqs.length c4, .slice A5 x.cons.length c5]] w _
  clear g2 g4 g5 hl h0 h1 h2 h3 h4 h5 hbk hok
  have hlr : x.right.length ≤ 9223372036854775807 := by omega
  have hle : x.eqs.length ≤ 9223372036854775807 := by omega
  have hlc : x.cons.length ≤ 9223372036854775807 := by omega
  have hi9 : Hid ((Tryz.prog.info? 61).map (·.size) = some 9) := hide (by kernel_rfl)
  have hi16 : Hid ((Tryz.prog.info? 65).map (·.size) = some 16) := hide (by kernel_rfl)
  have hi7 : Hid ((Tryz.prog.info? 59).map (·.size) = some 7) := hide (by kernel_rfl)
  clear hc2 hm2 hc4 hm4 hc5 hm5
  go_enter Tryz.func6, Tryz.ntmps6
  go_wp2_with fail
  generalize w.alloc (Obj.cells #[.string x.name, .string x.left, .slice A2 x.right.length c2, .bool x.lit, .slice A4 x.eqs.length c4, .slice A5 x.cons.length c5] 32) = W0 at C hz0 hw0 ⊢
  have hn0 : w.heap.size + 1 ≤ W0.heap.size := by omega
  have Hn0 := hide hn0
  have Hw : Hid (∀ W : World, Below (w.heap.size + 1) W0 W → Below w.heap.size w W) := hide fun W h => hw0.trans (h.mono (by omega))
  have hB0 : Below (w.heap.size + 1) W0 W0 := Below.refl _ _
  have e0 := cell_rule C (n := w.heap.size + 1) (by omega) 0 rfl
  have e1 := cell_rule C (n := w.heap.size + 1) (by omega) 1 rfl
  have e2 := cell_rule C (n := w.heap.size + 1) (by omega) 2 rfl
  have e3 := cell_rule C (n := w.heap.size + 1) (by omega) 3 rfl
  have e4 := cell_rule C (n := w.heap.size + 1) (by omega) 4 rfl
  have e5 := cell_rule C (n := w.heap.size + 1) (by omega) 5 rfl
  clear C hz0
  go_wp2_with fail
  refine Calls.mono (s_IsValidRule D x _ _ W0 (HX0.out _ hw0) Hb.out) ?_
  rintro en W1 ⟨rfl, hb⟩
  have hB1 : Below (w.heap.size + 1) W0 W1 := below_step hB0 hn0 hb
  clear hb hw0
  cases hv : validRul D x
  · have Hr : Hid (fmtR D x = []) := hide (by unfold fmtR; rw [hv]; rfl)
    clear hv
    go_wp2_with fail
    go_ret
    refine ⟨_, [], rfl, ?_, Fresh.nil _ _, ?_⟩
    · rw [Hr.out]
      exact ⟨_, 0, rfl, Nat.le_refl _, by simp [maxLen], .inl ⟨rfl, rfl⟩⟩
    · exact Hw.out _ (hB1.alloc (Nat.le_trans hn0 hB1.size) _)
  have hRV := RulV.of hv
  have HRV := hide hRV
  have Hr : Hid (fmtR D x = linesR D x x.eqs.length x.cons.length) := hide (by unfold fmtR; rw [hv]; rfl)
  have hsz := hdT_size hRV
  have H0 : Hid (hdT x 0 = ⟨#[114, 117, 108, 101, 32]⟩ ++ x.name ++ ⟨#[32]⟩ ++ x.left ++ ⟨#[32, 58]⟩) := hide rfl
  have hn8 := nameV_size hRV.name
  have hl8 := nameV_size hRV.left
  clear hv hRV
  have HSE : Hid (∀ e ∈ x.eqs, (txE D e.expr).size ≤ 9600 ∧ (eqT D e).size ≤ 20000) := hide fun e he => by
    obtain ⟨q, hq⟩ := List.mem_iff_getElem?.1 he
    obtain ⟨b, off, cs, Fk, hA, _, _, _, _, _, hR⟩ := SlR.get (EqnR.good D) (Hg4.out w (Below.refl _ _)) hq
    exact eq_short hR (HRV.out.eqs e he)
  have HSC : Hid (∀ c ∈ x.cons, (txE D c.target).size ≤ 9600 ∧ (txE D c.value).size ≤ 9600 ∧ (conT D c).size ≤ 20000) := hide fun c hc => by
    obtain ⟨q, hq⟩ := List.mem_iff_getElem?.1 hc
    obtain ⟨b, off, cs, Fk, hA, _, _, _, _, _, hR⟩ := SlR.get (ConR.good D) (Hg5.out w (Below.refl _ _)) hq
    exact con_short hR (HRV.out.cons c hc)
  have hkid := HRV.out.kids
  have hput := HRV.out.puts
  have q0 : ¬ 9223372036854775807 < 5 + x.name.size := by omega
  have q1 : ¬ 9223372036854775807 < 5 + x.name.size + 1 := by omega
  have q2 : ¬ 9223372036854775807 < 5 + x.name.size + 1 + x.left.size := by omega
  have q3 : ¬ 9223372036854775807 < 5 + x.name.size + 1 + x.left.size + 2 := by omega
  go_wp2_with fail
  clear q0 q1 q2 q3
  go_loopw [3, 4] (fun o i wr => ∃ j : Nat, j ≤ x.right.length ∧ i = .int .i64 j ∧ o = .string (hdT x j) ∧ Hid (Below (w.heap.size + 1) W0 wr)) (fun _ i _ => x.right.length - (RowKit.intOf i).toNat)
  case atStart => exact ⟨0, by omega, rfl, by rw [H0.out], hide hB1⟩
  case round =>
    obtain ⟨j, hj, rfl, rfl, Hb1⟩ := hrel
    have hBr := Hb1.out
    clear hB1
    by_cases hlt : j < x.right.length
    · obtain ⟨b, off, s, rfl, hbl, hs, hc⟩ := (Hg2.out _ (Hw.out _ hBr)).strs.1.get hlt
      have hs8 := nameV_size (HRV.out.right s (List.mem_of_getElem? hs))
      have hnx := hdT_next hs
      have hj0 : (0 : Int) ≤ (j : Int) := by omega
      have hj1 : (j : Int) < (x.right.length : Int) := by omega
      have hsj := hsz j
      generalize hdT x j = hd at hnx hsj ⊢
      have Hnx := hide hnx
      clear hnx hs
      have q0 : ¬ 9223372036854775807 < hd.size + 1 := by omega
      have q1 : ¬ 9223372036854775807 < hd.size + 1 + s.size := by omega
      go_wp2_with fail
      go_roundw
      case rel => exact ⟨j + 1, by omega, by go_num, by rw [Hnx.out, ← rcat], hide hBr⟩
      case measure => simp [RowKit.intOf]; omega
    · have hjl : j = x.right.length := by omega
      subst hjl
      have hsj := hsz x.right.length
      have Hhd : Hid ((x.lit = true → hdT x x.right.length ++ ⟨#[32, 108, 105, 116]⟩ = headT x) ∧ (x.lit = false → hdT x x.right.length = headT x)) := hide ⟨fun h => by unfold headT; rw [h]; rfl, fun h => by unfold headT; rw [h]; rfl⟩
      generalize hdT x x.right.length = hd at hsj Hhd ⊢
      have q0 : ¬ 9223372036854775807 < hd.size + 4 := by omega
      obtain ⟨W2, hW2⟩ : ∃ W, W = wr := ⟨_, rfl⟩
      subst hW2
      have H1 : Hid (linesR D x 0 0 = [headT x]) := hide (by unfold linesR; simp)
      clear hsz
      have HB2 := hide (show Below (w.heap.size + 1) W0 (W2.alloc (Obj.cells #[.string (headT x)] 9)) from hBr.alloc (Nat.le_trans hn0 hBr.size) _)
      have Hro : Hid (SRow (w.heap.size + 1) (W2.alloc (Obj.cells #[.string (headT x)] 9)) (.slice (some ⟨W2.heap.size, 0, none⟩) (linesR D x 0 0).length 1) (linesR D x 0 0)) := hide (by rw [H1.out]; exact SRow.one (Nat.le_trans hn0 hBr.size))
      have hA0 : ∀ (W : World) (o : Obj), Below (w.heap.size + 1) W0 W → Below (w.heap.size + 1) W0 (W.alloc o) := fun _ o h => below_alloc Hn0.out o h
      cases hlit : x.lit
      all_goals
        rw [hlit] at e3
        first
          | (have hh : hd ++ ⟨#[32, 108, 105, 116]⟩ = headT x := Hhd.out.1 hlit
             go_wp2_with fail)
          | (have hh : hd = headT x := Hhd.out.2 hlit
             subst hh
             go_wp2_with fail)
        generalize W2.alloc (Obj.cells #[.string (headT x)] 9) = V0 at HB2 Hro ⊢
        have hg0 : w.heap.size + 1 ≤ W2.heap.size := Nat.le_trans hn0 hBr.size
        generalize W2.heap.size = g0 at hg0 Hro ⊢
        clear hBr Hhd hsj q0 hlit hA0
        as_aux_lemma =>
          go_loopw [5, 6] (fun o i wr => ∃ (j g c : Nat), j ≤ x.eqs.length ∧ i = .int .i64 j ∧ o = .slice (some ⟨g, 0, none⟩) (j + 1) c ∧ w.heap.size + 1 ≤ g ∧ Hid (SRow (w.heap.size + 1) wr (.slice (some ⟨g, 0, none⟩) (j + 1) c) (linesR D x j 0)) ∧ Hid (Below (w.heap.size + 1) W0 wr)) (fun _ i _ => x.eqs.length - (RowKit.intOf i).toNat)
          case atStart => exact ⟨0, g0, 1, by omega, rfl, rfl, hg0, hide (by have h := Hro.out; rw [H1.out] at h ⊢; exact h), HB2⟩
          case round =>
            obtain ⟨j, g, cc, hj, rfl, rfl, hg, Hrow, Hb2⟩ := hrel
            have hBr := Hb2.out
            by_cases hlt : j < x.eqs.length
            · have hX : x.eqs[j]? = some x.eqs[j] := List.getElem?_eq_getElem hlt
              generalize x.eqs[j] = X at hX
              obtain ⟨b, off, cs, Fk, hA, _, hbF, hFk, hcl, hcat, hR⟩ := SlR.get (EqnR.good D) (Hg4.out _ (Hw.out _ hB0)) hX
              subst hA
              have H19 := hide (EqnR.one hR)
              have hltA : b < w.heap.size + 1 := Nat.lt_of_lt_of_le (Lg4.out b hbF) (by omega)
              have HF : Hid (∀ k ∈ Fk, k < w.heap.size + 1) := hide fun k hk => Nat.lt_of_lt_of_le (Lg4.out k (hFk k hk)) (by omega)
              obtain ⟨a0, a1, a2, a3, a4, a5, a6, a7, a8, rfl⟩ := list_9 hcl
              obtain ⟨f0, f1, _, hO, hE, hFF⟩ := hR
              obtain ⟨_, hOk, r0, r1, _⟩ := hO
              obtain rfl : a0 = .int .i64 X.at_.pos := by simpa using r0
              obtain rfl : a1 = .string X.at_.name := by simpa using r1
              have HE : Hid (∀ W : World, Below (w.heap.size + 1) W0 W → ExR D W X.expr [a2, a3, a4, a5, a6, a7, a8] f1) := hide fun W h => (ExR.good D).below hE h (fun k hk => HF.out k (by rw [hFF]; simp [hk]))
              have hmem := List.mem_of_getElem? hX
              have HBE := hide (HbE.out X hmem)
              have hvq := HRV.out.eqs X hmem
              have hts := (HSE.out X hmem).1
              have Hln := hide (linesR_eq (D := D) hX)
              have Hlen : Hid ((linesR D x j 0).length = j + 1) := hide (by unfold linesR; simp; omega)
              unfold eqnOk at hvq
              simp only [Bool.and_eq_true] at hvq
              have hn8' := nameV_size hvq.1.1
              have hfp := fits_parts hvq.2
              have hpr := wf_i64 hOk.pos
              have hns := num_size hpr.1 hpr.2
              have Hc : Hid (CellsAt wr b (off + j * 9) [.int .i64 X.at_.pos, .string X.at_.name, a2, a3, a4, a5, a6, a7, a8]) := hide (hcat.below hBr hltA)
              have Hn : Hid ([.int .i64 X.at_.pos, .string X.at_.name, a2, a3, a4, a5, a6, a7, a8].length = 9) := hide rfl
              have hj0 : (0 : Int) ≤ (j : Int) := by omega
              have hj1 : (j : Int) < (x.eqs.length : Int) := by omega
              have hgw := (Hrow.out.lt g rfl).2
              clear hX hcat hFk hbF hcl hE r0 r1 hFF hOk
              go_wp2_with (first
                | refine wpList_load_at 61 (.tmp 53) rfl Tryz.underlying61 rfl hi9.out rfl rfl Hn.out Hc.out ?_
                | (refine wpList_store_new 61 (.tmp 7) (.tmp 54) rfl hi9.out rfl rfl rfl rfl Hn.out H19.out rfl ?_; refine hold ?_))
              have C := CellsAt.new wr [.int .i64 X.at_.pos, .string X.at_.name, a2, a3, a4, a5, a6, a7, a8] 61
              have hz := World.size_alloc wr (Obj.cells #[.int .i64 X.at_.pos, .string X.at_.name, a2, a3, a4, a5, a6, a7, a8] 61)
              have hwv : Below (w.heap.size + 1) W0 (wr.alloc (Obj.cells #[.int .i64 X.at_.pos, .string X.at_.name, a2, a3, a4, a5, a6, a7, a8] 61)) := hBr.alloc (Nat.le_trans hn0 hBr.size) _
              have HSV := hide (Hrow.out.below ((Below.refl _ _).alloc (Nat.le_refl _) (Obj.cells #[.int .i64 X.at_.pos, .string X.at_.name, a2, a3, a4, a5, a6, a7, a8] 61)))
              generalize wr.alloc (Obj.cells #[.int .i64 X.at_.pos, .string X.at_.name, a2, a3, a4, a5, a6, a7, a8] 61) = V1 at C hz hwv HSV ⊢
              generalize wr.heap.size = kb at C hz hgw ⊢
              have hkg : kb ≠ g := by omega
              have c0 : ∀ W : World, V1.grownBy W (some g) → W.cell? ⟨kb, 0, none⟩ = some (.int .i64 X.at_.pos) := fun W h => rt_cell h (C 0 _ rfl) hkg
              have c1 : ∀ W : World, V1.grownBy W (some g) → W.cell? ⟨kb, 1, none⟩ = some (.string X.at_.name) := fun W h => rt_cell h (C 1 _ rfl) hkg
              have c2 : ∀ W : World, V1.grownBy W (some g) → W.cell? ⟨kb, 2, none⟩ = some a2 := fun W h => rt_cell h (C 2 _ rfl) hkg
              have c3 : ∀ W : World, V1.grownBy W (some g) → W.cell? ⟨kb, 3, none⟩ = some a3 := fun W h => rt_cell h (C 3 _ rfl) hkg
              have c4 : ∀ W : World, V1.grownBy W (some g) → W.cell? ⟨kb, 4, none⟩ = some a4 := fun W h => rt_cell h (C 4 _ rfl) hkg
              have c5 : ∀ W : World, V1.grownBy W (some g) → W.cell? ⟨kb, 5, none⟩ = some a5 := fun W h => rt_cell h (C 5 _ rfl) hkg
              have c6 : ∀ W : World, V1.grownBy W (some g) → W.cell? ⟨kb, 6, none⟩ = some a6 := fun W h => rt_cell h (C 6 _ rfl) hkg
              have c7 : ∀ W : World, V1.grownBy W (some g) → W.cell? ⟨kb, 7, none⟩ = some a7 := fun W h => rt_cell h (C 7 _ rfl) hkg
              have c8 : ∀ W : World, V1.grownBy W (some g) → W.cell? ⟨kb, 8, none⟩ = some a8 := fun W h => rt_cell h (C 8 _ rfl) hkg
              have hV1z : w.heap.size + 1 ≤ V1.heap.size := Nat.le_trans hn0 hwv.size
              have HV1z := hide hV1z
              have HwV : Hid (∀ W : World, Below V1.heap.size V1 W → Below (w.heap.size + 1) W0 W) := hide fun W h => hwv.trans (h.mono hV1z)
              have hVV : V1.grownBy V1 (some g) := rt_refl _ _
              have hVB : Below V1.heap.size V1 V1 := Below.refl _ _
              have Hwv := hide hwv
              obtain ⟨Nn, hNn⟩ : ∃ N, N = num X.at_.pos := ⟨_, rfl⟩
              obtain ⟨Tx, hTx⟩ : ∃ N, N = txE D X.expr := ⟨_, rfl⟩
              have HFI : Hid (∀ W : World, Below V1.heap.size V1 W → Calls Tryz.prog 23 #[.int .i64 X.at_.pos] W fun e w' => e = .returned (.string Nn) ∧ Below W.heap.size W w') := hide fun W h => by rw [hNn]; exact s_FormatInt X.at_.pos hpr.1 hpr.2 W
              have HFE : Hid (∀ W : World, Below V1.heap.size V1 W → Calls Tryz.prog 24 #[.agg #[a2, a3, a4, a5, a6, a7, a8]] W fun e w' => e = .returned (.string Tx) ∧ Below W.heap.size W w') := hide fun W h => by rw [hTx]; exact by have h2 := s_FormatExpr D X.expr _ f1 W (HE.out _ (HwV.out W h)) HBE.out; unfold fmtExpr at h2; rw [if_pos hfp.1] at h2; exact h2
              have Hy : Hid (eqT D X = ⟨#[101, 113, 32, 36]⟩ ++ Nn ++ ⟨#[46]⟩ ++ X.at_.name ++ ⟨#[32, 58, 61, 32]⟩ ++ Tx) := hide (by rw [hNn, hTx]; rfl)
              rw [← hNn] at hns
              rw [← hTx] at hts
              have q0 : ¬ 9223372036854775807 < 4 + Nn.size := by omega
              have q1 : ¬ 9223372036854775807 < 4 + Nn.size + 1 := by omega
              have q2 : ¬ 9223372036854775807 < 4 + Nn.size + 1 + X.at_.name.size := by omega
              have q3 : ¬ 9223372036854775807 < 4 + Nn.size + 1 + X.at_.name.size + 4 := by omega
              have q4 : ¬ 9223372036854775807 < 4 + Nn.size + 1 + X.at_.name.size + 4 + Tx.size := by omega
              clear C hz hwv hNn hTx hvq hfp hpr hns hmem hn8' hts e0 e1 e2 e3 e4 e5
              refine Hold.go ?_
              go_wp2_with fail
              go_region_held3 (fun W => V1.grownBy W (some g)) (first | assumption | exact rt_of (by (repeat (first | assumption | exact Below.refl _ _ | apply Below.drew | refine below_alloc (Nat.le_refl _) _ ?_))) | exact rt_drew (by assumption))
                (first
                  | (go_at_call 23; refine Calls.mono (HFI.out _ (by (repeat (first | assumption | exact Below.refl _ _ | apply Below.drew)))) ?_; rintro en w4 ⟨rfl, hb4⟩; have hV4 : Below V1.heap.size V1 w4 := below_step (by (repeat (first | assumption | exact Below.refl _ _ | apply Below.drew))) (Nat.le_refl _) hb4; have hG4 : V1.grownBy w4 (some g) := rt_of hV4; clear hb4)
                  | (go_at_call 24; refine Calls.mono (HFE.out _ (by (repeat (first | assumption | exact Below.refl _ _ | apply Below.drew)))) ?_; rintro en w5 ⟨rfl, hb5⟩; have hV5 : Below V1.heap.size V1 w5 := below_step (by (repeat (first | assumption | exact Below.refl _ _ | apply Below.drew))) (Nat.le_refl _) hb5; have hG5 : V1.grownBy w5 (some g) := rt_of hV5; have hz5 : w.heap.size + 1 ≤ w5.heap.size := Nat.le_trans HV1z.out hV5.size; clear hb5)
                  | (refine step_str rfl (.tmp 55) (.tmp 71) 22 rfl Tryz.underlying22 infoStrR rfl w5 _ (w.heap.size + 1) g (j + 1) cc (linesR D x j 0) Hlen.out (HSV.out.below hV5) rfl (⟨#[101, 113, 32, 36]⟩ ++ Nn ++ ⟨#[46]⟩ ++ X.at_.name ++ ⟨#[32, 58, 61, 32]⟩ ++ Tx) rfl (by (repeat (first | assumption | exact Below.refl _ _ | apply Below.drew))) (by omega) (by omega) hz5 ?_
                     intro g6 c6 w6 hrow6 hgr6 hg6
                     have hS6 : V1.grownBy w6 (some g) := rt_trans (rt_of (by (repeat (first | assumption | exact Below.refl _ _ | apply Below.drew | refine below_alloc (Nat.le_refl _) _ ?_)))) hgr6
                     clear hgr6))
              go_wp2_with fail
              go_roundw
              case rel => exact ⟨j + 1, g6, c6, by omega, by go_num, rfl, hg6, hide (by rw [Hln.out, Hy.out]; exact hrow6.below (by (repeat (first | assumption | exact Below.refl _ _ | apply Below.drew)))), hide (Hwv.out.trans (rt_down (by (repeat (first | assumption | apply rt_drew))) hg HV1z.out))⟩
              case measure => simp [RowKit.intOf]; omega
            · have hjl : j = x.eqs.length := by omega
              subst hjl
              obtain ⟨W3, hW3⟩ : ∃ W, W = wr := ⟨_, rfl⟩
              subst hW3
              clear hg0 Hro HB2 H1
              go_wp2_with fail
              go_loopw [5, 8] (fun o i wr => ∃ (k g c : Nat), k ≤ x.cons.length ∧ i = .int .i64 k ∧ o = .slice (some ⟨g, 0, none⟩) (x.eqs.length + 1 + k) c ∧ w.heap.size + 1 ≤ g ∧ Hid (SRow (w.heap.size + 1) wr (.slice (some ⟨g, 0, none⟩) (x.eqs.length + 1 + k) c) (linesR D x x.eqs.length k)) ∧ Hid (Below (w.heap.size + 1) W0 wr)) (fun _ i _ => x.cons.length - (RowKit.intOf i).toNat)
              case atStart => exact ⟨0, g, cc, by omega, rfl, rfl, hg, Hrow, Hb2⟩
              case round =>
                obtain ⟨k, g, cc, hj, rfl, rfl, hg, Hrow, Hb2⟩ := hrel
                have hBr := Hb2.out
                by_cases hlt : k < x.cons.length
                · have hX : x.cons[k]? = some x.cons[k] := List.getElem?_eq_getElem hlt
                  generalize x.cons[k] = X at hX
                  obtain ⟨b, off, cs, Fk, hA, _, hbF, hFk, hcl, hcat, hR⟩ := SlR.get (ConR.good D) (Hg5.out _ (Hw.out _ hB0)) hX
                  subst hA
                  have H19 := hide (ConR.one hR)
                  have hltA : b < w.heap.size + 1 := Nat.lt_of_lt_of_le (Lg5.out b hbF) (by omega)
                  have HF : Hid (∀ k ∈ Fk, k < w.heap.size + 1) := hide fun k hk => Nat.lt_of_lt_of_le (Lg5.out k (hFk k hk)) (by omega)
                  obtain ⟨a0, a1, a2, a3, a4, a5, a6, a7, a8, a9, a10, a11, a12, a13, a14, a15, rfl⟩ := list_16 hcl
                  obtain ⟨f1, f2, _, hOk, r0, r1, hE, hE2, hFF⟩ := hR
                  obtain rfl : a0 = .string X.symbol := by simpa using r0
                  obtain rfl : a1 = .string X.name := by simpa using r1
                  have HE : Hid (∀ W : World, Below (w.heap.size + 1) W0 W → ExR D W X.target [a2, a3, a4, a5, a6, a7, a8] f1) := hide fun W h => (ExR.good D).below hE h (fun k hk => HF.out k (by rw [hFF]; simp [hk]))
                  have HE2 : Hid (∀ W : World, Below (w.heap.size + 1) W0 W → ExR D W X.value [a9, a10, a11, a12, a13, a14, a15] f2) := hide fun W h => (ExR.good D).below hE2 h (fun k hk => HF.out k (by rw [hFF]; simp [hk]))
                  have hmem := List.mem_of_getElem? hX
                  have HBE := hide (HbC.out X hmem)
                  have hvq := HRV.out.cons X hmem
                  have hts := (HSC.out X hmem).1
                  have hts2 := (HSC.out X hmem).2.1
                  have Hln := hide (linesR_con (D := D) (j := x.eqs.length) hX)
                  have Hlen : Hid ((linesR D x x.eqs.length k).length = x.eqs.length + 1 + k) := hide (by unfold linesR; simp; omega)
                  unfold conOk at hvq
                  simp only [Bool.and_eq_true] at hvq
                  have hn8' := nameV_size hvq.1.1.1
                  have hn9' := nameV_size hvq.1.1.2
                  have hfp := fits_parts hvq.1.2
                  have hfp2 := fits_parts hvq.2
                  have Hc : Hid (CellsAt wr b (off + k * 16) [.string X.symbol, .string X.name, a2, a3, a4, a5, a6, a7, a8, a9, a10, a11, a12, a13, a14, a15]) := hide (hcat.below hBr hltA)
                  have Hn : Hid ([.string X.symbol, .string X.name, a2, a3, a4, a5, a6, a7, a8, a9, a10, a11, a12, a13, a14, a15].length = 16) := hide rfl
                  have hj0 : (0 : Int) ≤ (k : Int) := by omega
                  have hj1 : (k : Int) < (x.cons.length : Int) := by omega
                  have hgw := (Hrow.out.lt g rfl).2
                  clear hX hcat hFk hbF hcl hE hE2 r0 r1 hFF hOk
                  go_wp2_with (first
                    | refine wpList_load_at 65 (.tmp 83) rfl Tryz.underlying65 rfl hi16.out rfl rfl Hn.out Hc.out ?_
                    | (refine wpList_store_new 65 (.tmp 9) (.tmp 84) rfl hi16.out rfl rfl rfl rfl Hn.out H19.out rfl ?_; refine hold ?_))
                  have C := CellsAt.new wr [.string X.symbol, .string X.name, a2, a3, a4, a5, a6, a7, a8, a9, a10, a11, a12, a13, a14, a15] 65
                  have hz := World.size_alloc wr (Obj.cells #[.string X.symbol, .string X.name, a2, a3, a4, a5, a6, a7, a8, a9, a10, a11, a12, a13, a14, a15] 65)
                  have hwv : Below (w.heap.size + 1) W0 (wr.alloc (Obj.cells #[.string X.symbol, .string X.name, a2, a3, a4, a5, a6, a7, a8, a9, a10, a11, a12, a13, a14, a15] 65)) := hBr.alloc (Nat.le_trans hn0 hBr.size) _
                  have HSV := hide (Hrow.out.below ((Below.refl _ _).alloc (Nat.le_refl _) (Obj.cells #[.string X.symbol, .string X.name, a2, a3, a4, a5, a6, a7, a8, a9, a10, a11, a12, a13, a14, a15] 65)))
                  generalize wr.alloc (Obj.cells #[.string X.symbol, .string X.name, a2, a3, a4, a5, a6, a7, a8, a9, a10, a11, a12, a13, a14, a15] 65) = V1 at C hz hwv HSV ⊢
                  generalize wr.heap.size = kb at C hz hgw ⊢
                  have hkg : kb ≠ g := by omega
                  have c0 : ∀ W : World, V1.grownBy W (some g) → W.cell? ⟨kb, 0, none⟩ = some (.string X.symbol) := fun W h => rt_cell h (C 0 _ rfl) hkg
                  have c1 : ∀ W : World, V1.grownBy W (some g) → W.cell? ⟨kb, 1, none⟩ = some (.string X.name) := fun W h => rt_cell h (C 1 _ rfl) hkg
                  have c2 : ∀ W : World, V1.grownBy W (some g) → W.cell? ⟨kb, 2, none⟩ = some (a2) := fun W h => rt_cell h (C 2 _ rfl) hkg
                  have c3 : ∀ W : World, V1.grownBy W (some g) → W.cell? ⟨kb, 3, none⟩ = some (a3) := fun W h => rt_cell h (C 3 _ rfl) hkg
                  have c4 : ∀ W : World, V1.grownBy W (some g) → W.cell? ⟨kb, 4, none⟩ = some (a4) := fun W h => rt_cell h (C 4 _ rfl) hkg
                  have c5 : ∀ W : World, V1.grownBy W (some g) → W.cell? ⟨kb, 5, none⟩ = some (a5) := fun W h => rt_cell h (C 5 _ rfl) hkg
                  have c6 : ∀ W : World, V1.grownBy W (some g) → W.cell? ⟨kb, 6, none⟩ = some (a6) := fun W h => rt_cell h (C 6 _ rfl) hkg
                  have c7 : ∀ W : World, V1.grownBy W (some g) → W.cell? ⟨kb, 7, none⟩ = some (a7) := fun W h => rt_cell h (C 7 _ rfl) hkg
                  have c8 : ∀ W : World, V1.grownBy W (some g) → W.cell? ⟨kb, 8, none⟩ = some (a8) := fun W h => rt_cell h (C 8 _ rfl) hkg
                  have c9 : ∀ W : World, V1.grownBy W (some g) → W.cell? ⟨kb, 9, none⟩ = some (a9) := fun W h => rt_cell h (C 9 _ rfl) hkg
                  have c10 : ∀ W : World, V1.grownBy W (some g) → W.cell? ⟨kb, 10, none⟩ = some (a10) := fun W h => rt_cell h (C 10 _ rfl) hkg
                  have c11 : ∀ W : World, V1.grownBy W (some g) → W.cell? ⟨kb, 11, none⟩ = some (a11) := fun W h => rt_cell h (C 11 _ rfl) hkg
                  have c12 : ∀ W : World, V1.grownBy W (some g) → W.cell? ⟨kb, 12, none⟩ = some (a12) := fun W h => rt_cell h (C 12 _ rfl) hkg
                  have c13 : ∀ W : World, V1.grownBy W (some g) → W.cell? ⟨kb, 13, none⟩ = some (a13) := fun W h => rt_cell h (C 13 _ rfl) hkg
                  have c14 : ∀ W : World, V1.grownBy W (some g) → W.cell? ⟨kb, 14, none⟩ = some (a14) := fun W h => rt_cell h (C 14 _ rfl) hkg
                  have c15 : ∀ W : World, V1.grownBy W (some g) → W.cell? ⟨kb, 15, none⟩ = some (a15) := fun W h => rt_cell h (C 15 _ rfl) hkg
                  have hV1z : w.heap.size + 1 ≤ V1.heap.size := Nat.le_trans hn0 hwv.size
                  have HV1z := hide hV1z
                  have HwV : Hid (∀ W : World, Below V1.heap.size V1 W → Below (w.heap.size + 1) W0 W) := hide fun W h => hwv.trans (h.mono hV1z)
                  have hVV : V1.grownBy V1 (some g) := rt_refl _ _
                  have hVB : Below V1.heap.size V1 V1 := Below.refl _ _
                  have Hwv := hide hwv
                  obtain ⟨T1, hT1⟩ : ∃ N, N = txE D X.target := ⟨_, rfl⟩
                  obtain ⟨T2, hT2⟩ : ∃ N, N = txE D X.value := ⟨_, rfl⟩
                  have HF1 : Hid (∀ W : World, Below V1.heap.size V1 W → Calls Tryz.prog 24 #[.agg #[a2, a3, a4, a5, a6, a7, a8]] W fun e w' => e = .returned (.string T1) ∧ Below W.heap.size W w') := hide fun W h => by rw [hT1]; exact by have h2 := s_FormatExpr D X.target _ f1 W (HE.out _ (HwV.out W h)) HBE.out.1; unfold fmtExpr at h2; rw [if_pos hfp.1] at h2; exact h2
                  have HF2 : Hid (∀ W : World, Below V1.heap.size V1 W → Calls Tryz.prog 24 #[.agg #[a9, a10, a11, a12, a13, a14, a15]] W fun e w' => e = .returned (.string T2) ∧ Below W.heap.size W w') := hide fun W h => by rw [hT2]; exact by have h2 := s_FormatExpr D X.value _ f2 W (HE2.out _ (HwV.out W h)) HBE.out.2; unfold fmtExpr at h2; rw [if_pos hfp2.1] at h2; exact h2
                  have Hy : Hid (conT D X = (⟨#[112, 117, 116, 32]⟩ ++ X.symbol ++ ⟨#[46]⟩ ++ X.name ++ ⟨#[32, 111, 102, 32]⟩ ++ T1 ++ ⟨#[32, 58, 61, 32]⟩ ++ T2)) := hide (by rw [hT1, hT2]; rfl)
                  rw [← hT1] at hts
                  rw [← hT2] at hts2
                  have q0 : ¬ 9223372036854775807 < 4 + X.symbol.size := by omega
                  have q1 : ¬ 9223372036854775807 < 4 + X.symbol.size + 1 := by omega
                  have q2 : ¬ 9223372036854775807 < 4 + X.symbol.size + 1 + X.name.size := by omega
                  have q3 : ¬ 9223372036854775807 < 4 + X.symbol.size + 1 + X.name.size + 4 := by omega
                  have q4 : ¬ 9223372036854775807 < 4 + X.symbol.size + 1 + X.name.size + 4 + T1.size := by omega
                  have q5 : ¬ 9223372036854775807 < 4 + X.symbol.size + 1 + X.name.size + 4 + T1.size + 4 := by omega
                  have q6 : ¬ 9223372036854775807 < 4 + X.symbol.size + 1 + X.name.size + 4 + T1.size + 4 + T2.size := by omega
                  clear C hz hwv hT1 hT2 hvq hfp hfp2 hmem hn8' hn9' hts hts2 e0 e1 e2 e3 e4 e5
                  refine Hold.go ?_
                  go_wp2_with fail
                  go_region_held3 (fun W => V1.grownBy W (some g)) (first | assumption | exact rt_of (by (repeat (first | assumption | exact Below.refl _ _ | apply Below.drew | refine below_alloc (Nat.le_refl _) _ ?_))) | exact rt_drew (by assumption))
                    (first
                      | (go_at_call_has 24 a2; refine Calls.mono (HF1.out _ (by (repeat (first | assumption | exact Below.refl _ _ | apply Below.drew)))) ?_; rintro en w4 ⟨rfl, hb4⟩; have hV4 : Below V1.heap.size V1 w4 := below_step (by (repeat (first | assumption | exact Below.refl _ _ | apply Below.drew))) (Nat.le_refl _) hb4; have hG4 : V1.grownBy w4 (some g) := rt_of hV4; clear hb4)
                      | (go_at_call_has 24 a9; refine Calls.mono (HF2.out _ (by (repeat (first | assumption | exact Below.refl _ _ | apply Below.drew)))) ?_; rintro en w5 ⟨rfl, hb5⟩; have hV5 : Below V1.heap.size V1 w5 := below_step (by (repeat (first | assumption | exact Below.refl _ _ | apply Below.drew))) (Nat.le_refl _) hb5; have hG5 : V1.grownBy w5 (some g) := rt_of hV5; have hz5 : w.heap.size + 1 ≤ w5.heap.size := Nat.le_trans HV1z.out hV5.size; clear hb5)
                      | (refine step_str rfl (.tmp 85) (.tmp 103) 22 rfl Tryz.underlying22 infoStrR rfl w5 _ (w.heap.size + 1) g (x.eqs.length + 1 + k) cc (linesR D x x.eqs.length k) Hlen.out (HSV.out.below hV5) rfl (⟨#[112, 117, 116, 32]⟩ ++ X.symbol ++ ⟨#[46]⟩ ++ X.name ++ ⟨#[32, 111, 102, 32]⟩ ++ T1 ++ ⟨#[32, 58, 61, 32]⟩ ++ T2) rfl (by (repeat (first | assumption | exact Below.refl _ _ | apply Below.drew))) (by omega) (by omega) hz5 ?_
                         intro g6 c6 w6 hrow6 hgr6 hg6
                         have hS6 : V1.grownBy w6 (some g) := rt_trans (rt_of (by (repeat (first | assumption | exact Below.refl _ _ | apply Below.drew | refine below_alloc (Nat.le_refl _) _ ?_)))) hgr6
                         clear hgr6))
                  go_wp2_with fail
                  go_roundw
                  case rel => exact ⟨k + 1, g6, c6, by omega, by go_num, rfl, hg6, hide (by rw [Hln.out, Hy.out]; exact hrow6.below (by (repeat (first | assumption | exact Below.refl _ _ | apply Below.drew)))), hide (Hwv.out.trans (rt_down (by (repeat (first | assumption | apply rt_drew))) hg HV1z.out))⟩
                  case measure => simp [RowKit.intOf]; omega
                · have hjl : k = x.cons.length := by omega
                  subst hjl
                  go_wp2_with fail
                  go_ret
                  obtain ⟨G, h1, h2⟩ := Hrow.out.slr (D := D) (lines_short (fun e he => (HSE.out e he).2) (fun c hc => (HSC.out c hc).2.2) HRV.out _ _)
                  exact ⟨_, G, rfl, by rw [Hr.out]; exact h1, h2.mono (by omega), Hw.out _ hBr⟩

end Go.Proofs.YtjddmboaaebbiaaGreatDoor
