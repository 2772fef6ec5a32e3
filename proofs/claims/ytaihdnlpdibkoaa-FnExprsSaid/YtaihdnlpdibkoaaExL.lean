/- The walk of the law FnExprs: valid expressions respect the limits; their uses stand in order. Conditions: none. -/
import Derived.Test.YtaihdnlpdibkoaaExH
import Derived.Test.YtaihdnlpdibkoaaExEq
import Derived.Test.YtaihdnlpdibkoaaValid
import Derived.Deep.QuietTactic
namespace Go.Proofs.Ytaihdnlpdibkoaa
set_option maxRecDepth 100000
open Go.RowKit Go.WideShapes
set_option linter.unusedVariables false

theorem valid_lim {D : Nat} {e : Ex} (h : validE D e = true) : cntE D e ≤ 24 ∧ depE D e ≤ 6 := by
  unfold validE at h
  simp only [Bool.and_eq_true, decide_eq_true_eq] at h
  exact ⟨h.1, h.2.1⟩
theorem uses_up (e : Ex) : usesE 12 (Ex.mk ⟨8, 0, 0, 0, ⟨#[115]⟩, ⟨#[97]⟩⟩ [e]) = usesE 11 e := by
  show ([] : List Occ) ++ (([e].map (usesE 11)).flatten) = _
  simp
set_option maxRecDepth 100000 in
set_option maxHeartbeats 8000000 in
theorem exprs_walk (A : Option Addr) (n c : Nat) (zs : List Int) (w : World) (hr : Rd w w.heap.size A n (zs.map (Value.int .u8))) (hz : ∀ z ∈ zs, (Lit.int .u8 z).wf = true) (hn : n ≤ 1048576) :
    Calls Try.prog 5 #[.slice A n c] w fun e w' => e = .returned (.bool true) ∧ Below w.heap.size w w' := by
  have Hi : Hid ((Try.prog.info? 52).map (·.size) = some 7) := hide (by kernel_rfl)
  go_enter Try.func5, Try.ntmps5
  go_wp2_with (first | (go_at_call 24; go_in) | fail)
  refine (s_DrawIsValidExpr A n c zs w hr hz hn).mono ?_
  rintro en w1 ⟨e, us, G, rfl, hR, hbk, hb1⟩
  have H1 := hide (ExR.one hR)
  obtain ⟨ua, ub, uc, ud, ue, uf, ug, rfl⟩ := list7 ((ExR.good 11).len hR)
  have Hn7 : Hid (([ua, ub, uc, ud, ue, uf, ug] : List Value).length = 7) := hide rfl
  have hbV : Below w1.heap.size w1 (w1.alloc (.cells #[ua, ub, uc, ud, ue, uf, ug] 52)) := (Below.refl _ _).alloc (Nat.le_refl _) _
  have hC := CellsAt.new w1 [ua, ub, uc, ud, ue, uf, ug] 52
  have hsV := World.size_alloc w1 (.cells #[ua, ub, uc, ud, ue, uf, ug] 52)
  have hEV := (ExR.good 11).below hR hbV ((ExR.good 11).lt hR)
  have HBV : Hid (Below w.heap.size w (w1.alloc (.cells #[ua, ub, uc, ud, ue, uf, ug] 52))) := hide (hb1.trans (hbV.mono hb1.size))
  clear hr hz hR hbV hb1
  go_wp2_with (refine wpList_store_new 52 (.tmp 3) (.tmp 11) rfl Hi.out rfl rfl rfl rfl Hn7.out H1.out rfl ?_; refine hold ?_)
  generalize w1.alloc (.cells #[ua, ub, uc, ud, ue, uf, ug] 52) = V at hC hsV hEV HBV ⊢
  have hFV := (ExR.good 11).lt hEV
  have HX : Hid (∀ W, Below V.heap.size V W → ExR 11 W e [ua, ub, uc, ud, ue, uf, ug] G) := hide fun W hW => (ExR.good 11).below hEV hW hFV
  have HC := hide hC
  have hpV : w1.heap.size < V.heap.size := by omega
  have r0 := cell_rule HC.out (n := V.heap.size) hpV 0 rfl
  have r1 := cell_rule HC.out (n := V.heap.size) hpV 1 rfl
  have r2 := cell_rule HC.out (n := V.heap.size) hpV 2 rfl
  have r3 := cell_rule HC.out (n := V.heap.size) hpV 3 rfl
  have r4 := cell_rule HC.out (n := V.heap.size) hpV 4 rfl
  have r5 := cell_rule HC.out (n := V.heap.size) hpV 5 rfl
  have r6 := cell_rule HC.out (n := V.heap.size) hpV 6 rfl
  have hV0 : Below V.heap.size V V := Below.refl _ _
  have hcnt : cntE 11 e ≤ 2097152 := by have := cnt_le_bulk 11 e; omega
  have hdep : ¬ (depE 11 e > cntE 11 e) := by have := (depE_le 11 e).2; omega
  have heq := eqE_refl 11 e
  have Hcnt := hide hcnt
  clear hC hEV hFV hcnt hsV
  refine Hold.go ?_
  go_wp2_with fail
  refine Calls.mono (i_IsValidExpr 11 e _ G V (HX.out V hV0) (by omega)) ?_
  rintro en w2 ⟨rfl, hb2⟩
  have hW2 : Below V.heap.size V w2 := hb2
  obtain ⟨ok, hok⟩ : ∃ q, q = validE 11 e := ⟨_, rfl⟩
  rw [← hok]
  have Hok := hide hok
  have HVS : Hid (∀ W : World, Below V.heap.size V W → Calls Try.prog 27 #[.agg #[ua, ub, uc, ud, ue, uf, ug]] W fun en w' => en = .returned (.bool ok) ∧ Below W.heap.size W w') := hide fun W hW => by
    rw [hok]
    exact s_IsValidExpr 11 e _ G W (HX.out W hW) (by omega)
  have HEQ : Hid (∀ W : World, Below V.heap.size V W → Calls Try.prog 28 #[.agg #[ua, ub, uc, ud, ue, uf, ug], .agg #[ua, ub, uc, ud, ue, uf, ug]] W fun en w' => en = .returned (.bool true) ∧ Below W.heap.size W w') := hide fun W hW => by
    have := i_EqualExpr 11 e e _ _ G G W (HX.out W hW) (HX.out W hW)
    rwa [heq] at this
  obtain ⟨cn, hcn⟩ : ∃ q, q = cntE 11 e := ⟨_, rfl⟩
  obtain ⟨dp, hdp⟩ : ∃ q, q = depE 11 e := ⟨_, rfl⟩
  have HCI : Hid (∀ W : World, Below V.heap.size V W → Calls Try.prog 30 #[.agg #[ua, ub, uc, ud, ue, uf, ug]] W fun en w' => en = .returned (.int .i64 cn) ∧ Below W.heap.size W w') := hide fun W hW => by
    rw [hcn]
    exact i_CountExpr 11 e _ G W (HX.out W hW) Hcnt.out
  have HCS : Hid (∀ W : World, Below V.heap.size V W → Calls Try.prog 31 #[.agg #[ua, ub, uc, ud, ue, uf, ug]] W fun en w' => en = .returned (.int .i64 cn) ∧ Below W.heap.size W w') := hide fun W hW => by
    rw [hcn]
    exact s_CountExpr 11 e _ G W (HX.out W hW) Hcnt.out
  have HDI : Hid (∀ W : World, Below V.heap.size V W → Calls Try.prog 29 #[.agg #[ua, ub, uc, ud, ue, uf, ug]] W fun en w' => en = .returned (.int .i64 dp) ∧ Below W.heap.size W w') := hide fun W hW => by
    rw [hdp]
    exact i_DepthOfExpr 11 e _ G W (HX.out W hW) Hcnt.out
  rw [← hcn, ← hdp] at hdep
  have Hlim : Hid (ok = true → cn ≤ 24 ∧ dp ≤ 6) := hide fun h => by
    rw [hcn, hdp]
    exact valid_lim (by rw [← hok]; exact h)
  have hdg : ¬ (cn < dp) := by omega
  have hdq : decide (cn < dp) = false := decide_eq_false hdg
  clear hb2 hok hcn hdp heq
  go_wp2_with fail
  go_region_held3 (fun W => Below V.heap.size V W)
    (first | assumption | exact Below.drew (by assumption))
    (first
      | (go_at_call 27; refine Calls.mono (HVS.out _ (by (repeat (first | assumption | apply Below.drew)))) ?_; rintro en wA ⟨rfl, hbA⟩; have hwA : Below V.heap.size V wA := below_step (by (repeat (first | assumption | apply Below.drew))) (Nat.le_refl _) hbA; clear hbA)
      | (go_at_call 28; refine Calls.mono (HEQ.out _ (by (repeat (first | assumption | apply Below.drew)))) ?_; rintro en wB ⟨rfl, hbB⟩; have hwB : Below V.heap.size V wB := below_step (by (repeat (first | assumption | apply Below.drew))) (Nat.le_refl _) hbB; clear hbB)
      | (go_at_call 29; refine Calls.mono (HDI.out _ (by (repeat (first | assumption | apply Below.drew)))) ?_; rintro en wC ⟨rfl, hbC⟩; have hwC : Below V.heap.size V wC := below_step (by (repeat (first | assumption | apply Below.drew))) (Nat.le_refl _) hbC; clear hbC)
      | (go_at_call 30; refine Calls.mono (HCI.out _ (by (repeat (first | assumption | apply Below.drew)))) ?_; rintro en wD ⟨rfl, hbD⟩; have hwD : Below V.heap.size V wD := below_step (by (repeat (first | assumption | apply Below.drew))) (Nat.le_refl _) hbD; clear hbD)
      | (go_at_call 31; refine Calls.mono (HCS.out _ (by (repeat (first | assumption | apply Below.drew)))) ?_; rintro en wE ⟨rfl, hbE⟩; have hwE : Below V.heap.size V wE := below_step (by (repeat (first | assumption | apply Below.drew))) (Nat.le_refl _) hbE; clear hbE))
  clear HVS HEQ HCS hdq hdg hwA hwB hwC hwD
  cases ok
  · obtain ⟨W6, h6⟩ : ∃ W, W = wE := ⟨_, rfl⟩
    subst h6
    have hW6 : Below V.heap.size V W6 := hwE
    go_wp2_with fail
    refine Calls.mono (i_AttributeUses 11 e _ G W6 (HX.out W6 hW6) (by omega)) ?_
    rintro en W7 ⟨v, GU, rfl, hU, hfU, hb7⟩
    have hW7 : Below V.heap.size V W7 := below_step hW6 (Nat.le_refl _) hb7
    have hpw := (sortO_both (usesE 11 e)).1
    generalize hUU : sortO (usesE 11 e) = U at hU hpw
    have HUU := hide hUU
    obtain ⟨AU, capU, rfl, hlU, hmU⟩ := hU.form
    unfold maxLen at hmU
    have HU : Hid (∀ W, Below W7.heap.size W7 W → SlR 2 (OccR 11) W U (.slice AU U.length capU) GU) := hide fun W hW => hU.below (OccR.good 11) hW hfU.lt
    have Hpw := hide hpw
    clear hU hfU hb7 hpw hUU
    go_wp2_with fail
    go_loopw [6] (fun i wr => ∃ j : Nat, 1 ≤ j ∧ j ≤ U.length + 1 ∧ i = .int .i64 j ∧ Hid (Below W7.heap.size W7 wr)) (fun i _ => U.length - (intOf i).toNat)
    case atStart => exact ⟨1, by omega, by omega, rfl, hide (Below.refl _ _)⟩
    case round =>
      obtain ⟨j, hj1, hj2, rfl, Hb⟩ := hrel
      by_cases hlt : j < U.length
      · have hX : U[j]? = some U[j] := List.getElem?_eq_getElem hlt
        have hY : U[j - 1]? = some U[j - 1] := List.getElem?_eq_getElem (by omega)
        have hLt : occLt U[j - 1] U[j] := List.pairwise_iff_getElem.1 Hpw.out (j - 1) j (by omega) hlt (by omega)
        generalize U[j] = y at hX hLt
        generalize U[j - 1] = z at hY hLt
        obtain ⟨b1, off, es, Fk, hA, _, _, _, hcl, hcat, hR1⟩ := SlR.get (OccR.good 11) (HU.out wr Hb.out) hX
        obtain ⟨b2, off2, es2, Fk2, hA2, _, _, _, hcl2, hcat2, hR2⟩ := SlR.get (OccR.good 11) (HU.out wr Hb.out) hY
        rw [hA] at hA2
        injection hA2 with hA2
        injection hA2 with q1 q2
        subst q1 q2
        subst hA
        obtain ⟨a0, a1, rfl⟩ := list2 hcl
        obtain ⟨c0, c1, rfl⟩ := list2 hcl2
        obtain rfl := Option.some.inj hR1.2.2.1
        obtain rfl := Option.some.inj hR1.2.2.2.1
        obtain rfl := Option.some.inj hR2.2.2.1
        obtain rfl := Option.some.inj hR2.2.2.2.1
        obtain ⟨p0, p1⟩ := hcat.two
        obtain ⟨p2, p3⟩ := hcat2.two
        have hi0 : (0 : Int) ≤ (j : Int) := by omega
        have hi1 : (j : Int) < (U.length : Int) := by omega
        have hi2 : (0 : Int) ≤ (j : Int) - 1 := by omega
        have hi3 : (j : Int) - 1 < (U.length : Int) := by omega
        have Hq : Hid (∀ q, Below W7.heap.size W7 (wr.drewN q)) := hide fun q => below_drewN Hb.out q
        have hng : ¬ (z.pos > y.pos) := by
          rcases hLt with h | h
          · omega
          · omega
        have hnd : decide (y.pos < z.pos) = false := decide_eq_false (by omega)
        clear hX hY hR1 hR2 hcat hcat2 hcl hcl2 hW6
        by_cases hpe : z.pos = y.pos
        · have hpb : (z.pos == y.pos) = true := beq_iff_eq.2 hpe
          have hbl : Op.bytesLess z.name.toList y.name.toList = true := by
            rcases hLt with h | h
            · omega
            · rw [bytesLess_eq, Lib.toList_data, Lib.toList_data]
              simpa using h.2
          clear hLt hpe
          go_wp2_with fail
          go_quiet (fail)
          have Hn := hide (Hq.out nq)
          generalize wr.drewN nq = WX at Hn ⊢
          clear p0 p1 p2 p3 hng hpb hbl hnd
          go_wp2_with fail
          go_roundw
          case rel => exact ⟨j + 1, by omega, by omega, by go_num, Hn⟩
          case measure => simp [intOf]; omega
        · have hpb : (z.pos == y.pos) = false := beq_eq_false_iff_ne.2 hpe
          clear hLt hpe
          go_wp2_with fail
          go_quiet (fail)
          have Hn := hide (Hq.out nq)
          generalize wr.drewN nq = WX at Hn ⊢
          clear p0 p1 p2 p3 hng hpb hnd
          go_wp2_with fail
          go_roundw
          case rel => exact ⟨j + 1, by omega, by omega, by go_num, Hn⟩
          case measure => simp [intOf]; omega
      · have hli : ¬ (j : Int) < (U.length : Int) := by omega
        have hWr : Below V.heap.size V wr := hW7.trans (Hb.out.mono hW7.size)
        have hbA : Below wr.heap.size wr (wr.alloc (.cells #[ua, ub, uc, ud, ue, uf, ug] 52)) := (Below.refl _ _).alloc (Nat.le_refl _) _
        have hzA := heap_alloc_new wr (.cells #[ua, ub, uc, ud, ue, uf, ug] 52)
        have hcA := CellsAt.new wr [ua, ub, uc, ud, ue, uf, ug] 52
        have hsA := World.size_alloc wr (.cells #[ua, ub, uc, ud, ue, uf, ug] 52)
        clear hW6 hW7
        go_wp2_with fail
        generalize wr.alloc (.cells #[ua, ub, uc, ud, ue, uf, ug] 52) = WA at hbA hzA hcA hsA ⊢
        have hbB : Below WA.heap.size WA (WA.alloc (.cells #[.int .i64 8, .int .i64 0, .int .i64 0, .int .i64 0, .string ⟨#[115]⟩, .string ⟨#[97]⟩, .slice (some ⟨wr.heap.size, 0, none⟩) 1 1] 52)) := (Below.refl _ _).alloc (Nat.le_refl _) _
        have hcB := CellsAt.new WA [.int .i64 8, .int .i64 0, .int .i64 0, .int .i64 0, .string ⟨#[115]⟩, .string ⟨#[97]⟩, .slice (some ⟨wr.heap.size, 0, none⟩) 1 1] 52
        have hsB := World.size_alloc WA (.cells #[.int .i64 8, .int .i64 0, .int .i64 0, .int .i64 0, .string ⟨#[115]⟩, .string ⟨#[97]⟩, .slice (some ⟨wr.heap.size, 0, none⟩) 1 1] 52)
        rw [hsA] at hcB
        generalize WA.alloc (.cells #[.int .i64 8, .int .i64 0, .int .i64 0, .int .i64 0, .string ⟨#[115]⟩, .string ⟨#[97]⟩, .slice (some ⟨wr.heap.size, 0, none⟩) 1 1] 52) = X2 at hbB hcB hsB ⊢
        have hVX : Below V.heap.size V X2 := (hWr.trans (hbA.mono hWr.size)).trans (hbB.mono (by have := hWr.size; omega))
        have h7X : Below W7.heap.size W7 X2 := (Hb.out.trans (hbA.mono Hb.out.size)).trans (hbB.mono (by have := Hb.out.size; omega))
        have hEX := HX.out X2 hVX
        have hFE := (ExR.good 11).lt hEX
        have hrow : CellsAt X2 wr.heap.size 0 [ua, ub, uc, ud, ue, uf, ug] := hcA.below hbB (by omega)
        have hNX : ExR 12 X2 (Ex.mk ⟨8, 0, 0, 0, ⟨#[115]⟩, ⟨#[97]⟩⟩ [e]) [.int .i64 8, .int .i64 0, .int .i64 0, .int .i64 0, .string ⟨#[115]⟩, .string ⟨#[97]⟩, .slice (some ⟨wr.heap.size, 0, none⟩) 1 1] (wr.heap.size :: G) := (show ExR (11 + 1) _ _ _ _ from ⟨_, rfl, exh_ok ⟨by omega, by omega⟩ ⟨by omega, by omega⟩ ⟨by omega, by omega⟩ ⟨by omega, by omega⟩ (by decide) (by decide), ⟨_, 1, rfl, Nat.le_refl _, by simp [maxLen], .inr ⟨_, 0, G, rfl, by omega, rfl, [ua, ub, uc, ud, ue, uf, ug], G, [], (List.append_nil _).symm, hrow, hEX, rfl⟩⟩⟩)
        have hFX := (ExR.good 12).lt hNX
        have HE2 : Hid (∀ W, Below X2.heap.size X2 W → ExR 11 W e [ua, ub, uc, ud, ue, uf, ug] G) := hide fun W hW => (ExR.good 11).below hEX hW hFE
        have HX2 : Hid (∀ W, Below X2.heap.size X2 W → ExR 12 W (Ex.mk ⟨8, 0, 0, 0, ⟨#[115]⟩, ⟨#[97]⟩⟩ [e]) [.int .i64 8, .int .i64 0, .int .i64 0, .int .i64 0, .string ⟨#[115]⟩, .string ⟨#[97]⟩, .slice (some ⟨wr.heap.size, 0, none⟩) 1 1] (wr.heap.size :: G)) := hide fun W hW => (ExR.good 12).below hNX hW hFX
        have HU2 : Hid (∀ W, Below X2.heap.size X2 W → SlR 2 (OccR 11) W U (.slice AU U.length capU) GU) := hide fun W hW => HU.out W (h7X.trans (hW.mono h7X.size))
        have hpX : w1.heap.size < X2.heap.size := Nat.lt_of_lt_of_le hpV hVX.size
        have hcV := HC.out.below hVX hpV
        have s0 : ∀ W, Below X2.heap.size X2 W → W.cell? ⟨w1.heap.size, 0, none⟩ = some ua := cell_rule hcV (n := X2.heap.size) hpX 0 rfl
        have s1 : ∀ W, Below X2.heap.size X2 W → W.cell? ⟨w1.heap.size, 1, none⟩ = some ub := cell_rule hcV (n := X2.heap.size) hpX 1 rfl
        have s2 : ∀ W, Below X2.heap.size X2 W → W.cell? ⟨w1.heap.size, 2, none⟩ = some uc := cell_rule hcV (n := X2.heap.size) hpX 2 rfl
        have s3 : ∀ W, Below X2.heap.size X2 W → W.cell? ⟨w1.heap.size, 3, none⟩ = some ud := cell_rule hcV (n := X2.heap.size) hpX 3 rfl
        have s4 : ∀ W, Below X2.heap.size X2 W → W.cell? ⟨w1.heap.size, 4, none⟩ = some ue := cell_rule hcV (n := X2.heap.size) hpX 4 rfl
        have s5 : ∀ W, Below X2.heap.size X2 W → W.cell? ⟨w1.heap.size, 5, none⟩ = some uf := cell_rule hcV (n := X2.heap.size) hpX 5 rfl
        have s6 : ∀ W, Below X2.heap.size X2 W → W.cell? ⟨w1.heap.size, 6, none⟩ = some ug := cell_rule hcV (n := X2.heap.size) hpX 6 rfl
        have c0 : ∀ W, Below X2.heap.size X2 W → W.cell? ⟨wr.heap.size + 1, 0, none⟩ = some (.int .i64 8) := cell_rule hcB (n := X2.heap.size) (by omega) 0 rfl
        have c1 : ∀ W, Below X2.heap.size X2 W → W.cell? ⟨wr.heap.size + 1, 1, none⟩ = some (.int .i64 0) := cell_rule hcB (n := X2.heap.size) (by omega) 1 rfl
        have c2 : ∀ W, Below X2.heap.size X2 W → W.cell? ⟨wr.heap.size + 1, 2, none⟩ = some (.int .i64 0) := cell_rule hcB (n := X2.heap.size) (by omega) 2 rfl
        have c3 : ∀ W, Below X2.heap.size X2 W → W.cell? ⟨wr.heap.size + 1, 3, none⟩ = some (.int .i64 0) := cell_rule hcB (n := X2.heap.size) (by omega) 3 rfl
        have c4 : ∀ W, Below X2.heap.size X2 W → W.cell? ⟨wr.heap.size + 1, 4, none⟩ = some (.string ⟨#[115]⟩) := cell_rule hcB (n := X2.heap.size) (by omega) 4 rfl
        have c5 : ∀ W, Below X2.heap.size X2 W → W.cell? ⟨wr.heap.size + 1, 5, none⟩ = some (.string ⟨#[97]⟩) := cell_rule hcB (n := X2.heap.size) (by omega) 5 rfl
        have c6 : ∀ W, Below X2.heap.size X2 W → W.cell? ⟨wr.heap.size + 1, 6, none⟩ = some (.slice (some ⟨wr.heap.size, 0, none⟩) 1 1) := cell_rule hcB (n := X2.heap.size) (by omega) 6 rfl
        have hbe : bulkE 12 (Ex.mk ⟨8, 0, 0, 0, ⟨#[115]⟩, ⟨#[97]⟩⟩ [e]) ≤ 1048576 := by
          rw [bulk_mk]
          have z0 : ((⟨#[115]⟩ : ByteArray).size : Int) = 1 := rfl
          have z1 : ((⟨#[97]⟩ : ByteArray).size : Int) = 1 := rfl
          simp only [sumBy, List.length_cons, List.length_nil]
          rw [z0, z1]
          omega
        have hrx : anyE isRem 12 (Ex.mk ⟨8, 0, 0, 0, ⟨#[115]⟩, ⟨#[97]⟩⟩ [e]) = true := by show (([e].any (anyE isRem 11)) || true) = true; exact Bool.or_true _
        have HIX : Hid (∀ W : World, Below X2.heap.size X2 W → Calls Try.prog 18 #[.agg #[.int .i64 8, .int .i64 0, .int .i64 0, .int .i64 0, .string ⟨#[115]⟩, .string ⟨#[97]⟩, .slice (some ⟨wr.heap.size, 0, none⟩) 1 1]] W fun en w' => ∃ v' G', en = .returned v' ∧ SlR 2 (OccR 11) w' U v' G' ∧ Below W.heap.size W w') := hide fun W hW => (i_AttributeUses 12 (Ex.mk ⟨8, 0, 0, 0, ⟨#[115]⟩, ⟨#[97]⟩⟩ [e]) _ _ W (HX2.out W hW) hbe).mono fun en w' ⟨v', G', h1, h2, _, h3⟩ => ⟨v', G', h1, by rw [← HUU.out, ← uses_up]; exact h2, h3⟩
        have HIS : Hid (∀ W : World, Below X2.heap.size X2 W → Calls Try.prog 16 #[.agg #[ua, ub, uc, ud, ue, uf, ug]] W fun en w' => ∃ v' G', en = .returned v' ∧ SlR 2 (OccR 11) w' U v' G' ∧ Below W.heap.size W w') := hide fun W hW => (s_AttributeUses 11 e _ _ W (HE2.out W hW) (by omega)).mono fun en w' ⟨v', G', h1, h2, _, h3⟩ => ⟨v', G', h1, by rw [← HUU.out]; exact h2, h3⟩
        have HRX : Hid (∀ W : World, Below X2.heap.size X2 W → Calls Try.prog 33 #[.agg #[.int .i64 8, .int .i64 0, .int .i64 0, .int .i64 0, .string ⟨#[115]⟩, .string ⟨#[97]⟩, .slice (some ⟨wr.heap.size, 0, none⟩) 1 1]] W fun en w' => en = .returned (.bool true) ∧ Below W.heap.size W w') := hide fun W hW => by
          have := i_HasRemote 12 (Ex.mk ⟨8, 0, 0, 0, ⟨#[115]⟩, ⟨#[97]⟩⟩ [e]) _ _ W (HX2.out W hW)
          rwa [hrx] at this
        obtain ⟨hr, hhr⟩ : ∃ q, q = anyE isRem 11 e := ⟨_, rfl⟩
        have HRE : Hid (∀ W : World, Below X2.heap.size X2 W → Calls Try.prog 33 #[.agg #[ua, ub, uc, ud, ue, uf, ug]] W fun en w' => en = .returned (.bool hr) ∧ Below W.heap.size W w') := hide fun W hW => by
          have := i_HasRemote 11 e _ _ W (HE2.out W hW)
          rwa [← hhr] at this
        have HRS : Hid (∀ W : World, Below X2.heap.size X2 W → Calls Try.prog 34 #[.agg #[ua, ub, uc, ud, ue, uf, ug]] W fun en w' => en = .returned (.bool hr) ∧ Below W.heap.size W w') := hide fun W hW => by
          have := s_HasRemote 11 e _ _ W (HE2.out W hW)
          rwa [← hhr] at this
        have hX0 : Below X2.heap.size X2 X2 := Below.refl _ _
        have HVX := hide hVX
        clear hEX hFE hrow hNX hFX hbA hzA hcA hbB hcB hsB hVX h7X hcV hrx hhr hWr hbe r0 r1 r2 r3 r4 r5 r6
        go_wp2_with fail
        go_region_held3 (fun W => Below X2.heap.size X2 W)
          (first | assumption | exact Below.drew (by assumption))
          (first
            | (go_at_call 16; refine Calls.mono (HIS.out _ (by (repeat (first | assumption | apply Below.drew)))) ?_; rintro en wS ⟨vS, GS, rfl, hS, hbS⟩; have hwS : Below X2.heap.size X2 wS := below_step (by (repeat (first | assumption | apply Below.drew))) (Nat.le_refl _) hbS; obtain ⟨AS, capS, rfl, _, _⟩ := hS.form; have HS := hide hS; clear hS hbS)
            | (go_at_call 18; refine Calls.mono (HIX.out _ (by (repeat (first | assumption | apply Below.drew)))) ?_; rintro en wI ⟨vI, GI, rfl, hI, hbI⟩; have hwI : Below X2.heap.size X2 wI := below_step (by (repeat (first | assumption | apply Below.drew))) (Nat.le_refl _) hbI; obtain ⟨AI, capI, rfl, _, _⟩ := hI.form; have HI := hide hI; clear hI hbI)
            | (go_at_call 32; first
                | (refine Calls.mono (s_same 11 U _ _ GU GS _ (HU2.out _ (by (repeat (first | assumption | apply Below.drew)))) HS.out) ?_; rintro en wM ⟨rfl, hbM⟩; have hwM : Below X2.heap.size X2 wM := below_step (by (repeat (first | assumption | apply Below.drew))) (Nat.le_refl _) hbM; clear hbM)
                | (refine Calls.mono (s_same 11 U _ _ GI GU _ HI.out (HU2.out _ (by (repeat (first | assumption | apply Below.drew))))) ?_; rintro en wN ⟨rfl, hbN⟩; have hwN : Below X2.heap.size X2 wN := below_step (by (repeat (first | assumption | apply Below.drew))) (Nat.le_refl _) hbN; clear hbN))
            | (go_at_call 33; first
                | (refine Calls.mono (HRX.out _ (by (repeat (first | assumption | apply Below.drew)))) ?_; rintro en wR ⟨rfl, hbR⟩; have hwR : Below X2.heap.size X2 wR := below_step (by (repeat (first | assumption | apply Below.drew))) (Nat.le_refl _) hbR; clear hbR)
                | (refine Calls.mono (HRE.out _ (by (repeat (first | assumption | apply Below.drew)))) ?_; rintro en wT ⟨rfl, hbT⟩; have hwT : Below X2.heap.size X2 wT := below_step (by (repeat (first | assumption | apply Below.drew))) (Nat.le_refl _) hbT; clear hbT))
            | (go_at_call 34; refine Calls.mono (HRS.out _ (by (repeat (first | assumption | apply Below.drew)))) ?_; rintro en wU ⟨rfl, hbU⟩; have hwU : Below X2.heap.size X2 wU := below_step (by (repeat (first | assumption | apply Below.drew))) (Nat.le_refl _) hbU; clear hbU))
        all_goals
          go_wp2_with fail
          go_ret
          exact ⟨by first | rfl | simp, HBV.out.trans ((HVX.out.trans (Below.mono (by first | assumption | exact Below.drew (by assumption)) HVX.out.size)).mono HBV.out.size)⟩
  · obtain ⟨h24, h66⟩ := Hlim.out rfl
    have g24 : ¬ (24 < cn) := by omega
    have g6 : ¬ (6 < dp) := by omega
    go_wp2_with fail
    refine Calls.mono (HCI.out _ hwE) ?_
    rintro en wF ⟨rfl, hbF⟩
    have hwF : Below V.heap.size V wF := below_step hwE (Nat.le_refl _) hbF
    clear hbF
    go_wp2_with fail
    refine Calls.mono (HDI.out _ hwF) ?_
    rintro en W6 ⟨rfl, hb6⟩
    have hW6 : Below V.heap.size V W6 := below_step hwF (Nat.le_refl _) hb6
    clear hb6 hwF
    go_wp2_with fail
    refine Calls.mono (i_AttributeUses 11 e _ G W6 (HX.out W6 hW6) (by omega)) ?_
    rintro en W7 ⟨v, GU, rfl, hU, hfU, hb7⟩
    have hW7 : Below V.heap.size V W7 := below_step hW6 (Nat.le_refl _) hb7
    have hpw := (sortO_both (usesE 11 e)).1
    generalize hUU : sortO (usesE 11 e) = U at hU hpw
    have HUU := hide hUU
    obtain ⟨AU, capU, rfl, hlU, hmU⟩ := hU.form
    unfold maxLen at hmU
    have HU : Hid (∀ W, Below W7.heap.size W7 W → SlR 2 (OccR 11) W U (.slice AU U.length capU) GU) := hide fun W hW => hU.below (OccR.good 11) hW hfU.lt
    have Hpw := hide hpw
    clear hU hfU hb7 hpw hUU
    go_wp2_with fail
    go_loopw [6] (fun i wr => ∃ j : Nat, 1 ≤ j ∧ j ≤ U.length + 1 ∧ i = .int .i64 j ∧ Hid (Below W7.heap.size W7 wr)) (fun i _ => U.length - (intOf i).toNat)
    case atStart => exact ⟨1, by omega, by omega, rfl, hide (Below.refl _ _)⟩
    case round =>
      obtain ⟨j, hj1, hj2, rfl, Hb⟩ := hrel
      by_cases hlt : j < U.length
      · have hX : U[j]? = some U[j] := List.getElem?_eq_getElem hlt
        have hY : U[j - 1]? = some U[j - 1] := List.getElem?_eq_getElem (by omega)
        have hLt : occLt U[j - 1] U[j] := List.pairwise_iff_getElem.1 Hpw.out (j - 1) j (by omega) hlt (by omega)
        generalize U[j] = y at hX hLt
        generalize U[j - 1] = z at hY hLt
        obtain ⟨b1, off, es, Fk, hA, _, _, _, hcl, hcat, hR1⟩ := SlR.get (OccR.good 11) (HU.out wr Hb.out) hX
        obtain ⟨b2, off2, es2, Fk2, hA2, _, _, _, hcl2, hcat2, hR2⟩ := SlR.get (OccR.good 11) (HU.out wr Hb.out) hY
        rw [hA] at hA2
        injection hA2 with hA2
        injection hA2 with q1 q2
        subst q1 q2
        subst hA
        obtain ⟨a0, a1, rfl⟩ := list2 hcl
        obtain ⟨c0, c1, rfl⟩ := list2 hcl2
        obtain rfl := Option.some.inj hR1.2.2.1
        obtain rfl := Option.some.inj hR1.2.2.2.1
        obtain rfl := Option.some.inj hR2.2.2.1
        obtain rfl := Option.some.inj hR2.2.2.2.1
        obtain ⟨p0, p1⟩ := hcat.two
        obtain ⟨p2, p3⟩ := hcat2.two
        have hi0 : (0 : Int) ≤ (j : Int) := by omega
        have hi1 : (j : Int) < (U.length : Int) := by omega
        have hi2 : (0 : Int) ≤ (j : Int) - 1 := by omega
        have hi3 : (j : Int) - 1 < (U.length : Int) := by omega
        have Hq : Hid (∀ q, Below W7.heap.size W7 (wr.drewN q)) := hide fun q => below_drewN Hb.out q
        have hng : ¬ (z.pos > y.pos) := by
          rcases hLt with h | h
          · omega
          · omega
        have hnd : decide (y.pos < z.pos) = false := decide_eq_false (by omega)
        clear hX hY hR1 hR2 hcat hcat2 hcl hcl2 hW6
        by_cases hpe : z.pos = y.pos
        · have hpb : (z.pos == y.pos) = true := beq_iff_eq.2 hpe
          have hbl : Op.bytesLess z.name.toList y.name.toList = true := by
            rcases hLt with h | h
            · omega
            · rw [bytesLess_eq, Lib.toList_data, Lib.toList_data]
              simpa using h.2
          clear hLt hpe
          go_wp2_with fail
          go_quiet (fail)
          have Hn := hide (Hq.out nq)
          generalize wr.drewN nq = WX at Hn ⊢
          clear p0 p1 p2 p3 hng hpb hbl hnd
          go_wp2_with fail
          go_roundw
          case rel => exact ⟨j + 1, by omega, by omega, by go_num, Hn⟩
          case measure => simp [intOf]; omega
        · have hpb : (z.pos == y.pos) = false := beq_eq_false_iff_ne.2 hpe
          clear hLt hpe
          go_wp2_with fail
          go_quiet (fail)
          have Hn := hide (Hq.out nq)
          generalize wr.drewN nq = WX at Hn ⊢
          clear p0 p1 p2 p3 hng hpb hnd
          go_wp2_with fail
          go_roundw
          case rel => exact ⟨j + 1, by omega, by omega, by go_num, Hn⟩
          case measure => simp [intOf]; omega
      · have hli : ¬ (j : Int) < (U.length : Int) := by omega
        have hWr : Below V.heap.size V wr := hW7.trans (Hb.out.mono hW7.size)
        have hbA : Below wr.heap.size wr (wr.alloc (.cells #[ua, ub, uc, ud, ue, uf, ug] 52)) := (Below.refl _ _).alloc (Nat.le_refl _) _
        have hzA := heap_alloc_new wr (.cells #[ua, ub, uc, ud, ue, uf, ug] 52)
        have hcA := CellsAt.new wr [ua, ub, uc, ud, ue, uf, ug] 52
        have hsA := World.size_alloc wr (.cells #[ua, ub, uc, ud, ue, uf, ug] 52)
        clear hW6 hW7
        go_wp2_with fail
        generalize wr.alloc (.cells #[ua, ub, uc, ud, ue, uf, ug] 52) = WA at hbA hzA hcA hsA ⊢
        have hbB : Below WA.heap.size WA (WA.alloc (.cells #[.int .i64 8, .int .i64 0, .int .i64 0, .int .i64 0, .string ⟨#[115]⟩, .string ⟨#[97]⟩, .slice (some ⟨wr.heap.size, 0, none⟩) 1 1] 52)) := (Below.refl _ _).alloc (Nat.le_refl _) _
        have hcB := CellsAt.new WA [.int .i64 8, .int .i64 0, .int .i64 0, .int .i64 0, .string ⟨#[115]⟩, .string ⟨#[97]⟩, .slice (some ⟨wr.heap.size, 0, none⟩) 1 1] 52
        have hsB := World.size_alloc WA (.cells #[.int .i64 8, .int .i64 0, .int .i64 0, .int .i64 0, .string ⟨#[115]⟩, .string ⟨#[97]⟩, .slice (some ⟨wr.heap.size, 0, none⟩) 1 1] 52)
        rw [hsA] at hcB
        generalize WA.alloc (.cells #[.int .i64 8, .int .i64 0, .int .i64 0, .int .i64 0, .string ⟨#[115]⟩, .string ⟨#[97]⟩, .slice (some ⟨wr.heap.size, 0, none⟩) 1 1] 52) = X2 at hbB hcB hsB ⊢
        have hVX : Below V.heap.size V X2 := (hWr.trans (hbA.mono hWr.size)).trans (hbB.mono (by have := hWr.size; omega))
        have h7X : Below W7.heap.size W7 X2 := (Hb.out.trans (hbA.mono Hb.out.size)).trans (hbB.mono (by have := Hb.out.size; omega))
        have hEX := HX.out X2 hVX
        have hFE := (ExR.good 11).lt hEX
        have hrow : CellsAt X2 wr.heap.size 0 [ua, ub, uc, ud, ue, uf, ug] := hcA.below hbB (by omega)
        have hNX : ExR 12 X2 (Ex.mk ⟨8, 0, 0, 0, ⟨#[115]⟩, ⟨#[97]⟩⟩ [e]) [.int .i64 8, .int .i64 0, .int .i64 0, .int .i64 0, .string ⟨#[115]⟩, .string ⟨#[97]⟩, .slice (some ⟨wr.heap.size, 0, none⟩) 1 1] (wr.heap.size :: G) := (show ExR (11 + 1) _ _ _ _ from ⟨_, rfl, exh_ok ⟨by omega, by omega⟩ ⟨by omega, by omega⟩ ⟨by omega, by omega⟩ ⟨by omega, by omega⟩ (by decide) (by decide), ⟨_, 1, rfl, Nat.le_refl _, by simp [maxLen], .inr ⟨_, 0, G, rfl, by omega, rfl, [ua, ub, uc, ud, ue, uf, ug], G, [], (List.append_nil _).symm, hrow, hEX, rfl⟩⟩⟩)
        have hFX := (ExR.good 12).lt hNX
        have HE2 : Hid (∀ W, Below X2.heap.size X2 W → ExR 11 W e [ua, ub, uc, ud, ue, uf, ug] G) := hide fun W hW => (ExR.good 11).below hEX hW hFE
        have HX2 : Hid (∀ W, Below X2.heap.size X2 W → ExR 12 W (Ex.mk ⟨8, 0, 0, 0, ⟨#[115]⟩, ⟨#[97]⟩⟩ [e]) [.int .i64 8, .int .i64 0, .int .i64 0, .int .i64 0, .string ⟨#[115]⟩, .string ⟨#[97]⟩, .slice (some ⟨wr.heap.size, 0, none⟩) 1 1] (wr.heap.size :: G)) := hide fun W hW => (ExR.good 12).below hNX hW hFX
        have HU2 : Hid (∀ W, Below X2.heap.size X2 W → SlR 2 (OccR 11) W U (.slice AU U.length capU) GU) := hide fun W hW => HU.out W (h7X.trans (hW.mono h7X.size))
        have hpX : w1.heap.size < X2.heap.size := Nat.lt_of_lt_of_le hpV hVX.size
        have hcV := HC.out.below hVX hpV
        have s0 : ∀ W, Below X2.heap.size X2 W → W.cell? ⟨w1.heap.size, 0, none⟩ = some ua := cell_rule hcV (n := X2.heap.size) hpX 0 rfl
        have s1 : ∀ W, Below X2.heap.size X2 W → W.cell? ⟨w1.heap.size, 1, none⟩ = some ub := cell_rule hcV (n := X2.heap.size) hpX 1 rfl
        have s2 : ∀ W, Below X2.heap.size X2 W → W.cell? ⟨w1.heap.size, 2, none⟩ = some uc := cell_rule hcV (n := X2.heap.size) hpX 2 rfl
        have s3 : ∀ W, Below X2.heap.size X2 W → W.cell? ⟨w1.heap.size, 3, none⟩ = some ud := cell_rule hcV (n := X2.heap.size) hpX 3 rfl
        have s4 : ∀ W, Below X2.heap.size X2 W → W.cell? ⟨w1.heap.size, 4, none⟩ = some ue := cell_rule hcV (n := X2.heap.size) hpX 4 rfl
        have s5 : ∀ W, Below X2.heap.size X2 W → W.cell? ⟨w1.heap.size, 5, none⟩ = some uf := cell_rule hcV (n := X2.heap.size) hpX 5 rfl
        have s6 : ∀ W, Below X2.heap.size X2 W → W.cell? ⟨w1.heap.size, 6, none⟩ = some ug := cell_rule hcV (n := X2.heap.size) hpX 6 rfl
        have c0 : ∀ W, Below X2.heap.size X2 W → W.cell? ⟨wr.heap.size + 1, 0, none⟩ = some (.int .i64 8) := cell_rule hcB (n := X2.heap.size) (by omega) 0 rfl
        have c1 : ∀ W, Below X2.heap.size X2 W → W.cell? ⟨wr.heap.size + 1, 1, none⟩ = some (.int .i64 0) := cell_rule hcB (n := X2.heap.size) (by omega) 1 rfl
        have c2 : ∀ W, Below X2.heap.size X2 W → W.cell? ⟨wr.heap.size + 1, 2, none⟩ = some (.int .i64 0) := cell_rule hcB (n := X2.heap.size) (by omega) 2 rfl
        have c3 : ∀ W, Below X2.heap.size X2 W → W.cell? ⟨wr.heap.size + 1, 3, none⟩ = some (.int .i64 0) := cell_rule hcB (n := X2.heap.size) (by omega) 3 rfl
        have c4 : ∀ W, Below X2.heap.size X2 W → W.cell? ⟨wr.heap.size + 1, 4, none⟩ = some (.string ⟨#[115]⟩) := cell_rule hcB (n := X2.heap.size) (by omega) 4 rfl
        have c5 : ∀ W, Below X2.heap.size X2 W → W.cell? ⟨wr.heap.size + 1, 5, none⟩ = some (.string ⟨#[97]⟩) := cell_rule hcB (n := X2.heap.size) (by omega) 5 rfl
        have c6 : ∀ W, Below X2.heap.size X2 W → W.cell? ⟨wr.heap.size + 1, 6, none⟩ = some (.slice (some ⟨wr.heap.size, 0, none⟩) 1 1) := cell_rule hcB (n := X2.heap.size) (by omega) 6 rfl
        have hbe : bulkE 12 (Ex.mk ⟨8, 0, 0, 0, ⟨#[115]⟩, ⟨#[97]⟩⟩ [e]) ≤ 1048576 := by
          rw [bulk_mk]
          have z0 : ((⟨#[115]⟩ : ByteArray).size : Int) = 1 := rfl
          have z1 : ((⟨#[97]⟩ : ByteArray).size : Int) = 1 := rfl
          simp only [sumBy, List.length_cons, List.length_nil]
          rw [z0, z1]
          omega
        have hrx : anyE isRem 12 (Ex.mk ⟨8, 0, 0, 0, ⟨#[115]⟩, ⟨#[97]⟩⟩ [e]) = true := by show (([e].any (anyE isRem 11)) || true) = true; exact Bool.or_true _
        have HIX : Hid (∀ W : World, Below X2.heap.size X2 W → Calls Try.prog 18 #[.agg #[.int .i64 8, .int .i64 0, .int .i64 0, .int .i64 0, .string ⟨#[115]⟩, .string ⟨#[97]⟩, .slice (some ⟨wr.heap.size, 0, none⟩) 1 1]] W fun en w' => ∃ v' G', en = .returned v' ∧ SlR 2 (OccR 11) w' U v' G' ∧ Below W.heap.size W w') := hide fun W hW => (i_AttributeUses 12 (Ex.mk ⟨8, 0, 0, 0, ⟨#[115]⟩, ⟨#[97]⟩⟩ [e]) _ _ W (HX2.out W hW) hbe).mono fun en w' ⟨v', G', h1, h2, _, h3⟩ => ⟨v', G', h1, by rw [← HUU.out, ← uses_up]; exact h2, h3⟩
        have HIS : Hid (∀ W : World, Below X2.heap.size X2 W → Calls Try.prog 16 #[.agg #[ua, ub, uc, ud, ue, uf, ug]] W fun en w' => ∃ v' G', en = .returned v' ∧ SlR 2 (OccR 11) w' U v' G' ∧ Below W.heap.size W w') := hide fun W hW => (s_AttributeUses 11 e _ _ W (HE2.out W hW) (by omega)).mono fun en w' ⟨v', G', h1, h2, _, h3⟩ => ⟨v', G', h1, by rw [← HUU.out]; exact h2, h3⟩
        have HRX : Hid (∀ W : World, Below X2.heap.size X2 W → Calls Try.prog 33 #[.agg #[.int .i64 8, .int .i64 0, .int .i64 0, .int .i64 0, .string ⟨#[115]⟩, .string ⟨#[97]⟩, .slice (some ⟨wr.heap.size, 0, none⟩) 1 1]] W fun en w' => en = .returned (.bool true) ∧ Below W.heap.size W w') := hide fun W hW => by
          have := i_HasRemote 12 (Ex.mk ⟨8, 0, 0, 0, ⟨#[115]⟩, ⟨#[97]⟩⟩ [e]) _ _ W (HX2.out W hW)
          rwa [hrx] at this
        obtain ⟨hr, hhr⟩ : ∃ q, q = anyE isRem 11 e := ⟨_, rfl⟩
        have HRE : Hid (∀ W : World, Below X2.heap.size X2 W → Calls Try.prog 33 #[.agg #[ua, ub, uc, ud, ue, uf, ug]] W fun en w' => en = .returned (.bool hr) ∧ Below W.heap.size W w') := hide fun W hW => by
          have := i_HasRemote 11 e _ _ W (HE2.out W hW)
          rwa [← hhr] at this
        have HRS : Hid (∀ W : World, Below X2.heap.size X2 W → Calls Try.prog 34 #[.agg #[ua, ub, uc, ud, ue, uf, ug]] W fun en w' => en = .returned (.bool hr) ∧ Below W.heap.size W w') := hide fun W hW => by
          have := s_HasRemote 11 e _ _ W (HE2.out W hW)
          rwa [← hhr] at this
        have hX0 : Below X2.heap.size X2 X2 := Below.refl _ _
        have HVX := hide hVX
        clear hEX hFE hrow hNX hFX hbA hzA hcA hbB hcB hsB hVX h7X hcV hrx hhr hWr hbe r0 r1 r2 r3 r4 r5 r6
        go_wp2_with fail
        go_region_held3 (fun W => Below X2.heap.size X2 W)
          (first | assumption | exact Below.drew (by assumption))
          (first
            | (go_at_call 16; refine Calls.mono (HIS.out _ (by (repeat (first | assumption | apply Below.drew)))) ?_; rintro en wS ⟨vS, GS, rfl, hS, hbS⟩; have hwS : Below X2.heap.size X2 wS := below_step (by (repeat (first | assumption | apply Below.drew))) (Nat.le_refl _) hbS; obtain ⟨AS, capS, rfl, _, _⟩ := hS.form; have HS := hide hS; clear hS hbS)
            | (go_at_call 18; refine Calls.mono (HIX.out _ (by (repeat (first | assumption | apply Below.drew)))) ?_; rintro en wI ⟨vI, GI, rfl, hI, hbI⟩; have hwI : Below X2.heap.size X2 wI := below_step (by (repeat (first | assumption | apply Below.drew))) (Nat.le_refl _) hbI; obtain ⟨AI, capI, rfl, _, _⟩ := hI.form; have HI := hide hI; clear hI hbI)
            | (go_at_call 32; first
                | (refine Calls.mono (s_same 11 U _ _ GU GS _ (HU2.out _ (by (repeat (first | assumption | apply Below.drew)))) HS.out) ?_; rintro en wM ⟨rfl, hbM⟩; have hwM : Below X2.heap.size X2 wM := below_step (by (repeat (first | assumption | apply Below.drew))) (Nat.le_refl _) hbM; clear hbM)
                | (refine Calls.mono (s_same 11 U _ _ GI GU _ HI.out (HU2.out _ (by (repeat (first | assumption | apply Below.drew))))) ?_; rintro en wN ⟨rfl, hbN⟩; have hwN : Below X2.heap.size X2 wN := below_step (by (repeat (first | assumption | apply Below.drew))) (Nat.le_refl _) hbN; clear hbN))
            | (go_at_call 33; first
                | (refine Calls.mono (HRX.out _ (by (repeat (first | assumption | apply Below.drew)))) ?_; rintro en wR ⟨rfl, hbR⟩; have hwR : Below X2.heap.size X2 wR := below_step (by (repeat (first | assumption | apply Below.drew))) (Nat.le_refl _) hbR; clear hbR)
                | (refine Calls.mono (HRE.out _ (by (repeat (first | assumption | apply Below.drew)))) ?_; rintro en wT ⟨rfl, hbT⟩; have hwT : Below X2.heap.size X2 wT := below_step (by (repeat (first | assumption | apply Below.drew))) (Nat.le_refl _) hbT; clear hbT))
            | (go_at_call 34; refine Calls.mono (HRS.out _ (by (repeat (first | assumption | apply Below.drew)))) ?_; rintro en wU ⟨rfl, hbU⟩; have hwU : Below X2.heap.size X2 wU := below_step (by (repeat (first | assumption | apply Below.drew))) (Nat.le_refl _) hbU; clear hbU))
        all_goals
          go_wp2_with fail
          go_ret
          exact ⟨by first | rfl | simp, HBV.out.trans ((HVX.out.trans (Below.mono (by first | assumption | exact Below.drew (by assumption)) HVX.out.size)).mono HBV.out.size)⟩
end Go.Proofs.Ytaihdnlpdibkoaa
