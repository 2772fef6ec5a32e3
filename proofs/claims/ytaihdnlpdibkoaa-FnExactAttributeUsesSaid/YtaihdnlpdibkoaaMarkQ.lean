/- Equations and contributions overwritten by marks, and held against them. Conditions: numbers from 1 to 2^40. -/
import Derived.Test.YtaihdnlpdibkoaaMarkA
namespace Go.Proofs.Ytaihdnlpdibkoaa
set_option maxRecDepth 100000
open Go.RowKit Go.WideShapes
set_option linter.unusedVariables false

def mk_Eqn (D k : Nat) (x : Eqn) : Eqn := ⟨mk_Occ (k) x.at_, mkE D (k + (ct_Occ x.at_)) x.expr⟩
def ct_Eqn (D : Nat) (x : Eqn) : Nat := (ct_Occ x.at_) + (ctE0 D x.expr)
theorem EqnR.succ {D : Nat} {w : World} {x : Eqn} {cs : List Value} {F : List Nat} (h : EqnR D w x cs F) : ∃ d, D = d + 1 := by
  obtain ⟨_, _, _, h0, h1, _⟩ := h
  match D, h1 with
  | d + 1, _ => exact ⟨d, rfl⟩
set_option maxRecDepth 100000 in
set_option maxHeartbeats 4000000 in
theorem m_Eqn (D C k : Nat) (xs : List Eqn) (v : Value) (F : List Nat) (w : World) (hs : SlR 9 (EqnR D) w xs v F) (hf : Fresh C w F) (hk : 1 ≤ k) (hkn : k + ctL (ct_Eqn D) xs ≤ 1099511627776) :
    Calls Try.prog 50 #[v, .int .i64 k] w fun en w' => en = .returned (.int .i64 ((k + ctL (ct_Eqn D) xs : Nat) : Int)) ∧ SlR 9 (EqnR D) w' (mkL (mk_Eqn D) (ct_Eqn D) k xs) v F ∧ Fresh C w' F ∧ Apart F w w' := by
  obtain ⟨A, cap, rfl, hlc, hm, hsl⟩ := hs
  rcases hsl with ⟨rfl, rfl⟩ | ⟨b, off, F', rfl, hb, rfl, he⟩
  · go_enter Try.func50, Try.ntmps50
    go_wp2_with fail
    go_loop [1, 5] (fun kv i => kv = .int .i64 k ∧ i = .int .i64 0) (fun _ _ => 0)
    case atStart => exact ⟨rfl, rfl⟩
    case round =>
      obtain ⟨rfl, rfl⟩ := hrel
      go_wp2_with fail
      go_ret
      exact ⟨rfl, ⟨A, cap, rfl, hlc, hm, .inl ⟨rfl, rfl⟩⟩, hf, Apart.refl _ _⟩
  have Hf := hide hf
  have hmm := hm
  unfold maxLen at hmm
  have hlm : xs.length ≤ 9223372036854775807 := by omega
  have Hm := hide (And.intro hlc hm)
  have He := hide he
  have Hct := hide (fun j => ctL_take_le (ct := ct_Eqn D) xs j)
  have Htl : Hid (xs.take xs.length = xs) := hide List.take_length
  clear hf he hlc hm hmm
  go_enter Try.func50, Try.ntmps50
  go_wp2_with fail
  go_loopw [1, 5] (fun kv i wr => ∃ j : Nat, j ≤ xs.length ∧ i = .int .i64 j ∧ kv = .int .i64 ((k + ctL (ct_Eqn D) (xs.take j) : Nat) : Int) ∧ Hid (ElR 9 (EqnR D) wr b off (mkL (mk_Eqn D) (ct_Eqn D) k (xs.take j) ++ xs.drop j) F') ∧ Hid (Fresh C wr (b :: F')) ∧ Hid (Apart (b :: F') w wr)) (fun _ i _ => xs.length - (intOf i).toNat)
  case atStart => exact ⟨0, by omega, rfl, rfl, hide (by simpa [mkL] using He.out), Hf, hide (Apart.refl _ _)⟩
  case round =>
    obtain ⟨j, hj, rfl, rfl, Hel, Hfr, Ha⟩ := hrel
    by_cases hlt : j < xs.length
    · have hx : xs[j]? = some xs[j] := List.getElem?_eq_getElem hlt
      generalize xs[j] = x at hx
      have Hx := hide hx
      have hstep := Hct.out (j + 1)
      rw [ctL_take hx] at hstep
      have hcnt : Hid (ctL (ct_Eqn D) (xs.take (j + 1)) = ctL (ct_Eqn D) (xs.take j) + ct_Eqn D x) := hide (ctL_take hx)
      obtain ⟨cs, F1, Fk, F2, hFeq, hcat, hR, g1, g2⟩ := ElR.get (EqnR.good D) Hel.out (half_at (mk := mk_Eqn D) (ct := ct_Eqn D) (k := k) hx)
      obtain ⟨d', rfl⟩ := EqnR.succ hR
      obtain ⟨c0, c1, c2, c3, c4, c5, c6, c7, c8, rfl⟩ := list_9 ((EqnR.good (d' + 1)).len hR)
      obtain ⟨f_0, f_1, _, h_0, h_1, rfl⟩ := hR
      obtain ⟨_, _, g_0_0, g_0_1, rfl⟩ := h_0
      obtain rfl : c0 = .int .i64 x.at_.pos := by simpa using g_0_0
      obtain rfl : c1 = .string x.at_.name := by simpa using g_0_1
      obtain ⟨va_1, hcs_1, _, hs_1⟩ := h_1
      simp only [ExH.cells, List.drop, List.take, List.cons.injEq, and_true] at hcs_1
      obtain ⟨rfl, rfl, rfl, rfl, rfl, rfl, rfl⟩ := hcs_1
      obtain ⟨A_1, cap_1, rfl, _, _⟩ := hs_1.form
      have hct : ct_Eqn (d' + 1) x = 8 + ctL (ctE0 d') x.expr.args := by simp only [ct_Eqn, ct_Occ, ctE0] <;> omega
      have Hcx := hide hct
      rw [hct] at hstep
      obtain ⟨bs, tt, hblk⟩ := Hfr.out.cells b (by simp)
      have e0 := hcat 0 _ rfl
      have e1 := hcat 1 _ rfl
      have e2 := hcat 2 _ rfl
      have e3 := hcat 3 _ rfl
      have e4 := hcat 4 _ rfl
      have e5 := hcat 5 _ rfl
      have e6 := hcat 6 _ rfl
      have e7 := hcat 7 _ rfl
      have e8 := hcat 8 _ rfl
      simp only [Nat.add_zero] at e0
      have hT0 : PutG wr b (off + j * 9) (([] : List Nat) ++ (f_1)) [] wr := PutG.nil hblk
      have hS0 : PutG wr b (off + j * 9) [] [] wr := PutG.nil hblk
      have hfk := Hfr.out
      rw [hFeq] at hfk
      have Hdis := hide (nodup_mid hfk.nodup)
      have Hbk : Hid (∀ k ∈ ([] : List Nat) ++ (f_1), k ≠ b) := hide fun k hk e => (List.nodup_cons.1 hfk.nodup).1 (e ▸ List.mem_append_right _ (List.mem_append_left _ hk))
      have hmid : Fresh C wr (([] : List Nat) ++ (f_1)) := hfk.mid
      have Rf_1 : Hid (Fresh C wr f_1) := hide (hmid.right)
      have Of_1 := hide hs_1
      have Nf_1 : Hid (∀ k ∈ f_1, k ≠ b) := hide fun k hk => Hbk.out k (by simp [hk])
      have Hg1 := hide g1
      have Hg2 := hide g2
      have HFeq := hide hFeq
      have He0 := hide e0
      have He1 := hide e1
      have He2 := hide e2
      have He3 := hide e3
      have He4 := hide e4
      have He5 := hide e5
      have He6 := hide e6
      have He7 := hide e7
      have He8 := hide e8
      have HT := hide hT0
      have HS := hide hS0
      generalize hkq : k + ctL (ct_Eqn (d' + 1)) (xs.take j) = q at hstep ⊢
      have Hkq := hide hkq
      have hq1 : 1 ≤ q := by omega
      have hq2 : q + (8 + ctL (ctE0 d') x.expr.args) ≤ 1099511627776 := by omega
      have hx_x_expr : ctE0 (d' + 1) x.expr = 6 + ctL (ctE0 d') x.expr.args := rfl
      obtain ⟨q1, hqq1⟩ : ∃ q1 : Nat, q + 1 + 1 + 1 + 1 + 1 + 1 + 1 + 1 + ctL (ctE0 d') x.expr.args = q1 := ⟨_, rfl⟩
      have hqb1 : 1 ≤ q1 ∧ q1 ≤ 1099511627776 := by omega
      obtain ⟨hqb1a, hqb1b⟩ := hqb1
      have hmk : mk_Eqn (d' + 1) q x = (Eqn.mk (mk_Occ (q) x.at_) (mkE (d' + 1) (q + 1 + 1) x.expr)) := by
        rfl
      have Hmk := hide hmk
      have Hqq1 := hide hqq1
      clear hmk  hqq1 hx_x_expr
      have hj0 : (0 : Int) ≤ (j : Int) := by omega
      have hj1 : (j : Int) < (xs.length : Int) := by omega
      clear hx hcat hblk g1 g2 hFeq hT0 hS0 hfk hmid hkq hstep hct hs_1 e0 e1 e2 e3 e4 e5 e6 e7 e8
      have G0 := He0
      have G1 := He1
      have G2 := He2
      have G3 := He3
      have G4 := He4
      have G5 := He5
      have G6 := He6
      have G7 := He7
      have G8 := He8
      have c_0 : wr.cell? ⟨b, off + j * 9, none⟩ = some (.int .i64 x.at_.pos) := HS.out.cell (i := off + j * 9) (by simp) G0.out
      have f_0 := HS.out.frozen (off + j * 9)
      go_wp2_with fail
      have p0 : PutG wr b (off + j * 9) [] [.int .i64 ((q : Int))] (wr.setCell ⟨b, off + j * 9, none⟩ (.int .i64 ((q : Int)))) := PutG.store HS.out (.int .i64 ((q : Int))) (c := .int .i64 x.at_.pos) (by exact (PutG.cell (i := off + j * 9) HS.out (by simp) (G0.out)))
      generalize wr.setCell ⟨b, off + j * 9, none⟩ (.int .i64 ((q : Int))) = U1 at p0 ⊢
      clear HS
      have HS := hide p0
      clear p0
      refine (l_markText (q + 1) (by omega) (by omega) _).mono ?_
      rintro e U2 ⟨rfl, hb2⟩
      have hS := HS.out.below hb2
      clear HS hb2
      clear c_0 f_0
      have HS := hide hS
      clear hS
      have c_1 : U2.cell? ⟨b, off + j * 9 + 1, none⟩ = some (.string x.at_.name) := HS.out.cell (i := off + j * 9 + 1) (by simp) G1.out
      have f_1 := HS.out.frozen (off + j * 9 + 1)
      have c_2 : U2.cell? ⟨b, off + j * 9 + 2, none⟩ = some (.int .i64 x.expr.h.kind) := HS.out.cell (i := off + j * 9 + 2) (by simp) G2.out
      have f_2 := HS.out.frozen (off + j * 9 + 2)
      have c_3 : U2.cell? ⟨b, off + j * 9 + 3, none⟩ = some (.int .i64 x.expr.h.n) := HS.out.cell (i := off + j * 9 + 3) (by simp) G3.out
      have f_3 := HS.out.frozen (off + j * 9 + 3)
      have c_4 : U2.cell? ⟨b, off + j * 9 + 4, none⟩ = some (.int .i64 x.expr.h.pos) := HS.out.cell (i := off + j * 9 + 4) (by simp) G4.out
      have f_4 := HS.out.frozen (off + j * 9 + 4)
      have c_5 : U2.cell? ⟨b, off + j * 9 + 5, none⟩ = some (.int .i64 x.expr.h.type) := HS.out.cell (i := off + j * 9 + 5) (by simp) G5.out
      have f_5 := HS.out.frozen (off + j * 9 + 5)
      go_wp2_with fail
      have p0 : PutG wr b (off + j * 9) [] [.int .i64 ((q : Int)), .string (mkT (q + 1))] (U2.setCell ⟨b, off + j * 9 + 1, none⟩ (.string (mkT (q + 1)))) := PutG.store HS.out (.string (mkT (q + 1))) (c := .string x.at_.name) (by exact (PutG.cell (i := off + j * 9 + 1) HS.out (by simp) (G1.out)))
      have p1 : PutG wr b (off + j * 9) [] [.int .i64 ((q : Int)), .string (mkT (q + 1)), .int .i64 ((q : Int) + 1 + 1)] ((U2.setCell ⟨b, off + j * 9 + 1, none⟩ (.string (mkT (q + 1)))).setCell ⟨b, off + j * 9 + 2, none⟩ (.int .i64 ((q : Int) + 1 + 1))) := PutG.store p0 (.int .i64 ((q : Int) + 1 + 1)) (c := .int .i64 x.expr.h.kind) (by exact (PutG.cell (i := off + j * 9 + 2) p0 (by simp) (G2.out)))
      have p2 : PutG wr b (off + j * 9) [] [.int .i64 ((q : Int)), .string (mkT (q + 1)), .int .i64 ((q : Int) + 1 + 1), .int .i64 ((q : Int) + 1 + 1 + 1)] (((U2.setCell ⟨b, off + j * 9 + 1, none⟩ (.string (mkT (q + 1)))).setCell ⟨b, off + j * 9 + 2, none⟩ (.int .i64 ((q : Int) + 1 + 1))).setCell ⟨b, off + j * 9 + 3, none⟩ (.int .i64 ((q : Int) + 1 + 1 + 1))) := PutG.store p1 (.int .i64 ((q : Int) + 1 + 1 + 1)) (c := .int .i64 x.expr.h.n) (by exact (PutG.cell (i := off + j * 9 + 3) p1 (by simp) (G3.out)))
      have p3 : PutG wr b (off + j * 9) [] [.int .i64 ((q : Int)), .string (mkT (q + 1)), .int .i64 ((q : Int) + 1 + 1), .int .i64 ((q : Int) + 1 + 1 + 1), .int .i64 ((q : Int) + 1 + 1 + 1 + 1)] ((((U2.setCell ⟨b, off + j * 9 + 1, none⟩ (.string (mkT (q + 1)))).setCell ⟨b, off + j * 9 + 2, none⟩ (.int .i64 ((q : Int) + 1 + 1))).setCell ⟨b, off + j * 9 + 3, none⟩ (.int .i64 ((q : Int) + 1 + 1 + 1))).setCell ⟨b, off + j * 9 + 4, none⟩ (.int .i64 ((q : Int) + 1 + 1 + 1 + 1))) := PutG.store p2 (.int .i64 ((q : Int) + 1 + 1 + 1 + 1)) (c := .int .i64 x.expr.h.pos) (by exact (PutG.cell (i := off + j * 9 + 4) p2 (by simp) (G4.out)))
      have p4 : PutG wr b (off + j * 9) [] [.int .i64 ((q : Int)), .string (mkT (q + 1)), .int .i64 ((q : Int) + 1 + 1), .int .i64 ((q : Int) + 1 + 1 + 1), .int .i64 ((q : Int) + 1 + 1 + 1 + 1), .int .i64 ((q : Int) + 1 + 1 + 1 + 1 + 1)] (((((U2.setCell ⟨b, off + j * 9 + 1, none⟩ (.string (mkT (q + 1)))).setCell ⟨b, off + j * 9 + 2, none⟩ (.int .i64 ((q : Int) + 1 + 1))).setCell ⟨b, off + j * 9 + 3, none⟩ (.int .i64 ((q : Int) + 1 + 1 + 1))).setCell ⟨b, off + j * 9 + 4, none⟩ (.int .i64 ((q : Int) + 1 + 1 + 1 + 1))).setCell ⟨b, off + j * 9 + 5, none⟩ (.int .i64 ((q : Int) + 1 + 1 + 1 + 1 + 1))) := PutG.store p3 (.int .i64 ((q : Int) + 1 + 1 + 1 + 1 + 1)) (c := .int .i64 x.expr.h.type) (by exact (PutG.cell (i := off + j * 9 + 5) p3 (by simp) (G5.out)))
      generalize ((((U2.setCell ⟨b, off + j * 9 + 1, none⟩ (.string (mkT (q + 1)))).setCell ⟨b, off + j * 9 + 2, none⟩ (.int .i64 ((q : Int) + 1 + 1))).setCell ⟨b, off + j * 9 + 3, none⟩ (.int .i64 ((q : Int) + 1 + 1 + 1))).setCell ⟨b, off + j * 9 + 4, none⟩ (.int .i64 ((q : Int) + 1 + 1 + 1 + 1))).setCell ⟨b, off + j * 9 + 5, none⟩ (.int .i64 ((q : Int) + 1 + 1 + 1 + 1 + 1)) = U3 at p4 ⊢
      clear HS
      have HS := hide p4
      clear p0 p1 p2 p3 p4
      refine (l_markText (q + 1 + 1 + 1 + 1 + 1 + 1) (by omega) (by omega) _).mono ?_
      rintro e U4 ⟨rfl, hb2⟩
      have hS := HS.out.below hb2
      clear HS hb2
      clear c_1 f_1 c_2 f_2 c_3 f_3 c_4 f_4 c_5 f_5
      have HS := hide hS
      clear hS
      have c_6 : U4.cell? ⟨b, off + j * 9 + 6, none⟩ = some (.string x.expr.h.symbol) := HS.out.cell (i := off + j * 9 + 6) (by simp) G6.out
      have f_6 := HS.out.frozen (off + j * 9 + 6)
      go_wp2_with fail
      have p0 : PutG wr b (off + j * 9) [] [.int .i64 ((q : Int)), .string (mkT (q + 1)), .int .i64 ((q : Int) + 1 + 1), .int .i64 ((q : Int) + 1 + 1 + 1), .int .i64 ((q : Int) + 1 + 1 + 1 + 1), .int .i64 ((q : Int) + 1 + 1 + 1 + 1 + 1), .string (mkT (q + 1 + 1 + 1 + 1 + 1 + 1))] (U4.setCell ⟨b, off + j * 9 + 6, none⟩ (.string (mkT (q + 1 + 1 + 1 + 1 + 1 + 1)))) := PutG.store HS.out (.string (mkT (q + 1 + 1 + 1 + 1 + 1 + 1))) (c := .string x.expr.h.symbol) (by exact (PutG.cell (i := off + j * 9 + 6) HS.out (by simp) (G6.out)))
      generalize U4.setCell ⟨b, off + j * 9 + 6, none⟩ (.string (mkT (q + 1 + 1 + 1 + 1 + 1 + 1))) = U5 at p0 ⊢
      clear HS
      have HS := hide p0
      clear p0
      refine (l_markText (q + 1 + 1 + 1 + 1 + 1 + 1 + 1) (by omega) (by omega) _).mono ?_
      rintro e U6 ⟨rfl, hb2⟩
      have hS := HS.out.below hb2
      clear HS hb2
      clear c_6 f_6
      have HS := hide hS
      clear hS
      have c_7 : U6.cell? ⟨b, off + j * 9 + 7, none⟩ = some (.string x.expr.h.name) := HS.out.cell (i := off + j * 9 + 7) (by simp) G7.out
      have f_7 := HS.out.frozen (off + j * 9 + 7)
      have c_8 : U6.cell? ⟨b, off + j * 9 + 8, none⟩ = some (.slice A_1 x.expr.args.length cap_1) := HS.out.cell (i := off + j * 9 + 8) (by simp) G8.out
      go_wp2_with fail
      have p0 : PutG wr b (off + j * 9) [] [.int .i64 ((q : Int)), .string (mkT (q + 1)), .int .i64 ((q : Int) + 1 + 1), .int .i64 ((q : Int) + 1 + 1 + 1), .int .i64 ((q : Int) + 1 + 1 + 1 + 1), .int .i64 ((q : Int) + 1 + 1 + 1 + 1 + 1), .string (mkT (q + 1 + 1 + 1 + 1 + 1 + 1)), .string (mkT (q + 1 + 1 + 1 + 1 + 1 + 1 + 1))] (U6.setCell ⟨b, off + j * 9 + 7, none⟩ (.string (mkT (q + 1 + 1 + 1 + 1 + 1 + 1 + 1)))) := PutG.store HS.out (.string (mkT (q + 1 + 1 + 1 + 1 + 1 + 1 + 1))) (c := .string x.expr.h.name) (by exact (PutG.cell (i := off + j * 9 + 7) HS.out (by simp) (G7.out)))
      generalize U6.setCell ⟨b, off + j * 9 + 7, none⟩ (.string (mkT (q + 1 + 1 + 1 + 1 + 1 + 1 + 1))) = U7 at p0 ⊢
      clear HS
      have HS := hide p0
      clear p0
      have hS := HS.out.keep (u := .slice A_1 x.expr.args.length cap_1) (HS.out.cell (i := off + j * 9 + 8) (by simp) G8.out)
      have hS : PutG wr b (off + j * 9) [] [.int .i64 ((q : Int)), .string (mkT (q + 1)), .int .i64 ((q : Int) + 1 + 1), .int .i64 ((q : Int) + 1 + 1 + 1), .int .i64 ((q : Int) + 1 + 1 + 1 + 1), .int .i64 ((q : Int) + 1 + 1 + 1 + 1 + 1), .string (mkT (q + 1 + 1 + 1 + 1 + 1 + 1)), .string (mkT (q + 1 + 1 + 1 + 1 + 1 + 1 + 1)), .slice A_1 x.expr.args.length cap_1] U7 := hS
      have hOf_1 := Of_1.out.frame (ExR.good d') (fun k hk => hS.far k (Of_1.out.lt (ExR.good d') k hk) (Nf_1.out k hk) (by simp)) hS.size
      have hRf_1 := hS.fresh Rf_1.out
      refine Calls.mono (ms_Ex d' C (q + 1 + 1 + 1 + 1 + 1 + 1 + 1 + 1) x.expr.args _ f_1 U7 hOf_1 hRf_1 (by omega) (by omega)) ?_
      rintro en U8 ⟨rfl, hOn, hRn, ha⟩
      have hT : PutG wr b (off + j * 9) (([] : List Nat) ++ (f_1)) [.int .i64 ((q : Int)), .string (mkT (q + 1)), .int .i64 ((q : Int) + 1 + 1), .int .i64 ((q : Int) + 1 + 1 + 1), .int .i64 ((q : Int) + 1 + 1 + 1 + 1), .int .i64 ((q : Int) + 1 + 1 + 1 + 1 + 1), .string (mkT (q + 1 + 1 + 1 + 1 + 1 + 1)), .string (mkT (q + 1 + 1 + 1 + 1 + 1 + 1 + 1)), .slice A_1 x.expr.args.length cap_1] U8 := HT.out.step hS ha (fun hm => Nf_1.out b hm rfl) (fun k hk => by simp [hk])
      clear Of_1 Rf_1
      have Of_1 := hide hOn
      have Rf_1 := hide hRn
      have hS2 : PutG U8 b (off + j * 9 + 9) [] [] U8 := hT.nil_at
      clear HT HS hS ha hOn hRn 
      clear hOf_1 hRf_1
      clear c_7 f_7 c_8
      have HT := hide hT
      have HS := hide hS2
      clear hT hS2
      rw [Hqq1.out]
      have hT := HT.out
      have hOf_1 := Of_1.out
      have hRf_1 := Rf_1.out
      have hy : EqnR (d' + 1) U8 (mk_Eqn (d' + 1) q x) [.int .i64 ((q : Int)), .string (mkT (q + 1)), .int .i64 ((q : Int) + 1 + 1), .int .i64 ((q : Int) + 1 + 1 + 1), .int .i64 ((q : Int) + 1 + 1 + 1 + 1), .int .i64 ((q : Int) + 1 + 1 + 1 + 1 + 1), .string (mkT (q + 1 + 1 + 1 + 1 + 1 + 1)), .string (mkT (q + 1 + 1 + 1 + 1 + 1 + 1 + 1)), .slice A_1 x.expr.args.length cap_1] (([] : List Nat) ++ (f_1)) := by
        rw [Hmk.out]
        exact ⟨_, _, rfl, ⟨rfl, ⟨wf_int (z := ((q : Nat) : Int)) (by omega) (by omega), mkT_small (k := q + 1) (by omega)⟩, rfl, rfl, rfl⟩, ⟨_, rfl, mkE_ok (k := q + 1 + 1) (by omega), hOf_1⟩, rfl⟩
      have hset := ElR.set (EqnR.good (d' + 1)) hT.size (by rw [half_len (by omega)]; exact hlt) Hg1.out Hg2.out hy hT.cellsAt
        (fun i hi => hT.same rfl i (by rw [Nat.add_mul] at hi; omega)) (fun k hk => hT.far k (Hfr.out.lt k (by rw [HFeq.out]; simp [hk])) (Hdis.out.1 k hk).1 (Hdis.out.1 k hk).2) (fun k hk => hT.far k (Hfr.out.lt k (by rw [HFeq.out]; simp [hk])) (Hdis.out.2 k hk).1 (Hdis.out.2 k hk).2)
      have hnext := half_next (mk := mk_Eqn (d' + 1)) (ct := ct_Eqn (d' + 1)) (k := k) Hx.out
      rw [Hkq.out] at hnext
      rw [hnext] at hset
      have Hset := hide hset
      have Hfr4 := hide (hT.freshX Hfr.out (fun k hk => by first | exact hRf_1.cells k hk | exact hRf_1.cells k (by simpa using hk)))
      have Hap : Hid (Apart (b :: F') w U8) := hide (Ha.out.trans ⟨hT.os, hT.tape, hT.output, hT.size, fun k hk hF => hT.far k hk (fun e => hF (by simp [e])) (fun hm => hF (by rw [HFeq.out]; exact List.mem_cons_of_mem _ (List.mem_append_right _ (List.mem_append_left _ hm))))⟩)
      have hc2 : q1 = k + ctL (ct_Eqn (d' + 1)) (xs.take (j + 1)) := by have h1 := hcnt.out; have h2 := Hkq.out; have h3 := Hcx.out; have := Hqq1.out; omega
      have Hc2 := hide hc2
      clear hT hy hset hnext hc2 HS HT hOf_1 hRf_1 Of_1 Rf_1
      go_wp2_with fail
      exact ⟨⟨j + 1, by omega, by go_num, by rw [← Hc2.out]; first | done | go_num, hide (by rw [HFeq.out]; exact Hset.out), Hfr4, Hap⟩, by simp [intOf]; omega⟩
    · have hjn : j = xs.length := by omega
      subst hjn
      go_wp2_with fail
      go_ret
      have h1 := Hel.out
      rw [List.take_length, List.drop_length, List.append_nil] at h1
      refine ⟨ret_int (by rw [Htl.out]), ⟨some ⟨b, off, none⟩, cap, by rw [mkL_len], by rw [mkL_len]; exact Hm.out.1, Hm.out.2, .inr ⟨b, off, F', rfl, Hfr.out.lt b (by simp), rfl, h1⟩⟩, Hfr.out, Ha.out⟩
set_option maxRecDepth 100000 in
set_option maxHeartbeats 4000000 in
theorem hd_Eqn (D k : Nat) (xs : List Eqn) (v : Value) (F : List Nat) (w : World) (hs : SlR 9 (EqnR D) w (mkL (mk_Eqn D) (ct_Eqn D) k xs) v F) (hk : 1 ≤ k) (hkn : k + ctL (ct_Eqn D) xs ≤ 1099511627776) :
    Calls Try.prog 53 #[v, .int .i64 k] w fun en w' => en = .returned (.int .i64 ((k + ctL (ct_Eqn D) xs : Nat) : Int)) ∧ Below w.heap.size w w' := by
  obtain ⟨A, cap, rfl, hlc, hm⟩ := hs.form
  have HF := hide (hs.lt (EqnR.good D))
  have Hs := hide hs
  rw [mkL_len] at hlc hs ⊢
  unfold maxLen at hm
  have hlm : xs.length ≤ 9223372036854775807 := by omega
  have Hct := hide (fun j => ctL_take_le (ct := ct_Eqn D) xs j)
  have Htl : Hid (xs.take xs.length = xs) := hide List.take_length
  clear hs hlc hm
  go_enter Try.func53, Try.ntmps53
  go_wp2_with fail
  go_loopw [1, 5] (fun kv i wr => ∃ j : Nat, j ≤ xs.length ∧ i = .int .i64 j ∧ kv = .int .i64 ((k + ctL (ct_Eqn D) (xs.take j) : Nat) : Int) ∧ Hid (Below w.heap.size w wr)) (fun _ i _ => xs.length - (intOf i).toNat)
  case atStart => exact ⟨0, by omega, rfl, rfl, hide (Below.refl _ _)⟩
  case round =>
    obtain ⟨j, hj, rfl, rfl, Hb⟩ := hrel
    by_cases hlt : j < xs.length
    · have hx : xs[j]? = some xs[j] := List.getElem?_eq_getElem hlt
      generalize xs[j] = x at hx
      have hstep := Hct.out (j + 1)
      rw [ctL_take hx] at hstep
      have hcnt : Hid (ctL (ct_Eqn D) (xs.take (j + 1)) = ctL (ct_Eqn D) (xs.take j) + ct_Eqn D x) := hide (ctL_take hx)
      obtain ⟨b, off, cs, Fk, hA, _, hbF, hFk, hcl, hcat, hR⟩ := SlR.get (EqnR.good D) (Hs.out.below (EqnR.good D) Hb.out HF.out) (mkL_at hx)
      subst hA
      have hblt := Nat.lt_of_lt_of_le (HF.out b hbF) Hb.out.size
      generalize hkq : k + ctL (ct_Eqn D) (xs.take j) = q at hR hstep ⊢
      have Hkq := hide hkq
      obtain ⟨c0, c1, c2, c3, c4, c5, c6, c7, c8, rfl⟩ := list_9 hcl
      obtain ⟨d', rfl⟩ := EqnR.succ hR
      have hct : ct_Eqn (d' + 1) x = 8 + ctL (ctE0 d') x.expr.args := by simp only [ct_Eqn, ct_Occ, ctE0] <;> omega
      have Hcx := hide hct
      rw [hct] at hstep
      have hq1 : 1 ≤ q := by omega
      have hq2 : q + (8 + ctL (ctE0 d') x.expr.args) ≤ 1099511627776 := by omega
      have hx_x_expr : ctE0 (d' + 1) x.expr = 6 + ctL (ctE0 d') x.expr.args := rfl
      obtain ⟨q1, hqq1⟩ : ∃ q1 : Nat, q + 1 + 1 + 1 + 1 + 1 + 1 + 1 + 1 + ctL (ctE0 d') x.expr.args = q1 := ⟨_, rfl⟩
      have hqb1 : 1 ≤ q1 ∧ q1 ≤ 1099511627776 := by omega
      obtain ⟨hqb1a, hqb1b⟩ := hqb1
      have hmk : mk_Eqn (d' + 1) q x = (Eqn.mk (mk_Occ (q) x.at_) (mkE (d' + 1) (q + 1 + 1) x.expr)) := by
        rfl
      have Hmk := hide hmk
      have Hqq1 := hide hqq1
      clear hmk  hqq1 hx_x_expr
      rw [Hmk.out] at hR
      obtain ⟨f_0, f_1, _, h_0, h_1, rfl⟩ := hR
      obtain ⟨_, _, g_0_0, g_0_1, rfl⟩ := h_0
      obtain rfl : c0 = .int .i64 (Eqn.mk (mk_Occ (q) x.at_) (mkE (d' + 1) (q + 1 + 1) x.expr)).at_.pos := by simpa using g_0_0
      obtain rfl : c1 = .string (Eqn.mk (mk_Occ (q) x.at_) (mkE (d' + 1) (q + 1 + 1) x.expr)).at_.name := by simpa using g_0_1
      obtain ⟨va_1, hcs_1, _, hs_1⟩ := h_1
      simp only [ExH.cells, List.drop, List.take, List.cons.injEq, and_true] at hcs_1
      obtain ⟨rfl, rfl, rfl, rfl, rfl, rfl, rfl⟩ := hcs_1
      obtain ⟨A_1, cap_1, rfl, _, _⟩ := hs_1.form
      have Tf_1 : SlR 7 (ExR d') wr (mkL (mkE d') (ctE0 d') (q + 1 + 1 + 1 + 1 + 1 + 1 + 1 + 1) x.expr.args) (.slice A_1 (Eqn.mk (mk_Occ (q) x.at_) (mkE (d' + 1) (q + 1 + 1) x.expr)).expr.args.length cap_1) f_1 := hs_1
      have Hf_1 : Hid (∀ W : World, Below wr.heap.size wr W → SlR 7 (ExR d') W (mkL (mkE d') (ctE0 d') (q + 1 + 1 + 1 + 1 + 1 + 1 + 1 + 1) x.expr.args) (.slice A_1 (Eqn.mk (mk_Occ (q) x.at_) (mkE (d' + 1) (q + 1 + 1) x.expr)).expr.args.length cap_1) f_1) := hide fun W h => Tf_1.below (ExR.good d') h (Tf_1.lt (ExR.good d'))
      have e0 : ∀ W : World, Below wr.heap.size wr W → W.cell? ⟨b, off + j * 9, none⟩ = some (.int .i64 (((q : Nat)) : Int)) := fun W h => (hcat.below h hblt) 0 _ rfl
      have e1 : ∀ W : World, Below wr.heap.size wr W → W.cell? ⟨b, off + j * 9 + 1, none⟩ = some (.string (mkT (q + 1))) := fun W h => (hcat.below h hblt) 1 _ rfl
      have e2 : ∀ W : World, Below wr.heap.size wr W → W.cell? ⟨b, off + j * 9 + 2, none⟩ = some (.int .i64 (((q + 1 + 1 : Nat)) : Int)) := fun W h => (hcat.below h hblt) 2 _ rfl
      have e3 : ∀ W : World, Below wr.heap.size wr W → W.cell? ⟨b, off + j * 9 + 3, none⟩ = some (.int .i64 (((q + 1 + 1 + 1 : Nat)) : Int)) := fun W h => (hcat.below h hblt) 3 _ rfl
      have e4 : ∀ W : World, Below wr.heap.size wr W → W.cell? ⟨b, off + j * 9 + 4, none⟩ = some (.int .i64 (((q + 1 + 1 + 1 + 1 : Nat)) : Int)) := fun W h => (hcat.below h hblt) 4 _ rfl
      have e5 : ∀ W : World, Below wr.heap.size wr W → W.cell? ⟨b, off + j * 9 + 5, none⟩ = some (.int .i64 (((q + 1 + 1 + 1 + 1 + 1 : Nat)) : Int)) := fun W h => (hcat.below h hblt) 5 _ rfl
      have e6 : ∀ W : World, Below wr.heap.size wr W → W.cell? ⟨b, off + j * 9 + 6, none⟩ = some (.string (mkT (q + 1 + 1 + 1 + 1 + 1 + 1))) := fun W h => (hcat.below h hblt) 6 _ rfl
      have e7 : ∀ W : World, Below wr.heap.size wr W → W.cell? ⟨b, off + j * 9 + 7, none⟩ = some (.string (mkT (q + 1 + 1 + 1 + 1 + 1 + 1 + 1))) := fun W h => (hcat.below h hblt) 7 _ rfl
      have e8 : ∀ W : World, Below wr.heap.size wr W → W.cell? ⟨b, off + j * 9 + 8, none⟩ = some (.slice A_1 (Eqn.mk (mk_Occ (q) x.at_) (mkE (d' + 1) (q + 1 + 1) x.expr)).expr.args.length cap_1) := fun W h => (hcat.below h hblt) 8 _ rfl
      have hj0 : (0 : Int) ≤ (j : Int) := by omega
      have hj1 : (j : Int) < (xs.length : Int) := by omega
      have hwr : Below wr.heap.size wr wr := Below.refl _ _
      clear hx hcat hFk hbF hcl hstep hct hkq Tf_1 hs_1
      go_wp2_with fail
      go_region_held3 (fun W => Below wr.heap.size wr W)
        (first | assumption | exact Below.drew (by first | assumption | exact Below.refl _ _))
        ((go_at_call 66; refine Calls.mono (l_markText (q + 1) (by omega) (by omega) _) ?_; rintro en W1 ⟨rfl, hb⟩; have hW1 : Below wr.heap.size wr W1 := below_step (by (repeat (first | assumption | apply Below.drew | exact Below.refl _ _))) (Nat.le_refl _) hb; clear hb))
      go_wp2_with fail
      go_region_held3 (fun W => Below wr.heap.size wr W)
        (first | assumption | exact Below.drew (by first | assumption | exact Below.refl _ _))
        ((go_at_call 66; refine Calls.mono (l_markText (q + 1 + 1 + 1 + 1 + 1 + 1) (by omega) (by omega) _) ?_; rintro en W2 ⟨rfl, hb⟩; have hW2 : Below wr.heap.size wr W2 := below_step (by (repeat (first | assumption | apply Below.drew | exact Below.refl _ _))) (Nat.le_refl _) hb; clear hb))
      go_wp2_with fail
      go_region_held3 (fun W => Below wr.heap.size wr W)
        (first | assumption | exact Below.drew (by first | assumption | exact Below.refl _ _))
        ((go_at_call 66; refine Calls.mono (l_markText (q + 1 + 1 + 1 + 1 + 1 + 1 + 1) (by omega) (by omega) _) ?_; rintro en W3 ⟨rfl, hb⟩; have hW3 : Below wr.heap.size wr W3 := below_step (by (repeat (first | assumption | apply Below.drew | exact Below.refl _ _))) (Nat.le_refl _) hb; clear hb))
      go_wp2_with fail
      refine Calls.mono (hs_Ex d' (q + 1 + 1 + 1 + 1 + 1 + 1 + 1 + 1) x.expr.args _ f_1 _ (Hf_1.out _ (by assumption)) (by omega) (by omega)) ?_
      rintro en W4 ⟨rfl, hb⟩
      have hW4 : Below wr.heap.size wr W4 := below_step (by (repeat (first | assumption | apply Below.drew | exact Below.refl _ _))) (Nat.le_refl _) hb; clear hb
      rw [Hqq1.out]
      go_wp2_with fail
      have HBl : Hid (Below w.heap.size w W4) := hide (Hb.out.trans (hW4.mono Hb.out.size))
      have hc2 : q1 = k + ctL (ct_Eqn (d' + 1)) (xs.take (j + 1)) := by have h1 := hcnt.out; have h2 := Hkq.out; have h3 := Hcx.out; have := Hqq1.out; omega
      have Hc2 := hide hc2
      clear hc2
      go_roundw
      case rel => exact ⟨j + 1, by omega, by go_num, by rw [← Hc2.out]; first | done | go_num, HBl⟩
      case measure => simp [intOf]; omega
    · have hjn : j = xs.length := by omega
      subst hjn
      go_wp2_with fail
      go_ret
      exact ⟨ret_int (by rw [Htl.out]), Hb.out⟩
def mk_Con (D k : Nat) (x : Con) : Con := ⟨mkT (k), mkT (k + 1), mkE D (k + 2) x.target, mkE D (k + 2 + (ctE0 D x.target)) x.value⟩
def ct_Con (D : Nat) (x : Con) : Nat := 2 + (ctE0 D x.target) + (ctE0 D x.value)
theorem ConR.succ {D : Nat} {w : World} {x : Con} {cs : List Value} {F : List Nat} (h : ConR D w x cs F) : ∃ d, D = d + 1 := by
  obtain ⟨_, _, _, _, _, _, h2, h3, _⟩ := h
  match D, h2 with
  | d + 1, _ => exact ⟨d, rfl⟩
set_option maxRecDepth 100000 in
set_option maxHeartbeats 4000000 in
theorem m_Con (D C k : Nat) (xs : List Con) (v : Value) (F : List Nat) (w : World) (hs : SlR 16 (ConR D) w xs v F) (hf : Fresh C w F) (hk : 1 ≤ k) (hkn : k + ctL (ct_Con D) xs ≤ 1099511627776) :
    Calls Try.prog 51 #[v, .int .i64 k] w fun en w' => en = .returned (.int .i64 ((k + ctL (ct_Con D) xs : Nat) : Int)) ∧ SlR 16 (ConR D) w' (mkL (mk_Con D) (ct_Con D) k xs) v F ∧ Fresh C w' F ∧ Apart F w w' := by
  obtain ⟨A, cap, rfl, hlc, hm, hsl⟩ := hs
  rcases hsl with ⟨rfl, rfl⟩ | ⟨b, off, F', rfl, hb, rfl, he⟩
  · go_enter Try.func51, Try.ntmps51
    go_wp2_with fail
    go_loop [1, 5] (fun kv i => kv = .int .i64 k ∧ i = .int .i64 0) (fun _ _ => 0)
    case atStart => exact ⟨rfl, rfl⟩
    case round =>
      obtain ⟨rfl, rfl⟩ := hrel
      go_wp2_with fail
      go_ret
      exact ⟨rfl, ⟨A, cap, rfl, hlc, hm, .inl ⟨rfl, rfl⟩⟩, hf, Apart.refl _ _⟩
  have Hf := hide hf
  have hmm := hm
  unfold maxLen at hmm
  have hlm : xs.length ≤ 9223372036854775807 := by omega
  have Hm := hide (And.intro hlc hm)
  have He := hide he
  have Hct := hide (fun j => ctL_take_le (ct := ct_Con D) xs j)
  have Htl : Hid (xs.take xs.length = xs) := hide List.take_length
  clear hf he hlc hm hmm
  go_enter Try.func51, Try.ntmps51
  go_wp2_with fail
  go_loopw [1, 5] (fun kv i wr => ∃ j : Nat, j ≤ xs.length ∧ i = .int .i64 j ∧ kv = .int .i64 ((k + ctL (ct_Con D) (xs.take j) : Nat) : Int) ∧ Hid (ElR 16 (ConR D) wr b off (mkL (mk_Con D) (ct_Con D) k (xs.take j) ++ xs.drop j) F') ∧ Hid (Fresh C wr (b :: F')) ∧ Hid (Apart (b :: F') w wr)) (fun _ i _ => xs.length - (intOf i).toNat)
  case atStart => exact ⟨0, by omega, rfl, rfl, hide (by simpa [mkL] using He.out), Hf, hide (Apart.refl _ _)⟩
  case round =>
    obtain ⟨j, hj, rfl, rfl, Hel, Hfr, Ha⟩ := hrel
    by_cases hlt : j < xs.length
    · have hx : xs[j]? = some xs[j] := List.getElem?_eq_getElem hlt
      generalize xs[j] = x at hx
      have Hx := hide hx
      have hstep := Hct.out (j + 1)
      rw [ctL_take hx] at hstep
      have hcnt : Hid (ctL (ct_Con D) (xs.take (j + 1)) = ctL (ct_Con D) (xs.take j) + ct_Con D x) := hide (ctL_take hx)
      obtain ⟨cs, F1, Fk, F2, hFeq, hcat, hR, g1, g2⟩ := ElR.get (ConR.good D) Hel.out (half_at (mk := mk_Con D) (ct := ct_Con D) (k := k) hx)
      obtain ⟨d', rfl⟩ := ConR.succ hR
      obtain ⟨c0, c1, c2, c3, c4, c5, c6, c7, c8, c9, c10, c11, c12, c13, c14, c15, rfl⟩ := list_16 ((ConR.good (d' + 1)).len hR)
      obtain ⟨f_2, f_3, _, _, g_0, g_1, h_2, h_3, rfl⟩ := hR
      obtain rfl : c0 = .string x.symbol := by simpa using g_0
      obtain rfl : c1 = .string x.name := by simpa using g_1
      obtain ⟨va_2, hcs_2, _, hs_2⟩ := h_2
      simp only [ExH.cells, List.drop, List.take, List.cons.injEq, and_true] at hcs_2
      obtain ⟨rfl, rfl, rfl, rfl, rfl, rfl, rfl⟩ := hcs_2
      obtain ⟨A_2, cap_2, rfl, _, _⟩ := hs_2.form
      obtain ⟨va_3, hcs_3, _, hs_3⟩ := h_3
      simp only [ExH.cells, List.drop, List.take, List.cons.injEq, and_true] at hcs_3
      obtain ⟨rfl, rfl, rfl, rfl, rfl, rfl, rfl⟩ := hcs_3
      obtain ⟨A_3, cap_3, rfl, _, _⟩ := hs_3.form
      have hct : ct_Con (d' + 1) x = 14 + ctL (ctE0 d') x.target.args + ctL (ctE0 d') x.value.args := by simp only [ct_Con, ctE0] <;> omega
      have Hcx := hide hct
      rw [hct] at hstep
      obtain ⟨bs, tt, hblk⟩ := Hfr.out.cells b (by simp)
      have e0 := hcat 0 _ rfl
      have e1 := hcat 1 _ rfl
      have e2 := hcat 2 _ rfl
      have e3 := hcat 3 _ rfl
      have e4 := hcat 4 _ rfl
      have e5 := hcat 5 _ rfl
      have e6 := hcat 6 _ rfl
      have e7 := hcat 7 _ rfl
      have e8 := hcat 8 _ rfl
      have e9 := hcat 9 _ rfl
      have e10 := hcat 10 _ rfl
      have e11 := hcat 11 _ rfl
      have e12 := hcat 12 _ rfl
      have e13 := hcat 13 _ rfl
      have e14 := hcat 14 _ rfl
      have e15 := hcat 15 _ rfl
      simp only [Nat.add_zero] at e0
      have hT0 : PutG wr b (off + j * 16) (f_2 ++ (f_3)) [] wr := PutG.nil hblk
      have hS0 : PutG wr b (off + j * 16) [] [] wr := PutG.nil hblk
      have hfk := Hfr.out
      rw [hFeq] at hfk
      have Hdis := hide (nodup_mid hfk.nodup)
      have Hbk : Hid (∀ k ∈ f_2 ++ (f_3), k ≠ b) := hide fun k hk e => (List.nodup_cons.1 hfk.nodup).1 (e ▸ List.mem_append_right _ (List.mem_append_left _ hk))
      have hmid : Fresh C wr (f_2 ++ (f_3)) := hfk.mid
      have Rf_2 : Hid (Fresh C wr f_2) := hide (hmid.left)
      have Of_2 := hide hs_2
      have Nf_2 : Hid (∀ k ∈ f_2, k ≠ b) := hide fun k hk => Hbk.out k (by simp [hk])
      have Rf_3 : Hid (Fresh C wr f_3) := hide (hmid.right)
      have Of_3 := hide hs_3
      have Nf_3 : Hid (∀ k ∈ f_3, k ≠ b) := hide fun k hk => Hbk.out k (by simp [hk])
      have Df_2f_3 : Hid (∀ k ∈ f_2, k ∉ f_3) := hide (fun k h1 h2 => hmid.dis k h1 (by simp [h2]))
      have Hg1 := hide g1
      have Hg2 := hide g2
      have HFeq := hide hFeq
      have He0 := hide e0
      have He1 := hide e1
      have He2 := hide e2
      have He3 := hide e3
      have He4 := hide e4
      have He5 := hide e5
      have He6 := hide e6
      have He7 := hide e7
      have He8 := hide e8
      have He9 := hide e9
      have He10 := hide e10
      have He11 := hide e11
      have He12 := hide e12
      have He13 := hide e13
      have He14 := hide e14
      have He15 := hide e15
      have HT := hide hT0
      have HS := hide hS0
      generalize hkq : k + ctL (ct_Con (d' + 1)) (xs.take j) = q at hstep ⊢
      have Hkq := hide hkq
      have hq1 : 1 ≤ q := by omega
      have hq2 : q + (14 + ctL (ctE0 d') x.target.args + ctL (ctE0 d') x.value.args) ≤ 1099511627776 := by omega
      have hx_x_target : ctE0 (d' + 1) x.target = 6 + ctL (ctE0 d') x.target.args := rfl
      have hx_x_value : ctE0 (d' + 1) x.value = 6 + ctL (ctE0 d') x.value.args := rfl
      obtain ⟨q1, hqq1⟩ : ∃ q1 : Nat, q + 1 + 1 + 1 + 1 + 1 + 1 + 1 + 1 + ctL (ctE0 d') x.target.args = q1 := ⟨_, rfl⟩
      have hqb1 : 1 ≤ q1 ∧ q1 + 6 + ctL (ctE0 d') x.value.args ≤ 1099511627776 := by omega
      obtain ⟨hqb1a, hqb1b⟩ := hqb1
      obtain ⟨q2, hqq2⟩ : ∃ q2 : Nat, q1 + 1 + 1 + 1 + 1 + 1 + 1 + ctL (ctE0 d') x.value.args = q2 := ⟨_, rfl⟩
      have hqb2 : 1 ≤ q2 ∧ q2 ≤ 1099511627776 := by omega
      obtain ⟨hqb2a, hqb2b⟩ := hqb2
      have hn0 : q + 2 + (ctE0 (d' + 1) x.target) = q1 := by omega
      have hmk : mk_Con (d' + 1) q x = (Con.mk (mkT (q)) (mkT (q + 1)) (mkE (d' + 1) (q + 1 + 1) x.target) (mkE (d' + 1) (q1) x.value)) := by
        unfold mk_Con
        rw [hn0]
      have Hmk := hide hmk
      have Hqq1 := hide hqq1
      have Hqq2 := hide hqq2
      clear hmk hn0 hqq1 hqq2 hx_x_target hx_x_value
      have hj0 : (0 : Int) ≤ (j : Int) := by omega
      have hj1 : (j : Int) < (xs.length : Int) := by omega
      clear hx hcat hblk g1 g2 hFeq hT0 hS0 hfk hmid hkq hstep hct hs_2 hs_3 e0 e1 e2 e3 e4 e5 e6 e7 e8 e9 e10 e11 e12 e13 e14 e15
      have G0 := He0
      have G1 := He1
      have G2 := He2
      have G3 := He3
      have G4 := He4
      have G5 := He5
      have G6 := He6
      have G7 := He7
      have G8 := He8
      have G9 := He9
      have G10 := He10
      have G11 := He11
      have G12 := He12
      have G13 := He13
      have G14 := He14
      have G15 := He15
      go_wp2_with fail
      refine (l_markText (q) (by omega) (by omega) _).mono ?_
      rintro e U1 ⟨rfl, hb2⟩
      have hS := HS.out.below hb2
      clear HS hb2
      have HS := hide hS
      clear hS
      have c_0 : U1.cell? ⟨b, off + j * 16, none⟩ = some (.string x.symbol) := HS.out.cell (i := off + j * 16) (by simp) G0.out
      have f_0 := HS.out.frozen (off + j * 16)
      go_wp2_with fail
      have p0 : PutG wr b (off + j * 16) [] [.string (mkT (q))] (U1.setCell ⟨b, off + j * 16, none⟩ (.string (mkT (q)))) := PutG.store HS.out (.string (mkT (q))) (c := .string x.symbol) (by exact (PutG.cell (i := off + j * 16) HS.out (by simp) (G0.out)))
      generalize U1.setCell ⟨b, off + j * 16, none⟩ (.string (mkT (q))) = U2 at p0 ⊢
      clear HS
      have HS := hide p0
      clear p0
      refine (l_markText (q + 1) (by omega) (by omega) _).mono ?_
      rintro e U3 ⟨rfl, hb2⟩
      have hS := HS.out.below hb2
      clear HS hb2
      clear c_0 f_0
      have HS := hide hS
      clear hS
      have c_1 : U3.cell? ⟨b, off + j * 16 + 1, none⟩ = some (.string x.name) := HS.out.cell (i := off + j * 16 + 1) (by simp) G1.out
      have f_1 := HS.out.frozen (off + j * 16 + 1)
      have c_2 : U3.cell? ⟨b, off + j * 16 + 2, none⟩ = some (.int .i64 x.target.h.kind) := HS.out.cell (i := off + j * 16 + 2) (by simp) G2.out
      have f_2 := HS.out.frozen (off + j * 16 + 2)
      have c_3 : U3.cell? ⟨b, off + j * 16 + 3, none⟩ = some (.int .i64 x.target.h.n) := HS.out.cell (i := off + j * 16 + 3) (by simp) G3.out
      have f_3 := HS.out.frozen (off + j * 16 + 3)
      have c_4 : U3.cell? ⟨b, off + j * 16 + 4, none⟩ = some (.int .i64 x.target.h.pos) := HS.out.cell (i := off + j * 16 + 4) (by simp) G4.out
      have f_4 := HS.out.frozen (off + j * 16 + 4)
      have c_5 : U3.cell? ⟨b, off + j * 16 + 5, none⟩ = some (.int .i64 x.target.h.type) := HS.out.cell (i := off + j * 16 + 5) (by simp) G5.out
      have f_5 := HS.out.frozen (off + j * 16 + 5)
      go_wp2_with fail
      have p0 : PutG wr b (off + j * 16) [] [.string (mkT (q)), .string (mkT (q + 1))] (U3.setCell ⟨b, off + j * 16 + 1, none⟩ (.string (mkT (q + 1)))) := PutG.store HS.out (.string (mkT (q + 1))) (c := .string x.name) (by exact (PutG.cell (i := off + j * 16 + 1) HS.out (by simp) (G1.out)))
      have p1 : PutG wr b (off + j * 16) [] [.string (mkT (q)), .string (mkT (q + 1)), .int .i64 ((q : Int) + 1 + 1)] ((U3.setCell ⟨b, off + j * 16 + 1, none⟩ (.string (mkT (q + 1)))).setCell ⟨b, off + j * 16 + 2, none⟩ (.int .i64 ((q : Int) + 1 + 1))) := PutG.store p0 (.int .i64 ((q : Int) + 1 + 1)) (c := .int .i64 x.target.h.kind) (by exact (PutG.cell (i := off + j * 16 + 2) p0 (by simp) (G2.out)))
      have p2 : PutG wr b (off + j * 16) [] [.string (mkT (q)), .string (mkT (q + 1)), .int .i64 ((q : Int) + 1 + 1), .int .i64 ((q : Int) + 1 + 1 + 1)] (((U3.setCell ⟨b, off + j * 16 + 1, none⟩ (.string (mkT (q + 1)))).setCell ⟨b, off + j * 16 + 2, none⟩ (.int .i64 ((q : Int) + 1 + 1))).setCell ⟨b, off + j * 16 + 3, none⟩ (.int .i64 ((q : Int) + 1 + 1 + 1))) := PutG.store p1 (.int .i64 ((q : Int) + 1 + 1 + 1)) (c := .int .i64 x.target.h.n) (by exact (PutG.cell (i := off + j * 16 + 3) p1 (by simp) (G3.out)))
      have p3 : PutG wr b (off + j * 16) [] [.string (mkT (q)), .string (mkT (q + 1)), .int .i64 ((q : Int) + 1 + 1), .int .i64 ((q : Int) + 1 + 1 + 1), .int .i64 ((q : Int) + 1 + 1 + 1 + 1)] ((((U3.setCell ⟨b, off + j * 16 + 1, none⟩ (.string (mkT (q + 1)))).setCell ⟨b, off + j * 16 + 2, none⟩ (.int .i64 ((q : Int) + 1 + 1))).setCell ⟨b, off + j * 16 + 3, none⟩ (.int .i64 ((q : Int) + 1 + 1 + 1))).setCell ⟨b, off + j * 16 + 4, none⟩ (.int .i64 ((q : Int) + 1 + 1 + 1 + 1))) := PutG.store p2 (.int .i64 ((q : Int) + 1 + 1 + 1 + 1)) (c := .int .i64 x.target.h.pos) (by exact (PutG.cell (i := off + j * 16 + 4) p2 (by simp) (G4.out)))
      have p4 : PutG wr b (off + j * 16) [] [.string (mkT (q)), .string (mkT (q + 1)), .int .i64 ((q : Int) + 1 + 1), .int .i64 ((q : Int) + 1 + 1 + 1), .int .i64 ((q : Int) + 1 + 1 + 1 + 1), .int .i64 ((q : Int) + 1 + 1 + 1 + 1 + 1)] (((((U3.setCell ⟨b, off + j * 16 + 1, none⟩ (.string (mkT (q + 1)))).setCell ⟨b, off + j * 16 + 2, none⟩ (.int .i64 ((q : Int) + 1 + 1))).setCell ⟨b, off + j * 16 + 3, none⟩ (.int .i64 ((q : Int) + 1 + 1 + 1))).setCell ⟨b, off + j * 16 + 4, none⟩ (.int .i64 ((q : Int) + 1 + 1 + 1 + 1))).setCell ⟨b, off + j * 16 + 5, none⟩ (.int .i64 ((q : Int) + 1 + 1 + 1 + 1 + 1))) := PutG.store p3 (.int .i64 ((q : Int) + 1 + 1 + 1 + 1 + 1)) (c := .int .i64 x.target.h.type) (by exact (PutG.cell (i := off + j * 16 + 5) p3 (by simp) (G5.out)))
      generalize ((((U3.setCell ⟨b, off + j * 16 + 1, none⟩ (.string (mkT (q + 1)))).setCell ⟨b, off + j * 16 + 2, none⟩ (.int .i64 ((q : Int) + 1 + 1))).setCell ⟨b, off + j * 16 + 3, none⟩ (.int .i64 ((q : Int) + 1 + 1 + 1))).setCell ⟨b, off + j * 16 + 4, none⟩ (.int .i64 ((q : Int) + 1 + 1 + 1 + 1))).setCell ⟨b, off + j * 16 + 5, none⟩ (.int .i64 ((q : Int) + 1 + 1 + 1 + 1 + 1)) = U4 at p4 ⊢
      clear HS
      have HS := hide p4
      clear p0 p1 p2 p3 p4
      refine (l_markText (q + 1 + 1 + 1 + 1 + 1 + 1) (by omega) (by omega) _).mono ?_
      rintro e U5 ⟨rfl, hb2⟩
      have hS := HS.out.below hb2
      clear HS hb2
      clear c_1 f_1 c_2 f_2 c_3 f_3 c_4 f_4 c_5 f_5
      have HS := hide hS
      clear hS
      have c_6 : U5.cell? ⟨b, off + j * 16 + 6, none⟩ = some (.string x.target.h.symbol) := HS.out.cell (i := off + j * 16 + 6) (by simp) G6.out
      have f_6 := HS.out.frozen (off + j * 16 + 6)
      go_wp2_with fail
      have p0 : PutG wr b (off + j * 16) [] [.string (mkT (q)), .string (mkT (q + 1)), .int .i64 ((q : Int) + 1 + 1), .int .i64 ((q : Int) + 1 + 1 + 1), .int .i64 ((q : Int) + 1 + 1 + 1 + 1), .int .i64 ((q : Int) + 1 + 1 + 1 + 1 + 1), .string (mkT (q + 1 + 1 + 1 + 1 + 1 + 1))] (U5.setCell ⟨b, off + j * 16 + 6, none⟩ (.string (mkT (q + 1 + 1 + 1 + 1 + 1 + 1)))) := PutG.store HS.out (.string (mkT (q + 1 + 1 + 1 + 1 + 1 + 1))) (c := .string x.target.h.symbol) (by exact (PutG.cell (i := off + j * 16 + 6) HS.out (by simp) (G6.out)))
      generalize U5.setCell ⟨b, off + j * 16 + 6, none⟩ (.string (mkT (q + 1 + 1 + 1 + 1 + 1 + 1))) = U6 at p0 ⊢
      clear HS
      have HS := hide p0
      clear p0
      refine (l_markText (q + 1 + 1 + 1 + 1 + 1 + 1 + 1) (by omega) (by omega) _).mono ?_
      rintro e U7 ⟨rfl, hb2⟩
      have hS := HS.out.below hb2
      clear HS hb2
      clear c_6 f_6
      have HS := hide hS
      clear hS
      have c_7 : U7.cell? ⟨b, off + j * 16 + 7, none⟩ = some (.string x.target.h.name) := HS.out.cell (i := off + j * 16 + 7) (by simp) G7.out
      have f_7 := HS.out.frozen (off + j * 16 + 7)
      have c_8 : U7.cell? ⟨b, off + j * 16 + 8, none⟩ = some (.slice A_2 x.target.args.length cap_2) := HS.out.cell (i := off + j * 16 + 8) (by simp) G8.out
      go_wp2_with fail
      have p0 : PutG wr b (off + j * 16) [] [.string (mkT (q)), .string (mkT (q + 1)), .int .i64 ((q : Int) + 1 + 1), .int .i64 ((q : Int) + 1 + 1 + 1), .int .i64 ((q : Int) + 1 + 1 + 1 + 1), .int .i64 ((q : Int) + 1 + 1 + 1 + 1 + 1), .string (mkT (q + 1 + 1 + 1 + 1 + 1 + 1)), .string (mkT (q + 1 + 1 + 1 + 1 + 1 + 1 + 1))] (U7.setCell ⟨b, off + j * 16 + 7, none⟩ (.string (mkT (q + 1 + 1 + 1 + 1 + 1 + 1 + 1)))) := PutG.store HS.out (.string (mkT (q + 1 + 1 + 1 + 1 + 1 + 1 + 1))) (c := .string x.target.h.name) (by exact (PutG.cell (i := off + j * 16 + 7) HS.out (by simp) (G7.out)))
      generalize U7.setCell ⟨b, off + j * 16 + 7, none⟩ (.string (mkT (q + 1 + 1 + 1 + 1 + 1 + 1 + 1))) = U8 at p0 ⊢
      clear HS
      have HS := hide p0
      clear p0
      have hS := HS.out.keep (u := .slice A_2 x.target.args.length cap_2) (HS.out.cell (i := off + j * 16 + 8) (by simp) G8.out)
      have hS : PutG wr b (off + j * 16) [] [.string (mkT (q)), .string (mkT (q + 1)), .int .i64 ((q : Int) + 1 + 1), .int .i64 ((q : Int) + 1 + 1 + 1), .int .i64 ((q : Int) + 1 + 1 + 1 + 1), .int .i64 ((q : Int) + 1 + 1 + 1 + 1 + 1), .string (mkT (q + 1 + 1 + 1 + 1 + 1 + 1)), .string (mkT (q + 1 + 1 + 1 + 1 + 1 + 1 + 1)), .slice A_2 x.target.args.length cap_2] U8 := hS
      have hOf_2 := Of_2.out.frame (ExR.good d') (fun k hk => hS.far k (Of_2.out.lt (ExR.good d') k hk) (Nf_2.out k hk) (by simp)) hS.size
      have hRf_2 := hS.fresh Rf_2.out
      have hOf_3 := Of_3.out.frame (ExR.good d') (fun k hk => hS.far k (Of_3.out.lt (ExR.good d') k hk) (Nf_3.out k hk) (by simp)) hS.size
      have hRf_3 := hS.fresh Rf_3.out
      refine Calls.mono (ms_Ex d' C (q + 1 + 1 + 1 + 1 + 1 + 1 + 1 + 1) x.target.args _ f_2 U8 hOf_2 hRf_2 (by omega) (by omega)) ?_
      rintro en U9 ⟨rfl, hOn, hRn, ha⟩
      have hT : PutG wr b (off + j * 16) (f_2 ++ (f_3)) [.string (mkT (q)), .string (mkT (q + 1)), .int .i64 ((q : Int) + 1 + 1), .int .i64 ((q : Int) + 1 + 1 + 1), .int .i64 ((q : Int) + 1 + 1 + 1 + 1), .int .i64 ((q : Int) + 1 + 1 + 1 + 1 + 1), .string (mkT (q + 1 + 1 + 1 + 1 + 1 + 1)), .string (mkT (q + 1 + 1 + 1 + 1 + 1 + 1 + 1)), .slice A_2 x.target.args.length cap_2] U9 := HT.out.step hS ha (fun hm => Nf_2.out b hm rfl) (fun k hk => by simp [hk])
      have hOf_3 := hOf_3.apart (ExR.good d') ha (fun k h1 h2 => Df_2f_3.out k h2 h1)
      have hRf_3 := hRf_3.apart ha (fun k h1 h2 => Df_2f_3.out k h2 h1)
      clear Of_2 Rf_2 Of_3 Rf_3
      have Of_2 := hide hOn
      have Rf_2 := hide hRn
      have Of_3 := hide hOf_3
      have Rf_3 := hide hRf_3
      have hS2 : PutG U9 b (off + j * 16 + 9) [] [] U9 := hT.nil_at
      have g := hT.cell (i := off + j * 16 + 9) (by simp) He9.out
      clear G9
      have G9 := hide g
      clear g
      have g := hT.cell (i := off + j * 16 + 10) (by simp) He10.out
      clear G10
      have G10 := hide g
      clear g
      have g := hT.cell (i := off + j * 16 + 11) (by simp) He11.out
      clear G11
      have G11 := hide g
      clear g
      have g := hT.cell (i := off + j * 16 + 12) (by simp) He12.out
      clear G12
      have G12 := hide g
      clear g
      have g := hT.cell (i := off + j * 16 + 13) (by simp) He13.out
      clear G13
      have G13 := hide g
      clear g
      have g := hT.cell (i := off + j * 16 + 14) (by simp) He14.out
      clear G14
      have G14 := hide g
      clear g
      have g := hT.cell (i := off + j * 16 + 15) (by simp) He15.out
      clear G15
      have G15 := hide g
      clear g
      clear HT HS hS ha hOn hRn hOf_3 hRf_3
      clear hOf_2 hRf_2
      clear c_7 f_7 c_8
      have HT := hide hT
      have HS := hide hS2
      clear hT hS2
      rw [Hqq1.out]
      have c_9 : U9.cell? ⟨b, off + j * 16 + 9, none⟩ = some (.int .i64 x.value.h.kind) := HS.out.cell (i := off + j * 16 + 9) (by simp) G9.out
      have f_9 := HS.out.frozen (off + j * 16 + 9)
      have c_10 : U9.cell? ⟨b, off + j * 16 + 10, none⟩ = some (.int .i64 x.value.h.n) := HS.out.cell (i := off + j * 16 + 10) (by simp) G10.out
      have f_10 := HS.out.frozen (off + j * 16 + 10)
      have c_11 : U9.cell? ⟨b, off + j * 16 + 11, none⟩ = some (.int .i64 x.value.h.pos) := HS.out.cell (i := off + j * 16 + 11) (by simp) G11.out
      have f_11 := HS.out.frozen (off + j * 16 + 11)
      have c_12 : U9.cell? ⟨b, off + j * 16 + 12, none⟩ = some (.int .i64 x.value.h.type) := HS.out.cell (i := off + j * 16 + 12) (by simp) G12.out
      have f_12 := HS.out.frozen (off + j * 16 + 12)
      go_wp2_with fail
      have p0 : PutG U9 b (off + j * 16 + 9) [] [.int .i64 ((q1 : Int))] (U9.setCell ⟨b, off + j * 16 + 9, none⟩ (.int .i64 ((q1 : Int)))) := PutG.store HS.out (.int .i64 ((q1 : Int))) (c := .int .i64 x.value.h.kind) (by exact (PutG.cell (i := off + j * 16 + 9) HS.out (by simp) (G9.out)))
      have p1 : PutG U9 b (off + j * 16 + 9) [] [.int .i64 ((q1 : Int)), .int .i64 ((q1 : Int) + 1)] ((U9.setCell ⟨b, off + j * 16 + 9, none⟩ (.int .i64 ((q1 : Int)))).setCell ⟨b, off + j * 16 + 10, none⟩ (.int .i64 ((q1 : Int) + 1))) := PutG.store p0 (.int .i64 ((q1 : Int) + 1)) (c := .int .i64 x.value.h.n) (by exact (PutG.cell (i := off + j * 16 + 10) p0 (by simp) (G10.out)))
      have p2 : PutG U9 b (off + j * 16 + 9) [] [.int .i64 ((q1 : Int)), .int .i64 ((q1 : Int) + 1), .int .i64 ((q1 : Int) + 1 + 1)] (((U9.setCell ⟨b, off + j * 16 + 9, none⟩ (.int .i64 ((q1 : Int)))).setCell ⟨b, off + j * 16 + 10, none⟩ (.int .i64 ((q1 : Int) + 1))).setCell ⟨b, off + j * 16 + 11, none⟩ (.int .i64 ((q1 : Int) + 1 + 1))) := PutG.store p1 (.int .i64 ((q1 : Int) + 1 + 1)) (c := .int .i64 x.value.h.pos) (by exact (PutG.cell (i := off + j * 16 + 11) p1 (by simp) (G11.out)))
      have p3 : PutG U9 b (off + j * 16 + 9) [] [.int .i64 ((q1 : Int)), .int .i64 ((q1 : Int) + 1), .int .i64 ((q1 : Int) + 1 + 1), .int .i64 ((q1 : Int) + 1 + 1 + 1)] ((((U9.setCell ⟨b, off + j * 16 + 9, none⟩ (.int .i64 ((q1 : Int)))).setCell ⟨b, off + j * 16 + 10, none⟩ (.int .i64 ((q1 : Int) + 1))).setCell ⟨b, off + j * 16 + 11, none⟩ (.int .i64 ((q1 : Int) + 1 + 1))).setCell ⟨b, off + j * 16 + 12, none⟩ (.int .i64 ((q1 : Int) + 1 + 1 + 1))) := PutG.store p2 (.int .i64 ((q1 : Int) + 1 + 1 + 1)) (c := .int .i64 x.value.h.type) (by exact (PutG.cell (i := off + j * 16 + 12) p2 (by simp) (G12.out)))
      generalize (((U9.setCell ⟨b, off + j * 16 + 9, none⟩ (.int .i64 ((q1 : Int)))).setCell ⟨b, off + j * 16 + 10, none⟩ (.int .i64 ((q1 : Int) + 1))).setCell ⟨b, off + j * 16 + 11, none⟩ (.int .i64 ((q1 : Int) + 1 + 1))).setCell ⟨b, off + j * 16 + 12, none⟩ (.int .i64 ((q1 : Int) + 1 + 1 + 1)) = U10 at p3 ⊢
      clear HS
      have HS := hide p3
      clear p0 p1 p2 p3
      refine (l_markText (q1 + 1 + 1 + 1 + 1) (by omega) (by omega) _).mono ?_
      rintro e U11 ⟨rfl, hb2⟩
      have hS := HS.out.below hb2
      clear HS hb2
      clear c_9 f_9 c_10 f_10 c_11 f_11 c_12 f_12
      have HS := hide hS
      clear hS
      have c_13 : U11.cell? ⟨b, off + j * 16 + 13, none⟩ = some (.string x.value.h.symbol) := HS.out.cell (i := off + j * 16 + 13) (by simp) G13.out
      have f_13 := HS.out.frozen (off + j * 16 + 13)
      go_wp2_with fail
      have p0 : PutG U9 b (off + j * 16 + 9) [] [.int .i64 ((q1 : Int)), .int .i64 ((q1 : Int) + 1), .int .i64 ((q1 : Int) + 1 + 1), .int .i64 ((q1 : Int) + 1 + 1 + 1), .string (mkT (q1 + 1 + 1 + 1 + 1))] (U11.setCell ⟨b, off + j * 16 + 13, none⟩ (.string (mkT (q1 + 1 + 1 + 1 + 1)))) := PutG.store HS.out (.string (mkT (q1 + 1 + 1 + 1 + 1))) (c := .string x.value.h.symbol) (by exact (PutG.cell (i := off + j * 16 + 13) HS.out (by simp) (G13.out)))
      generalize U11.setCell ⟨b, off + j * 16 + 13, none⟩ (.string (mkT (q1 + 1 + 1 + 1 + 1))) = U12 at p0 ⊢
      clear HS
      have HS := hide p0
      clear p0
      refine (l_markText (q1 + 1 + 1 + 1 + 1 + 1) (by omega) (by omega) _).mono ?_
      rintro e U13 ⟨rfl, hb2⟩
      have hS := HS.out.below hb2
      clear HS hb2
      clear c_13 f_13
      have HS := hide hS
      clear hS
      have c_14 : U13.cell? ⟨b, off + j * 16 + 14, none⟩ = some (.string x.value.h.name) := HS.out.cell (i := off + j * 16 + 14) (by simp) G14.out
      have f_14 := HS.out.frozen (off + j * 16 + 14)
      have c_15 : U13.cell? ⟨b, off + j * 16 + 15, none⟩ = some (.slice A_3 x.value.args.length cap_3) := HS.out.cell (i := off + j * 16 + 15) (by simp) G15.out
      go_wp2_with fail
      have p0 : PutG U9 b (off + j * 16 + 9) [] [.int .i64 ((q1 : Int)), .int .i64 ((q1 : Int) + 1), .int .i64 ((q1 : Int) + 1 + 1), .int .i64 ((q1 : Int) + 1 + 1 + 1), .string (mkT (q1 + 1 + 1 + 1 + 1)), .string (mkT (q1 + 1 + 1 + 1 + 1 + 1))] (U13.setCell ⟨b, off + j * 16 + 14, none⟩ (.string (mkT (q1 + 1 + 1 + 1 + 1 + 1)))) := PutG.store HS.out (.string (mkT (q1 + 1 + 1 + 1 + 1 + 1))) (c := .string x.value.h.name) (by exact (PutG.cell (i := off + j * 16 + 14) HS.out (by simp) (G14.out)))
      generalize U13.setCell ⟨b, off + j * 16 + 14, none⟩ (.string (mkT (q1 + 1 + 1 + 1 + 1 + 1))) = U14 at p0 ⊢
      clear HS
      have HS := hide p0
      clear p0
      have hS := HS.out.keep (u := .slice A_3 x.value.args.length cap_3) (HS.out.cell (i := off + j * 16 + 15) (by simp) G15.out)
      have hS : PutG U9 b (off + j * 16 + 9) [] [.int .i64 ((q1 : Int)), .int .i64 ((q1 : Int) + 1), .int .i64 ((q1 : Int) + 1 + 1), .int .i64 ((q1 : Int) + 1 + 1 + 1), .string (mkT (q1 + 1 + 1 + 1 + 1)), .string (mkT (q1 + 1 + 1 + 1 + 1 + 1)), .slice A_3 x.value.args.length cap_3] U14 := hS
      have hOf_2 := Of_2.out.frame (ExR.good d') (fun k hk => hS.far k (Of_2.out.lt (ExR.good d') k hk) (Nf_2.out k hk) (by simp)) hS.size
      have hRf_2 := hS.fresh Rf_2.out
      have hOf_3 := Of_3.out.frame (ExR.good d') (fun k hk => hS.far k (Of_3.out.lt (ExR.good d') k hk) (Nf_3.out k hk) (by simp)) hS.size
      have hRf_3 := hS.fresh Rf_3.out
      refine Calls.mono (ms_Ex d' C (q1 + 1 + 1 + 1 + 1 + 1 + 1) x.value.args _ f_3 U14 hOf_3 hRf_3 (by omega) (by omega)) ?_
      rintro en U15 ⟨rfl, hOn, hRn, ha⟩
      have hT : PutG wr b (off + j * 16) (f_2 ++ (f_3)) [.string (mkT (q)), .string (mkT (q + 1)), .int .i64 ((q : Int) + 1 + 1), .int .i64 ((q : Int) + 1 + 1 + 1), .int .i64 ((q : Int) + 1 + 1 + 1 + 1), .int .i64 ((q : Int) + 1 + 1 + 1 + 1 + 1), .string (mkT (q + 1 + 1 + 1 + 1 + 1 + 1)), .string (mkT (q + 1 + 1 + 1 + 1 + 1 + 1 + 1)), .slice A_2 x.target.args.length cap_2, .int .i64 ((q1 : Int)), .int .i64 ((q1 : Int) + 1), .int .i64 ((q1 : Int) + 1 + 1), .int .i64 ((q1 : Int) + 1 + 1 + 1), .string (mkT (q1 + 1 + 1 + 1 + 1)), .string (mkT (q1 + 1 + 1 + 1 + 1 + 1)), .slice A_3 x.value.args.length cap_3] U15 := HT.out.step hS ha (fun hm => Nf_3.out b hm rfl) (fun k hk => by simp [hk])
      have hOf_2 := hOf_2.apart (ExR.good d') ha Df_2f_3.out
      have hRf_2 := hRf_2.apart ha Df_2f_3.out
      clear Of_2 Rf_2 Of_3 Rf_3
      have Of_2 := hide hOf_2
      have Rf_2 := hide hRf_2
      have Of_3 := hide hOn
      have Rf_3 := hide hRn
      have hS2 : PutG U15 b (off + j * 16 + 16) [] [] U15 := hT.nil_at
      clear HT HS hS ha hOn hRn hOf_2 hRf_2
      clear hOf_3 hRf_3
      clear c_14 f_14 c_15
      have HT := hide hT
      have HS := hide hS2
      clear hT hS2
      rw [Hqq2.out]
      have hT := HT.out
      have hOf_2 := Of_2.out
      have hRf_2 := Rf_2.out
      have hOf_3 := Of_3.out
      have hRf_3 := Rf_3.out
      have hy : ConR (d' + 1) U15 (mk_Con (d' + 1) q x) [.string (mkT (q)), .string (mkT (q + 1)), .int .i64 ((q : Int) + 1 + 1), .int .i64 ((q : Int) + 1 + 1 + 1), .int .i64 ((q : Int) + 1 + 1 + 1 + 1), .int .i64 ((q : Int) + 1 + 1 + 1 + 1 + 1), .string (mkT (q + 1 + 1 + 1 + 1 + 1 + 1)), .string (mkT (q + 1 + 1 + 1 + 1 + 1 + 1 + 1)), .slice A_2 x.target.args.length cap_2, .int .i64 ((q1 : Int)), .int .i64 ((q1 : Int) + 1), .int .i64 ((q1 : Int) + 1 + 1), .int .i64 ((q1 : Int) + 1 + 1 + 1), .string (mkT (q1 + 1 + 1 + 1 + 1)), .string (mkT (q1 + 1 + 1 + 1 + 1 + 1)), .slice A_3 x.value.args.length cap_3] (f_2 ++ (f_3)) := by
        rw [Hmk.out]
        exact ⟨_, _, rfl, ⟨mkT_small (k := q) (by omega), mkT_small (k := q + 1) (by omega)⟩, rfl, rfl, ⟨_, rfl, mkE_ok (k := q + 1 + 1) (by omega), hOf_2⟩, ⟨_, rfl, mkE_ok (k := q1) (by omega), hOf_3⟩, rfl⟩
      have hset := ElR.set (ConR.good (d' + 1)) hT.size (by rw [half_len (by omega)]; exact hlt) Hg1.out Hg2.out hy hT.cellsAt
        (fun i hi => hT.same rfl i (by rw [Nat.add_mul] at hi; omega)) (fun k hk => hT.far k (Hfr.out.lt k (by rw [HFeq.out]; simp [hk])) (Hdis.out.1 k hk).1 (Hdis.out.1 k hk).2) (fun k hk => hT.far k (Hfr.out.lt k (by rw [HFeq.out]; simp [hk])) (Hdis.out.2 k hk).1 (Hdis.out.2 k hk).2)
      have hnext := half_next (mk := mk_Con (d' + 1)) (ct := ct_Con (d' + 1)) (k := k) Hx.out
      rw [Hkq.out] at hnext
      rw [hnext] at hset
      have Hset := hide hset
      have Hfr4 := hide (hT.freshX Hfr.out (fun k hk => by simp only [List.nil_append, List.mem_append] at hk; rcases hk with hk | hk <;> first | exact hRf_2.cells k hk | exact hRf_3.cells k hk))
      have Hap : Hid (Apart (b :: F') w U15) := hide (Ha.out.trans ⟨hT.os, hT.tape, hT.output, hT.size, fun k hk hF => hT.far k hk (fun e => hF (by simp [e])) (fun hm => hF (by rw [HFeq.out]; exact List.mem_cons_of_mem _ (List.mem_append_right _ (List.mem_append_left _ hm))))⟩)
      have hc2 : q2 = k + ctL (ct_Con (d' + 1)) (xs.take (j + 1)) := by have h1 := hcnt.out; have h2 := Hkq.out; have h3 := Hcx.out; have := Hqq1.out; have := Hqq2.out; omega
      have Hc2 := hide hc2
      clear hT hy hset hnext hc2 HS HT hOf_2 hRf_2 Of_2 Rf_2 hOf_3 hRf_3 Of_3 Rf_3
      go_wp2_with fail
      exact ⟨⟨j + 1, by omega, by go_num, by rw [← Hc2.out]; first | done | go_num, hide (by rw [HFeq.out]; exact Hset.out), Hfr4, Hap⟩, by simp [intOf]; omega⟩
    · have hjn : j = xs.length := by omega
      subst hjn
      go_wp2_with fail
      go_ret
      have h1 := Hel.out
      rw [List.take_length, List.drop_length, List.append_nil] at h1
      refine ⟨ret_int (by rw [Htl.out]), ⟨some ⟨b, off, none⟩, cap, by rw [mkL_len], by rw [mkL_len]; exact Hm.out.1, Hm.out.2, .inr ⟨b, off, F', rfl, Hfr.out.lt b (by simp), rfl, h1⟩⟩, Hfr.out, Ha.out⟩
set_option maxRecDepth 100000 in
set_option maxHeartbeats 4000000 in
theorem hd_Con (D k : Nat) (xs : List Con) (v : Value) (F : List Nat) (w : World) (hs : SlR 16 (ConR D) w (mkL (mk_Con D) (ct_Con D) k xs) v F) (hk : 1 ≤ k) (hkn : k + ctL (ct_Con D) xs ≤ 1099511627776) :
    Calls Try.prog 54 #[v, .int .i64 k] w fun en w' => en = .returned (.int .i64 ((k + ctL (ct_Con D) xs : Nat) : Int)) ∧ Below w.heap.size w w' := by
  obtain ⟨A, cap, rfl, hlc, hm⟩ := hs.form
  have HF := hide (hs.lt (ConR.good D))
  have Hs := hide hs
  rw [mkL_len] at hlc hs ⊢
  unfold maxLen at hm
  have hlm : xs.length ≤ 9223372036854775807 := by omega
  have Hct := hide (fun j => ctL_take_le (ct := ct_Con D) xs j)
  have Htl : Hid (xs.take xs.length = xs) := hide List.take_length
  clear hs hlc hm
  go_enter Try.func54, Try.ntmps54
  go_wp2_with fail
  go_loopw [1, 5] (fun kv i wr => ∃ j : Nat, j ≤ xs.length ∧ i = .int .i64 j ∧ kv = .int .i64 ((k + ctL (ct_Con D) (xs.take j) : Nat) : Int) ∧ Hid (Below w.heap.size w wr)) (fun _ i _ => xs.length - (intOf i).toNat)
  case atStart => exact ⟨0, by omega, rfl, rfl, hide (Below.refl _ _)⟩
  case round =>
    obtain ⟨j, hj, rfl, rfl, Hb⟩ := hrel
    by_cases hlt : j < xs.length
    · have hx : xs[j]? = some xs[j] := List.getElem?_eq_getElem hlt
      generalize xs[j] = x at hx
      have hstep := Hct.out (j + 1)
      rw [ctL_take hx] at hstep
      have hcnt : Hid (ctL (ct_Con D) (xs.take (j + 1)) = ctL (ct_Con D) (xs.take j) + ct_Con D x) := hide (ctL_take hx)
      obtain ⟨b, off, cs, Fk, hA, _, hbF, hFk, hcl, hcat, hR⟩ := SlR.get (ConR.good D) (Hs.out.below (ConR.good D) Hb.out HF.out) (mkL_at hx)
      subst hA
      have hblt := Nat.lt_of_lt_of_le (HF.out b hbF) Hb.out.size
      generalize hkq : k + ctL (ct_Con D) (xs.take j) = q at hR hstep ⊢
      have Hkq := hide hkq
      obtain ⟨c0, c1, c2, c3, c4, c5, c6, c7, c8, c9, c10, c11, c12, c13, c14, c15, rfl⟩ := list_16 hcl
      obtain ⟨d', rfl⟩ := ConR.succ hR
      have hct : ct_Con (d' + 1) x = 14 + ctL (ctE0 d') x.target.args + ctL (ctE0 d') x.value.args := by simp only [ct_Con, ctE0] <;> omega
      have Hcx := hide hct
      rw [hct] at hstep
      have hq1 : 1 ≤ q := by omega
      have hq2 : q + (14 + ctL (ctE0 d') x.target.args + ctL (ctE0 d') x.value.args) ≤ 1099511627776 := by omega
      have hx_x_target : ctE0 (d' + 1) x.target = 6 + ctL (ctE0 d') x.target.args := rfl
      have hx_x_value : ctE0 (d' + 1) x.value = 6 + ctL (ctE0 d') x.value.args := rfl
      obtain ⟨q1, hqq1⟩ : ∃ q1 : Nat, q + 1 + 1 + 1 + 1 + 1 + 1 + 1 + 1 + ctL (ctE0 d') x.target.args = q1 := ⟨_, rfl⟩
      have hqb1 : 1 ≤ q1 ∧ q1 + 6 + ctL (ctE0 d') x.value.args ≤ 1099511627776 := by omega
      obtain ⟨hqb1a, hqb1b⟩ := hqb1
      obtain ⟨q2, hqq2⟩ : ∃ q2 : Nat, q1 + 1 + 1 + 1 + 1 + 1 + 1 + ctL (ctE0 d') x.value.args = q2 := ⟨_, rfl⟩
      have hqb2 : 1 ≤ q2 ∧ q2 ≤ 1099511627776 := by omega
      obtain ⟨hqb2a, hqb2b⟩ := hqb2
      have hn0 : q + 2 + (ctE0 (d' + 1) x.target) = q1 := by omega
      have hmk : mk_Con (d' + 1) q x = (Con.mk (mkT (q)) (mkT (q + 1)) (mkE (d' + 1) (q + 1 + 1) x.target) (mkE (d' + 1) (q1) x.value)) := by
        unfold mk_Con
        rw [hn0]
      have Hmk := hide hmk
      have Hqq1 := hide hqq1
      have Hqq2 := hide hqq2
      clear hmk hn0 hqq1 hqq2 hx_x_target hx_x_value
      rw [Hmk.out] at hR
      obtain ⟨f_2, f_3, _, _, g_0, g_1, h_2, h_3, rfl⟩ := hR
      obtain rfl : c0 = .string (Con.mk (mkT (q)) (mkT (q + 1)) (mkE (d' + 1) (q + 1 + 1) x.target) (mkE (d' + 1) (q1) x.value)).symbol := by simpa using g_0
      obtain rfl : c1 = .string (Con.mk (mkT (q)) (mkT (q + 1)) (mkE (d' + 1) (q + 1 + 1) x.target) (mkE (d' + 1) (q1) x.value)).name := by simpa using g_1
      obtain ⟨va_2, hcs_2, _, hs_2⟩ := h_2
      simp only [ExH.cells, List.drop, List.take, List.cons.injEq, and_true] at hcs_2
      obtain ⟨rfl, rfl, rfl, rfl, rfl, rfl, rfl⟩ := hcs_2
      obtain ⟨A_2, cap_2, rfl, _, _⟩ := hs_2.form
      obtain ⟨va_3, hcs_3, _, hs_3⟩ := h_3
      simp only [ExH.cells, List.drop, List.take, List.cons.injEq, and_true] at hcs_3
      obtain ⟨rfl, rfl, rfl, rfl, rfl, rfl, rfl⟩ := hcs_3
      obtain ⟨A_3, cap_3, rfl, _, _⟩ := hs_3.form
      have Tf_2 : SlR 7 (ExR d') wr (mkL (mkE d') (ctE0 d') (q + 1 + 1 + 1 + 1 + 1 + 1 + 1 + 1) x.target.args) (.slice A_2 (Con.mk (mkT (q)) (mkT (q + 1)) (mkE (d' + 1) (q + 1 + 1) x.target) (mkE (d' + 1) (q1) x.value)).target.args.length cap_2) f_2 := hs_2
      have Hf_2 : Hid (∀ W : World, Below wr.heap.size wr W → SlR 7 (ExR d') W (mkL (mkE d') (ctE0 d') (q + 1 + 1 + 1 + 1 + 1 + 1 + 1 + 1) x.target.args) (.slice A_2 (Con.mk (mkT (q)) (mkT (q + 1)) (mkE (d' + 1) (q + 1 + 1) x.target) (mkE (d' + 1) (q1) x.value)).target.args.length cap_2) f_2) := hide fun W h => Tf_2.below (ExR.good d') h (Tf_2.lt (ExR.good d'))
      have Tf_3 : SlR 7 (ExR d') wr (mkL (mkE d') (ctE0 d') (q1 + 1 + 1 + 1 + 1 + 1 + 1) x.value.args) (.slice A_3 (Con.mk (mkT (q)) (mkT (q + 1)) (mkE (d' + 1) (q + 1 + 1) x.target) (mkE (d' + 1) (q1) x.value)).value.args.length cap_3) f_3 := hs_3
      have Hf_3 : Hid (∀ W : World, Below wr.heap.size wr W → SlR 7 (ExR d') W (mkL (mkE d') (ctE0 d') (q1 + 1 + 1 + 1 + 1 + 1 + 1) x.value.args) (.slice A_3 (Con.mk (mkT (q)) (mkT (q + 1)) (mkE (d' + 1) (q + 1 + 1) x.target) (mkE (d' + 1) (q1) x.value)).value.args.length cap_3) f_3) := hide fun W h => Tf_3.below (ExR.good d') h (Tf_3.lt (ExR.good d'))
      have e0 : ∀ W : World, Below wr.heap.size wr W → W.cell? ⟨b, off + j * 16, none⟩ = some (.string (mkT (q))) := fun W h => (hcat.below h hblt) 0 _ rfl
      have e1 : ∀ W : World, Below wr.heap.size wr W → W.cell? ⟨b, off + j * 16 + 1, none⟩ = some (.string (mkT (q + 1))) := fun W h => (hcat.below h hblt) 1 _ rfl
      have e2 : ∀ W : World, Below wr.heap.size wr W → W.cell? ⟨b, off + j * 16 + 2, none⟩ = some (.int .i64 (((q + 1 + 1 : Nat)) : Int)) := fun W h => (hcat.below h hblt) 2 _ rfl
      have e3 : ∀ W : World, Below wr.heap.size wr W → W.cell? ⟨b, off + j * 16 + 3, none⟩ = some (.int .i64 (((q + 1 + 1 + 1 : Nat)) : Int)) := fun W h => (hcat.below h hblt) 3 _ rfl
      have e4 : ∀ W : World, Below wr.heap.size wr W → W.cell? ⟨b, off + j * 16 + 4, none⟩ = some (.int .i64 (((q + 1 + 1 + 1 + 1 : Nat)) : Int)) := fun W h => (hcat.below h hblt) 4 _ rfl
      have e5 : ∀ W : World, Below wr.heap.size wr W → W.cell? ⟨b, off + j * 16 + 5, none⟩ = some (.int .i64 (((q + 1 + 1 + 1 + 1 + 1 : Nat)) : Int)) := fun W h => (hcat.below h hblt) 5 _ rfl
      have e6 : ∀ W : World, Below wr.heap.size wr W → W.cell? ⟨b, off + j * 16 + 6, none⟩ = some (.string (mkT (q + 1 + 1 + 1 + 1 + 1 + 1))) := fun W h => (hcat.below h hblt) 6 _ rfl
      have e7 : ∀ W : World, Below wr.heap.size wr W → W.cell? ⟨b, off + j * 16 + 7, none⟩ = some (.string (mkT (q + 1 + 1 + 1 + 1 + 1 + 1 + 1))) := fun W h => (hcat.below h hblt) 7 _ rfl
      have e8 : ∀ W : World, Below wr.heap.size wr W → W.cell? ⟨b, off + j * 16 + 8, none⟩ = some (.slice A_2 (Con.mk (mkT (q)) (mkT (q + 1)) (mkE (d' + 1) (q + 1 + 1) x.target) (mkE (d' + 1) (q1) x.value)).target.args.length cap_2) := fun W h => (hcat.below h hblt) 8 _ rfl
      have e9 : ∀ W : World, Below wr.heap.size wr W → W.cell? ⟨b, off + j * 16 + 9, none⟩ = some (.int .i64 (((q1 : Nat)) : Int)) := fun W h => (hcat.below h hblt) 9 _ rfl
      have e10 : ∀ W : World, Below wr.heap.size wr W → W.cell? ⟨b, off + j * 16 + 10, none⟩ = some (.int .i64 (((q1 + 1 : Nat)) : Int)) := fun W h => (hcat.below h hblt) 10 _ rfl
      have e11 : ∀ W : World, Below wr.heap.size wr W → W.cell? ⟨b, off + j * 16 + 11, none⟩ = some (.int .i64 (((q1 + 1 + 1 : Nat)) : Int)) := fun W h => (hcat.below h hblt) 11 _ rfl
      have e12 : ∀ W : World, Below wr.heap.size wr W → W.cell? ⟨b, off + j * 16 + 12, none⟩ = some (.int .i64 (((q1 + 1 + 1 + 1 : Nat)) : Int)) := fun W h => (hcat.below h hblt) 12 _ rfl
      have e13 : ∀ W : World, Below wr.heap.size wr W → W.cell? ⟨b, off + j * 16 + 13, none⟩ = some (.string (mkT (q1 + 1 + 1 + 1 + 1))) := fun W h => (hcat.below h hblt) 13 _ rfl
      have e14 : ∀ W : World, Below wr.heap.size wr W → W.cell? ⟨b, off + j * 16 + 14, none⟩ = some (.string (mkT (q1 + 1 + 1 + 1 + 1 + 1))) := fun W h => (hcat.below h hblt) 14 _ rfl
      have e15 : ∀ W : World, Below wr.heap.size wr W → W.cell? ⟨b, off + j * 16 + 15, none⟩ = some (.slice A_3 (Con.mk (mkT (q)) (mkT (q + 1)) (mkE (d' + 1) (q + 1 + 1) x.target) (mkE (d' + 1) (q1) x.value)).value.args.length cap_3) := fun W h => (hcat.below h hblt) 15 _ rfl
      have hj0 : (0 : Int) ≤ (j : Int) := by omega
      have hj1 : (j : Int) < (xs.length : Int) := by omega
      have hwr : Below wr.heap.size wr wr := Below.refl _ _
      clear hx hcat hFk hbF hcl hstep hct hkq Tf_2 hs_2 Tf_3 hs_3
      go_wp2_with fail
      go_region_held3 (fun W => Below wr.heap.size wr W)
        (first | assumption | exact Below.drew (by first | assumption | exact Below.refl _ _))
        ((go_at_call 66; refine Calls.mono (l_markText (q) (by omega) (by omega) _) ?_; rintro en W1 ⟨rfl, hb⟩; have hW1 : Below wr.heap.size wr W1 := below_step (by (repeat (first | assumption | apply Below.drew | exact Below.refl _ _))) (Nat.le_refl _) hb; clear hb))
      go_wp2_with fail
      go_region_held3 (fun W => Below wr.heap.size wr W)
        (first | assumption | exact Below.drew (by first | assumption | exact Below.refl _ _))
        ((go_at_call 66; refine Calls.mono (l_markText (q + 1) (by omega) (by omega) _) ?_; rintro en W2 ⟨rfl, hb⟩; have hW2 : Below wr.heap.size wr W2 := below_step (by (repeat (first | assumption | apply Below.drew | exact Below.refl _ _))) (Nat.le_refl _) hb; clear hb))
      go_wp2_with fail
      go_region_held3 (fun W => Below wr.heap.size wr W)
        (first | assumption | exact Below.drew (by first | assumption | exact Below.refl _ _))
        ((go_at_call 66; refine Calls.mono (l_markText (q + 1 + 1 + 1 + 1 + 1 + 1) (by omega) (by omega) _) ?_; rintro en W3 ⟨rfl, hb⟩; have hW3 : Below wr.heap.size wr W3 := below_step (by (repeat (first | assumption | apply Below.drew | exact Below.refl _ _))) (Nat.le_refl _) hb; clear hb))
      go_wp2_with fail
      go_region_held3 (fun W => Below wr.heap.size wr W)
        (first | assumption | exact Below.drew (by first | assumption | exact Below.refl _ _))
        ((go_at_call 66; refine Calls.mono (l_markText (q + 1 + 1 + 1 + 1 + 1 + 1 + 1) (by omega) (by omega) _) ?_; rintro en W4 ⟨rfl, hb⟩; have hW4 : Below wr.heap.size wr W4 := below_step (by (repeat (first | assumption | apply Below.drew | exact Below.refl _ _))) (Nat.le_refl _) hb; clear hb))
      go_wp2_with fail
      refine Calls.mono (hs_Ex d' (q + 1 + 1 + 1 + 1 + 1 + 1 + 1 + 1) x.target.args _ f_2 _ (Hf_2.out _ (by assumption)) (by omega) (by omega)) ?_
      rintro en W5 ⟨rfl, hb⟩
      have hW5 : Below wr.heap.size wr W5 := below_step (by (repeat (first | assumption | apply Below.drew | exact Below.refl _ _))) (Nat.le_refl _) hb; clear hb
      rw [Hqq1.out]
      go_wp2_with fail
      go_region_held3 (fun W => Below wr.heap.size wr W)
        (first | assumption | exact Below.drew (by first | assumption | exact Below.refl _ _))
        ((go_at_call 66; refine Calls.mono (l_markText (q1 + 1 + 1 + 1 + 1) (by omega) (by omega) _) ?_; rintro en W6 ⟨rfl, hb⟩; have hW6 : Below wr.heap.size wr W6 := below_step (by (repeat (first | assumption | apply Below.drew | exact Below.refl _ _))) (Nat.le_refl _) hb; clear hb))
      go_wp2_with fail
      go_region_held3 (fun W => Below wr.heap.size wr W)
        (first | assumption | exact Below.drew (by first | assumption | exact Below.refl _ _))
        ((go_at_call 66; refine Calls.mono (l_markText (q1 + 1 + 1 + 1 + 1 + 1) (by omega) (by omega) _) ?_; rintro en W7 ⟨rfl, hb⟩; have hW7 : Below wr.heap.size wr W7 := below_step (by (repeat (first | assumption | apply Below.drew | exact Below.refl _ _))) (Nat.le_refl _) hb; clear hb))
      go_wp2_with fail
      refine Calls.mono (hs_Ex d' (q1 + 1 + 1 + 1 + 1 + 1 + 1) x.value.args _ f_3 _ (Hf_3.out _ (by assumption)) (by omega) (by omega)) ?_
      rintro en W8 ⟨rfl, hb⟩
      have hW8 : Below wr.heap.size wr W8 := below_step (by (repeat (first | assumption | apply Below.drew | exact Below.refl _ _))) (Nat.le_refl _) hb; clear hb
      rw [Hqq2.out]
      go_wp2_with fail
      have HBl : Hid (Below w.heap.size w W8) := hide (Hb.out.trans (hW8.mono Hb.out.size))
      have hc2 : q2 = k + ctL (ct_Con (d' + 1)) (xs.take (j + 1)) := by have h1 := hcnt.out; have h2 := Hkq.out; have h3 := Hcx.out; have := Hqq1.out; have := Hqq2.out; omega
      have Hc2 := hide hc2
      clear hc2
      go_roundw
      case rel => exact ⟨j + 1, by omega, by go_num, by rw [← Hc2.out]; first | done | go_num, HBl⟩
      case measure => simp [intOf]; omega
    · have hjn : j = xs.length := by omega
      subst hjn
      go_wp2_with fail
      go_ret
      exact ⟨ret_int (by rw [Htl.out]), Hb.out⟩
end Go.Proofs.Ytaihdnlpdibkoaa
