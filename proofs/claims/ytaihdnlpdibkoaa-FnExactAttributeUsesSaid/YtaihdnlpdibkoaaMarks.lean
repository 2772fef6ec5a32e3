/- Rules and grammars overwritten by marks, and held against them. Conditions: numbers from 1 to 2^40. -/
import Derived.Test.YtaihdnlpdibkoaaMarkQ
import Derived.Test.YtaihdnlpdibkoaaGrm
namespace Go.Proofs.Ytaihdnlpdibkoaa
set_option maxRecDepth 100000
open Go.RowKit Go.WideShapes
set_option linter.unusedVariables false

def mk_Rul (D k : Nat) (x : Rul) : Rul := ⟨mkT (k), mkT (k + 1), marks (k + 2) x.right.length, (((k + 2 + (x.right.length) : Nat) : Int) % 3 == 0), mkL (mk_Eqn D) (ct_Eqn D) (k + 3 + (x.right.length)) x.eqs, mkL (mk_Con D) (ct_Con D) (k + 3 + (x.right.length) + (ctL (ct_Eqn D) x.eqs)) x.cons⟩
def ct_Rul (D : Nat) (x : Rul) : Nat := 3 + (x.right.length) + (ctL (ct_Eqn D) x.eqs) + (ctL (ct_Con D) x.cons)
set_option maxRecDepth 100000 in
set_option maxHeartbeats 4000000 in
theorem m_Rul (D C k : Nat) (xs : List Rul) (v : Value) (F : List Nat) (w : World) (hs : SlR 6 (RulR D) w xs v F) (hf : Fresh C w F) (hk : 1 ≤ k) (hkn : k + ctL (ct_Rul D) xs ≤ 1099511627776) :
    Calls Try.prog 48 #[v, .int .i64 k] w fun en w' => en = .returned (.int .i64 ((k + ctL (ct_Rul D) xs : Nat) : Int)) ∧ SlR 6 (RulR D) w' (mkL (mk_Rul D) (ct_Rul D) k xs) v F ∧ Fresh C w' F ∧ Apart F w w' := by
  obtain ⟨A, cap, rfl, hlc, hm, hsl⟩ := hs
  rcases hsl with ⟨rfl, rfl⟩ | ⟨b, off, F', rfl, hb, rfl, he⟩
  · go_enter Try.func48, Try.ntmps48
    go_wp2_with fail
    go_loop [1, 5] (fun kv i => kv = .int .i64 k ∧ i = .int .i64 0) (fun _ _ => 0)
    case atStart => exact ⟨rfl, rfl⟩
    case round =>
      obtain ⟨rfl, rfl⟩ := hrel
      go_wp2_with fail
      go_ret
      exact ⟨rfl, ⟨A, cap, rfl, hlc, hm, .inl ⟨rfl, rfl⟩⟩, hf, Apart.refl _ _⟩
  have Hf := hide hf
  have hmm := hm
  unfold maxLen at hmm
  have hlm : xs.length ≤ 9223372036854775807 := by omega
  have Hm := hide (And.intro hlc hm)
  have He := hide he
  have Hct := hide (fun j => ctL_take_le (ct := ct_Rul D) xs j)
  have Htl : Hid (xs.take xs.length = xs) := hide List.take_length
  clear hf he hlc hm hmm
  go_enter Try.func48, Try.ntmps48
  go_wp2_with fail
  go_loopw [1, 5] (fun kv i wr => ∃ j : Nat, j ≤ xs.length ∧ i = .int .i64 j ∧ kv = .int .i64 ((k + ctL (ct_Rul D) (xs.take j) : Nat) : Int) ∧ Hid (ElR 6 (RulR D) wr b off (mkL (mk_Rul D) (ct_Rul D) k (xs.take j) ++ xs.drop j) F') ∧ Hid (Fresh C wr (b :: F')) ∧ Hid (Apart (b :: F') w wr)) (fun _ i _ => xs.length - (intOf i).toNat)
  case atStart => exact ⟨0, by omega, rfl, rfl, hide (by simpa [mkL] using He.out), Hf, hide (Apart.refl _ _)⟩
  case round =>
    obtain ⟨j, hj, rfl, rfl, Hel, Hfr, Ha⟩ := hrel
    by_cases hlt : j < xs.length
    · have hx : xs[j]? = some xs[j] := List.getElem?_eq_getElem hlt
      generalize xs[j] = x at hx
      have Hx := hide hx
      have hstep := Hct.out (j + 1)
      rw [ctL_take hx] at hstep
      have hcnt : Hid (ctL (ct_Rul D) (xs.take (j + 1)) = ctL (ct_Rul D) (xs.take j) + ct_Rul D x) := hide (ctL_take hx)
      obtain ⟨cs, F1, Fk, F2, hFeq, hcat, hR, g1, g2⟩ := ElR.get (RulR.good D) Hel.out (half_at (mk := mk_Rul D) (ct := ct_Rul D) (k := k) hx)
      obtain ⟨c0, c1, c2, c3, c4, c5, rfl⟩ := list_6 ((RulR.good D).len hR)
      obtain ⟨v_2, f_2, v_4, f_4, v_5, f_5, _, _, g_0, g_1, ⟨g_2, hs_2⟩, g_3, ⟨g_4, hs_4⟩, ⟨g_5, hs_5⟩, rfl⟩ := hR
      obtain rfl : c0 = .string x.name := by simpa using g_0
      obtain rfl : c1 = .string x.left := by simpa using g_1
      obtain rfl : c2 = v_2 := by simpa using g_2
      obtain ⟨A_2, cap_2, rfl, _, _⟩ := hs_2.form
      obtain rfl : c3 = .bool x.lit := by simpa using g_3
      obtain rfl : c4 = v_4 := by simpa using g_4
      obtain ⟨A_4, cap_4, rfl, _, _⟩ := hs_4.form
      obtain rfl : c5 = v_5 := by simpa using g_5
      obtain ⟨A_5, cap_5, rfl, _, _⟩ := hs_5.form
      have hct : ct_Rul D x = 3 + x.right.length + ctL (ct_Eqn D) x.eqs + ctL (ct_Con D) x.cons := by simp only [ct_Rul] <;> omega
      have Hcx := hide hct
      rw [hct] at hstep
      obtain ⟨bs, tt, hblk⟩ := Hfr.out.cells b (by simp)
      have e0 := hcat 0 _ rfl
      have e1 := hcat 1 _ rfl
      have e2 := hcat 2 _ rfl
      have e3 := hcat 3 _ rfl
      have e4 := hcat 4 _ rfl
      have e5 := hcat 5 _ rfl
      simp only [Nat.add_zero] at e0
      have hT0 : PutG wr b (off + j * 6) (f_2 ++ (f_4 ++ (f_5))) [] wr := PutG.nil hblk
      have hS0 : PutG wr b (off + j * 6) [] [] wr := PutG.nil hblk
      have hfk := Hfr.out
      rw [hFeq] at hfk
      have Hdis := hide (nodup_mid hfk.nodup)
      have Hbk : Hid (∀ k ∈ f_2 ++ (f_4 ++ (f_5)), k ≠ b) := hide fun k hk e => (List.nodup_cons.1 hfk.nodup).1 (e ▸ List.mem_append_right _ (List.mem_append_left _ hk))
      have hmid : Fresh C wr (f_2 ++ (f_4 ++ (f_5))) := hfk.mid
      have Rf_2 : Hid (Fresh C wr f_2) := hide (hmid.left)
      have Of_2 := hide hs_2
      have Nf_2 : Hid (∀ k ∈ f_2, k ≠ b) := hide fun k hk => Hbk.out k (by simp [hk])
      have Rf_4 : Hid (Fresh C wr f_4) := hide (hmid.right.left)
      have Of_4 := hide hs_4
      have Nf_4 : Hid (∀ k ∈ f_4, k ≠ b) := hide fun k hk => Hbk.out k (by simp [hk])
      have Rf_5 : Hid (Fresh C wr f_5) := hide (hmid.right.right)
      have Of_5 := hide hs_5
      have Nf_5 : Hid (∀ k ∈ f_5, k ≠ b) := hide fun k hk => Hbk.out k (by simp [hk])
      have Df_2f_4 : Hid (∀ k ∈ f_2, k ∉ f_4) := hide (fun k h1 h2 => hmid.dis k h1 (by simp [h2]))
      have Df_2f_5 : Hid (∀ k ∈ f_2, k ∉ f_5) := hide (fun k h1 h2 => hmid.dis k h1 (by simp [h2]))
      have Df_4f_5 : Hid (∀ k ∈ f_4, k ∉ f_5) := hide (fun k h1 h2 => hmid.right.dis k h1 (by simp [h2]))
      have Hg1 := hide g1
      have Hg2 := hide g2
      have HFeq := hide hFeq
      have He0 := hide e0
      have He1 := hide e1
      have He2 := hide e2
      have He3 := hide e3
      have He4 := hide e4
      have He5 := hide e5
      have HT := hide hT0
      have HS := hide hS0
      generalize hkq : k + ctL (ct_Rul D) (xs.take j) = q at hstep ⊢
      have Hkq := hide hkq
      have hq1 : 1 ≤ q := by omega
      have hq2 : q + (3 + x.right.length + ctL (ct_Eqn D) x.eqs + ctL (ct_Con D) x.cons) ≤ 1099511627776 := by omega
      obtain ⟨q1, hqq1⟩ : ∃ q1 : Nat, q + 1 + 1 + x.right.length = q1 := ⟨_, rfl⟩
      have hqb1 : 1 ≤ q1 ∧ q1 + 1 + ctL (ct_Eqn D) x.eqs + ctL (ct_Con D) x.cons ≤ 1099511627776 := by omega
      obtain ⟨hqb1a, hqb1b⟩ := hqb1
      obtain ⟨q2, hqq2⟩ : ∃ q2 : Nat, q1 + 1 + ctL (ct_Eqn D) x.eqs = q2 := ⟨_, rfl⟩
      have hqb2 : 1 ≤ q2 ∧ q2 + ctL (ct_Con D) x.cons ≤ 1099511627776 := by omega
      obtain ⟨hqb2a, hqb2b⟩ := hqb2
      obtain ⟨q3, hqq3⟩ : ∃ q3 : Nat, q2 + ctL (ct_Con D) x.cons = q3 := ⟨_, rfl⟩
      have hqb3 : 1 ≤ q3 ∧ q3 ≤ 1099511627776 := by omega
      obtain ⟨hqb3a, hqb3b⟩ := hqb3
      have hn0 : q + 2 + (x.right.length) = q1 := by omega
      have hn1 : q + 3 + (x.right.length) = q1 + 1 := by omega
      have hn2 : q + 3 + (x.right.length) + (ctL (ct_Eqn D) x.eqs) = q2 := by omega
      have hmk : mk_Rul D q x = (Rul.mk (mkT (q)) (mkT (q + 1)) (marks (q + 1 + 1) x.right.length) (((q1 : Nat) : Int) % 3 == 0) (mkL (mk_Eqn D) (ct_Eqn D) (q1 + 1) x.eqs) (mkL (mk_Con D) (ct_Con D) (q2) x.cons)) := by
        unfold mk_Rul
        rw [hn2, hn1, hn0]
      have Hmk := hide hmk
      have Hqq1 := hide hqq1
      have Hqq2 := hide hqq2
      have Hqq3 := hide hqq3
      clear hmk hn0 hn1 hn2 hqq1 hqq2 hqq3 
      have hj0 : (0 : Int) ≤ (j : Int) := by omega
      have hj1 : (j : Int) < (xs.length : Int) := by omega
      clear hx hcat hblk g1 g2 hFeq hT0 hS0 hfk hmid hkq hstep hct hs_2 hs_4 hs_5 e0 e1 e2 e3 e4 e5
      have G0 := He0
      have G1 := He1
      have G2 := He2
      have G3 := He3
      have G4 := He4
      have G5 := He5
      go_wp2_with fail
      refine (l_markText (q) (by omega) (by omega) _).mono ?_
      rintro e U1 ⟨rfl, hb2⟩
      have hS := HS.out.below hb2
      clear HS hb2
      have HS := hide hS
      clear hS
      have c_0 : U1.cell? ⟨b, off + j * 6, none⟩ = some (.string x.name) := HS.out.cell (i := off + j * 6) (by simp) G0.out
      have f_0 := HS.out.frozen (off + j * 6)
      go_wp2_with fail
      have p0 : PutG wr b (off + j * 6) [] [.string (mkT (q))] (U1.setCell ⟨b, off + j * 6, none⟩ (.string (mkT (q)))) := PutG.store HS.out (.string (mkT (q))) (c := .string x.name) (by exact (PutG.cell (i := off + j * 6) HS.out (by simp) (G0.out)))
      generalize U1.setCell ⟨b, off + j * 6, none⟩ (.string (mkT (q))) = U2 at p0 ⊢
      clear HS
      have HS := hide p0
      clear p0
      refine (l_markText (q + 1) (by omega) (by omega) _).mono ?_
      rintro e U3 ⟨rfl, hb2⟩
      have hS := HS.out.below hb2
      clear HS hb2
      clear c_0 f_0
      have HS := hide hS
      clear hS
      have c_1 : U3.cell? ⟨b, off + j * 6 + 1, none⟩ = some (.string x.left) := HS.out.cell (i := off + j * 6 + 1) (by simp) G1.out
      have f_1 := HS.out.frozen (off + j * 6 + 1)
      have c_2 : U3.cell? ⟨b, off + j * 6 + 2, none⟩ = some (.slice A_2 x.right.length cap_2) := HS.out.cell (i := off + j * 6 + 2) (by simp) G2.out
      go_wp2_with fail
      have p0 : PutG wr b (off + j * 6) [] [.string (mkT (q)), .string (mkT (q + 1))] (U3.setCell ⟨b, off + j * 6 + 1, none⟩ (.string (mkT (q + 1)))) := PutG.store HS.out (.string (mkT (q + 1))) (c := .string x.left) (by exact (PutG.cell (i := off + j * 6 + 1) HS.out (by simp) (G1.out)))
      generalize U3.setCell ⟨b, off + j * 6 + 1, none⟩ (.string (mkT (q + 1))) = U4 at p0 ⊢
      clear HS
      have HS := hide p0
      clear p0
      have hS := HS.out.keep (u := .slice A_2 x.right.length cap_2) (HS.out.cell (i := off + j * 6 + 2) (by simp) G2.out)
      have hS : PutG wr b (off + j * 6) [] [.string (mkT (q)), .string (mkT (q + 1)), .slice A_2 x.right.length cap_2] U4 := hS
      have hOf_2 := Of_2.out.frame (StrR.good D) (fun k hk => hS.far k (Of_2.out.lt (StrR.good D) k hk) (Nf_2.out k hk) (by simp)) hS.size
      have hRf_2 := hS.fresh Rf_2.out
      have hOf_4 := Of_4.out.frame (EqnR.good D) (fun k hk => hS.far k (Of_4.out.lt (EqnR.good D) k hk) (Nf_4.out k hk) (by simp)) hS.size
      have hRf_4 := hS.fresh Rf_4.out
      have hOf_5 := Of_5.out.frame (ConR.good D) (fun k hk => hS.far k (Of_5.out.lt (ConR.good D) k hk) (Nf_5.out k hk) (by simp)) hS.size
      have hRf_5 := hS.fresh Rf_5.out
      refine Calls.mono (m_Str D C (q + 1 + 1) x.right _ f_2 U4 hOf_2 hRf_2 (by omega) (by omega)) ?_
      rintro en U5 ⟨rfl, hOn, hRn, ha⟩
      have hT : PutG wr b (off + j * 6) (f_2 ++ (f_4 ++ (f_5))) [.string (mkT (q)), .string (mkT (q + 1)), .slice A_2 x.right.length cap_2] U5 := HT.out.step hS ha (fun hm => Nf_2.out b hm rfl) (fun k hk => by simp [hk])
      have hOf_4 := hOf_4.apart (EqnR.good D) ha (fun k h1 h2 => Df_2f_4.out k h2 h1)
      have hRf_4 := hRf_4.apart ha (fun k h1 h2 => Df_2f_4.out k h2 h1)
      have hOf_5 := hOf_5.apart (ConR.good D) ha (fun k h1 h2 => Df_2f_5.out k h2 h1)
      have hRf_5 := hRf_5.apart ha (fun k h1 h2 => Df_2f_5.out k h2 h1)
      clear Of_2 Rf_2 Of_4 Rf_4 Of_5 Rf_5
      have Of_2 := hide hOn
      have Rf_2 := hide hRn
      have Of_4 := hide hOf_4
      have Rf_4 := hide hRf_4
      have Of_5 := hide hOf_5
      have Rf_5 := hide hRf_5
      have hS2 : PutG U5 b (off + j * 6 + 3) [] [] U5 := hT.nil_at
      have g := hT.cell (i := off + j * 6 + 3) (by simp) He3.out
      clear G3
      have G3 := hide g
      clear g
      have g := hT.cell (i := off + j * 6 + 4) (by simp) He4.out
      clear G4
      have G4 := hide g
      clear g
      have g := hT.cell (i := off + j * 6 + 5) (by simp) He5.out
      clear G5
      have G5 := hide g
      clear g
      clear HT HS hS ha hOn hRn hOf_4 hRf_4 hOf_5 hRf_5
      clear hOf_2 hRf_2
      clear c_1 f_1 c_2
      have HT := hide hT
      have HS := hide hS2
      clear hT hS2
      rw [Hqq1.out]
      have c_3 : U5.cell? ⟨b, off + j * 6 + 3, none⟩ = some (.bool x.lit) := HS.out.cell (i := off + j * 6 + 3) (by simp) G3.out
      have f_3 := HS.out.frozen (off + j * 6 + 3)
      have c_4 : U5.cell? ⟨b, off + j * 6 + 4, none⟩ = some (.slice A_4 x.eqs.length cap_4) := HS.out.cell (i := off + j * 6 + 4) (by simp) G4.out
      go_wp2_with fail
      have p0 : PutG U5 b (off + j * 6 + 3) [] [.bool (((q1 : Int)) % 3 == 0)] (U5.setCell ⟨b, off + j * 6 + 3, none⟩ (.bool (((q1 : Int)) % 3 == 0))) := PutG.store HS.out (.bool (((q1 : Int)) % 3 == 0)) (c := .bool x.lit) (by exact (PutG.cell (i := off + j * 6 + 3) HS.out (by simp) (G3.out)))
      generalize U5.setCell ⟨b, off + j * 6 + 3, none⟩ (.bool (((q1 : Int)) % 3 == 0)) = U6 at p0 ⊢
      clear HS
      have HS := hide p0
      clear p0
      have hS := HS.out.keep (u := .slice A_4 x.eqs.length cap_4) (HS.out.cell (i := off + j * 6 + 4) (by simp) G4.out)
      have hS : PutG U5 b (off + j * 6 + 3) [] [.bool (((q1 : Int)) % 3 == 0), .slice A_4 x.eqs.length cap_4] U6 := hS
      have hOf_2 := Of_2.out.frame (StrR.good D) (fun k hk => hS.far k (Of_2.out.lt (StrR.good D) k hk) (Nf_2.out k hk) (by simp)) hS.size
      have hRf_2 := hS.fresh Rf_2.out
      have hOf_4 := Of_4.out.frame (EqnR.good D) (fun k hk => hS.far k (Of_4.out.lt (EqnR.good D) k hk) (Nf_4.out k hk) (by simp)) hS.size
      have hRf_4 := hS.fresh Rf_4.out
      have hOf_5 := Of_5.out.frame (ConR.good D) (fun k hk => hS.far k (Of_5.out.lt (ConR.good D) k hk) (Nf_5.out k hk) (by simp)) hS.size
      have hRf_5 := hS.fresh Rf_5.out
      refine Calls.mono (m_Eqn D C (q1 + 1) x.eqs _ f_4 U6 hOf_4 hRf_4 (by omega) (by omega)) ?_
      rintro en U7 ⟨rfl, hOn, hRn, ha⟩
      have hT : PutG wr b (off + j * 6) (f_2 ++ (f_4 ++ (f_5))) [.string (mkT (q)), .string (mkT (q + 1)), .slice A_2 x.right.length cap_2, .bool (((q1 : Int)) % 3 == 0), .slice A_4 x.eqs.length cap_4] U7 := HT.out.step hS ha (fun hm => Nf_4.out b hm rfl) (fun k hk => by simp [hk])
      have hOf_2 := hOf_2.apart (StrR.good D) ha Df_2f_4.out
      have hRf_2 := hRf_2.apart ha Df_2f_4.out
      have hOf_5 := hOf_5.apart (ConR.good D) ha (fun k h1 h2 => Df_4f_5.out k h2 h1)
      have hRf_5 := hRf_5.apart ha (fun k h1 h2 => Df_4f_5.out k h2 h1)
      clear Of_2 Rf_2 Of_4 Rf_4 Of_5 Rf_5
      have Of_2 := hide hOf_2
      have Rf_2 := hide hRf_2
      have Of_4 := hide hOn
      have Rf_4 := hide hRn
      have Of_5 := hide hOf_5
      have Rf_5 := hide hRf_5
      have hS2 : PutG U7 b (off + j * 6 + 5) [] [] U7 := hT.nil_at
      have g := hT.cell (i := off + j * 6 + 5) (by simp) He5.out
      clear G5
      have G5 := hide g
      clear g
      clear HT HS hS ha hOn hRn hOf_2 hRf_2 hOf_5 hRf_5
      clear hOf_4 hRf_4
      clear c_3 f_3 c_4
      have HT := hide hT
      have HS := hide hS2
      clear hT hS2
      rw [Hqq2.out]
      have c_5 : U7.cell? ⟨b, off + j * 6 + 5, none⟩ = some (.slice A_5 x.cons.length cap_5) := HS.out.cell (i := off + j * 6 + 5) (by simp) G5.out
      go_wp2_with fail
      have hS := HS.out.keep (u := .slice A_5 x.cons.length cap_5) (HS.out.cell (i := off + j * 6 + 5) (by simp) G5.out)
      have hS : PutG U7 b (off + j * 6 + 5) [] [.slice A_5 x.cons.length cap_5] U7 := hS
      have hOf_2 := Of_2.out.frame (StrR.good D) (fun k hk => hS.far k (Of_2.out.lt (StrR.good D) k hk) (Nf_2.out k hk) (by simp)) hS.size
      have hRf_2 := hS.fresh Rf_2.out
      have hOf_4 := Of_4.out.frame (EqnR.good D) (fun k hk => hS.far k (Of_4.out.lt (EqnR.good D) k hk) (Nf_4.out k hk) (by simp)) hS.size
      have hRf_4 := hS.fresh Rf_4.out
      have hOf_5 := Of_5.out.frame (ConR.good D) (fun k hk => hS.far k (Of_5.out.lt (ConR.good D) k hk) (Nf_5.out k hk) (by simp)) hS.size
      have hRf_5 := hS.fresh Rf_5.out
      refine Calls.mono (m_Con D C (q2) x.cons _ f_5 U7 hOf_5 hRf_5 (by omega) (by omega)) ?_
      rintro en U8 ⟨rfl, hOn, hRn, ha⟩
      have hT : PutG wr b (off + j * 6) (f_2 ++ (f_4 ++ (f_5))) [.string (mkT (q)), .string (mkT (q + 1)), .slice A_2 x.right.length cap_2, .bool (((q1 : Int)) % 3 == 0), .slice A_4 x.eqs.length cap_4, .slice A_5 x.cons.length cap_5] U8 := HT.out.step hS ha (fun hm => Nf_5.out b hm rfl) (fun k hk => by simp [hk])
      have hOf_2 := hOf_2.apart (StrR.good D) ha Df_2f_5.out
      have hRf_2 := hRf_2.apart ha Df_2f_5.out
      have hOf_4 := hOf_4.apart (EqnR.good D) ha Df_4f_5.out
      have hRf_4 := hRf_4.apart ha Df_4f_5.out
      clear Of_2 Rf_2 Of_4 Rf_4 Of_5 Rf_5
      have Of_2 := hide hOf_2
      have Rf_2 := hide hRf_2
      have Of_4 := hide hOf_4
      have Rf_4 := hide hRf_4
      have Of_5 := hide hOn
      have Rf_5 := hide hRn
      have hS2 : PutG U8 b (off + j * 6 + 6) [] [] U8 := hT.nil_at
      clear HT HS hS ha hOn hRn hOf_2 hRf_2 hOf_4 hRf_4
      clear hOf_5 hRf_5
      clear c_5
      have HT := hide hT
      have HS := hide hS2
      clear hT hS2
      rw [Hqq3.out]
      have hT := HT.out
      have hOf_2 := Of_2.out
      have hRf_2 := Rf_2.out
      have hOf_4 := Of_4.out
      have hRf_4 := Rf_4.out
      have hOf_5 := Of_5.out
      have hRf_5 := Rf_5.out
      have hy : RulR D U8 (mk_Rul D q x) [.string (mkT (q)), .string (mkT (q + 1)), .slice A_2 x.right.length cap_2, .bool (((q1 : Int)) % 3 == 0), .slice A_4 x.eqs.length cap_4, .slice A_5 x.cons.length cap_5] (f_2 ++ (f_4 ++ (f_5))) := by
        rw [Hmk.out]
        exact ⟨_, _, _, _, _, _, rfl, ⟨mkT_small (k := q) (by omega), mkT_small (k := q + 1) (by omega)⟩, rfl, rfl, ⟨rfl, hOf_2⟩, rfl, ⟨rfl, hOf_4⟩, ⟨rfl, hOf_5⟩, rfl⟩
      have hset := ElR.set (RulR.good D) hT.size (by rw [half_len (by omega)]; exact hlt) Hg1.out Hg2.out hy hT.cellsAt
        (fun i hi => hT.same rfl i (by rw [Nat.add_mul] at hi; omega)) (fun k hk => hT.far k (Hfr.out.lt k (by rw [HFeq.out]; simp [hk])) (Hdis.out.1 k hk).1 (Hdis.out.1 k hk).2) (fun k hk => hT.far k (Hfr.out.lt k (by rw [HFeq.out]; simp [hk])) (Hdis.out.2 k hk).1 (Hdis.out.2 k hk).2)
      have hnext := half_next (mk := mk_Rul D) (ct := ct_Rul D) (k := k) Hx.out
      rw [Hkq.out] at hnext
      rw [hnext] at hset
      have Hset := hide hset
      have Hfr4 := hide (hT.freshX Hfr.out (fun k hk => by simp only [List.nil_append, List.mem_append] at hk; rcases hk with hk | hk | hk <;> first | exact hRf_2.cells k hk | exact hRf_4.cells k hk | exact hRf_5.cells k hk))
      have Hap : Hid (Apart (b :: F') w U8) := hide (Ha.out.trans ⟨hT.os, hT.tape, hT.output, hT.size, fun k hk hF => hT.far k hk (fun e => hF (by simp [e])) (fun hm => hF (by rw [HFeq.out]; exact List.mem_cons_of_mem _ (List.mem_append_right _ (List.mem_append_left _ hm))))⟩)
      have hc2 : q3 = k + ctL (ct_Rul D) (xs.take (j + 1)) := by have h1 := hcnt.out; have h2 := Hkq.out; have h3 := Hcx.out; have := Hqq1.out; have := Hqq2.out; have := Hqq3.out; omega
      have Hc2 := hide hc2
      clear hT hy hset hnext hc2 HS HT hOf_2 hRf_2 Of_2 Rf_2 hOf_4 hRf_4 Of_4 Rf_4 hOf_5 hRf_5 Of_5 Rf_5
      go_wp2_with fail
      exact ⟨⟨j + 1, by omega, by go_num, by rw [← Hc2.out]; first | done | go_num, hide (by rw [HFeq.out]; exact Hset.out), Hfr4, Hap⟩, by simp [intOf]; omega⟩
    · have hjn : j = xs.length := by omega
      subst hjn
      go_wp2_with fail
      go_ret
      have h1 := Hel.out
      rw [List.take_length, List.drop_length, List.append_nil] at h1
      refine ⟨ret_int (by rw [Htl.out]), ⟨some ⟨b, off, none⟩, cap, by rw [mkL_len], by rw [mkL_len]; exact Hm.out.1, Hm.out.2, .inr ⟨b, off, F', rfl, Hfr.out.lt b (by simp), rfl, h1⟩⟩, Hfr.out, Ha.out⟩
def sk_Rul (D k : Nat) (x : Rul) : Rul := { x with right := marks (k) x.right.length, eqs := mkL (mk_Eqn D) (ct_Eqn D) (k + x.right.length) x.eqs, cons := mkL (mk_Con D) (ct_Con D) (k + x.right.length + ctL (ct_Eqn D) x.eqs) x.cons }
def sc_Rul (D : Nat) (x : Rul) : Nat := x.right.length + ctL (ct_Eqn D) x.eqs + ctL (ct_Con D) x.cons
set_option maxRecDepth 100000 in
set_option maxHeartbeats 4000000 in
theorem mm_Rul (D C k : Nat) (x : Rul) (cs : List Value) (F : List Nat) (w : World) (h : RulR D w x cs F) (hf : Fresh C w F) (hk : 1 ≤ k) (hkn : k + sc_Rul D x ≤ 1099511627776) :
    Calls Try.prog 13 #[.agg cs.toArray, .int .i64 k] w fun en w' => en = .returned (.int .i64 ((k + sc_Rul D x : Nat) : Int)) ∧ RulR D w' (sk_Rul D k x) cs F ∧ Fresh C w' F ∧ Apart F w w' := by
  obtain ⟨c0, c1, c2, c3, c4, c5, rfl⟩ := list_6 ((RulR.good D).len h)
  obtain ⟨v2, F2, v4, F4, v5, F5, hl, hok, g0, g1, ⟨g2, hs2⟩, g3, ⟨g4, hs4⟩, ⟨g5, hs5⟩, rfl⟩ := h
  obtain rfl : c2 = v2 := by simpa using g2
  obtain ⟨A2, cap2, rfl, _, _⟩ := hs2.form
  obtain rfl : c4 = v4 := by simpa using g4
  obtain ⟨A4, cap4, rfl, _, _⟩ := hs4.form
  obtain rfl : c5 = v5 := by simpa using g5
  obtain ⟨A5, cap5, rfl, _, _⟩ := hs5.form
  have hct : sc_Rul D x = x.right.length + ctL (ct_Eqn D) x.eqs + ctL (ct_Con D) x.cons := by simp only [sc_Rul]
  have Hct := hide hct
  rw [hct] at hkn
  clear hct
  have RF2 : Hid (Fresh C w F2) := hide (hf.left)
  have RF4 : Hid (Fresh C w F4) := hide (hf.right.left)
  have RF5 : Hid (Fresh C w F5) := hide (hf.right.right)
  have DF2F4 : Hid (∀ k ∈ F2, k ∉ F4) := hide (fun k h1 h2 => hf.dis k h1 (by simp [h2]))
  have DF2F5 : Hid (∀ k ∈ F2, k ∉ F5) := hide (fun k h1 h2 => hf.dis k h1 (by simp [h2]))
  have DF4F5 : Hid (∀ k ∈ F4, k ∉ F5) := hide (fun k h1 h2 => hf.right.dis k h1 (by simp [h2]))
  obtain ⟨C0, hz0, hw0⟩ := boxes1 w [c0, c1, .slice A2 x.right.length cap2, c3, .slice A4 x.eqs.length cap4, .slice A5 x.cons.length cap5] 31
  show Calls _ _ #[.agg #[c0, c1, .slice A2 x.right.length cap2, c3, .slice A4 x.eqs.length cap4, .slice A5 x.cons.length cap5], .int .i64 k] w _
  go_enter Try.func13, Try.ntmps13
  go_wp2_with fail
  generalize w.alloc (Obj.cells #[c0, c1, .slice A2 x.right.length cap2, c3, .slice A4 x.eqs.length cap4, .slice A5 x.cons.length cap5] 31) = W0 at C0 hz0 hw0 ⊢
  have OF2 := hide (hs2.below (StrR.good D) hw0 (hs2.lt (StrR.good D)))
  have rF2 := RF2.out.below hw0
  have LtF2 : Hid (∀ k ∈ F2, k ≠ w.heap.size) := hide fun k hk e => by have := RF2.out.lt k hk; omega
  clear RF2
  have RF2 := hide rF2
  clear rF2 hs2
  have OF4 := hide (hs4.below (EqnR.good D) hw0 (hs4.lt (EqnR.good D)))
  have rF4 := RF4.out.below hw0
  have LtF4 : Hid (∀ k ∈ F4, k ≠ w.heap.size) := hide fun k hk e => by have := RF4.out.lt k hk; omega
  clear RF4
  have RF4 := hide rF4
  clear rF4 hs4
  have OF5 := hide (hs5.below (ConR.good D) hw0 (hs5.lt (ConR.good D)))
  have rF5 := RF5.out.below hw0
  have LtF5 : Hid (∀ k ∈ F5, k ≠ w.heap.size) := hide fun k hk e => by have := RF5.out.lt k hk; omega
  clear RF5
  have RF5 := hide rF5
  clear rF5 hs5
  have c_2 : W0.cell? ⟨w.heap.size, 2, none⟩ = some (.slice A2 x.right.length cap2) := by have := C0 2 _ rfl; rwa [Nat.zero_add] at this
  have c_4 : W0.cell? ⟨w.heap.size, 4, none⟩ = some (.slice A4 x.eqs.length cap4) := by have := C0 4 _ rfl; rwa [Nat.zero_add] at this
  have c_5 : W0.cell? ⟨w.heap.size, 5, none⟩ = some (.slice A5 x.cons.length cap5) := by have := C0 5 _ rfl; rwa [Nat.zero_add] at this
  have hA0 : Apart (F2 ++ (F4 ++ (F5))) w W0 := Apart.of_below hw0
  have HA := hide hA0
  have hzz : w.heap.size < W0.heap.size := by omega
  clear C0 hz0 hw0 hA0 hf
  refine Calls.mono (m_Str D C (k) x.right _ F2 W0 OF2.out RF2.out (by omega) (by omega)) ?_
  rintro en W1 ⟨rfl, hOn, hRn, ha⟩
  have hOF4 := OF4.out.apart (EqnR.good D) ha (fun k h1 h2 => DF2F4.out k h2 h1)
  have hRF4 := RF4.out.apart ha (fun k h1 h2 => DF2F4.out k h2 h1)
  have hOF5 := OF5.out.apart (ConR.good D) ha (fun k h1 h2 => DF2F5.out k h2 h1)
  have hRF5 := RF5.out.apart ha (fun k h1 h2 => DF2F5.out k h2 h1)
  have cc_4 : W1.cell? ⟨w.heap.size, 4, none⟩ = some (.slice A4 x.eqs.length cap4) := (cell_same (ha.block w.heap.size hzz (fun hm => LtF2.out _ hm rfl)) _).trans c_4
  have cc_5 : W1.cell? ⟨w.heap.size, 5, none⟩ = some (.slice A5 x.cons.length cap5) := (cell_same (ha.block w.heap.size hzz (fun hm => LtF2.out _ hm rfl)) _).trans c_5
  clear c_2 c_4 c_5
  have c_4 := cc_4
  clear cc_4
  have c_5 := cc_5
  clear cc_5
  have hzy : w.heap.size < W1.heap.size := Nat.lt_of_lt_of_le hzz ha.size
  clear hzz
  have hzz := hzy
  clear hzy
  have hA := HA.out.trans (ha.more (fun k hk => by simp [hk]))
  clear HA ha
  have HA : Hid (Apart (F2 ++ (F4 ++ (F5))) w W1) := hide hA
  clear hA
  clear OF2 RF2 OF4 RF4 OF5 RF5
  have OF2 := hide hOn
  have RF2 := hide hRn
  have OF4 := hide hOF4
  have RF4 := hide hRF4
  have OF5 := hide hOF5
  have RF5 := hide hRF5
  clear hOn hRn hOF4 hRF4 hOF5 hRF5
  go_wp2_with fail
  refine Calls.mono (m_Eqn D C (k + x.right.length) x.eqs _ F4 W1 OF4.out RF4.out (by omega) (by omega)) ?_
  rintro en W2 ⟨rfl, hOn, hRn, ha⟩
  have hOF2 := OF2.out.apart (StrR.good D) ha DF2F4.out
  have hRF2 := RF2.out.apart ha DF2F4.out
  have hOF5 := OF5.out.apart (ConR.good D) ha (fun k h1 h2 => DF4F5.out k h2 h1)
  have hRF5 := RF5.out.apart ha (fun k h1 h2 => DF4F5.out k h2 h1)
  have cc_5 : W2.cell? ⟨w.heap.size, 5, none⟩ = some (.slice A5 x.cons.length cap5) := (cell_same (ha.block w.heap.size hzz (fun hm => LtF4.out _ hm rfl)) _).trans c_5
  clear c_4 c_5
  have c_5 := cc_5
  clear cc_5
  have hzy : w.heap.size < W2.heap.size := Nat.lt_of_lt_of_le hzz ha.size
  clear hzz
  have hzz := hzy
  clear hzy
  have hA := HA.out.trans (ha.more (fun k hk => by simp [hk]))
  clear HA ha
  have HA : Hid (Apart (F2 ++ (F4 ++ (F5))) w W2) := hide hA
  clear hA
  clear OF2 RF2 OF4 RF4 OF5 RF5
  have OF2 := hide hOF2
  have RF2 := hide hRF2
  have OF4 := hide hOn
  have RF4 := hide hRn
  have OF5 := hide hOF5
  have RF5 := hide hRF5
  clear hOn hRn hOF2 hRF2 hOF5 hRF5
  go_wp2_with fail
  refine Calls.mono (m_Con D C (k + x.right.length + ctL (ct_Eqn D) x.eqs) x.cons _ F5 W2 OF5.out RF5.out (by omega) (by omega)) ?_
  rintro en W3 ⟨rfl, hOn, hRn, ha⟩
  have hOF2 := OF2.out.apart (StrR.good D) ha DF2F5.out
  have hRF2 := RF2.out.apart ha DF2F5.out
  have hOF4 := OF4.out.apart (EqnR.good D) ha DF4F5.out
  have hRF4 := RF4.out.apart ha DF4F5.out
  clear c_5
  have hzy : w.heap.size < W3.heap.size := Nat.lt_of_lt_of_le hzz ha.size
  clear hzz
  have hzz := hzy
  clear hzy
  have hA := HA.out.trans (ha.more (fun k hk => by simp [hk]))
  clear HA ha
  have HA : Hid (Apart (F2 ++ (F4 ++ (F5))) w W3) := hide hA
  clear hA
  clear OF2 RF2 OF4 RF4 OF5 RF5
  have OF2 := hide hOF2
  have RF2 := hide hRF2
  have OF4 := hide hOF4
  have RF4 := hide hRF4
  have OF5 := hide hOn
  have RF5 := hide hRn
  clear hOn hRn hOF2 hRF2 hOF4 hRF4
  go_wp2_with fail
  go_ret
  refine ⟨ret_int (by rw [Hct.out]; first | done | rfl | omega), ⟨_, _, _, _, _, _, hl, ⟨hok.name, hok.left⟩, g0, g1, ⟨rfl, OF2.out⟩, g3, ⟨rfl, OF4.out⟩, ⟨rfl, OF5.out⟩, rfl⟩, (Fresh.glue RF2.out (Fresh.glue RF4.out RF5.out (DF4F5.out)) (fun k h1 h2 => by simp only [List.mem_append] at h2; rcases h2 with h2 | h2 <;> first | exact DF2F4.out k h1 h2 | exact DF2F5.out k h1 h2)), HA.out⟩
set_option maxRecDepth 100000 in
set_option maxHeartbeats 4000000 in
theorem hm_Rul (D k : Nat) (x : Rul) (cs : List Value) (F : List Nat) (w : World) (h : RulR D w (sk_Rul D k x) cs F) (hk : 1 ≤ k) (hkn : k + sc_Rul D x ≤ 1099511627776) :
    Calls Try.prog 14 #[.agg cs.toArray, .int .i64 k] w fun en w' => en = .returned (.int .i64 ((k + sc_Rul D x : Nat) : Int)) ∧ Below w.heap.size w w' := by
  obtain ⟨c0, c1, c2, c3, c4, c5, rfl⟩ := list_6 ((RulR.good D).len h)
  obtain ⟨v2, F2, v4, F4, v5, F5, hl, hok, g0, g1, ⟨g2, hs2⟩, g3, ⟨g4, hs4⟩, ⟨g5, hs5⟩, rfl⟩ := h
  obtain rfl : c2 = v2 := by simpa using g2
  obtain ⟨A2, cap2, rfl, _, _⟩ := hs2.form
  obtain rfl : c4 = v4 := by simpa using g4
  obtain ⟨A4, cap4, rfl, _, _⟩ := hs4.form
  obtain rfl : c5 = v5 := by simpa using g5
  obtain ⟨A5, cap5, rfl, _, _⟩ := hs5.form
  have hct : sc_Rul D x = x.right.length + ctL (ct_Eqn D) x.eqs + ctL (ct_Con D) x.cons := by simp only [sc_Rul]
  have Hct := hide hct
  rw [hct] at hkn
  clear hct
  obtain ⟨C0, hz0, hw0⟩ := boxes1 w [c0, c1, .slice A2 (sk_Rul D k x).right.length cap2, c3, .slice A4 (sk_Rul D k x).eqs.length cap4, .slice A5 (sk_Rul D k x).cons.length cap5] 31
  show Calls _ _ #[.agg #[c0, c1, .slice A2 (sk_Rul D k x).right.length cap2, c3, .slice A4 (sk_Rul D k x).eqs.length cap4, .slice A5 (sk_Rul D k x).cons.length cap5], .int .i64 k] w _
  go_enter Try.func14, Try.ntmps14
  go_wp2_with fail
  generalize w.alloc (Obj.cells #[c0, c1, .slice A2 (sk_Rul D k x).right.length cap2, c3, .slice A4 (sk_Rul D k x).eqs.length cap4, .slice A5 (sk_Rul D k x).cons.length cap5] 31) = W0 at C0 hz0 hw0 ⊢
  have hn0 : w.heap.size + 1 ≤ W0.heap.size := by omega
  have Hw : Hid (∀ W : World, Below (w.heap.size + 1) W0 W → Below w.heap.size w W) := hide fun W h => hw0.trans (h.mono (by omega))
  have hB0 : Below (w.heap.size + 1) W0 W0 := Below.refl _ _
  have TF2 : SlR 1 (StrR D) w (marks (k) x.right.length) (.slice A2 (sk_Rul D k x).right.length cap2) F2 := hs2
  have HF2 : Hid (∀ W : World, Below (w.heap.size + 1) W0 W → SlR 1 (StrR D) W (marks (k) x.right.length) (.slice A2 (sk_Rul D k x).right.length cap2) F2) := hide fun W h => TF2.below (StrR.good D) (Hw.out W h) (TF2.lt (StrR.good D))
  have e2 := cell_rule C0 (n := w.heap.size + 1) (by omega) 2 (v := .slice A2 (sk_Rul D k x).right.length cap2) rfl
  have TF4 : SlR 9 (EqnR D) w (mkL (mk_Eqn D) (ct_Eqn D) (k + x.right.length) x.eqs) (.slice A4 (sk_Rul D k x).eqs.length cap4) F4 := hs4
  have HF4 : Hid (∀ W : World, Below (w.heap.size + 1) W0 W → SlR 9 (EqnR D) W (mkL (mk_Eqn D) (ct_Eqn D) (k + x.right.length) x.eqs) (.slice A4 (sk_Rul D k x).eqs.length cap4) F4) := hide fun W h => TF4.below (EqnR.good D) (Hw.out W h) (TF4.lt (EqnR.good D))
  have e4 := cell_rule C0 (n := w.heap.size + 1) (by omega) 4 (v := .slice A4 (sk_Rul D k x).eqs.length cap4) rfl
  have TF5 : SlR 16 (ConR D) w (mkL (mk_Con D) (ct_Con D) (k + x.right.length + ctL (ct_Eqn D) x.eqs) x.cons) (.slice A5 (sk_Rul D k x).cons.length cap5) F5 := hs5
  have HF5 : Hid (∀ W : World, Below (w.heap.size + 1) W0 W → SlR 16 (ConR D) W (mkL (mk_Con D) (ct_Con D) (k + x.right.length + ctL (ct_Eqn D) x.eqs) x.cons) (.slice A5 (sk_Rul D k x).cons.length cap5) F5) := hide fun W h => TF5.below (ConR.good D) (Hw.out W h) (TF5.lt (ConR.good D))
  have e5 := cell_rule C0 (n := w.heap.size + 1) (by omega) 5 (v := .slice A5 (sk_Rul D k x).cons.length cap5) rfl
  clear C0 hz0 hw0 TF2 hs2 TF4 hs4 TF5 hs5
  refine Calls.mono (hd_Str D (k) x.right.length _ F2 _ (HF2.out _ hB0) (by omega) (by omega)) ?_
  rintro en W1 ⟨rfl, hb⟩
  have hB1 : Below (w.heap.size + 1) W0 W1 := below_step hB0 (by omega) hb
  clear hb
  go_wp2_with fail
  refine Calls.mono (hd_Eqn D (k + x.right.length) x.eqs _ F4 _ (HF4.out _ hB1) (by omega) (by omega)) ?_
  rintro en W2 ⟨rfl, hb⟩
  have hB2 : Below (w.heap.size + 1) W0 W2 := below_step hB1 (by omega) hb
  clear hb
  go_wp2_with fail
  refine Calls.mono (hd_Con D (k + x.right.length + ctL (ct_Eqn D) x.eqs) x.cons _ F5 _ (HF5.out _ hB2) (by omega) (by omega)) ?_
  rintro en W3 ⟨rfl, hb⟩
  have hB3 : Below (w.heap.size + 1) W0 W3 := below_step hB2 (by omega) hb
  clear hb
  go_wp2_with fail
  go_ret
  exact ⟨ret_int (by rw [Hct.out]; first | done | rfl | omega), Hw.out _ hB3⟩
def sk_Grm (D k : Nat) (x : Grm) : Grm := { x with symbols := mkL (mk_Sym D) (ct_Sym D) (k) x.symbols, rules := mkL (mk_Rul D) (ct_Rul D) (k + ctL (ct_Sym D) x.symbols) x.rules }
def sc_Grm (D : Nat) (x : Grm) : Nat := ctL (ct_Sym D) x.symbols + ctL (ct_Rul D) x.rules
set_option maxRecDepth 100000 in
set_option maxHeartbeats 4000000 in
theorem mm_Grm (D C k : Nat) (x : Grm) (cs : List Value) (F : List Nat) (w : World) (h : GrmR D w x cs F) (hf : Fresh C w F) (hk : 1 ≤ k) (hkn : k + sc_Grm D x ≤ 1099511627776) :
    Calls Try.prog 12 #[.agg cs.toArray, .int .i64 k] w fun en w' => en = .returned (.int .i64 ((k + sc_Grm D x : Nat) : Int)) ∧ GrmR D w' (sk_Grm D k x) cs F ∧ Fresh C w' F ∧ Apart F w w' := by
  obtain ⟨c0, c1, rfl⟩ := list2 ((GrmR.good D).len h)
  obtain ⟨v0, F0, v1, F1, hl, ⟨g0, hs0⟩, ⟨g1, hs1⟩, rfl⟩ := h
  obtain rfl : c0 = v0 := by simpa using g0
  obtain ⟨A0, cap0, rfl, _, _⟩ := hs0.form
  obtain rfl : c1 = v1 := by simpa using g1
  obtain ⟨A1, cap1, rfl, _, _⟩ := hs1.form
  have hct : sc_Grm D x = ctL (ct_Sym D) x.symbols + ctL (ct_Rul D) x.rules := by simp only [sc_Grm]
  have Hct := hide hct
  rw [hct] at hkn
  clear hct
  have RF0 : Hid (Fresh C w F0) := hide (hf.left)
  have RF1 : Hid (Fresh C w F1) := hide (hf.right)
  have DF0F1 : Hid (∀ k ∈ F0, k ∉ F1) := hide (fun k h1 h2 => hf.dis k h1 (by simp [h2]))
  obtain ⟨C0, hz0, hw0⟩ := boxes1 w [.slice A0 x.symbols.length cap0, .slice A1 x.rules.length cap1] 37
  show Calls _ _ #[.agg #[.slice A0 x.symbols.length cap0, .slice A1 x.rules.length cap1], .int .i64 k] w _
  go_enter Try.func12, Try.ntmps12
  go_wp2_with fail
  generalize w.alloc (Obj.cells #[.slice A0 x.symbols.length cap0, .slice A1 x.rules.length cap1] 37) = W0 at C0 hz0 hw0 ⊢
  have OF0 := hide (hs0.below (SymR.good D) hw0 (hs0.lt (SymR.good D)))
  have rF0 := RF0.out.below hw0
  have LtF0 : Hid (∀ k ∈ F0, k ≠ w.heap.size) := hide fun k hk e => by have := RF0.out.lt k hk; omega
  clear RF0
  have RF0 := hide rF0
  clear rF0 hs0
  have OF1 := hide (hs1.below (RulR.good D) hw0 (hs1.lt (RulR.good D)))
  have rF1 := RF1.out.below hw0
  have LtF1 : Hid (∀ k ∈ F1, k ≠ w.heap.size) := hide fun k hk e => by have := RF1.out.lt k hk; omega
  clear RF1
  have RF1 := hide rF1
  clear rF1 hs1
  have c_0 : W0.cell? ⟨w.heap.size, 0, none⟩ = some (.slice A0 x.symbols.length cap0) := by have := C0 0 _ rfl; rwa [Nat.zero_add] at this
  have c_1 : W0.cell? ⟨w.heap.size, 1, none⟩ = some (.slice A1 x.rules.length cap1) := by have := C0 1 _ rfl; rwa [Nat.zero_add] at this
  have hA0 : Apart (F0 ++ (F1)) w W0 := Apart.of_below hw0
  have HA := hide hA0
  have hzz : w.heap.size < W0.heap.size := by omega
  clear C0 hz0 hw0 hA0 hf
  refine Calls.mono (m_Sym D C (k) x.symbols _ F0 W0 OF0.out RF0.out (by omega) (by omega)) ?_
  rintro en W1 ⟨rfl, hOn, hRn, ha⟩
  have hOF1 := OF1.out.apart (RulR.good D) ha (fun k h1 h2 => DF0F1.out k h2 h1)
  have hRF1 := RF1.out.apart ha (fun k h1 h2 => DF0F1.out k h2 h1)
  have cc_1 : W1.cell? ⟨w.heap.size, 1, none⟩ = some (.slice A1 x.rules.length cap1) := (cell_same (ha.block w.heap.size hzz (fun hm => LtF0.out _ hm rfl)) _).trans c_1
  clear c_0 c_1
  have c_1 := cc_1
  clear cc_1
  have hzy : w.heap.size < W1.heap.size := Nat.lt_of_lt_of_le hzz ha.size
  clear hzz
  have hzz := hzy
  clear hzy
  have hA := HA.out.trans (ha.more (fun k hk => by simp [hk]))
  clear HA ha
  have HA : Hid (Apart (F0 ++ (F1)) w W1) := hide hA
  clear hA
  clear OF0 RF0 OF1 RF1
  have OF0 := hide hOn
  have RF0 := hide hRn
  have OF1 := hide hOF1
  have RF1 := hide hRF1
  clear hOn hRn hOF1 hRF1
  go_wp2_with fail
  refine Calls.mono (m_Rul D C (k + ctL (ct_Sym D) x.symbols) x.rules _ F1 W1 OF1.out RF1.out (by omega) (by omega)) ?_
  rintro en W2 ⟨rfl, hOn, hRn, ha⟩
  have hOF0 := OF0.out.apart (SymR.good D) ha DF0F1.out
  have hRF0 := RF0.out.apart ha DF0F1.out
  clear c_1
  have hzy : w.heap.size < W2.heap.size := Nat.lt_of_lt_of_le hzz ha.size
  clear hzz
  have hzz := hzy
  clear hzy
  have hA := HA.out.trans (ha.more (fun k hk => by simp [hk]))
  clear HA ha
  have HA : Hid (Apart (F0 ++ (F1)) w W2) := hide hA
  clear hA
  clear OF0 RF0 OF1 RF1
  have OF0 := hide hOF0
  have RF0 := hide hRF0
  have OF1 := hide hOn
  have RF1 := hide hRn
  clear hOn hRn hOF0 hRF0
  go_wp2_with fail
  go_ret
  refine ⟨ret_int (by rw [Hct.out]; first | done | rfl | omega), ⟨_, _, _, _, hl, ⟨rfl, OF0.out⟩, ⟨rfl, OF1.out⟩, rfl⟩, (Fresh.glue RF0.out RF1.out (DF0F1.out)), HA.out⟩
end Go.Proofs.Ytaihdnlpdibkoaa
