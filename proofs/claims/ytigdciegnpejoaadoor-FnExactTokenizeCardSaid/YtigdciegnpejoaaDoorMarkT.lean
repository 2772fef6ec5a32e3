/- Tokens overwritten by marks, and held against them. Conditions: numbers from 1 to 2^40. -/
import Derived.Test.YtigdciegnpejoaaDoorMarkA
import Derived.Test.YtigdciegnpejoaaDoorTkn
namespace Go.Proofs.YtigdciegnpejoaaDoor
set_option maxRecDepth 100000
open Go.RowKit Go.WideShapes
set_option linter.unusedVariables false

def mk_Tkn (D k : Nat) (x : Tkn) : Tkn := ⟨((k : Nat) : Int), ((k + 1 : Nat) : Int), ((k + 2 : Nat) : Int), mkT (k + 3)⟩
def ct_Tkn (D : Nat) (x : Tkn) : Nat := 4
set_option maxRecDepth 100000 in
set_option maxHeartbeats 4000000 in
theorem m_Tkn (D C k : Nat) (xs : List Tkn) (v : Value) (F : List Nat) (w : World) (hs : SlR 4 (TknR D) w xs v F) (hf : Fresh C w F) (hk : 1 ≤ k) (hkn : k + ctL (ct_Tkn D) xs ≤ 1099511627776) :
    Calls Tryd.prog 24 #[v, .int .i64 k] w fun en w' => en = .returned (.int .i64 ((k + ctL (ct_Tkn D) xs : Nat) : Int)) ∧ SlR 4 (TknR D) w' (mkL (mk_Tkn D) (ct_Tkn D) k xs) v F ∧ Fresh C w' F ∧ Apart F w w' := by
  obtain ⟨A, cap, rfl, hlc, hm, hsl⟩ := hs
  rcases hsl with ⟨rfl, rfl⟩ | ⟨b, off, F', rfl, hb, rfl, he⟩
  · go_enter Tryd.func24, Tryd.ntmps24
    go_wp2_with fail
    go_loop [1, 5] (fun kv i => kv = .int .i64 k ∧ i = .int .i64 0) (fun _ _ => 0)
    case atStart => exact ⟨rfl, rfl⟩
    case round =>
      obtain ⟨rfl, rfl⟩ := hrel
      go_wp2_with fail
      go_ret
      exact ⟨rfl, ⟨A, cap, rfl, hlc, hm, .inl ⟨rfl, rfl⟩⟩, hf, Apart.refl _ _⟩
  have Hf := hide hf
  have hmm := hm
  unfold maxLen at hmm
  have hlm : xs.length ≤ 9223372036854775807 := by omega
  have Hm := hide (And.intro hlc hm)
  have He := hide he
  have Hct := hide (fun j => ctL_take_le (ct := ct_Tkn D) xs j)
  have Htl : Hid (xs.take xs.length = xs) := hide List.take_length
  clear hf he hlc hm hmm
  go_enter Tryd.func24, Tryd.ntmps24
  go_wp2_with fail
  go_loopw [1, 5] (fun kv i wr => ∃ j : Nat, j ≤ xs.length ∧ i = .int .i64 j ∧ kv = .int .i64 ((k + ctL (ct_Tkn D) (xs.take j) : Nat) : Int) ∧ Hid (ElR 4 (TknR D) wr b off (mkL (mk_Tkn D) (ct_Tkn D) k (xs.take j) ++ xs.drop j) F') ∧ Hid (Fresh C wr (b :: F')) ∧ Hid (Apart (b :: F') w wr)) (fun _ i _ => xs.length - (intOf i).toNat)
  case atStart => exact ⟨0, by omega, rfl, rfl, hide (by simpa [mkL] using He.out), Hf, hide (Apart.refl _ _)⟩
  case round =>
    obtain ⟨j, hj, rfl, rfl, Hel, Hfr, Ha⟩ := hrel
    by_cases hlt : j < xs.length
    · have hx : xs[j]? = some xs[j] := List.getElem?_eq_getElem hlt
      generalize xs[j] = x at hx
      have Hx := hide hx
      have hstep := Hct.out (j + 1)
      rw [ctL_take hx] at hstep
      have hcnt : Hid (ctL (ct_Tkn D) (xs.take (j + 1)) = ctL (ct_Tkn D) (xs.take j) + ct_Tkn D x) := hide (ctL_take hx)
      obtain ⟨cs, F1, Fk, F2, hFeq, hcat, hR, g1, g2⟩ := ElR.get (TknR.good D) Hel.out (half_at (mk := mk_Tkn D) (ct := ct_Tkn D) (k := k) hx)
      obtain ⟨c0, c1, c2, c3, rfl⟩ := list4 ((TknR.good D).len hR)
      obtain ⟨_, _, g_0, g_1, g_2, g_3, rfl⟩ := hR
      obtain rfl : c0 = .int .i64 x.kind := by simpa using g_0
      obtain rfl : c1 = .int .i64 x.n := by simpa using g_1
      obtain rfl : c2 = .int .i64 x.off := by simpa using g_2
      obtain rfl : c3 = .string x.text := by simpa using g_3
      have hct : ct_Tkn D x = 4 := by simp only [ct_Tkn] <;> omega
      have Hcx := hide hct
      rw [hct] at hstep
      obtain ⟨bs, tt, hblk⟩ := Hfr.out.cells b (by simp)
      have e0 := hcat 0 _ rfl
      have e1 := hcat 1 _ rfl
      have e2 := hcat 2 _ rfl
      have e3 := hcat 3 _ rfl
      simp only [Nat.add_zero] at e0
      have hT0 : PutG wr b (off + j * 4) (([] : List Nat)) [] wr := PutG.nil hblk
      have hS0 : PutG wr b (off + j * 4) [] [] wr := PutG.nil hblk
      have hfk := Hfr.out
      rw [hFeq] at hfk
      have Hdis := hide (nodup_mid hfk.nodup)
      have Hbk : Hid (∀ k ∈ ([] : List Nat), k ≠ b) := hide fun k hk e => (List.nodup_cons.1 hfk.nodup).1 (e ▸ List.mem_append_right _ (List.mem_append_left _ hk))
      have hmid : Fresh C wr (([] : List Nat)) := hfk.mid
      have Hg1 := hide g1
      have Hg2 := hide g2
      have HFeq := hide hFeq
      have He0 := hide e0
      have He1 := hide e1
      have He2 := hide e2
      have He3 := hide e3
      have HT := hide hT0
      have HS := hide hS0
      generalize hkq : k + ctL (ct_Tkn D) (xs.take j) = q at hstep ⊢
      have Hkq := hide hkq
      have hq1 : 1 ≤ q := by omega
      have hq2 : q + (4) ≤ 1099511627776 := by omega
      have hmk : mk_Tkn D q x = (Tkn.mk ((q : Nat) : Int) ((q + 1 : Nat) : Int) ((q + 1 + 1 : Nat) : Int) (mkT (q + 1 + 1 + 1))) := by
        rfl
      have Hmk := hide hmk
      clear hmk   
      have hj0 : (0 : Int) ≤ (j : Int) := by omega
      have hj1 : (j : Int) < (xs.length : Int) := by omega
      clear hx hcat hblk g1 g2 hFeq hT0 hS0 hfk hmid hkq hstep hct  e0 e1 e2 e3
      have G0 := He0
      have G1 := He1
      have G2 := He2
      have G3 := He3
      have c_0 : wr.cell? ⟨b, off + j * 4, none⟩ = some (.int .i64 x.kind) := HS.out.cell (i := off + j * 4) (by simp) G0.out
      have f_0 := HS.out.frozen (off + j * 4)
      have c_1 : wr.cell? ⟨b, off + j * 4 + 1, none⟩ = some (.int .i64 x.n) := HS.out.cell (i := off + j * 4 + 1) (by simp) G1.out
      have f_1 := HS.out.frozen (off + j * 4 + 1)
      have c_2 : wr.cell? ⟨b, off + j * 4 + 2, none⟩ = some (.int .i64 x.off) := HS.out.cell (i := off + j * 4 + 2) (by simp) G2.out
      have f_2 := HS.out.frozen (off + j * 4 + 2)
      go_wp2_with fail
      have p0 : PutG wr b (off + j * 4) [] [.int .i64 ((q : Int))] (wr.setCell ⟨b, off + j * 4, none⟩ (.int .i64 ((q : Int)))) := PutG.store HS.out (.int .i64 ((q : Int))) (c := .int .i64 x.kind) (by exact (PutG.cell (i := off + j * 4) HS.out (by simp) (G0.out)))
      have p1 : PutG wr b (off + j * 4) [] [.int .i64 ((q : Int)), .int .i64 ((q : Int) + 1)] ((wr.setCell ⟨b, off + j * 4, none⟩ (.int .i64 ((q : Int)))).setCell ⟨b, off + j * 4 + 1, none⟩ (.int .i64 ((q : Int) + 1))) := PutG.store p0 (.int .i64 ((q : Int) + 1)) (c := .int .i64 x.n) (by exact (PutG.cell (i := off + j * 4 + 1) p0 (by simp) (G1.out)))
      have p2 : PutG wr b (off + j * 4) [] [.int .i64 ((q : Int)), .int .i64 ((q : Int) + 1), .int .i64 ((q : Int) + 1 + 1)] (((wr.setCell ⟨b, off + j * 4, none⟩ (.int .i64 ((q : Int)))).setCell ⟨b, off + j * 4 + 1, none⟩ (.int .i64 ((q : Int) + 1))).setCell ⟨b, off + j * 4 + 2, none⟩ (.int .i64 ((q : Int) + 1 + 1))) := PutG.store p1 (.int .i64 ((q : Int) + 1 + 1)) (c := .int .i64 x.off) (by exact (PutG.cell (i := off + j * 4 + 2) p1 (by simp) (G2.out)))
      generalize ((wr.setCell ⟨b, off + j * 4, none⟩ (.int .i64 ((q : Int)))).setCell ⟨b, off + j * 4 + 1, none⟩ (.int .i64 ((q : Int) + 1))).setCell ⟨b, off + j * 4 + 2, none⟩ (.int .i64 ((q : Int) + 1 + 1)) = U1 at p2 ⊢
      clear HS
      have HS := hide p2
      clear p0 p1 p2
      refine (l_markText (q + 1 + 1 + 1) (by omega) (by omega) _).mono ?_
      rintro e U2 ⟨rfl, hb2⟩
      have hS := HS.out.below hb2
      clear HS hb2
      clear c_0 f_0 c_1 f_1 c_2 f_2
      have HS := hide hS
      clear hS
      have c_3 : U2.cell? ⟨b, off + j * 4 + 3, none⟩ = some (.string x.text) := HS.out.cell (i := off + j * 4 + 3) (by simp) G3.out
      have f_3 := HS.out.frozen (off + j * 4 + 3)
      go_wp2_with fail
      have p0 : PutG wr b (off + j * 4) [] [.int .i64 ((q : Int)), .int .i64 ((q : Int) + 1), .int .i64 ((q : Int) + 1 + 1), .string (mkT (q + 1 + 1 + 1))] (U2.setCell ⟨b, off + j * 4 + 3, none⟩ (.string (mkT (q + 1 + 1 + 1)))) := PutG.store HS.out (.string (mkT (q + 1 + 1 + 1))) (c := .string x.text) (by exact (PutG.cell (i := off + j * 4 + 3) HS.out (by simp) (G3.out)))
      generalize U2.setCell ⟨b, off + j * 4 + 3, none⟩ (.string (mkT (q + 1 + 1 + 1))) = U3 at p0 ⊢
      clear HS
      have HS := hide p0
      clear p0
      have hT : PutG wr b (off + j * 4) (([] : List Nat)) [.int .i64 ((q : Int)), .int .i64 ((q : Int) + 1), .int .i64 ((q : Int) + 1 + 1), .string (mkT (q + 1 + 1 + 1))] U3 := HT.out.join HS.out
      have hy : TknR D U3 (mk_Tkn D q x) [.int .i64 ((q : Int)), .int .i64 ((q : Int) + 1), .int .i64 ((q : Int) + 1 + 1), .string (mkT (q + 1 + 1 + 1))] (([] : List Nat)) := by
        rw [Hmk.out]
        exact ⟨rfl, ⟨wf_int (z := ((q : Nat) : Int)) (by omega) (by omega), wf_int (z := ((q + 1 : Nat) : Int)) (by omega) (by omega), wf_int (z := ((q + 1 + 1 : Nat) : Int)) (by omega) (by omega), mkT_small (k := q + 1 + 1 + 1) (by omega)⟩, rfl, rfl, rfl, rfl, rfl⟩
      have hset := ElR.set (TknR.good D) hT.size (by rw [half_len (by omega)]; exact hlt) Hg1.out Hg2.out hy hT.cellsAt
        (fun i hi => hT.same rfl i (by rw [Nat.add_mul] at hi; omega)) (fun k hk => hT.far k (Hfr.out.lt k (by rw [HFeq.out]; simp [hk])) (Hdis.out.1 k hk).1 (Hdis.out.1 k hk).2) (fun k hk => hT.far k (Hfr.out.lt k (by rw [HFeq.out]; simp [hk])) (Hdis.out.2 k hk).1 (Hdis.out.2 k hk).2)
      have hnext := half_next (mk := mk_Tkn D) (ct := ct_Tkn D) (k := k) Hx.out
      rw [Hkq.out] at hnext
      rw [hnext] at hset
      have Hset := hide hset
      have Hfr4 := hide (hT.freshX Hfr.out (fun k hk => by simp at hk))
      have Hap : Hid (Apart (b :: F') w U3) := hide (Ha.out.trans ⟨hT.os, hT.tape, hT.output, hT.size, fun k hk hF => hT.far k hk (fun e => hF (by simp [e])) (fun hm => hF (by rw [HFeq.out]; exact List.mem_cons_of_mem _ (List.mem_append_right _ (List.mem_append_left _ hm))))⟩)
      have hc2 : q + 1 + 1 + 1 + 1 = k + ctL (ct_Tkn D) (xs.take (j + 1)) := by have h1 := hcnt.out; have h2 := Hkq.out; have h3 := Hcx.out; omega
      have Hc2 := hide hc2
      clear hT hy hset hnext hc2 HS HT 
      clear c_3 f_3
      exact ⟨⟨j + 1, by omega, by go_num, by rw [← Hc2.out]; first | done | go_num, hide (by rw [HFeq.out]; exact Hset.out), Hfr4, Hap⟩, by simp [intOf]; omega⟩
    · have hjn : j = xs.length := by omega
      subst hjn
      go_wp2_with fail
      go_ret
      have h1 := Hel.out
      rw [List.take_length, List.drop_length, List.append_nil] at h1
      refine ⟨ret_int (by rw [Htl.out]), ⟨some ⟨b, off, none⟩, cap, by rw [mkL_len], by rw [mkL_len]; exact Hm.out.1, Hm.out.2, .inr ⟨b, off, F', rfl, Hfr.out.lt b (by simp), rfl, h1⟩⟩, Hfr.out, Ha.out⟩
set_option maxRecDepth 100000 in
set_option maxHeartbeats 4000000 in
theorem hd_Tkn (D k : Nat) (xs : List Tkn) (v : Value) (F : List Nat) (w : World) (hs : SlR 4 (TknR D) w (mkL (mk_Tkn D) (ct_Tkn D) k xs) v F) (hk : 1 ≤ k) (hkn : k + ctL (ct_Tkn D) xs ≤ 1099511627776) :
    Calls Tryd.prog 25 #[v, .int .i64 k] w fun en w' => en = .returned (.int .i64 ((k + ctL (ct_Tkn D) xs : Nat) : Int)) ∧ Below w.heap.size w w' := by
  obtain ⟨A, cap, rfl, hlc, hm⟩ := hs.form
  have HF := hide (hs.lt (TknR.good D))
  have Hs := hide hs
  rw [mkL_len] at hlc hs ⊢
  unfold maxLen at hm
  have hlm : xs.length ≤ 9223372036854775807 := by omega
  have Hct := hide (fun j => ctL_take_le (ct := ct_Tkn D) xs j)
  have Htl : Hid (xs.take xs.length = xs) := hide List.take_length
  clear hs hlc hm
  go_enter Tryd.func25, Tryd.ntmps25
  go_wp2_with fail
  go_loopw [1, 5] (fun kv i wr => ∃ j : Nat, j ≤ xs.length ∧ i = .int .i64 j ∧ kv = .int .i64 ((k + ctL (ct_Tkn D) (xs.take j) : Nat) : Int) ∧ Hid (Below w.heap.size w wr)) (fun _ i _ => xs.length - (intOf i).toNat)
  case atStart => exact ⟨0, by omega, rfl, rfl, hide (Below.refl _ _)⟩
  case round =>
    obtain ⟨j, hj, rfl, rfl, Hb⟩ := hrel
    by_cases hlt : j < xs.length
    · have hx : xs[j]? = some xs[j] := List.getElem?_eq_getElem hlt
      generalize xs[j] = x at hx
      have hstep := Hct.out (j + 1)
      rw [ctL_take hx] at hstep
      have hcnt : Hid (ctL (ct_Tkn D) (xs.take (j + 1)) = ctL (ct_Tkn D) (xs.take j) + ct_Tkn D x) := hide (ctL_take hx)
      obtain ⟨b, off, cs, Fk, hA, _, hbF, hFk, hcl, hcat, hR⟩ := SlR.get (TknR.good D) (Hs.out.below (TknR.good D) Hb.out HF.out) (mkL_at hx)
      subst hA
      have hblt := Nat.lt_of_lt_of_le (HF.out b hbF) Hb.out.size
      generalize hkq : k + ctL (ct_Tkn D) (xs.take j) = q at hR hstep ⊢
      have Hkq := hide hkq
      obtain ⟨c0, c1, c2, c3, rfl⟩ := list4 hcl
      have hct : ct_Tkn D x = 4 := by simp only [ct_Tkn] <;> omega
      have Hcx := hide hct
      rw [hct] at hstep
      have hq1 : 1 ≤ q := by omega
      have hq2 : q + (4) ≤ 1099511627776 := by omega
      have hmk : mk_Tkn D q x = (Tkn.mk ((q : Nat) : Int) ((q + 1 : Nat) : Int) ((q + 1 + 1 : Nat) : Int) (mkT (q + 1 + 1 + 1))) := by
        rfl
      have Hmk := hide hmk
      clear hmk   
      rw [Hmk.out] at hR
      obtain ⟨_, _, g_0, g_1, g_2, g_3, rfl⟩ := hR
      obtain rfl : c0 = .int .i64 (Tkn.mk ((q : Nat) : Int) ((q + 1 : Nat) : Int) ((q + 1 + 1 : Nat) : Int) (mkT (q + 1 + 1 + 1))).kind := by simpa using g_0
      obtain rfl : c1 = .int .i64 (Tkn.mk ((q : Nat) : Int) ((q + 1 : Nat) : Int) ((q + 1 + 1 : Nat) : Int) (mkT (q + 1 + 1 + 1))).n := by simpa using g_1
      obtain rfl : c2 = .int .i64 (Tkn.mk ((q : Nat) : Int) ((q + 1 : Nat) : Int) ((q + 1 + 1 : Nat) : Int) (mkT (q + 1 + 1 + 1))).off := by simpa using g_2
      obtain rfl : c3 = .string (Tkn.mk ((q : Nat) : Int) ((q + 1 : Nat) : Int) ((q + 1 + 1 : Nat) : Int) (mkT (q + 1 + 1 + 1))).text := by simpa using g_3
      have e0 : ∀ W : World, Below wr.heap.size wr W → W.cell? ⟨b, off + j * 4, none⟩ = some (.int .i64 (((q : Nat)) : Int)) := fun W h => (hcat.below h hblt) 0 _ rfl
      have e1 : ∀ W : World, Below wr.heap.size wr W → W.cell? ⟨b, off + j * 4 + 1, none⟩ = some (.int .i64 (((q + 1 : Nat)) : Int)) := fun W h => (hcat.below h hblt) 1 _ rfl
      have e2 : ∀ W : World, Below wr.heap.size wr W → W.cell? ⟨b, off + j * 4 + 2, none⟩ = some (.int .i64 (((q + 1 + 1 : Nat)) : Int)) := fun W h => (hcat.below h hblt) 2 _ rfl
      have e3 : ∀ W : World, Below wr.heap.size wr W → W.cell? ⟨b, off + j * 4 + 3, none⟩ = some (.string (mkT (q + 1 + 1 + 1))) := fun W h => (hcat.below h hblt) 3 _ rfl
      have hj0 : (0 : Int) ≤ (j : Int) := by omega
      have hj1 : (j : Int) < (xs.length : Int) := by omega
      have hwr : Below wr.heap.size wr wr := Below.refl _ _
      clear hx hcat hFk hbF hcl hstep hct hkq 
      go_wp2_with fail
      go_region_held3 (fun W => Below wr.heap.size wr W)
        (first | assumption | exact Below.drew (by first | assumption | exact Below.refl _ _))
        ((go_at_call 54; refine Calls.mono (l_markText (q + 1 + 1 + 1) (by omega) (by omega) _) ?_; rintro en W1 ⟨rfl, hb⟩; have hW1 : Below wr.heap.size wr W1 := below_step (by (repeat (first | assumption | apply Below.drew | exact Below.refl _ _))) (Nat.le_refl _) hb; clear hb))
      go_wp2_with fail
      have HBl : Hid (Below w.heap.size w W1) := hide (Hb.out.trans (hW1.mono Hb.out.size))
      have hc2 : q + 1 + 1 + 1 + 1 = k + ctL (ct_Tkn D) (xs.take (j + 1)) := by have h1 := hcnt.out; have h2 := Hkq.out; have h3 := Hcx.out; omega
      have Hc2 := hide hc2
      clear hc2
      go_roundw
      case rel => exact ⟨j + 1, by omega, by go_num, by rw [← Hc2.out]; first | done | go_num, HBl⟩
      case measure => simp [intOf]; omega
    · have hjn : j = xs.length := by omega
      subst hjn
      go_wp2_with fail
      go_ret
      exact ⟨ret_int (by rw [Htl.out]), Hb.out⟩
end Go.Proofs.YtigdciegnpejoaaDoor
