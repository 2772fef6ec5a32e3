/- Expressions overwritten by marks. Conditions: numbers from 1 to 2^40. -/
import Derived.Test.YtaihdnlpdibkoaaMarkO
namespace Go.Proofs.Ytaihdnlpdibkoaa
set_option maxRecDepth 100000
open Go.RowKit Go.WideShapes
set_option linter.unusedVariables false

def ctE0 : Nat → Ex → Nat
  | 0, _ => 0
  | d + 1, e => 6 + ctL (ctE0 d) e.args
def mkE : Nat → Nat → Ex → Ex
  | 0, _, e => e
  | d + 1, k, e => .mk ⟨(k : Int), (k : Int) + 1, (k : Int) + 1 + 1, (k : Int) + 1 + 1 + 1, mkT (k + 1 + 1 + 1 + 1), mkT (k + 1 + 1 + 1 + 1 + 1)⟩ (mkL (mkE d) (ctE0 d) (k + 1 + 1 + 1 + 1 + 1 + 1) e.args)
def MsE (d : Nat) : Prop := ∀ (C k : Nat) (xs : List Ex) (v : Value) (F : List Nat) (w : World), SlR 7 (ExR d) w xs v F → Fresh C w F → 1 ≤ k → k + ctL (ctE0 d) xs ≤ 1099511627776 →
  Calls Try.prog 65 #[v, .int .i64 k] w fun en w' => en = .returned (.int .i64 ((k + ctL (ctE0 d) xs : Nat) : Int)) ∧ SlR 7 (ExR d) w' (mkL (mkE d) (ctE0 d) k xs) v F ∧ Fresh C w' F ∧ Apart F w w'
theorem wf_int {z : Int} (h0 : 0 ≤ z) (h1 : z ≤ 1099511627776) : (Lit.int .i64 z).wf = true := by simp [Lit.wf, IntKind.min, IntKind.max, IntKind.signed, IntKind.bits]; omega
theorem mkE_ok {d k : Nat} {x : Ex} (hk : k + 6 ≤ 1099511627776) : (mkE (d + 1) k x).h.ok :=
  ⟨wf_int (z := (k : Int)) (by omega) (by omega), wf_int (z := (k : Int) + 1) (by omega) (by omega), wf_int (z := (k : Int) + 1 + 1) (by omega) (by omega), wf_int (z := (k : Int) + 1 + 1 + 1) (by omega) (by omega), mkT_small (k := k + 1 + 1 + 1 + 1) (by omega), mkT_small (k := k + 1 + 1 + 1 + 1 + 1) (by omega)⟩
theorem Fresh.mid {C b : Nat} {w : World} {F1 Fk F2 : List Nat} (h : Fresh C w (b :: (F1 ++ (Fk ++ F2)))) : Fresh C w Fk := by
  refine ⟨?_, fun k hk => h.from_ k (by simp [hk]), fun k hk => h.cells k (by simp [hk])⟩
  have h1 := (List.nodup_cons.1 h.nodup).2
  have h2 := (List.nodup_append.1 h1).2.1
  exact (List.nodup_append.1 h2).1
theorem PutG.weak {w W : World} {b o : Nat} {X : List Nat} {vs : List Value} (h : PutG w b o [] vs W) : PutG w b o X vs W :=
  ⟨h.blk, fun k hk hb _ => h.far k hk hb (by simp), h.size, h.os, h.tape, h.output⟩
theorem nodup_mid {b : Nat} {F1 Fk F2 : List Nat} (h : (b :: (F1 ++ (Fk ++ F2))).Nodup) : (∀ k ∈ F1, k ≠ b ∧ k ∉ Fk) ∧ (∀ k ∈ F2, k ≠ b ∧ k ∉ Fk) := by
  obtain ⟨hb, h1⟩ := List.nodup_cons.1 h
  obtain ⟨_, h2, h3⟩ := List.nodup_append.1 h1
  obtain ⟨_, _, h4⟩ := List.nodup_append.1 h2
  exact ⟨fun k hk => ⟨fun e => hb (by simp [← e, hk]), fun hm => h3 k hk k (by simp [hm]) rfl⟩, fun k hk => ⟨fun e => hb (by simp [← e, hk]), fun hm => h4 k hm k hk rfl⟩⟩
theorem wf_nat {k : Nat} (hk : k ≤ 1099511627776) : (Lit.int .i64 (k : Int)).wf = true := by simp [Lit.wf, IntKind.min, IntKind.max, IntKind.signed, IntKind.bits]; omega
set_option maxRecDepth 100000 in
set_option maxHeartbeats 4000000 in
theorem ms_loop (d : Nat) (HE : ∀ d', d = d' + 1 → MsE d') : MsE d := by
  intro C k xs v F w hs hf hk hkn
  obtain ⟨A, cap, rfl, hlc, hm, hsl⟩ := hs
  rcases hsl with ⟨rfl, rfl⟩ | ⟨b, off, F', rfl, hb, rfl, he⟩
  · go_enter Try.func65, Try.ntmps65
    go_wp2_with fail
    go_loop [1, 5] (fun kv i => kv = .int .i64 k ∧ i = .int .i64 0) (fun _ _ => 0)
    case atStart => exact ⟨rfl, rfl⟩
    case round =>
      obtain ⟨rfl, rfl⟩ := hrel
      go_wp2_with fail
      go_ret
      exact ⟨rfl, ⟨A, cap, rfl, hlc, hm, .inl ⟨rfl, rfl⟩⟩, hf, Apart.refl _ _⟩
  have HE := hide HE
  have Hf := hide hf
  have hmm := hm
  unfold maxLen at hmm
  have hlm : xs.length ≤ 9223372036854775807 := by omega
  have Hm := hide (And.intro hlc hm)
  have He := hide he
  have Hct := hide (fun j => ctL_take_le (ct := ctE0 d) xs j)
  have Htl : Hid (xs.take xs.length = xs) := hide List.take_length
  clear hf he hlc hm hmm
  go_enter Try.func65, Try.ntmps65
  go_wp2_with fail
  go_loopw [1, 5] (fun kv i wr => ∃ j : Nat, j ≤ xs.length ∧ i = .int .i64 j ∧ kv = .int .i64 ((k + ctL (ctE0 d) (xs.take j) : Nat) : Int) ∧ Hid (ElR 7 (ExR d) wr b off (mkL (mkE d) (ctE0 d) k (xs.take j) ++ xs.drop j) F') ∧ Hid (Fresh C wr (b :: F')) ∧ Hid (Apart (b :: F') w wr)) (fun _ i _ => xs.length - (intOf i).toNat)
  case atStart => exact ⟨0, by omega, rfl, rfl, hide (by simpa [mkL] using He.out), Hf, hide (Apart.refl _ _)⟩
  case round =>
    obtain ⟨j, hj, rfl, rfl, Hel, Hfr, Ha⟩ := hrel
    by_cases hlt : j < xs.length
    · have hx : xs[j]? = some xs[j] := List.getElem?_eq_getElem hlt
      generalize xs[j] = x at hx
      have Hx := hide hx
      have hstep := Hct.out (j + 1)
      rw [ctL_take hx] at hstep
      obtain ⟨cs, F1, Fk, F2, hFeq, hcat, hR, g1, g2⟩ := ElR.get (ExR.good d) Hel.out (half_at (mk := mkE d) (ct := ctE0 d) (k := k) hx)
      obtain ⟨d', rfl⟩ : ∃ d', d = d' + 1 := by
        match d, hR with
        | d' + 1, _ => exact ⟨d', rfl⟩
      obtain ⟨va, rfl, _, hsa⟩ := hR
      have hct : ctE0 (d' + 1) x = 6 + ctL (ctE0 d') x.args := rfl
      rw [hct] at hstep
      have hcnt : Hid (ctL (ctE0 (d' + 1)) (xs.take (j + 1)) = ctL (ctE0 (d' + 1)) (xs.take j) + (6 + ctL (ctE0 d') x.args)) := hide (ctL_take hx)
      obtain ⟨A2, cap2, rfl, _, _⟩ := hsa.form
      obtain ⟨bs, t, hblk⟩ := Hfr.out.cells b (by simp)
      have hP0 : PutG wr b (off + j * 7) [] [] wr := PutG.nil hblk
      obtain ⟨e0, e1, e2, e3, e4, e5, e6⟩ := hcat.seven
      have f0 := hP0.frozen (off + j * 7)
      have f1 := hP0.frozen (off + j * 7 + 1)
      have f2 := hP0.frozen (off + j * 7 + 2)
      have f3 := hP0.frozen (off + j * 7 + 3)
      have hj0 : (0 : Int) ≤ (j : Int) := by omega
      have hj1 : (j : Int) < (xs.length : Int) := by omega
      have Hg1 := hide g1
      have Hg2 := hide g2
      have HFeq := hide hFeq
      have HP0 := hide hP0
      have Hsa := hide hsa
      have HME := hide (HE.out d' rfl)
      have He0 := hide e0
      have He1 := hide e1
      have He2 := hide e2
      have He3 := hide e3
      have He4 := hide e4
      have He5 := hide e5
      have He6 := hide e6
      generalize hkq : k + ctL (ctE0 (d' + 1)) (xs.take j) = q at hstep ⊢
      have Hkq := hide hkq
      have hq1 : 1 ≤ q := by omega
      have hq2 : q + (6 + ctL (ctE0 d') x.args) ≤ 1099511627776 := by omega
      clear hx hcat hblk g1 g2 hFeq hP0 hkq hstep hct hsa e4 e5 e6 HE
      go_wp2_with fail
      have hP1 := HP0.out.store (.int .i64 (q : Int)) He0.out
      have hP2 := hP1.store (.int .i64 ((q : Int) + 1)) (hP1.cell (i := off + j * 7 + 1) (by simp) He1.out)
      have hP3 := hP2.store (.int .i64 ((q : Int) + 1 + 1)) (hP2.cell (i := off + j * 7 + 2) (by simp) He2.out)
      have hP4 := hP3.store (.int .i64 ((q : Int) + 1 + 1 + 1)) (hP3.cell (i := off + j * 7 + 3) (by simp) He3.out)
      simp only [List.length_nil, List.length_cons, Nat.zero_add, Nat.add_zero, List.nil_append, List.cons_append, Nat.reduceAdd] at hP4
      generalize (((wr.setCell ⟨b, off + j * 7, none⟩ (.int .i64 (q : Int))).setCell ⟨b, off + j * 7 + 1, none⟩ (.int .i64 ((q : Int) + 1))).setCell ⟨b, off + j * 7 + 2, none⟩ (.int .i64 ((q : Int) + 1 + 1))).setCell ⟨b, off + j * 7 + 3, none⟩ (.int .i64 ((q : Int) + 1 + 1 + 1)) = W1 at hP4 ⊢
      refine (l_markText (q + 1 + 1 + 1 + 1) (by omega) (by omega) _).mono ?_
      rintro e w2 ⟨rfl, hb2⟩
      have hP5 := hP4.below hb2
      have e4 : w2.cell? ⟨b, off + j * 7 + 4, none⟩ = some (.string x.h.symbol) := hP5.cell (by simp) He4.out
      have f4 := hP5.frozen (off + j * 7 + 4)
      have HP5 := hide hP5
      have He4' := hide e4
      clear hP1 hP2 hP3 hP4 hb2 hP5 e0 e1 e2 e3 f0 f1 f2 f3
      go_wp2_with fail
      have hP6 := HP5.out.store (.string (mkT (q + 1 + 1 + 1 + 1))) He4'.out
      simp only [List.length_nil, List.length_cons, Nat.zero_add, Nat.add_zero, List.nil_append, List.cons_append, Nat.reduceAdd] at hP6
      generalize w2.setCell ⟨b, off + j * 7 + 4, none⟩ (.string (mkT (q + 1 + 1 + 1 + 1))) = W2 at hP6 ⊢
      refine (l_markText (q + 1 + 1 + 1 + 1 + 1) (by omega) (by omega) _).mono ?_
      rintro e w3 ⟨rfl, hb3⟩
      have hP7 := hP6.below hb3
      have e5 : w3.cell? ⟨b, off + j * 7 + 5, none⟩ = some (.string x.h.name) := hP7.cell (by simp) He5.out
      have e6 : w3.cell? ⟨b, off + j * 7 + 6, none⟩ = some (.slice A2 x.args.length cap2) := hP7.cell (by simp) He6.out
      have f5 := hP7.frozen (off + j * 7 + 5)
      have HP7 := hide hP7
      have He5' := hide e5
      clear hP6 hb3 hP7 e4 f4
      go_wp2_with fail
      have hP8 := HP7.out.store (.string (mkT (q + 1 + 1 + 1 + 1 + 1))) He5'.out
      simp only [List.length_nil, List.length_cons, Nat.zero_add, Nat.add_zero, List.nil_append, List.cons_append, Nat.reduceAdd] at hP8
      generalize w3.setCell ⟨b, off + j * 7 + 5, none⟩ (.string (mkT (q + 1 + 1 + 1 + 1 + 1))) = W3 at hP8 ⊢
      have hP9 := hP8.keep (u := .slice A2 x.args.length cap2) (hP8.cell (i := off + j * 7 + 6) (by simp) He6.out)
      simp only [List.length_nil, List.length_cons, Nat.zero_add, Nat.add_zero, List.nil_append, List.cons_append, Nat.reduceAdd] at hP9
      have hfr3 := hP9.fresh Hfr.out
      have hnd := Hfr.out.nodup
      rw [HFeq.out] at hfr3 hnd
      have hFk : Fresh C W3 Fk := hfr3.mid
      have hbk : b ∉ F1 ++ (Fk ++ F2) := (List.nodup_cons.1 hnd).1
      have hlt3 : ∀ k ∈ Fk, k < wr.heap.size := fun k hk => Hfr.out.lt k (by rw [HFeq.out]; simp [hk])
      have hs3 : SlR 7 (ExR d') W3 x.args (.slice A2 x.args.length cap2) Fk := Hsa.out.frame (ExR.good d') (fun k hk => hP9.far k (hlt3 k hk) (fun e => hbk (by simp [← e, hk])) (by simp)) hP9.size
      refine Calls.mono (HME.out C (q + 1 + 1 + 1 + 1 + 1 + 1) x.args _ Fk W3 hs3 hFk (by omega) (by omega)) ?_
      rintro en w4 ⟨rfl, hs4, hf4, ha4⟩
      have hP10 := (hP9.weak (X := Fk)).apart ha4 (fun hm => hbk (by simp [hm])) (fun k hk => hk)
      have hnm := nodup_mid hnd
      have hy : ExR (d' + 1) w4 (mkE (d' + 1) q x) [.int .i64 (q : Int), .int .i64 ((q : Int) + 1), .int .i64 ((q : Int) + 1 + 1), .int .i64 ((q : Int) + 1 + 1 + 1), .string (mkT (q + 1 + 1 + 1 + 1)), .string (mkT (q + 1 + 1 + 1 + 1 + 1)), .slice A2 x.args.length cap2] Fk :=
        ⟨_, rfl, mkE_ok (by omega), hs4⟩
      have hset := ElR.set (ExR.good (d' + 1)) hP10.size (by rw [half_len (by omega)]; exact hlt) Hg1.out Hg2.out hy hP10.cellsAt
        (fun i hi => hP10.same rfl i (by rw [Nat.add_mul] at hi; omega)) (fun k hk => hP10.far k (Hfr.out.lt k (by rw [HFeq.out]; simp [hk])) (hnm.1 k hk).1 (hnm.1 k hk).2) (fun k hk => hP10.far k (Hfr.out.lt k (by rw [HFeq.out]; simp [hk])) (hnm.2 k hk).1 (hnm.2 k hk).2)
      have hnext := half_next (mk := mkE (d' + 1)) (ct := ctE0 (d' + 1)) (k := k) Hx.out
      rw [Hkq.out] at hnext
      rw [hnext] at hset
      have Hset := hide hset
      have Hfr4 := hide (hP10.freshX Hfr.out (fun k hk => hf4.cells k hk))
      have Hap : Hid (Apart (b :: F') w w4) := hide (Ha.out.trans ⟨hP10.os, hP10.tape, hP10.output, hP10.size, fun k hk hF => hP10.far k hk (fun e => hF (by simp [e])) (fun hm => hF (by rw [HFeq.out]; simp [hm]))⟩)
      have hc2 : q + 1 + 1 + 1 + 1 + 1 + 1 + ctL (ctE0 d') x.args = k + ctL (ctE0 (d' + 1)) (xs.take (j + 1)) := by rw [hcnt.out, ← Nat.add_assoc, Hkq.out]; omega
      have Hc2 := hide hc2
      clear hP8 hP9 hP10 hfr3 hnd hFk hbk hlt3 hs3 hs4 hf4 ha4 hnm hy hset hnext hc2 e5 e6 f5
      go_wp2_with fail
      exact ⟨⟨j + 1, by omega, by go_num, by rw [← Hc2.out]; go_num, hide (by rw [HFeq.out]; exact Hset.out), Hfr4, Hap⟩, by simp [intOf]; omega⟩
    · have hjn : j = xs.length := by omega
      subst hjn
      go_wp2_with fail
      go_ret
      have h1 := Hel.out
      rw [List.take_length, List.drop_length, List.append_nil] at h1
      refine ⟨ret_int (by rw [Htl.out]), ⟨some ⟨b, off, none⟩, cap, by rw [mkL_len], by rw [mkL_len]; exact Hm.out.1, Hm.out.2, .inr ⟨b, off, F', rfl, Hfr.out.lt b (by simp), rfl, h1⟩⟩, Hfr.out, Ha.out⟩
def HdE (d : Nat) : Prop := ∀ (k : Nat) (xs : List Ex) (v : Value) (F : List Nat) (w : World), SlR 7 (ExR d) w (mkL (mkE d) (ctE0 d) k xs) v F → 1 ≤ k → k + ctL (ctE0 d) xs ≤ 1099511627776 →
  Calls Try.prog 87 #[v, .int .i64 k] w fun en w' => en = .returned (.int .i64 ((k + ctL (ctE0 d) xs : Nat) : Int)) ∧ Below w.heap.size w w'
set_option maxRecDepth 100000 in
set_option maxHeartbeats 4000000 in
theorem hs_loop (d : Nat) (HE : ∀ d', d = d' + 1 → HdE d') : HdE d := by
  intro k xs v F w hs hk hkn
  obtain ⟨A, cap, rfl, hlc, hm⟩ := hs.form
  have HF := hide (hs.lt (ExR.good d))
  have Hs := hide hs
  rw [mkL_len] at hlc hs ⊢
  unfold maxLen at hm
  have hlm : xs.length ≤ 9223372036854775807 := by omega
  have Hct := hide (fun j => ctL_take_le (ct := ctE0 d) xs j)
  have Htl : Hid (xs.take xs.length = xs) := hide List.take_length
  have HE := hide HE
  clear hs hlc hm
  go_enter Try.func87, Try.ntmps87
  go_wp2_with fail
  go_loopw [1, 5] (fun kv i wr => ∃ j : Nat, j ≤ xs.length ∧ i = .int .i64 j ∧ kv = .int .i64 ((k + ctL (ctE0 d) (xs.take j) : Nat) : Int) ∧ Hid (Below w.heap.size w wr)) (fun _ i _ => xs.length - (intOf i).toNat)
  case atStart => exact ⟨0, by omega, rfl, rfl, hide (Below.refl _ _)⟩
  case round =>
    obtain ⟨j, hj, rfl, rfl, Hb⟩ := hrel
    by_cases hlt : j < xs.length
    · have hx : xs[j]? = some xs[j] := List.getElem?_eq_getElem hlt
      generalize xs[j] = x at hx
      have hstep := Hct.out (j + 1)
      rw [ctL_take hx] at hstep
      obtain ⟨b, off, cs, Fk, hA, _, hbF, hFk, hcl, hcat, hR⟩ := SlR.get (ExR.good d) (Hs.out.below (ExR.good d) Hb.out HF.out) (mkL_at hx)
      subst hA
      obtain ⟨d', rfl⟩ : ∃ d', d = d' + 1 := by
        match d, hR with
        | d' + 1, _ => exact ⟨d', rfl⟩
      obtain ⟨va, rfl, _, hsa⟩ := hR
      have hct : ctE0 (d' + 1) x = 6 + ctL (ctE0 d') x.args := rfl
      rw [hct] at hstep
      have hcnt : Hid (ctL (ctE0 (d' + 1)) (xs.take (j + 1)) = ctL (ctE0 (d' + 1)) (xs.take j) + (6 + ctL (ctE0 d') x.args)) := hide (ctL_take hx)
      have hblt := Nat.lt_of_lt_of_le (HF.out b hbF) Hb.out.size
      generalize hkq : k + ctL (ctE0 (d' + 1)) (xs.take j) = q at hcat hsa hstep ⊢
      have hsa : SlR 7 (ExR d') wr (mkL (mkE d') (ctE0 d') (q + 1 + 1 + 1 + 1 + 1 + 1) x.args) va Fk := hsa
      obtain ⟨A2, cap2, rfl, _, _⟩ := hsa.form
      rw [mkL_len] at hcat
      have Hkq := hide hkq
      have e0 : ∀ W : World, Below wr.heap.size wr W → W.cell? ⟨b, off + j * 7, none⟩ = some (.int .i64 (q : Int)) := fun W h => (hcat.below h hblt) 0 _ rfl
      have e1 : ∀ W : World, Below wr.heap.size wr W → W.cell? ⟨b, off + j * 7 + 1, none⟩ = some (.int .i64 ((q : Int) + 1)) := fun W h => (hcat.below h hblt) 1 _ rfl
      have e2 : ∀ W : World, Below wr.heap.size wr W → W.cell? ⟨b, off + j * 7 + 2, none⟩ = some (.int .i64 ((q : Int) + 1 + 1)) := fun W h => (hcat.below h hblt) 2 _ rfl
      have e3 : ∀ W : World, Below wr.heap.size wr W → W.cell? ⟨b, off + j * 7 + 3, none⟩ = some (.int .i64 ((q : Int) + 1 + 1 + 1)) := fun W h => (hcat.below h hblt) 3 _ rfl
      have e4 : ∀ W : World, Below wr.heap.size wr W → W.cell? ⟨b, off + j * 7 + 4, none⟩ = some (.string (mkT (q + 1 + 1 + 1 + 1))) := fun W h => (hcat.below h hblt) 4 _ rfl
      have e5 : ∀ W : World, Below wr.heap.size wr W → W.cell? ⟨b, off + j * 7 + 5, none⟩ = some (.string (mkT (q + 1 + 1 + 1 + 1 + 1))) := fun W h => (hcat.below h hblt) 5 _ rfl
      have e6 : ∀ W : World, Below wr.heap.size wr W → W.cell? ⟨b, off + j * 7 + 6, none⟩ = some (.slice A2 x.args.length cap2) := fun W h => (hcat.below h hblt) 6 _ rfl
      have Hsa : Hid (∀ W : World, Below wr.heap.size wr W → SlR 7 (ExR d') W (mkL (mkE d') (ctE0 d') (q + 1 + 1 + 1 + 1 + 1 + 1) x.args) (.slice A2 x.args.length cap2) Fk) := hide fun W h => by
        have h2 := hsa.below (ExR.good d') h (hsa.lt (ExR.good d'))
        rw [mkL_len] at h2
        exact h2
      have HME := hide (HE.out d' rfl)
      have hq1 : 1 ≤ q := by omega
      have hq2 : q + (6 + ctL (ctE0 d') x.args) ≤ 1099511627776 := by omega
      have hj0 : (0 : Int) ≤ (j : Int) := by omega
      have hj1 : (j : Int) < (xs.length : Int) := by omega
      have hrr : Below wr.heap.size wr wr := Below.refl _ _
      clear hx hcat hFk hbF hcl hstep hct hsa hkq HE
      go_wp2_with fail
      go_region_held3 (fun W => Below wr.heap.size wr W)
        (first | assumption | exact Below.drew (by assumption))
        ((go_at_call 66; refine Calls.mono (l_markText (q + 1 + 1 + 1 + 1) (by omega) (by omega) _) ?_; rintro en w2 ⟨rfl, hb⟩; have hw2 : Below wr.heap.size wr w2 := below_step (by (repeat (first | assumption | apply Below.drew))) (Nat.le_refl _) hb; clear hb))
      go_wp2_with fail
      go_region_held3 (fun W => Below wr.heap.size wr W)
        (first | assumption | exact Below.drew (by assumption))
        ((go_at_call 66; refine Calls.mono (l_markText (q + 1 + 1 + 1 + 1 + 1) (by omega) (by omega) _) ?_; rintro en w3 ⟨rfl, hb⟩; have hw3 : Below wr.heap.size wr w3 := below_step (by (repeat (first | assumption | apply Below.drew))) (Nat.le_refl _) hb; clear hb))
      go_wp2_with fail
      refine Calls.mono (HME.out (q + 1 + 1 + 1 + 1 + 1 + 1) x.args _ Fk w3 (Hsa.out w3 hw3) (by omega) (by omega)) ?_
      rintro en w4 ⟨rfl, hb4⟩
      have HB4 : Hid (Below w.heap.size w w4) := hide (Hb.out.trans ((hw3.trans (hb4.mono hw3.size)).mono Hb.out.size))
      have hc2 : q + 1 + 1 + 1 + 1 + 1 + 1 + ctL (ctE0 d') x.args = k + ctL (ctE0 (d' + 1)) (xs.take (j + 1)) := by rw [hcnt.out, ← Nat.add_assoc, Hkq.out]; omega
      have Hc2 := hide hc2
      clear hc2 hb4 hw2 hw3
      go_wp2_with fail
      go_roundw
      case rel => exact ⟨j + 1, by omega, by go_num, by rw [← Hc2.out]; go_num, HB4⟩
      case measure => simp [intOf]; omega
    · have hjn : j = xs.length := by omega
      subst hjn
      go_wp2_with fail
      go_ret
      exact ⟨ret_int (by rw [Htl.out]), Hb.out⟩
theorem hs_Ex : ∀ d, HdE d
  | 0 => hs_loop 0 (fun d' h => by omega)
  | d + 1 => hs_loop (d + 1) (fun d' h => by
    obtain rfl : d = d' := by omega
    exact hs_Ex d)
theorem ms_Ex : ∀ d, MsE d
  | 0 => ms_loop 0 (fun d' h => by omega)
  | d + 1 => ms_loop (d + 1) (fun d' h => by
    obtain rfl : d = d' := by omega
    exact ms_Ex d)
end Go.Proofs.Ytaihdnlpdibkoaa
