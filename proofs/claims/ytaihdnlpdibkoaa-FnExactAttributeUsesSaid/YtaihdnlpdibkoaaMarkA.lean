/- Attributes and symbols overwritten by marks, and held against them. Conditions: numbers from 1 to 2^40. -/
import Derived.Test.YtaihdnlpdibkoaaMarkE
import Derived.Test.YtaihdnlpdibkoaaSym
namespace Go.Proofs.Ytaihdnlpdibkoaa
set_option maxRecDepth 100000
open Go.RowKit Go.WideShapes
set_option linter.unusedVariables false

theorem PutG.nil_at {w W : World} {b o o' : Nat} {X : List Nat} {vs : List Value} (h : PutG w b o X vs W) : PutG W b o' [] [] W := by
  obtain ⟨bs, bs', t, _, h2, _⟩ := h.blk
  exact PutG.nil h2
theorem PutG.join {w W W1 : World} {b o : Nat} {X : List Nat} {vs us : List Value} (h : PutG w b o X vs W) (s : PutG W b (o + vs.length) [] us W1) : PutG w b o X (vs ++ us) W1 := by
  obtain ⟨⟨bs, bs', t, h1, h2, h3, h4, h5⟩, hf, hs, e1, e2, e3⟩ := h
  obtain ⟨⟨cs, cs', t', k1, k2, k3, k4, k5⟩, kf, ks, l1, l2, l3⟩ := s
  rw [h2] at k1
  have e := Option.some.inj k1
  injection e with ea eb
  subst ea eb
  refine ⟨⟨bs, cs', t, h1, k2, by omega, fun i hi => ?_, fun i u hu => ?_⟩, fun k hk hb hX => (kf k (Nat.lt_of_lt_of_le hk hs) hb (by simp)).trans (hf k hk hb hX), Nat.le_trans hs ks, l1.trans e1, l2.trans e2, l3.trans e3⟩
  · rw [List.length_append] at hi
    rw [k4 i (by omega)]
    exact h4 i (by omega)
  · by_cases hl : i < vs.length
    · rw [List.getElem?_append_left hl] at hu
      rw [k4 (o + i) (by omega)]
      exact h5 i u hu
    · rw [List.getElem?_append_right (by omega)] at hu
      have := k5 _ u hu
      rwa [show o + vs.length + (i - vs.length) = o + i by omega] at this
theorem PutG.step {w W W1 W2 : World} {b o : Nat} {X G : List Nat} {vs us : List Value} (h : PutG w b o X vs W) (s : PutG W b (o + vs.length) [] us W1) (ha : Apart G W1 W2) (hb : b ∉ G) (hG : ∀ k ∈ G, k ∈ X) : PutG w b o X (vs ++ us) W2 :=
  (h.join s).apart ha hb hG
theorem Fresh.left {C : Nat} {w : World} {F G : List Nat} (h : Fresh C w (F ++ G)) : Fresh C w F := ⟨(List.nodup_append.1 h.nodup).1, fun k hk => h.from_ k (by simp [hk]), fun k hk => h.cells k (by simp [hk])⟩
theorem Fresh.right {C : Nat} {w : World} {F G : List Nat} (h : Fresh C w (F ++ G)) : Fresh C w G := ⟨(List.nodup_append.1 h.nodup).2.1, fun k hk => h.from_ k (by simp [hk]), fun k hk => h.cells k (by simp [hk])⟩
theorem Fresh.dis {C : Nat} {w : World} {F G : List Nat} (h : Fresh C w (F ++ G)) : ∀ k ∈ F, k ∉ G := fun k h1 h2 => (List.nodup_append.1 h.nodup).2.2 k h1 k h2 rfl
theorem Fresh.glue {C : Nat} {w : World} {F G : List Nat} (h : Fresh C w F) (g : Fresh C w G) (hd : ∀ k ∈ F, k ∉ G) : Fresh C w (F ++ G) :=
  ⟨List.nodup_append.2 ⟨h.nodup, g.nodup, fun a ha b hb e => hd a ha (e ▸ hb)⟩, fun k hk => by rcases List.mem_append.1 hk with hk | hk; exact h.from_ k hk; exact g.from_ k hk, fun k hk => by rcases List.mem_append.1 hk with hk | hk; exact h.cells k hk; exact g.cells k hk⟩
theorem cell_same {w W : World} {b : Nat} (h : W.heap[b]? = w.heap[b]?) (i : Nat) : W.cell? ⟨b, i, none⟩ = w.cell? ⟨b, i, none⟩ := by
  unfold World.cell?
  rw [h]
def mk_Atr (D k : Nat) (x : Atr) : Atr := ⟨mkT (k), ((k + 1 : Nat) : Int), ((k + 2 : Nat) : Int), (((k + 3 : Nat) : Int) % 3 == 0)⟩
def ct_Atr (D : Nat) (x : Atr) : Nat := 4
set_option maxRecDepth 100000 in
set_option maxHeartbeats 4000000 in
theorem m_Atr (D C k : Nat) (xs : List Atr) (v : Value) (F : List Nat) (w : World) (hs : SlR 4 (AtrR D) w xs v F) (hf : Fresh C w F) (hk : 1 ≤ k) (hkn : k + ctL (ct_Atr D) xs ≤ 1099511627776) :
    Calls Try.prog 86 #[v, .int .i64 k] w fun en w' => en = .returned (.int .i64 ((k + ctL (ct_Atr D) xs : Nat) : Int)) ∧ SlR 4 (AtrR D) w' (mkL (mk_Atr D) (ct_Atr D) k xs) v F ∧ Fresh C w' F ∧ Apart F w w' := by
  obtain ⟨A, cap, rfl, hlc, hm, hsl⟩ := hs
  rcases hsl with ⟨rfl, rfl⟩ | ⟨b, off, F', rfl, hb, rfl, he⟩
  · go_enter Try.func86, Try.ntmps86
    go_wp2_with fail
    go_loop [1, 5] (fun kv i => kv = .int .i64 k ∧ i = .int .i64 0) (fun _ _ => 0)
    case atStart => exact ⟨rfl, rfl⟩
    case round =>
      obtain ⟨rfl, rfl⟩ := hrel
      go_wp2_with fail
      go_ret
      exact ⟨rfl, ⟨A, cap, rfl, hlc, hm, .inl ⟨rfl, rfl⟩⟩, hf, Apart.refl _ _⟩
  have Hf := hide hf
  have hmm := hm
  unfold maxLen at hmm
  have hlm : xs.length ≤ 9223372036854775807 := by omega
  have Hm := hide (And.intro hlc hm)
  have He := hide he
  have Hct := hide (fun j => ctL_take_le (ct := ct_Atr D) xs j)
  have Htl : Hid (xs.take xs.length = xs) := hide List.take_length
  clear hf he hlc hm hmm
  go_enter Try.func86, Try.ntmps86
  go_wp2_with fail
  go_loopw [1, 5] (fun kv i wr => ∃ j : Nat, j ≤ xs.length ∧ i = .int .i64 j ∧ kv = .int .i64 ((k + ctL (ct_Atr D) (xs.take j) : Nat) : Int) ∧ Hid (ElR 4 (AtrR D) wr b off (mkL (mk_Atr D) (ct_Atr D) k (xs.take j) ++ xs.drop j) F') ∧ Hid (Fresh C wr (b :: F')) ∧ Hid (Apart (b :: F') w wr)) (fun _ i _ => xs.length - (intOf i).toNat)
  case atStart => exact ⟨0, by omega, rfl, rfl, hide (by simpa [mkL] using He.out), Hf, hide (Apart.refl _ _)⟩
  case round =>
    obtain ⟨j, hj, rfl, rfl, Hel, Hfr, Ha⟩ := hrel
    by_cases hlt : j < xs.length
    · have hx : xs[j]? = some xs[j] := List.getElem?_eq_getElem hlt
      generalize xs[j] = x at hx
      have Hx := hide hx
      have hstep := Hct.out (j + 1)
      rw [ctL_take hx] at hstep
      have hcnt : Hid (ctL (ct_Atr D) (xs.take (j + 1)) = ctL (ct_Atr D) (xs.take j) + ct_Atr D x) := hide (ctL_take hx)
      obtain ⟨cs, F1, Fk, F2, hFeq, hcat, hR, g1, g2⟩ := ElR.get (AtrR.good D) Hel.out (half_at (mk := mk_Atr D) (ct := ct_Atr D) (k := k) hx)
      obtain ⟨c0, c1, c2, c3, rfl⟩ := list4 ((AtrR.good D).len hR)
      obtain ⟨_, _, g_0, g_1, g_2, g_3, rfl⟩ := hR
      obtain rfl : c0 = .string x.name := by simpa using g_0
      obtain rfl : c1 = .int .i64 x.type := by simpa using g_1
      obtain rfl : c2 = .int .i64 x.mode := by simpa using g_2
      obtain rfl : c3 = .bool x.circ := by simpa using g_3
      have hct : ct_Atr D x = 4 := by simp only [ct_Atr] <;> omega
      have Hcx := hide hct
      rw [hct] at hstep
      obtain ⟨bs, tt, hblk⟩ := Hfr.out.cells b (by simp)
      have e0 := hcat 0 _ rfl
      have e1 := hcat 1 _ rfl
      have e2 := hcat 2 _ rfl
      have e3 := hcat 3 _ rfl
      simp only [Nat.add_zero] at e0
      have hT0 : PutG wr b (off + j * 4) (([] : List Nat)) [] wr := PutG.nil hblk
      have hS0 : PutG wr b (off + j * 4) [] [] wr := PutG.nil hblk
      have hfk := Hfr.out
      rw [hFeq] at hfk
      have Hdis := hide (nodup_mid hfk.nodup)
      have Hbk : Hid (∀ k ∈ ([] : List Nat), k ≠ b) := hide fun k hk e => (List.nodup_cons.1 hfk.nodup).1 (e ▸ List.mem_append_right _ (List.mem_append_left _ hk))
      have hmid : Fresh C wr (([] : List Nat)) := hfk.mid
      have Hg1 := hide g1
      have Hg2 := hide g2
      have HFeq := hide hFeq
      have He0 := hide e0
      have He1 := hide e1
      have He2 := hide e2
      have He3 := hide e3
      have HT := hide hT0
      have HS := hide hS0
      generalize hkq : k + ctL (ct_Atr D) (xs.take j) = q at hstep ⊢
      have Hkq := hide hkq
      have hq1 : 1 ≤ q := by omega
      have hq2 : q + (4) ≤ 1099511627776 := by omega
      have hmk : mk_Atr D q x = (Atr.mk (mkT (q)) ((q + 1 : Nat) : Int) ((q + 1 + 1 : Nat) : Int) (((q + 1 + 1 + 1 : Nat) : Int) % 3 == 0)) := by
        rfl
      have Hmk := hide hmk
      clear hmk   
      have hj0 : (0 : Int) ≤ (j : Int) := by omega
      have hj1 : (j : Int) < (xs.length : Int) := by omega
      clear hx hcat hblk g1 g2 hFeq hT0 hS0 hfk hmid hkq hstep hct  e0 e1 e2 e3
      have G0 := He0
      have G1 := He1
      have G2 := He2
      have G3 := He3
      go_wp2_with fail
      refine (l_markText (q) (by omega) (by omega) _).mono ?_
      rintro e U1 ⟨rfl, hb2⟩
      have hS := HS.out.below hb2
      clear HS hb2
      have HS := hide hS
      clear hS
      have c_0 : U1.cell? ⟨b, off + j * 4, none⟩ = some (.string x.name) := HS.out.cell (i := off + j * 4) (by simp) G0.out
      have f_0 := HS.out.frozen (off + j * 4)
      have c_1 : U1.cell? ⟨b, off + j * 4 + 1, none⟩ = some (.int .i64 x.type) := HS.out.cell (i := off + j * 4 + 1) (by simp) G1.out
      have f_1 := HS.out.frozen (off + j * 4 + 1)
      have c_2 : U1.cell? ⟨b, off + j * 4 + 2, none⟩ = some (.int .i64 x.mode) := HS.out.cell (i := off + j * 4 + 2) (by simp) G2.out
      have f_2 := HS.out.frozen (off + j * 4 + 2)
      have c_3 : U1.cell? ⟨b, off + j * 4 + 3, none⟩ = some (.bool x.circ) := HS.out.cell (i := off + j * 4 + 3) (by simp) G3.out
      have f_3 := HS.out.frozen (off + j * 4 + 3)
      go_wp2_with fail
      have p0 : PutG wr b (off + j * 4) [] [.string (mkT (q))] (U1.setCell ⟨b, off + j * 4, none⟩ (.string (mkT (q)))) := PutG.store HS.out (.string (mkT (q))) (c := .string x.name) (by exact (PutG.cell (i := off + j * 4) HS.out (by simp) (G0.out)))
      have p1 : PutG wr b (off + j * 4) [] [.string (mkT (q)), .int .i64 ((q : Int) + 1)] ((U1.setCell ⟨b, off + j * 4, none⟩ (.string (mkT (q)))).setCell ⟨b, off + j * 4 + 1, none⟩ (.int .i64 ((q : Int) + 1))) := PutG.store p0 (.int .i64 ((q : Int) + 1)) (c := .int .i64 x.type) (by exact (PutG.cell (i := off + j * 4 + 1) p0 (by simp) (G1.out)))
      have p2 : PutG wr b (off + j * 4) [] [.string (mkT (q)), .int .i64 ((q : Int) + 1), .int .i64 ((q : Int) + 1 + 1)] (((U1.setCell ⟨b, off + j * 4, none⟩ (.string (mkT (q)))).setCell ⟨b, off + j * 4 + 1, none⟩ (.int .i64 ((q : Int) + 1))).setCell ⟨b, off + j * 4 + 2, none⟩ (.int .i64 ((q : Int) + 1 + 1))) := PutG.store p1 (.int .i64 ((q : Int) + 1 + 1)) (c := .int .i64 x.mode) (by exact (PutG.cell (i := off + j * 4 + 2) p1 (by simp) (G2.out)))
      have p3 : PutG wr b (off + j * 4) [] [.string (mkT (q)), .int .i64 ((q : Int) + 1), .int .i64 ((q : Int) + 1 + 1), .bool (((q : Int) + 1 + 1 + 1) % 3 == 0)] ((((U1.setCell ⟨b, off + j * 4, none⟩ (.string (mkT (q)))).setCell ⟨b, off + j * 4 + 1, none⟩ (.int .i64 ((q : Int) + 1))).setCell ⟨b, off + j * 4 + 2, none⟩ (.int .i64 ((q : Int) + 1 + 1))).setCell ⟨b, off + j * 4 + 3, none⟩ (.bool (((q : Int) + 1 + 1 + 1) % 3 == 0))) := PutG.store p2 (.bool (((q : Int) + 1 + 1 + 1) % 3 == 0)) (c := .bool x.circ) (by exact (PutG.cell (i := off + j * 4 + 3) p2 (by simp) (G3.out)))
      generalize (((U1.setCell ⟨b, off + j * 4, none⟩ (.string (mkT (q)))).setCell ⟨b, off + j * 4 + 1, none⟩ (.int .i64 ((q : Int) + 1))).setCell ⟨b, off + j * 4 + 2, none⟩ (.int .i64 ((q : Int) + 1 + 1))).setCell ⟨b, off + j * 4 + 3, none⟩ (.bool (((q : Int) + 1 + 1 + 1) % 3 == 0)) = U2 at p3 ⊢
      clear HS
      have HS := hide p3
      clear p0 p1 p2 p3
      have hT : PutG wr b (off + j * 4) (([] : List Nat)) [.string (mkT (q)), .int .i64 ((q : Int) + 1), .int .i64 ((q : Int) + 1 + 1), .bool (((q : Int) + 1 + 1 + 1) % 3 == 0)] U2 := HT.out.join HS.out
      have hy : AtrR D U2 (mk_Atr D q x) [.string (mkT (q)), .int .i64 ((q : Int) + 1), .int .i64 ((q : Int) + 1 + 1), .bool (((q : Int) + 1 + 1 + 1) % 3 == 0)] (([] : List Nat)) := by
        rw [Hmk.out]
        exact ⟨rfl, ⟨mkT_small (k := q) (by omega), wf_int (z := ((q + 1 : Nat) : Int)) (by omega) (by omega), wf_int (z := ((q + 1 + 1 : Nat) : Int)) (by omega) (by omega)⟩, rfl, rfl, rfl, rfl, rfl⟩
      have hset := ElR.set (AtrR.good D) hT.size (by rw [half_len (by omega)]; exact hlt) Hg1.out Hg2.out hy hT.cellsAt
        (fun i hi => hT.same rfl i (by rw [Nat.add_mul] at hi; omega)) (fun k hk => hT.far k (Hfr.out.lt k (by rw [HFeq.out]; simp [hk])) (Hdis.out.1 k hk).1 (Hdis.out.1 k hk).2) (fun k hk => hT.far k (Hfr.out.lt k (by rw [HFeq.out]; simp [hk])) (Hdis.out.2 k hk).1 (Hdis.out.2 k hk).2)
      have hnext := half_next (mk := mk_Atr D) (ct := ct_Atr D) (k := k) Hx.out
      rw [Hkq.out] at hnext
      rw [hnext] at hset
      have Hset := hide hset
      have Hfr4 := hide (hT.freshX Hfr.out (fun k hk => by simp at hk))
      have Hap : Hid (Apart (b :: F') w U2) := hide (Ha.out.trans ⟨hT.os, hT.tape, hT.output, hT.size, fun k hk hF => hT.far k hk (fun e => hF (by simp [e])) (fun hm => hF (by rw [HFeq.out]; exact List.mem_cons_of_mem _ (List.mem_append_right _ (List.mem_append_left _ hm))))⟩)
      have hc2 : q + 1 + 1 + 1 + 1 = k + ctL (ct_Atr D) (xs.take (j + 1)) := by have h1 := hcnt.out; have h2 := Hkq.out; have h3 := Hcx.out; omega
      have Hc2 := hide hc2
      clear hT hy hset hnext hc2 HS HT 
      clear c_0 f_0 c_1 f_1 c_2 f_2 c_3 f_3
      exact ⟨⟨j + 1, by omega, by go_num, by rw [← Hc2.out]; first | done | go_num, hide (by rw [HFeq.out]; exact Hset.out), Hfr4, Hap⟩, by simp [intOf]; omega⟩
    · have hjn : j = xs.length := by omega
      subst hjn
      go_wp2_with fail
      go_ret
      have h1 := Hel.out
      rw [List.take_length, List.drop_length, List.append_nil] at h1
      refine ⟨ret_int (by rw [Htl.out]), ⟨some ⟨b, off, none⟩, cap, by rw [mkL_len], by rw [mkL_len]; exact Hm.out.1, Hm.out.2, .inr ⟨b, off, F', rfl, Hfr.out.lt b (by simp), rfl, h1⟩⟩, Hfr.out, Ha.out⟩
def mk_Sym (D k : Nat) (x : Sym) : Sym := ⟨mkT (k), mkL (mk_Atr D) (ct_Atr D) (k + 1) x.attrs⟩
def ct_Sym (D : Nat) (x : Sym) : Nat := 1 + (ctL (ct_Atr D) x.attrs)
set_option maxRecDepth 100000 in
set_option maxHeartbeats 4000000 in
theorem m_Sym (D C k : Nat) (xs : List Sym) (v : Value) (F : List Nat) (w : World) (hs : SlR 2 (SymR D) w xs v F) (hf : Fresh C w F) (hk : 1 ≤ k) (hkn : k + ctL (ct_Sym D) xs ≤ 1099511627776) :
    Calls Try.prog 47 #[v, .int .i64 k] w fun en w' => en = .returned (.int .i64 ((k + ctL (ct_Sym D) xs : Nat) : Int)) ∧ SlR 2 (SymR D) w' (mkL (mk_Sym D) (ct_Sym D) k xs) v F ∧ Fresh C w' F ∧ Apart F w w' := by
  obtain ⟨A, cap, rfl, hlc, hm, hsl⟩ := hs
  rcases hsl with ⟨rfl, rfl⟩ | ⟨b, off, F', rfl, hb, rfl, he⟩
  · go_enter Try.func47, Try.ntmps47
    go_wp2_with fail
    go_loop [1, 5] (fun kv i => kv = .int .i64 k ∧ i = .int .i64 0) (fun _ _ => 0)
    case atStart => exact ⟨rfl, rfl⟩
    case round =>
      obtain ⟨rfl, rfl⟩ := hrel
      go_wp2_with fail
      go_ret
      exact ⟨rfl, ⟨A, cap, rfl, hlc, hm, .inl ⟨rfl, rfl⟩⟩, hf, Apart.refl _ _⟩
  have Hf := hide hf
  have hmm := hm
  unfold maxLen at hmm
  have hlm : xs.length ≤ 9223372036854775807 := by omega
  have Hm := hide (And.intro hlc hm)
  have He := hide he
  have Hct := hide (fun j => ctL_take_le (ct := ct_Sym D) xs j)
  have Htl : Hid (xs.take xs.length = xs) := hide List.take_length
  clear hf he hlc hm hmm
  go_enter Try.func47, Try.ntmps47
  go_wp2_with fail
  go_loopw [1, 5] (fun kv i wr => ∃ j : Nat, j ≤ xs.length ∧ i = .int .i64 j ∧ kv = .int .i64 ((k + ctL (ct_Sym D) (xs.take j) : Nat) : Int) ∧ Hid (ElR 2 (SymR D) wr b off (mkL (mk_Sym D) (ct_Sym D) k (xs.take j) ++ xs.drop j) F') ∧ Hid (Fresh C wr (b :: F')) ∧ Hid (Apart (b :: F') w wr)) (fun _ i _ => xs.length - (intOf i).toNat)
  case atStart => exact ⟨0, by omega, rfl, rfl, hide (by simpa [mkL] using He.out), Hf, hide (Apart.refl _ _)⟩
  case round =>
    obtain ⟨j, hj, rfl, rfl, Hel, Hfr, Ha⟩ := hrel
    by_cases hlt : j < xs.length
    · have hx : xs[j]? = some xs[j] := List.getElem?_eq_getElem hlt
      generalize xs[j] = x at hx
      have Hx := hide hx
      have hstep := Hct.out (j + 1)
      rw [ctL_take hx] at hstep
      have hcnt : Hid (ctL (ct_Sym D) (xs.take (j + 1)) = ctL (ct_Sym D) (xs.take j) + ct_Sym D x) := hide (ctL_take hx)
      obtain ⟨cs, F1, Fk, F2, hFeq, hcat, hR, g1, g2⟩ := ElR.get (SymR.good D) Hel.out (half_at (mk := mk_Sym D) (ct := ct_Sym D) (k := k) hx)
      obtain ⟨c0, c1, rfl⟩ := list2 ((SymR.good D).len hR)
      obtain ⟨v_1, f_1, _, _, g_0, ⟨g_1, hs_1⟩, rfl⟩ := hR
      obtain rfl : c0 = .string x.name := by simpa using g_0
      obtain rfl : c1 = v_1 := by simpa using g_1
      obtain ⟨A_1, cap_1, rfl, _, _⟩ := hs_1.form
      have hct : ct_Sym D x = 1 + ctL (ct_Atr D) x.attrs := by simp only [ct_Sym] <;> omega
      have Hcx := hide hct
      rw [hct] at hstep
      obtain ⟨bs, tt, hblk⟩ := Hfr.out.cells b (by simp)
      have e0 := hcat 0 _ rfl
      have e1 := hcat 1 _ rfl
      simp only [Nat.add_zero] at e0
      have hT0 : PutG wr b (off + j * 2) (Fk) [] wr := PutG.nil hblk
      have hS0 : PutG wr b (off + j * 2) [] [] wr := PutG.nil hblk
      have hfk := Hfr.out
      rw [hFeq] at hfk
      have Hdis := hide (nodup_mid hfk.nodup)
      have Hbk : Hid (∀ k ∈ Fk, k ≠ b) := hide fun k hk e => (List.nodup_cons.1 hfk.nodup).1 (e ▸ List.mem_append_right _ (List.mem_append_left _ hk))
      have hmid : Fresh C wr (Fk) := hfk.mid
      have RFk : Hid (Fresh C wr Fk) := hide (hmid)
      have OFk := hide hs_1
      have NFk : Hid (∀ k ∈ Fk, k ≠ b) := hide fun k hk => Hbk.out k (by simp [hk])
      have Hg1 := hide g1
      have Hg2 := hide g2
      have HFeq := hide hFeq
      have He0 := hide e0
      have He1 := hide e1
      have HT := hide hT0
      have HS := hide hS0
      generalize hkq : k + ctL (ct_Sym D) (xs.take j) = q at hstep ⊢
      have Hkq := hide hkq
      have hq1 : 1 ≤ q := by omega
      have hq2 : q + (1 + ctL (ct_Atr D) x.attrs) ≤ 1099511627776 := by omega
      obtain ⟨q1, hqq1⟩ : ∃ q1 : Nat, q + 1 + ctL (ct_Atr D) x.attrs = q1 := ⟨_, rfl⟩
      have hqb1 : 1 ≤ q1 ∧ q1 ≤ 1099511627776 := by omega
      obtain ⟨hqb1a, hqb1b⟩ := hqb1
      have hmk : mk_Sym D q x = (Sym.mk (mkT (q)) (mkL (mk_Atr D) (ct_Atr D) (q + 1) x.attrs)) := by
        rfl
      have Hmk := hide hmk
      have Hqq1 := hide hqq1
      clear hmk  hqq1 
      have hj0 : (0 : Int) ≤ (j : Int) := by omega
      have hj1 : (j : Int) < (xs.length : Int) := by omega
      clear hx hcat hblk g1 g2 hFeq hT0 hS0 hfk hmid hkq hstep hct hs_1 e0 e1
      have G0 := He0
      have G1 := He1
      go_wp2_with fail
      refine (l_markText (q) (by omega) (by omega) _).mono ?_
      rintro e U1 ⟨rfl, hb2⟩
      have hS := HS.out.below hb2
      clear HS hb2
      have HS := hide hS
      clear hS
      have c_0 : U1.cell? ⟨b, off + j * 2, none⟩ = some (.string x.name) := HS.out.cell (i := off + j * 2) (by simp) G0.out
      have f_0 := HS.out.frozen (off + j * 2)
      have c_1 : U1.cell? ⟨b, off + j * 2 + 1, none⟩ = some (.slice A_1 x.attrs.length cap_1) := HS.out.cell (i := off + j * 2 + 1) (by simp) G1.out
      go_wp2_with fail
      have p0 : PutG wr b (off + j * 2) [] [.string (mkT (q))] (U1.setCell ⟨b, off + j * 2, none⟩ (.string (mkT (q)))) := PutG.store HS.out (.string (mkT (q))) (c := .string x.name) (by exact (PutG.cell (i := off + j * 2) HS.out (by simp) (G0.out)))
      generalize U1.setCell ⟨b, off + j * 2, none⟩ (.string (mkT (q))) = U2 at p0 ⊢
      clear HS
      have HS := hide p0
      clear p0
      have hS := HS.out.keep (u := .slice A_1 x.attrs.length cap_1) (HS.out.cell (i := off + j * 2 + 1) (by simp) G1.out)
      have hS : PutG wr b (off + j * 2) [] [.string (mkT (q)), .slice A_1 x.attrs.length cap_1] U2 := hS
      have hOFk := OFk.out.frame (AtrR.good D) (fun k hk => hS.far k (OFk.out.lt (AtrR.good D) k hk) (NFk.out k hk) (by simp)) hS.size
      have hRFk := hS.fresh RFk.out
      refine Calls.mono (m_Atr D C (q + 1) x.attrs _ Fk U2 hOFk hRFk (by omega) (by omega)) ?_
      rintro en U3 ⟨rfl, hOn, hRn, ha⟩
      have hT : PutG wr b (off + j * 2) (Fk) [.string (mkT (q)), .slice A_1 x.attrs.length cap_1] U3 := HT.out.step hS ha (fun hm => NFk.out b hm rfl) (fun k hk => by simp [hk])
      clear OFk RFk
      have OFk := hide hOn
      have RFk := hide hRn
      have hS2 : PutG U3 b (off + j * 2 + 2) [] [] U3 := hT.nil_at
      clear HT HS hS ha hOn hRn 
      clear hOFk hRFk
      clear c_0 f_0 c_1
      have HT := hide hT
      have HS := hide hS2
      clear hT hS2
      rw [Hqq1.out]
      have hT := HT.out
      have hOFk := OFk.out
      have hRFk := RFk.out
      have hy : SymR D U3 (mk_Sym D q x) [.string (mkT (q)), .slice A_1 x.attrs.length cap_1] (Fk) := by
        rw [Hmk.out]
        exact ⟨_, _, rfl, ⟨mkT_small (k := q) (by omega)⟩, rfl, ⟨rfl, hOFk⟩, rfl⟩
      have hset := ElR.set (SymR.good D) hT.size (by rw [half_len (by omega)]; exact hlt) Hg1.out Hg2.out hy hT.cellsAt
        (fun i hi => hT.same rfl i (by rw [Nat.add_mul] at hi; omega)) (fun k hk => hT.far k (Hfr.out.lt k (by rw [HFeq.out]; simp [hk])) (Hdis.out.1 k hk).1 (Hdis.out.1 k hk).2) (fun k hk => hT.far k (Hfr.out.lt k (by rw [HFeq.out]; simp [hk])) (Hdis.out.2 k hk).1 (Hdis.out.2 k hk).2)
      have hnext := half_next (mk := mk_Sym D) (ct := ct_Sym D) (k := k) Hx.out
      rw [Hkq.out] at hnext
      rw [hnext] at hset
      have Hset := hide hset
      have Hfr4 := hide (hT.freshX Hfr.out (fun k hk => by first | exact hRFk.cells k hk | exact hRFk.cells k (by simpa using hk)))
      have Hap : Hid (Apart (b :: F') w U3) := hide (Ha.out.trans ⟨hT.os, hT.tape, hT.output, hT.size, fun k hk hF => hT.far k hk (fun e => hF (by simp [e])) (fun hm => hF (by rw [HFeq.out]; exact List.mem_cons_of_mem _ (List.mem_append_right _ (List.mem_append_left _ hm))))⟩)
      have hc2 : q1 = k + ctL (ct_Sym D) (xs.take (j + 1)) := by have h1 := hcnt.out; have h2 := Hkq.out; have h3 := Hcx.out; have := Hqq1.out; omega
      have Hc2 := hide hc2
      clear hT hy hset hnext hc2 HS HT hOFk hRFk OFk RFk
      go_wp2_with fail
      exact ⟨⟨j + 1, by omega, by go_num, by rw [← Hc2.out]; first | done | go_num, hide (by rw [HFeq.out]; exact Hset.out), Hfr4, Hap⟩, by simp [intOf]; omega⟩
    · have hjn : j = xs.length := by omega
      subst hjn
      go_wp2_with fail
      go_ret
      have h1 := Hel.out
      rw [List.take_length, List.drop_length, List.append_nil] at h1
      refine ⟨ret_int (by rw [Htl.out]), ⟨some ⟨b, off, none⟩, cap, by rw [mkL_len], by rw [mkL_len]; exact Hm.out.1, Hm.out.2, .inr ⟨b, off, F', rfl, Hfr.out.lt b (by simp), rfl, h1⟩⟩, Hfr.out, Ha.out⟩
def sk_Sym (D k : Nat) (x : Sym) : Sym := { x with attrs := mkL (mk_Atr D) (ct_Atr D) (k) x.attrs }
def sc_Sym (D : Nat) (x : Sym) : Nat := ctL (ct_Atr D) x.attrs
def sk_Ex : Nat → Nat → Ex → Ex
  | 0, _, x => x
  | d + 1, k, x => .mk x.h (mkL (mkE d) (ctE0 d) k x.args)
def sc_Ex : Nat → Ex → Nat
  | 0, _ => 0
  | d + 1, x => ctL (ctE0 d) x.args
set_option maxRecDepth 100000 in
set_option maxHeartbeats 4000000 in
theorem mm_Ex (D C k : Nat) (x : Ex) (cs : List Value) (F : List Nat) (w : World) (h : ExR D w x cs F) (hf : Fresh C w F) (hk : 1 ≤ k) (hkn : k + sc_Ex D x ≤ 1099511627776) :
    Calls Try.prog 21 #[.agg cs.toArray, .int .i64 k] w fun en w' => en = .returned (.int .i64 ((k + sc_Ex D x : Nat) : Int)) ∧ ExR D w' (sk_Ex D k x) cs F ∧ Fresh C w' F ∧ Apart F w w' := by
  obtain ⟨d', rfl⟩ : ∃ d', D = d' + 1 := by
    match D, h with
    | d' + 1, _ => exact ⟨d', rfl⟩
  obtain ⟨va, rfl, hok, hs6⟩ := h
  obtain ⟨A6, cap6, rfl, _, _⟩ := hs6.form
  have hct : sc_Ex (d' + 1) x = ctL (ctE0 d') x.args := rfl
  have Hct := hide hct
  rw [hct] at hkn
  clear hct
  have RF : Hid (Fresh C w F) := hide (hf)
  obtain ⟨C0, hz0, hw0⟩ := boxes1 w [.int .i64 x.h.kind, .int .i64 x.h.n, .int .i64 x.h.pos, .int .i64 x.h.type, .string x.h.symbol, .string x.h.name, .slice A6 x.args.length cap6] 52
  show Calls _ _ #[.agg #[.int .i64 x.h.kind, .int .i64 x.h.n, .int .i64 x.h.pos, .int .i64 x.h.type, .string x.h.symbol, .string x.h.name, .slice A6 x.args.length cap6], .int .i64 k] w _
  go_enter Try.func21, Try.ntmps21
  go_wp2_with fail
  generalize w.alloc (Obj.cells #[.int .i64 x.h.kind, .int .i64 x.h.n, .int .i64 x.h.pos, .int .i64 x.h.type, .string x.h.symbol, .string x.h.name, .slice A6 x.args.length cap6] 52) = W0 at C0 hz0 hw0 ⊢
  have OF := hide (hs6.below (ExR.good d') hw0 (hs6.lt (ExR.good d')))
  have rF := RF.out.below hw0
  have LtF : Hid (∀ k ∈ F, k ≠ w.heap.size) := hide fun k hk e => by have := RF.out.lt k hk; omega
  clear RF
  have RF := hide rF
  clear rF hs6
  have c_6 : W0.cell? ⟨w.heap.size, 6, none⟩ = some (.slice A6 x.args.length cap6) := by have := C0 6 _ rfl; rwa [Nat.zero_add] at this
  have hA0 : Apart (F) w W0 := Apart.of_below hw0
  have HA := hide hA0
  have hzz : w.heap.size < W0.heap.size := by omega
  clear C0 hz0 hw0 hA0 hf
  refine Calls.mono (ms_Ex d' C (k) x.args _ F W0 OF.out RF.out (by omega) (by omega)) ?_
  rintro en W1 ⟨rfl, hOn, hRn, ha⟩
  clear c_6
  have hzy : w.heap.size < W1.heap.size := Nat.lt_of_lt_of_le hzz ha.size
  clear hzz
  have hzz := hzy
  clear hzy
  have hA := HA.out.trans (ha.more (fun k hk => by simp [hk]))
  clear HA ha
  have HA : Hid (Apart (F) w W1) := hide hA
  clear hA
  clear OF RF
  have OF := hide hOn
  have RF := hide hRn
  clear hOn hRn 
  go_wp2_with fail
  go_ret
  refine ⟨ret_int (by rw [Hct.out]; first | done | rfl | omega), ⟨_, rfl, hok, OF.out⟩, RF.out, HA.out⟩
end Go.Proofs.Ytaihdnlpdibkoaa
