/- Occurrences overwritten by marks, and held against them. Conditions: numbers from 1 to 2^40. -/
import Derived.Test.YtaihdnlpdibkoaaMarkS
import Derived.Test.YtaihdnlpdibkoaaMark
import Derived.Test.YtaihdnlpdibkoaaRul
namespace Go.Proofs.Ytaihdnlpdibkoaa
set_option maxRecDepth 100000
open Go.RowKit Go.WideShapes
set_option linter.unusedVariables false

/-- A list written anew, each element by the numbers from its own on. -/
def mkL {α : Type} (mk : Nat → α → α) (ct : α → Nat) : Nat → List α → List α
  | _, [] => []
  | k, x :: r => mk k x :: mkL mk ct (k + ct x) r
def ctL {α : Type} (ct : α → Nat) : List α → Nat
  | [] => 0
  | x :: r => ct x + ctL ct r
theorem mkL_len {α : Type} {mk : Nat → α → α} {ct : α → Nat} : ∀ (xs : List α) (k : Nat), (mkL mk ct k xs).length = xs.length
  | [], _ => rfl
  | x :: r, k => by simp only [mkL, List.length_cons, mkL_len r]
theorem mkL_append {α : Type} {mk : Nat → α → α} {ct : α → Nat} : ∀ (xs ys : List α) (k : Nat), mkL mk ct k (xs ++ ys) = mkL mk ct k xs ++ mkL mk ct (k + ctL ct xs) ys
  | [], _, _ => rfl
  | x :: r, ys, k => by simp only [List.cons_append, mkL, ctL, mkL_append r, Nat.add_assoc]
theorem ctL_append {α : Type} {ct : α → Nat} : ∀ (xs ys : List α), ctL ct (xs ++ ys) = ctL ct xs + ctL ct ys
  | [], ys => by simp [ctL]
  | x :: r, ys => by simp only [List.cons_append, ctL, ctL_append r, Nat.add_assoc]
theorem ctL_take {α : Type} {ct : α → Nat} {xs : List α} {j : Nat} {x : α} (h : xs[j]? = some x) : ctL ct (xs.take (j + 1)) = ctL ct (xs.take j) + ct x := by rw [take_snoc h, ctL_append]; simp [ctL]
theorem mkL_take {α : Type} {mk : Nat → α → α} {ct : α → Nat} {xs : List α} {k j : Nat} {x : α} (h : xs[j]? = some x) : mkL mk ct k (xs.take (j + 1)) = mkL mk ct k (xs.take j) ++ [mk (k + ctL ct (xs.take j)) x] := by rw [take_snoc h, mkL_append]; rfl
theorem ctL_take_le {α : Type} {ct : α → Nat} (xs : List α) (j : Nat) : ctL ct (xs.take j) ≤ ctL ct xs := by
  have := ctL_append (ct := ct) (xs.take j) (xs.drop j)
  rw [List.take_append_drop] at this
  omega
/-- The list half written. -/
theorem half_at {α : Type} {mk : Nat → α → α} {ct : α → Nat} {xs : List α} {k j : Nat} {x : α} (h : xs[j]? = some x) : (mkL mk ct k (xs.take j) ++ xs.drop j)[j]? = some x := by
  have hj := (List.getElem?_eq_some_iff.1 h).1
  have hl : (mkL mk ct k (xs.take j)).length = j := by rw [mkL_len]; simp; omega
  rw [List.getElem?_append_right (by omega), hl, Nat.sub_self, List.getElem?_drop, Nat.add_zero, h]
theorem half_next {α : Type} {mk : Nat → α → α} {ct : α → Nat} {xs : List α} {k j : Nat} {x : α} (h : xs[j]? = some x) :
    (mkL mk ct k (xs.take j) ++ xs.drop j).take j ++ mk (k + ctL ct (xs.take j)) x :: (mkL mk ct k (xs.take j) ++ xs.drop j).drop (j + 1) = mkL mk ct k (xs.take (j + 1)) ++ xs.drop (j + 1) := by
  have hj := (List.getElem?_eq_some_iff.1 h).1
  have hl : (mkL mk ct k (xs.take j)).length = j := by rw [mkL_len]; simp; omega
  rw [mkL_take h]
  generalize mkL mk ct k (xs.take j) = m at hl
  subst hl
  simp
def mk_Occ (k : Nat) (_x : Occ) : Occ := ⟨(k : Int), mkT (k + 1)⟩
def ct_Occ (_x : Occ) : Nat := 2
theorem PutG.apart {w W W' : World} {b o : Nat} {X G : List Nat} {vs : List Value} (h : PutG w b o X vs W) (ha : Apart G W W') (hb : b ∉ G) (hG : ∀ k ∈ G, k ∈ X) : PutG w b o X vs W' := by
  obtain ⟨⟨bs, bs', t, h1, h2, h3, h4, h5⟩, hf, hs, e1, e2, e3⟩ := h
  exact ⟨⟨bs, bs', t, h1, (ha.block b (blk_lt h2) hb).trans h2, h3, h4, h5⟩, fun k hk hkb hX => (ha.block k (by omega) (fun hm => hX (hG k hm))).trans (hf k hk hkb hX), Nat.le_trans hs ha.size, ha.os.trans e1, ha.tape.trans e2, ha.output.trans e3⟩
theorem half_len {α : Type} {mk : Nat → α → α} {ct : α → Nat} {xs : List α} {k j : Nat} (h : j ≤ xs.length) : (mkL mk ct k (xs.take j) ++ xs.drop j).length = xs.length := by
  rw [List.length_append, mkL_len, List.length_take, List.length_drop]
  omega
theorem OccR.mk (D : Nat) (W : World) (k : Nat) (x : Occ) (hk : k + 1 ≤ 1099511627776) : OccR D W (mk_Occ k x) [.int .i64 (k : Int), .string (mkT (k + 1))] [] :=
  ⟨rfl, ⟨by simp [mk_Occ, Lit.wf, IntKind.min, IntKind.max, IntKind.signed, IntKind.bits]; omega, mkT_small hk⟩, rfl, rfl, rfl⟩
set_option maxRecDepth 100000 in
set_option maxHeartbeats 1000000 in
theorem m_Occ (D C k : Nat) (xs : List Occ) (v : Value) (F : List Nat) (w : World) (hs : SlR 2 (OccR D) w xs v F) (hf : Fresh C w F) (hk : 1 ≤ k) (hkn : k + ctL ct_Occ xs ≤ 1099511627776) :
    Calls Try.prog 22 #[v, .int .i64 k] w fun en w' => en = .returned (.int .i64 ((k + ctL ct_Occ xs : Nat) : Int)) ∧ SlR 2 (OccR D) w' (mkL mk_Occ ct_Occ k xs) v F ∧ Fresh C w' F ∧ Apart F w w' := by
  obtain ⟨A, cap, rfl, hlc, hm, hsl⟩ := hs
  rcases hsl with ⟨rfl, rfl⟩ | ⟨b, off, F', rfl, hb, rfl, he⟩
  · go_enter Try.func22, Try.ntmps22
    go_wp2_with fail
    go_loop [1, 5] (fun kv i => kv = .int .i64 k ∧ i = .int .i64 0) (fun _ _ => 0)
    case atStart => exact ⟨rfl, rfl⟩
    case round =>
      obtain ⟨rfl, rfl⟩ := hrel
      go_wp2_with fail
      go_ret
      exact ⟨rfl, ⟨A, cap, rfl, hlc, hm, .inl ⟨rfl, rfl⟩⟩, hf, Apart.refl _ _⟩
  have Hf := hide hf
  have hmm := hm
  unfold maxLen at hmm
  have hlm : xs.length ≤ 9223372036854775807 := by omega
  have Hm := hide (And.intro hlc hm)
  have He := hide he
  have Hct := hide (fun j => ctL_take_le (ct := ct_Occ) xs j)
  clear hf he hlc hm hmm
  go_enter Try.func22, Try.ntmps22
  go_wp2_with fail
  go_loopw [1, 5] (fun kv i wr => ∃ j : Nat, j ≤ xs.length ∧ i = .int .i64 j ∧ kv = .int .i64 ((k + ctL ct_Occ (xs.take j) : Nat) : Int) ∧ Hid (ElR 2 (OccR D) wr b off (mkL mk_Occ ct_Occ k (xs.take j) ++ xs.drop j) F') ∧ Hid (Fresh C wr (b :: F')) ∧ Hid (Apart (b :: F') w wr)) (fun _ i _ => xs.length - (intOf i).toNat)
  case atStart => exact ⟨0, by omega, rfl, rfl, hide (by simpa [mkL] using He.out), Hf, hide (Apart.refl _ _)⟩
  case round =>
    obtain ⟨j, hj, rfl, rfl, Hel, Hfr, Ha⟩ := hrel
    by_cases hlt : j < xs.length
    · have hx : xs[j]? = some xs[j] := List.getElem?_eq_getElem hlt
      generalize xs[j] = x at hx
      have Hx := hide hx
      have hstep := Hct.out (j + 1)
      rw [ctL_take hx] at hstep
      have hstep : ctL ct_Occ (xs.take j) + 2 ≤ ctL ct_Occ xs := hstep
      obtain ⟨cs, F1, Fk, F2, hFeq, hcat, hR, g1, g2⟩ := ElR.get (OccR.good D) Hel.out (half_at (mk := mk_Occ) (ct := ct_Occ) (k := k) hx)
      obtain ⟨c0, c1, rfl⟩ := list2 ((OccR.good D).len hR)
      obtain ⟨_, hk2, h0, h1, rfl⟩ := hR
      obtain rfl := Option.some.inj h0
      obtain rfl := Option.some.inj h1
      obtain ⟨bs, t, hblk⟩ := Hfr.out.cells b (by simp)
      have hP0 : PutG wr b (off + j * 2) [] [] wr := PutG.nil hblk
      obtain ⟨e0, e1⟩ := hcat.two
      have f0 := hP0.frozen (off + j * 2)
      have hj0 : (0 : Int) ≤ (j : Int) := by omega
      have hj1 : (j : Int) < (xs.length : Int) := by omega
      have Hg1 := hide g1
      have Hg2 := hide g2
      have HFeq := hide hFeq
      have HP0 := hide hP0
      have He1 := hide e1
      generalize hkq : k + ctL ct_Occ (xs.take j) = q
      have Hkq := hide hkq
      have hq1 : 1 ≤ q := by omega
      have hq2 : q + 2 ≤ 1099511627776 := by omega
      clear hx hcat hk2 h0 h1 hblk g1 g2 hFeq hP0 hkq hstep e1
      go_wp2_with fail
      have hP1 := HP0.out.store (.int .i64 (q : Int)) e0
      simp only [List.length_nil, Nat.add_zero, List.nil_append] at hP1
      refine (l_markText (q + 1) (by omega) (by omega) _).mono ?_
      rintro e w2 ⟨rfl, hb2⟩
      have hP2 := hP1.below hb2
      have e1 : w2.cell? ⟨b, off + j * 2 + 1, none⟩ = some (.string x.name) := hP2.cell (by simp) He1.out
      have f1 := hP2.frozen (off + j * 2 + 1)
      have HP2 := hide hP2
      have He1' := hide e1
      clear hP1 hb2 hP2
      go_wp2_with fail
      have hP3 := HP2.out.store (.string (mkT (q + 1))) He1'.out
      simp only [List.length_cons, List.length_nil, Nat.zero_add, List.cons_append, List.nil_append] at hP3
      have Hfr3 := hide (hP3.fresh Hfr.out)
      have hnd := Hfr.out.nodup
      have hsame : ∀ k ∈ F', (w2.setCell ⟨b, off + j * 2 + 1, none⟩ (.string (mkT (q + 1)))).heap[k]? = wr.heap[k]? := fun k hk => hP3.far k (Hfr.out.lt k (by simp [hk])) (fun e => by rw [List.nodup_cons] at hnd; exact hnd.1 (e ▸ hk)) (by simp)
      have hset := ElR.set (OccR.good D) hP3.size (by rw [half_len (by omega)]; exact hlt) Hg1.out Hg2.out (OccR.mk D _ q x (by omega)) hP3.cellsAt
        (fun i hi => hP3.same rfl i (by rw [Nat.add_mul] at hi; omega)) (fun k hk => hsame k (by rw [HFeq.out]; simp [hk])) (fun k hk => hsame k (by rw [HFeq.out]; simp [hk]))
      have hnext := half_next (mk := mk_Occ) (ct := ct_Occ) (k := k) Hx.out
      rw [Hkq.out] at hnext
      rw [hnext] at hset
      have hcnt : q + 2 = k + ctL ct_Occ (xs.take (j + 1)) := by rw [ctL_take Hx.out, ← Hkq.out]; rfl
      have Hap : Hid (Apart (b :: F') w (w2.setCell ⟨b, off + j * 2 + 1, none⟩ (.string (mkT (q + 1))))) := hide (Ha.out.trans ⟨hP3.os, hP3.tape, hP3.output, hP3.size, fun k hk hF => hP3.far k hk (fun e => hF (by simp [e])) (by simp)⟩)
      exact ⟨⟨j + 1, by omega, by go_num, by rw [← hcnt]; go_num, hide (by rw [HFeq.out]; exact hset), Hfr3, Hap⟩, by simp [intOf]; omega⟩
    · have hjn : j = xs.length := by omega
      have Htl : Hid (xs.take xs.length = xs) := hide List.take_length
      subst hjn
      go_wp2_with fail
      go_ret
      have h1 := Hel.out
      rw [List.take_length, List.drop_length, List.append_nil] at h1
      refine ⟨ret_int (by rw [Htl.out]), ⟨some ⟨b, off, none⟩, cap, by rw [mkL_len], by rw [mkL_len]; exact Hm.out.1, Hm.out.2, .inr ⟨b, off, F', rfl, Hfr.out.lt b (by simp), rfl, h1⟩⟩, Hfr.out, Ha.out⟩
theorem mkL_at {α : Type} {mk : Nat → α → α} {ct : α → Nat} {xs : List α} {k j : Nat} {x : α} (h : xs[j]? = some x) : (mkL mk ct k xs)[j]? = some (mk (k + ctL ct (xs.take j)) x) := by
  have hj := (List.getElem?_eq_some_iff.1 h).1
  have h1 := mkL_append (mk := mk) (ct := ct) (xs.take j) (xs.drop j) k
  rw [List.take_append_drop] at h1
  have hl : (mkL mk ct k (xs.take j)).length = j := by rw [mkL_len]; simp; omega
  have hd : xs.drop j = x :: xs.drop (j + 1) := by
    rw [List.drop_eq_getElem_cons hj]
    rw [List.getElem?_eq_getElem hj] at h
    rw [Option.some.inj h]
  rw [h1, List.getElem?_append_right (by omega), hl, Nat.sub_self, hd]
  rfl
set_option maxRecDepth 100000 in
set_option maxHeartbeats 1000000 in
theorem hd_Occ (D k : Nat) (xs : List Occ) (v : Value) (F : List Nat) (w : World) (hs : SlR 2 (OccR D) w (mkL mk_Occ ct_Occ k xs) v F) (hk : 1 ≤ k) (hkn : k + ctL ct_Occ xs ≤ 1099511627776) :
    Calls Try.prog 23 #[v, .int .i64 k] w fun en w' => en = .returned (.int .i64 ((k + ctL ct_Occ xs : Nat) : Int)) ∧ Below w.heap.size w w' := by
  obtain ⟨A, cap, rfl, hlc, hm⟩ := hs.form
  have HF := hide (hs.lt (OccR.good D))
  have Hs := hide hs
  rw [mkL_len] at hlc hs ⊢
  unfold maxLen at hm
  have hlm : xs.length ≤ 9223372036854775807 := by omega
  have Hct := hide (fun j => ctL_take_le (ct := ct_Occ) xs j)
  have Htl : Hid (xs.take xs.length = xs) := hide List.take_length
  clear hs hlc hm
  go_enter Try.func23, Try.ntmps23
  go_wp2_with fail
  go_loopw [1, 5] (fun kv i wr => ∃ j : Nat, j ≤ xs.length ∧ i = .int .i64 j ∧ kv = .int .i64 ((k + ctL ct_Occ (xs.take j) : Nat) : Int) ∧ Hid (Below w.heap.size w wr)) (fun _ i _ => xs.length - (intOf i).toNat)
  case atStart => exact ⟨0, by omega, rfl, rfl, hide (Below.refl _ _)⟩
  case round =>
    obtain ⟨j, hj, rfl, rfl, Hb⟩ := hrel
    by_cases hlt : j < xs.length
    · have hx : xs[j]? = some xs[j] := List.getElem?_eq_getElem hlt
      generalize xs[j] = x at hx
      have hstep := Hct.out (j + 1)
      rw [ctL_take hx] at hstep
      have hstep : ctL ct_Occ (xs.take j) + 2 ≤ ctL ct_Occ xs := hstep
      have hcnt : Hid (ctL ct_Occ (xs.take (j + 1)) = ctL ct_Occ (xs.take j) + 2) := hide (ctL_take hx)
      obtain ⟨b, off, cs, Fk, hA, _, hbF, hFk, hcl, hcat, hR⟩ := SlR.get (OccR.good D) (Hs.out.below (OccR.good D) Hb.out HF.out) (mkL_at hx)
      subst hA
      obtain ⟨c0, c1, rfl⟩ := list2 hcl
      obtain ⟨_, _, h0, h1, rfl⟩ := hR
      obtain rfl := Option.some.inj h0
      obtain rfl := Option.some.inj h1
      have hblt := Nat.lt_of_lt_of_le (HF.out b hbF) Hb.out.size
      generalize hkq : k + ctL ct_Occ (xs.take j) = q at hcat ⊢
      have Hkq := hide hkq
      have e0 : ∀ W : World, Below wr.heap.size wr W → W.cell? ⟨b, off + j * 2, none⟩ = some (.int .i64 (q : Int)) := fun W h => (hcat.below h hblt) 0 _ rfl
      have e1 : ∀ W : World, Below wr.heap.size wr W → W.cell? ⟨b, off + j * 2 + 1, none⟩ = some (.string (mkT (q + 1))) := fun W h => (hcat.below h hblt) 1 _ rfl
      have hq1 : 1 ≤ q := by omega
      have hq2 : q + 2 ≤ 1099511627776 := by omega
      have hj0 : (0 : Int) ≤ (j : Int) := by omega
      have hj1 : (j : Int) < (xs.length : Int) := by omega
      have hrr : Below wr.heap.size wr wr := Below.refl _ _
      clear hx hcat hFk hbF hcl h0 h1 hstep
      clear hkq
      go_wp2_with fail
      go_region_held3 (fun W => Below wr.heap.size wr W)
        (first | assumption | exact Below.drew (by assumption))
        ((go_at_call 66; refine Calls.mono (l_markText (q + 1) (by omega) (by omega) _) ?_; rintro en w2 ⟨rfl, hb2⟩; have hB2 : Below wr.heap.size wr w2 := below_step (by (repeat (first | assumption | apply Below.drew))) (Nat.le_refl _) hb2; clear hb2))
      have HB2 : Hid (Below w.heap.size w w2) := hide (Hb.out.trans (hB2.mono Hb.out.size))
      clear hB2
      go_wp2_with fail
      go_roundw
      case rel => exact ⟨j + 1, by omega, by go_num, by rw [hcnt.out, ← Nat.add_assoc, Hkq.out]; go_num, HB2⟩
      case measure => simp [intOf]; omega
    · have hjn : j = xs.length := by omega
      subst hjn
      go_wp2_with fail
      go_ret
      exact ⟨ret_int (by rw [Htl.out]), Hb.out⟩
end Go.Proofs.Ytaihdnlpdibkoaa
