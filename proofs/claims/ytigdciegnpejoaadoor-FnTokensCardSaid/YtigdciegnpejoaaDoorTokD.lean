/- Tokens drawn: what the reference's generator hands out can be read and is short. Conditions: the bytes drawn from can be read. -/
import Derived.Test.YtigdciegnpejoaaDoorTokT
import Derived.Test.YtigdciegnpejoaaDoorDrawN
import Derived.Test.YtigdciegnpejoaaDoorFmtK
import Derived.Test.YtigdciegnpejoaaDoorOwnR
namespace Go.Proofs.YtigdciegnpejoaaDoor
set_option maxRecDepth 100000
open Go.RowKit Go.WideShapes
set_option linter.unusedVariables false

theorem OwnS.grown2 {α : Type} {n B : Nat} {R : CR α} {e : TypeId} {w w' : World} {xs : List α} {v : Value} {F : List Nat} (hR : Good n R) (h : OwnS n R B e w xs v F) {b : Nat} (hb : b < B) (hg : w.grownBy w' (some b)) : OwnS n R B e w' xs v F := by
  have hk : ∀ k, B ≤ k → k < w.heap.size → w'.heap[k]? = w.heap[k]? := fun k h1 h2 => hg.block k h2 (fun e => by injection e; omega)
  have hF : ∀ k ∈ F, w'.heap[k]? = w.heap[k]? := fun k hk' => hk k (h.fresh.from_ k hk') (h.fresh.lt k hk')
  have hblk := h.blk
  obtain ⟨⟨cl, ⟨h1, h2⟩, hel⟩, h3, h4⟩ := h
  refine ⟨⟨cl, ⟨h1, ?_⟩, hel.frame hR hg.size hF⟩, h3.keep hF, h4⟩
  rcases h2 with h2 | ⟨g, cap, cur, h5, h6, h7, h8⟩
  · exact .inl h2
  · have hg2 := hblk g (by rw [h5]; rfl)
    exact .inr ⟨g, cap, cur, h5, h6, (hk g hg2.1 hg2.2).trans h7, h8⟩
theorem Cur.base2 {w w' : World} {b B : Nat} (h : Cur w b) (hb : Below B w w') (hB : b < B) : Cur w' b := by
  obtain ⟨A, n, c, zs, i, x, hh, h1, h2, hr, hz⟩ := h
  exact ⟨A, n, c, zs, i, x, (hb.block b hB).trans hh, h1, h2, hr.keep fun p hp => hb.cell (by omega), hz⟩
theorem grown_base2 {w w1 w2 : World} {b B : Nat} (h : w.grownBy w1 (some b)) (hg : Below B w1 w2) (hB : w.heap.size ≤ B) : w.grownBy w2 (some b) :=
  ⟨hg.os.trans h.os, hg.tape.trans h.tape, hg.output.trans h.output, Nat.le_trans h.size hg.size, fun k hk hne => (hg.block k (by omega)).trans (h.block k hk hne)⟩
theorem ElL.snoc_inv {α : Type} {R : CR α} {w : World} {y : α} : ∀ {xs : List α} {cl : List Value} {F : List Nat}, ElL R w (xs ++ [y]) cl F → ∃ c1 c2 F1 F2, cl = c1 ++ c2 ∧ F = F1 ++ F2 ∧ ElL R w xs c1 F1 ∧ R w y c2 F2
  | [], cl, F, h => by
    obtain ⟨cs, cr, F1, F2, rfl, rfl, h1, h2⟩ := h
    obtain ⟨rfl, rfl⟩ := h2
    exact ⟨[], cs, [], F1, by simp, by simp, ⟨rfl, rfl⟩, h1⟩
  | x :: r, cl, F, h => by
    obtain ⟨cs, cr, F1, F2, rfl, rfl, h1, h2⟩ := h
    obtain ⟨c1, c2, G1, G2, rfl, rfl, h3, h4⟩ := ElL.snoc_inv h2
    exact ⟨cs ++ c1, c2, F1 ++ G1, G2, by simp, by simp, ⟨cs, c1, F1, G1, rfl, rfl, h1, h3⟩, h4⟩
theorem ElL.len {α : Type} {n : Nat} {R : CR α} (hR : Good n R) {w : World} : ∀ {xs : List α} {cl : List Value} {F : List Nat}, ElL R w xs cl F → cl.length = xs.length * n
  | [], cl, F, h => by rw [h.1]; simp
  | x :: r, cl, F, h => by
    obtain ⟨cs, cr, F1, F2, rfl, rfl, h1, h2⟩ := h
    rw [List.length_append, hR.len h1, ElL.len hR h2, List.length_cons, Nat.succ_mul]
    omega
/-- The last element of an owned row overwritten. -/
theorem OwnS.setLast {α : Type} {n B : Nat} {R : CR α} {e : TypeId} {w w' : World} {xs : List α} {x y : α} {g c : Nat} (hR : Good n R) (hpl : ∀ w x cs F, R w x cs F → F = []) (h : OwnS n R B e w (xs ++ [y]) (.slice (some ⟨g, 0, none⟩) (xs.length + 1) c) [])
    {old cs : Array Value} {cl : List Value} (hold : w.heap[g]? = some (.cells old e (0, 0))) (hP : Put w g (xs.length * n) cl old e w') (hx : R w' x cl []) : OwnS n R B e w' (xs ++ [x]) (.slice (some ⟨g, 0, none⟩) (xs.length + 1) c) [] := by
  obtain ⟨⟨cl0, ⟨h1, h2⟩, hel⟩, h3, h4⟩ := h
  have hsz : w.heap.size ≤ w'.heap.size := by rw [hP.size]; exact Nat.le_refl _
  obtain ⟨c1, c2, F1, F2, rfl, hF, e1, e2⟩ := hel.snoc_inv
  have hF1 : F1 = [] := (List.append_eq_nil_iff.1 hF.symm).1
  subst hF1
  have l1 := e1.len hR
  have l2 := hR.len e2
  have l3 := hR.len hx
  have e1' := e1.frame hR hsz (fun k hk => by cases hk)
  rcases h2 with ⟨h2, _⟩ | ⟨g', cap, cur, hv, hB, hb, hn, hm, hc, ht⟩
  · cases h2
  injection hv with hv1 hv2 hv3
  injection hv1 with hv1
  injection hv1 with hv1
  subst hv1
  rw [hold] at hb
  injection hb with hb
  injection hb with hb
  subst hb
  obtain ⟨cur', hb', hs', hout, hin⟩ := hP.blk
  refine ⟨⟨c1 ++ cl, ⟨?_, .inr ⟨g, cap, cur', by rw [hv3]; simp, hB, hb', by simpa using hn, hm, by rw [hs']; exact hc, ?_⟩⟩, ElL.snoc hx e1'⟩, Fresh.nil _ _, by simp⟩
  · rw [List.length_append] at h1 ⊢
    rw [List.length_append] at h1 ⊢
    simp only [List.length_cons, List.length_nil] at h1 ⊢
    omega
  · have hlen : (xs ++ [x]).length = (xs ++ [y]).length := by simp
    rw [hlen]
    have hcz : (xs ++ [y]).length * n ≤ old.size := by rw [hc]; exact Nat.mul_le_mul_right _ hn
    have hxy : (xs ++ [y]).length * n = xs.length * n + n := by rw [List.length_append, List.length_cons, List.length_nil, Nat.add_mul, Nat.one_mul]
    apply List.ext_getElem?
    intro i
    by_cases hi : i < (xs ++ [y]).length * n
    · rw [List.getElem?_take, if_pos hi, Array.getElem?_toList]
      by_cases hi2 : i < xs.length * n
      · rw [hout i (.inl hi2), List.getElem?_append_left (by omega)]
        have := congrArg (·[i]?) ht
        simp only [List.getElem?_take, if_pos hi, Array.getElem?_toList] at this
        rw [this, List.getElem?_append_left (by omega)]
      · rw [List.getElem?_append_right (by omega), l1]
        have hil : i - xs.length * n < cl.length := by omega
        have := hin (i - xs.length * n) _ (List.getElem?_eq_getElem hil)
        rw [show xs.length * n + (i - xs.length * n) = i by omega] at this
        rw [this, List.getElem?_eq_getElem hil]
    · rw [List.getElem?_eq_none (by rw [List.length_take]; omega), List.getElem?_eq_none (by rw [List.length_append]; omega)]
/-- A token drawn. -/
def DrawnT (b : Nat) (w : World) (e : Ending) (w' : World) : Prop := ∃ t : Tkn, e = .returned (.agg #[.int .i64 t.kind, .int .i64 t.n, .int .i64 t.off, .string t.text]) ∧ t.ok ∧ t.text.size ≤ 32 ∧ Cur w' b ∧ w.grownBy w' (some b)
set_option maxRecDepth 100000 in
set_option maxHeartbeats 2000000 in
theorem s_l5Token {b : Nat} {w : World} (hc : Cur w b) : Calls Tryd.prog 97 #[.pointer (some ⟨b, 0, none⟩)] w (DrawnT b w) := by
  have hlt := hc.lt
  have Hi : Hid ((Tryd.prog.info? 48).map (·.size) = some 4) := hide (by kernel_rfl)
  go_enter Tryd.func97, Tryd.ntmps97
  go_wp2_with fail
  have hb0 : Below w.heap.size w (w.alloc (.cells #[.int .i64 0, .int .i64 0, .int .i64 0, .string ⟨#[]⟩] 48)) := (Below.refl _ _).alloc (Nat.le_refl _) _
  have zb0 := heap_alloc_new w (.cells #[.int .i64 0, .int .i64 0, .int .i64 0, .string ⟨#[]⟩] 48)
  have hz0 := World.size_alloc w (.cells #[.int .i64 0, .int .i64 0, .int .i64 0, .string ⟨#[]⟩] 48)
  have hc0 := hc.below hb0
  have hg0 : w.grownBy (w.alloc (.cells #[.int .i64 0, .int .i64 0, .int .i64 0, .string ⟨#[]⟩] 48)) (some b) := ⟨hb0.os, hb0.tape, hb0.output, hb0.size, fun k hk _ => hb0.block k hk⟩
  generalize w.alloc (.cells #[.int .i64 0, .int .i64 0, .int .i64 0, .string ⟨#[]⟩] 48) = W0 at hb0 zb0 hz0 hc0 hg0 ⊢
  refine (s_l1Below hc0 3 (by omega) (by omega)).mono ?_
  rintro e w2 ⟨x, rfl, hx0, hx1, hc2, hg2⟩
  have zb2 : w2.heap[w.heap.size]? = some (.cells #[.int .i64 0, .int .i64 0, .int .i64 0, .string ⟨#[]⟩] 48 (0, 0)) := (hg2.block _ (by omega) (by intro e; injection e; omega)).trans zb0
  have hgw := grown_trans2 hg0 hg2
  have hw2 : w.heap.size < w2.heap.size := blk_lt zb2
  have hx : x = 0 ∨ x = 1 ∨ x = 2 := by omega
  clear hb0 zb0 hz0 hc0 hg0 hx0 hx1
  rcases hx with rfl | rfl | rfl
  · have hp := s_pickNewS hc2 [⟨#[97]⟩, ⟨#[120, 49]⟩, ⟨#[105, 102]⟩, ⟨#[109, 97, 120]⟩, ⟨#[97, 98, 99, 100, 101, 102, 103, 104]⟩] (by decide) (by decide) (by decide)
    simp only [List.map_cons, List.map_nil, List.length_cons, List.length_nil] at hp
    have Hp := hide hp
    clear hp
    go_wp2_with (first
      | (go_at_call 62; refine Calls.mono Hp.out ?_; rintro e w3 ⟨y, rfl, hy, hc3, hg3⟩; have zb3 : w3.heap[w.heap.size]? = some (.cells #[.int .i64 0, .int .i64 0, .int .i64 0, .string ⟨#[]⟩] 48 (0, 0)) := (hg3.block _ (by omega) (by intro e; injection e; omega)).trans zb2; have Zb3 := hide zb3; clear zb3)
      | (refine wpList_store_at 48 (.tmp 2) (.tmp 10) (cs := [.int .i64 1, .int .i64 0, .int .i64 0, .string y]) rfl Hi.out rfl rfl rfl rfl (by simp [Value.oneCell']) Zb3.out (by decide) ?_; intro WF hP; have HP := hide hP; clear hP))
    have hc := HP.out.cellsAt
    have x0 := hc 0 _ rfl
    have x1 := hc 1 _ rfl
    have x2 := hc 2 _ rfl
    have x3 := hc 3 _ rfl
    simp only [Nat.zero_add] at x0 x1 x2 x3
    have hBF : Below w.heap.size w3 WF := HP.out.below (Nat.le_refl _)
    exact bodyPost_ret (v := .agg #[.int .i64 1, .int .i64 0, .int .i64 0, .string y]) (by simp [results, Tryd.results97, go_sem, x0, x1, x2, x3]) rfl ⟨⟨1, 0, 0, y⟩, rfl, ⟨show (Lit.int .i64 1).wf = true by decide, show (Lit.int .i64 0).wf = true by decide, show (Lit.int .i64 0).wf = true by decide, by show y.size ≤ maxLen; unfold maxLen; omega⟩, hy, hc3.base2 hBF hlt, grown_base2 (grown_trans2 hgw hg3) hBF (Nat.le_refl _)⟩
  · have hp := s_pickNew hc2 [0, 1, 12, 1000000] 0 1000000 (by decide) (by decide) (by decide)
    simp only [List.map_cons, List.map_nil, List.length_cons, List.length_nil] at hp
    have Hp := hide hp
    clear hp
    go_wp2_with (first
      | (go_at_call 71; refine Calls.mono Hp.out ?_; rintro e w3 ⟨y, rfl, hy0, hy1, hc3, hg3⟩; have zb3 : w3.heap[w.heap.size]? = some (.cells #[.int .i64 0, .int .i64 0, .int .i64 0, .string ⟨#[]⟩] 48 (0, 0)) := (hg3.block _ (by omega) (by intro e; injection e; omega)).trans zb2; have Zb3 := hide zb3; clear zb3)
      | (refine wpList_store_at 48 (.tmp 2) (.tmp 16) (cs := [.int .i64 2, .int .i64 y, .int .i64 0, .string ⟨#[]⟩]) rfl Hi.out rfl rfl rfl rfl (by simp [Value.oneCell']) Zb3.out (by decide) ?_; intro WF hP; have HP := hide hP; clear hP))
    have hc := HP.out.cellsAt
    have x0 := hc 0 _ rfl
    have x1 := hc 1 _ rfl
    have x2 := hc 2 _ rfl
    have x3 := hc 3 _ rfl
    simp only [Nat.zero_add] at x0 x1 x2 x3
    have hBF : Below w.heap.size w3 WF := HP.out.below (Nat.le_refl _)
    exact bodyPost_ret (v := .agg #[.int .i64 2, .int .i64 y, .int .i64 0, .string ⟨#[]⟩]) (by simp [results, Tryd.results97, go_sem, x0, x1, x2, x3]) rfl ⟨⟨2, y, 0, ⟨#[]⟩⟩, rfl, ⟨show (Lit.int .i64 2).wf = true by decide, by have e1 : IntKind.i64.min = -9223372036854775808 := rfl; have e2 : IntKind.i64.max = 9223372036854775807 := rfl; show (Lit.int .i64 y).wf = true; simp [Lit.wf, e1, e2]; omega, show (Lit.int .i64 0).wf = true by decide, show (0 : Nat) ≤ maxLen by decide⟩, by show (0 : Nat) ≤ 32; decide, hc3.base2 hBF hlt, grown_base2 (grown_trans2 hgw hg3) hBF (Nat.le_refl _)⟩
  · have hp := s_pickNewS hc2 [⟨#[40]⟩, ⟨#[41]⟩, ⟨#[123]⟩, ⟨#[125]⟩, ⟨#[44]⟩, ⟨#[46]⟩, ⟨#[36]⟩, ⟨#[43]⟩, ⟨#[45]⟩, ⟨#[42]⟩, ⟨#[60]⟩, ⟨#[61, 61]⟩, ⟨#[124]⟩, ⟨#[38]⟩, ⟨#[92]⟩] (by decide) (by decide) (by decide)
    simp only [List.map_cons, List.map_nil, List.length_cons, List.length_nil] at hp
    have Hp := hide hp
    clear hp
    go_wp2_with (first
      | (go_at_call 62; refine Calls.mono Hp.out ?_; rintro e w3 ⟨y, rfl, hy, hc3, hg3⟩; have zb3 : w3.heap[w.heap.size]? = some (.cells #[.int .i64 0, .int .i64 0, .int .i64 0, .string ⟨#[]⟩] 48 (0, 0)) := (hg3.block _ (by omega) (by intro e; injection e; omega)).trans zb2; have Zb3 := hide zb3; clear zb3)
      | (refine wpList_store_at 48 (.tmp 2) (.tmp 20) (cs := [.int .i64 3, .int .i64 0, .int .i64 0, .string y]) rfl Hi.out rfl rfl rfl rfl (by simp [Value.oneCell']) Zb3.out (by decide) ?_; intro WF hP; have HP := hide hP; clear hP))
    have hc := HP.out.cellsAt
    have x0 := hc 0 _ rfl
    have x1 := hc 1 _ rfl
    have x2 := hc 2 _ rfl
    have x3 := hc 3 _ rfl
    simp only [Nat.zero_add] at x0 x1 x2 x3
    have hBF : Below w.heap.size w3 WF := HP.out.below (Nat.le_refl _)
    exact bodyPost_ret (v := .agg #[.int .i64 3, .int .i64 0, .int .i64 0, .string y]) (by simp [results, Tryd.results97, go_sem, x0, x1, x2, x3]) rfl ⟨⟨3, 0, 0, y⟩, rfl, ⟨show (Lit.int .i64 3).wf = true by decide, show (Lit.int .i64 0).wf = true by decide, show (Lit.int .i64 0).wf = true by decide, by show y.size ≤ maxLen; unfold maxLen; omega⟩, hy, hc3.base2 hBF hlt, grown_base2 (grown_trans2 hgw hg3) hBF (Nat.le_refl _)⟩
theorem OwnS.block {α : Type} {n B : Nat} {R : CR α} {e : TypeId} {w : World} {xs : List α} {y : α} {v : Value} {F : List Nat} (h : OwnS n R B e w (xs ++ [y]) v F) : ∃ g c old, v = .slice (some ⟨g, 0, none⟩) (xs.length + 1) c ∧ w.heap[g]? = some (.cells old e (0, 0)) ∧ xs.length * n + n ≤ old.size ∧ B ≤ g := by
  obtain ⟨⟨cl, ⟨h1, h2⟩, hel⟩, h3, h4⟩ := h
  rcases h2 with ⟨_, h0⟩ | ⟨g, cap, cur, rfl, hB, hb, hn, hm, hc, ht⟩
  · simp at h0
  · refine ⟨g, cap, cur, by simp, hb, ?_, hB⟩
    rw [hc]
    have := Nat.mul_le_mul_right n hn
    rw [List.length_append, List.length_cons, List.length_nil, Nat.add_mul] at this
    omega
theorem TknR.plain (D : Nat) : ∀ w x cs F, TknR D w x cs F → F = [] := fun w x cs F h => h.2.2.2.2.2.2
/-- A list of tokens drawn. -/
def DrawnTL (b : Nat) (w : World) (e : Ending) (w' : World) : Prop := ∃ xs v G, e = .returned v ∧ xs.length ≤ 81 ∧ (∀ x ∈ xs, x.ok ∧ x.text.size ≤ 32) ∧ SlR 4 (TknR 0) w' xs v G ∧ Cur w' b ∧ w.grownBy w' (some b)
set_option maxRecDepth 100000 in
set_option maxHeartbeats 4000000 in
theorem s_l5Tokens {b : Nat} {w : World} (hc : Cur w b) : Calls Tryd.prog 81 #[.pointer (some ⟨b, 0, none⟩)] w (DrawnTL b w) := by
  have hlt := hc.lt
  have Hi : Hid ((Tryd.prog.info? 48).map (·.size) = some 4) := hide (by kernel_rfl)
  go_enter Tryd.func81, Tryd.ntmps81
  go_wp2_with fail
  have hb0 : Below w.heap.size w (w.alloc (.cells #[] 48)) := (Below.refl _ _).alloc (Nat.le_refl _) _
  have ho0 : OwnS 4 (TknR 0) w.heap.size 48 (w.alloc (.cells #[] 48)) [] (.slice (some ⟨w.heap.size, 0, none⟩) 0 0) [] := OwnS.made (n := 4) (R := TknR 0) (e := 48) w (Nat.le_refl _)
  have hc0 := hc.below hb0
  have hg0 : w.grownBy (w.alloc (.cells #[] 48)) (some b) := ⟨hb0.os, hb0.tape, hb0.output, hb0.size, fun k hk _ => hb0.block k hk⟩
  generalize w.alloc (.cells #[] 48) = W0 at hb0 ho0 hc0 hg0 ⊢
  refine (s_l1Below hc0 9 (by omega) (by omega)).mono ?_
  rintro e w1 ⟨n, rfl, hn0, hn1, hc1, hg1⟩
  have ho1 := ho0.grown2 (TknR.good 0) hlt hg1
  have hgw := grown_trans2 hg0 hg1
  clear hb0 ho0 hc0 hg0 hg1
  go_wp2_with fail
  refine (s_l1Once hc1 20 (by omega) (by omega)).mono ?_
  rintro e w2 ⟨x, rfl, hc2, hg2⟩
  have ho2 := ho1.grown2 (TknR.good 0) hlt hg2
  have hgw2 := grown_trans2 hgw hg2
  clear ho1 hgw hc1 hg2
  cases x
  · obtain ⟨N, rfl⟩ := Int.eq_ofNat_of_zero_le hn0
    have hN : N ≤ 81 := by omega
    have hNn : (N : Int) ≤ 81 := by omega
    clear hn0 hn1
    as_aux_lemma =>
      go_wp2_with fail
      go_loopw [3, 5] (fun o i wr => ∃ (j : Nat) (xs : List Tkn), j ≤ N ∧ i = .int .i64 j ∧ xs.length = j ∧ Hid (∀ x ∈ xs, x.ok ∧ x.text.size ≤ 32) ∧ Hid (OwnS 4 (TknR 0) w.heap.size 48 wr xs o []) ∧ Hid (Cur wr b) ∧ Hid (w.grownBy wr (some b))) (fun _ i _ => N - (intOf i).toNat)
      case atStart => exact ⟨0, [], by omega, rfl, rfl, hide (by simp), hide ho2, hide hc2, hide hgw2⟩
      case round =>
        obtain ⟨j, xs, hj, rfl, hxl, Hx, Ho, Hc, Hg⟩ := hrel
        clear ho2 hc2 hgw2
        by_cases hlt2 : j < N
        · have hjI : (j : Int) < (N : Int) := by omega
          go_wp2_with fail
          refine (s_l5Token Hc.out).mono ?_
          rintro e w4 ⟨y, rfl, hyok, hy, hc4, hg4⟩
          have Ho4 := hide (Ho.out.grown2 (TknR.good 0) hlt hg4)
          have Hg4 := hide (grown_trans2 Hg.out hg4)
          have Hc4 := hide hc4
          have Hyk := hide hyok
          clear hc4 hg4 hyok
          have Hz := hide Hg4.out.size
          have hxl2 : xs.length ≤ 1048576 := by omega
          by_cases h20 : 20 < N
          · have h20I : (20 : Int) < (N : Int) := by omega
            have hj0 : (0 : Int) ≤ (j : Int) := by omega
            have hjl2 : (j : Int) < (xs.length : Int) + 1 := by omega
            go_wp2_with (first
              | (at_builtin; refine app_ownS rfl (.tmp 19) (.tmp 22) 41 48 rfl Tryd.underlying41 infoTkn rfl (by decide) (TknR.good 0) w4 w4 w.heap.size _ xs [] Ho4.out rfl (Below.refl _ _) y [.int .i64 y.kind, .int .i64 y.n, .int .i64 y.off, .string y.text] [] ⟨rfl, Hyk.out, rfl, rfl, rfl, rfl, rfl⟩ (Fresh.nil _ _) (by simp [Value.oneCell']) rfl (by omega) (by omega) Hz.out ?_; intro v1 w5 hown hbl; obtain ⟨g5, c5, old5, rfl, hg5, hz5, hB5⟩ := hown.block; have Hown := hide hown; have Hbl := hide hbl; have Hg5 := hide hg5; clear hown hbl hg5)
              | (refine wpList_store_at 48 (.tmp 29) (.tmp 28) (off := j * 4) (cs := [.int .i64 1, .int .i64 0, .int .i64 0, .string ⟨#[97]⟩]) rfl Hi.out rfl rfl rfl rfl (by simp [Value.oneCell']) Hg5.out (by omega) ?_; intro WF hP; have HP := hide hP; clear hP))
            have hown6 : OwnS 4 (TknR 0) w.heap.size 48 WF (xs ++ [⟨1, 0, 0, ⟨#[97]⟩⟩]) (.slice (some ⟨g5, 0, none⟩) (xs.length + 1) c5) [] := OwnS.setLast (TknR.good 0) (TknR.plain 0) (old := old5) (cs := #[]) (cl := [.int .i64 1, .int .i64 0, .int .i64 0, .string ⟨#[97]⟩]) Hown.out Hg5.out (by rw [hxl]; exact HP.out) ⟨rfl, ⟨show (Lit.int .i64 1).wf = true by decide, show (Lit.int .i64 0).wf = true by decide, show (Lit.int .i64 0).wf = true by decide, show (1 : Nat) ≤ maxLen by decide⟩, rfl, rfl, rfl, rfl, rfl⟩
            have Hown6 := hide hown6
            have HB6 : Hid (Below w.heap.size w4 WF) := hide (Hbl.out.trans (HP.out.below hB5))
            clear hown6
            go_wp2_with fail
            go_roundw
            case rel => exact ⟨j + 1, xs ++ [⟨1, 0, 0, ⟨#[97]⟩⟩], by omega, by go_num, by simp [hxl], hide (fun x hx => by rcases List.mem_append.1 hx with h | h; exact Hx.out x h; rw [List.mem_singleton.1 h]; exact ⟨⟨show (Lit.int .i64 1).wf = true by decide, show (Lit.int .i64 0).wf = true by decide, show (Lit.int .i64 0).wf = true by decide, show (1 : Nat) ≤ maxLen by decide⟩, show (1 : Nat) ≤ 32 by decide⟩), hide (by have h := Hown6.out; rw [hxl] at h; exact h), hide (Hc4.out.base2 HB6.out hlt), hide (grown_base2 Hg4.out HB6.out (Nat.le_refl _))⟩
            case measure => simp [intOf]; omega
          · have h20I : ¬ (20 : Int) < (N : Int) := by omega
            go_wp2_with (at_builtin; refine app_ownS rfl (.tmp 19) (.tmp 22) 41 48 rfl Tryd.underlying41 infoTkn rfl (by decide) (TknR.good 0) w4 w4 w.heap.size _ xs [] Ho4.out rfl (Below.refl _ _) y [.int .i64 y.kind, .int .i64 y.n, .int .i64 y.off, .string y.text] [] ⟨rfl, Hyk.out, rfl, rfl, rfl, rfl, rfl⟩ (Fresh.nil _ _) (by simp [Value.oneCell']) rfl (by omega) (by omega) Hz.out ?_; intro v1 w5 hown hbl; have Hown := hide hown; have Hbl := hide hbl; clear hown hbl)
            go_wp2_with fail
            go_roundw
            case rel => exact ⟨j + 1, xs ++ [y], by omega, by go_num, by simp [hxl], hide (fun x hx => by rcases List.mem_append.1 hx with h | h; exact Hx.out x h; rw [List.mem_singleton.1 h]; exact ⟨Hyk.out, hy⟩), hide Hown.out, hide (Hc4.out.base2 Hbl.out hlt), hide (grown_base2 Hg4.out Hbl.out (Nat.le_refl _))⟩
            case measure => simp [intOf]; omega
        · have hjl : j = N := by omega
          subst hjl
          go_wp2_with fail
          go_ret
          obtain ⟨G, h1, h2⟩ := Ho.out.slr (TknR.good 0)
          exact ⟨xs, _, G, rfl, by omega, Hx.out, h1, Hc.out, Hg.out⟩
  · go_wp2_with fail
    refine (s_l1Below hc2 4 (by omega) (by omega)).mono ?_
    rintro e w3 ⟨m, rfl, hm0, hm1, hc3, hg3⟩
    have ho3 := ho2.grown2 (TknR.good 0) hlt hg3
    have hgw3 := grown_trans2 hgw2 hg3
    obtain ⟨M, rfl⟩ := Int.eq_ofNat_of_zero_le hm0
    clear ho2 hgw2 hc2 hg3 hn0 hn1 hm0
    have ho2 := ho3
    have hgw2 := hgw3
    have hc2 := hc3
    clear ho3 hgw3 hc3
    have hM3 : (M : Int) ≤ 3 := by omega
    clear hm1
    as_aux_lemma =>
      go_wp2_with fail
      obtain ⟨N, hNI⟩ : ∃ N : Nat, 78 + (M : Int) = N := ⟨78 + M, by omega⟩
      have hN : N ≤ 81 := by omega
      have hNn : (N : Int) ≤ 81 := by omega
      rw [hNI]
      clear hNI
      go_loopw [3, 5] (fun o i wr => ∃ (j : Nat) (xs : List Tkn), j ≤ N ∧ i = .int .i64 j ∧ xs.length = j ∧ Hid (∀ x ∈ xs, x.ok ∧ x.text.size ≤ 32) ∧ Hid (OwnS 4 (TknR 0) w.heap.size 48 wr xs o []) ∧ Hid (Cur wr b) ∧ Hid (w.grownBy wr (some b))) (fun _ i _ => N - (intOf i).toNat)
      case atStart => exact ⟨0, [], by omega, rfl, rfl, hide (by simp), hide ho2, hide hc2, hide hgw2⟩
      case round =>
        obtain ⟨j, xs, hj, rfl, hxl, Hx, Ho, Hc, Hg⟩ := hrel
        clear ho2 hc2 hgw2
        by_cases hlt2 : j < N
        · have hjI : (j : Int) < (N : Int) := by omega
          go_wp2_with fail
          refine (s_l5Token Hc.out).mono ?_
          rintro e w4 ⟨y, rfl, hyok, hy, hc4, hg4⟩
          have Ho4 := hide (Ho.out.grown2 (TknR.good 0) hlt hg4)
          have Hg4 := hide (grown_trans2 Hg.out hg4)
          have Hc4 := hide hc4
          have Hyk := hide hyok
          clear hc4 hg4 hyok
          have Hz := hide Hg4.out.size
          have hxl2 : xs.length ≤ 1048576 := by omega
          by_cases h20 : 20 < N
          · have h20I : (20 : Int) < (N : Int) := by omega
            have hj0 : (0 : Int) ≤ (j : Int) := by omega
            have hjl2 : (j : Int) < (xs.length : Int) + 1 := by omega
            go_wp2_with (first
              | (at_builtin; refine app_ownS rfl (.tmp 19) (.tmp 22) 41 48 rfl Tryd.underlying41 infoTkn rfl (by decide) (TknR.good 0) w4 w4 w.heap.size _ xs [] Ho4.out rfl (Below.refl _ _) y [.int .i64 y.kind, .int .i64 y.n, .int .i64 y.off, .string y.text] [] ⟨rfl, Hyk.out, rfl, rfl, rfl, rfl, rfl⟩ (Fresh.nil _ _) (by simp [Value.oneCell']) rfl (by omega) (by omega) Hz.out ?_; intro v1 w5 hown hbl; obtain ⟨g5, c5, old5, rfl, hg5, hz5, hB5⟩ := hown.block; have Hown := hide hown; have Hbl := hide hbl; have Hg5 := hide hg5; clear hown hbl hg5)
              | (refine wpList_store_at 48 (.tmp 29) (.tmp 28) (off := j * 4) (cs := [.int .i64 1, .int .i64 0, .int .i64 0, .string ⟨#[97]⟩]) rfl Hi.out rfl rfl rfl rfl (by simp [Value.oneCell']) Hg5.out (by omega) ?_; intro WF hP; have HP := hide hP; clear hP))
            have hown6 : OwnS 4 (TknR 0) w.heap.size 48 WF (xs ++ [⟨1, 0, 0, ⟨#[97]⟩⟩]) (.slice (some ⟨g5, 0, none⟩) (xs.length + 1) c5) [] := OwnS.setLast (TknR.good 0) (TknR.plain 0) (old := old5) (cs := #[]) (cl := [.int .i64 1, .int .i64 0, .int .i64 0, .string ⟨#[97]⟩]) Hown.out Hg5.out (by rw [hxl]; exact HP.out) ⟨rfl, ⟨show (Lit.int .i64 1).wf = true by decide, show (Lit.int .i64 0).wf = true by decide, show (Lit.int .i64 0).wf = true by decide, show (1 : Nat) ≤ maxLen by decide⟩, rfl, rfl, rfl, rfl, rfl⟩
            have Hown6 := hide hown6
            have HB6 : Hid (Below w.heap.size w4 WF) := hide (Hbl.out.trans (HP.out.below hB5))
            clear hown6
            go_wp2_with fail
            go_roundw
            case rel => exact ⟨j + 1, xs ++ [⟨1, 0, 0, ⟨#[97]⟩⟩], by omega, by go_num, by simp [hxl], hide (fun x hx => by rcases List.mem_append.1 hx with h | h; exact Hx.out x h; rw [List.mem_singleton.1 h]; exact ⟨⟨show (Lit.int .i64 1).wf = true by decide, show (Lit.int .i64 0).wf = true by decide, show (Lit.int .i64 0).wf = true by decide, show (1 : Nat) ≤ maxLen by decide⟩, show (1 : Nat) ≤ 32 by decide⟩), hide (by have h := Hown6.out; rw [hxl] at h; exact h), hide (Hc4.out.base2 HB6.out hlt), hide (grown_base2 Hg4.out HB6.out (Nat.le_refl _))⟩
            case measure => simp [intOf]; omega
          · have h20I : ¬ (20 : Int) < (N : Int) := by omega
            go_wp2_with (at_builtin; refine app_ownS rfl (.tmp 19) (.tmp 22) 41 48 rfl Tryd.underlying41 infoTkn rfl (by decide) (TknR.good 0) w4 w4 w.heap.size _ xs [] Ho4.out rfl (Below.refl _ _) y [.int .i64 y.kind, .int .i64 y.n, .int .i64 y.off, .string y.text] [] ⟨rfl, Hyk.out, rfl, rfl, rfl, rfl, rfl⟩ (Fresh.nil _ _) (by simp [Value.oneCell']) rfl (by omega) (by omega) Hz.out ?_; intro v1 w5 hown hbl; have Hown := hide hown; have Hbl := hide hbl; clear hown hbl)
            go_wp2_with fail
            go_roundw
            case rel => exact ⟨j + 1, xs ++ [y], by omega, by go_num, by simp [hxl], hide (fun x hx => by rcases List.mem_append.1 hx with h | h; exact Hx.out x h; rw [List.mem_singleton.1 h]; exact ⟨Hyk.out, hy⟩), hide Hown.out, hide (Hc4.out.base2 Hbl.out hlt), hide (grown_base2 Hg4.out Hbl.out (Nat.le_refl _))⟩
            case measure => simp [intOf]; omega
        · have hjl : j = N := by omega
          subst hjl
          go_wp2_with fail
          go_ret
          obtain ⟨G, h1, h2⟩ := Ho.out.slr (TknR.good 0)
          exact ⟨xs, _, G, rfl, by omega, Hx.out, h1, Hc.out, Hg.out⟩
end Go.Proofs.YtigdciegnpejoaaDoor
