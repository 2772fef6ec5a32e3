/- Expressions of any form drawn. Conditions: the bytes drawn from can be read. -/
import Derived.Test.YtaihdnlpdibkoaaExE
namespace Go.Proofs.Ytaihdnlpdibkoaa
set_option maxRecDepth 100000
open Go.RowKit Go.WideShapes
set_option linter.unusedVariables false

def kF : Nat → Int
  | 0 => 64
  | n + 1 => 3 * kF n + 100
theorem kF_ge : ∀ n, 64 ≤ kF n
  | 0 => Int.le_refl _
  | n + 1 => by have := kF_ge n; simp only [kF]; omega
theorem bulk_mk (d : Nat) (h : ExH) (l : List Ex) : bulkE (d + 1) (.mk h l) = h.symbol.size + h.name.size + (l.length + sumBy (bulkE d) l) := rfl
theorem ExR.putX {n n0 p o : Nat} {W WF : World} {e : Ex} {us cs : List Value} {G : List Nat} {c : Array Value} {T : TypeId} (h : ExR n W e us G) (hf : Fresh n0 W G) (hP : Put W p o cs c T WF) (hp : p < n0) : ExR n WF e us G ∧ Fresh n0 WF G := by
  have hk : ∀ k ∈ G, WF.heap[k]? = W.heap[k]? := fun k hk => hP.far k (by have := hf.from_ k hk; omega)
  exact ⟨(ExR.good n).frame h hk (by rw [hP.size]; exact Nat.le_refl _), hf.keep hk⟩
theorem Fresh.consX {B g : Nat} {w : World} {F : List Nat} (h : Fresh B w F) (hg : g ∉ F) (hB : B ≤ g) {cs : Array Value} {t : TypeId} (hc : w.heap[g]? = some (.cells cs t (0, 0))) : Fresh B w (g :: F) :=
  ⟨List.nodup_cons.2 ⟨hg, h.nodup⟩, fun k hk => by rcases List.mem_cons.1 hk with rfl | hk; exact hB; exact h.from_ k hk, fun k hk => by rcases List.mem_cons.1 hk with rfl | hk; exact ⟨cs, t, hc⟩; exact h.cells k hk⟩
def FrP (b n : Nat) : Prop := ∀ w : World, Cur w b → Calls Try.prog 129 #[.pointer (some ⟨b, 0, none⟩), .int .i64 ((n : Int) + 1)] w (DrX (n + 1) (kF n) b w)
set_option maxRecDepth 100000 in
set_option maxHeartbeats 8000000 in
theorem s_free0 {b : Nat} {w : World} (hc : Cur w b) : Calls Try.prog 129 #[.pointer (some ⟨b, 0, none⟩), .int .i64 (1)] w (DrX (0 + 1) (kF 0) b w) := by
  have hlt := hc.lt
  have Hi : Hid ((Try.prog.info? 52).map (·.size) = some 7) := hide (by kernel_rfl)
  have hb0 : Below w.heap.size w (w.alloc (.cells #[.int .i64 0, .int .i64 0, .int .i64 0, .int .i64 0, .string ⟨#[]⟩, .string ⟨#[]⟩, .slice none 0 0] 52)) := (Below.refl _ _).alloc (Nat.le_refl _) _
  have Hz0 := hide (heap_alloc_new w (.cells #[.int .i64 0, .int .i64 0, .int .i64 0, .int .i64 0, .string ⟨#[]⟩, .string ⟨#[]⟩, .slice none 0 0] 52))
  have Hc0 := hide (hc.below hb0)
  have Hg0 := hide (grown_of (b := b) hb0)
  have hsz0 : w.heap.size + 1 ≤ (w.alloc (.cells #[.int .i64 0, .int .i64 0, .int .i64 0, .int .i64 0, .string ⟨#[]⟩, .string ⟨#[]⟩, .slice none 0 0] 52)).heap.size := by simp
  clear hc hb0
  go_enter Try.func129, Try.ntmps129
  go_wp2_with fail
  generalize w.alloc (.cells #[.int .i64 0, .int .i64 0, .int .i64 0, .int .i64 0, .string ⟨#[]⟩, .string ⟨#[]⟩, .slice none 0 0] 52) = W0 at Hz0 Hc0 Hg0 hsz0 ⊢
  go_wp2_with fail
  refine (s_l1Once Hc0.out 5 (by omega) (by omega)).mono ?_
  rintro en W1 ⟨k5, rfl, hc_, hg_⟩
  have Hz1 : Hid (W1.heap[w.heap.size]? = some (.cells #[.int .i64 0, .int .i64 0, .int .i64 0, .int .i64 0, .string ⟨#[]⟩, .string ⟨#[]⟩, .slice none 0 0] 52 (0, 0))) := hide ((hg_.block _ (blk_lt Hz0.out) (by intro e; injection e; omega)).trans Hz0.out)
  have Hg1 := hide (grown_trans2 Hg0.out hg_)
  have Hs1 : Hid (W0.grownBy W1 (some b)) := hide hg_
  have Hc1 := hide hc_
  have hsz1 : w.heap.size + 1 ≤ W1.heap.size := Nat.le_trans hsz0 hg_.size
  clear hc_ hg_
  cases k5
  · go_wp2_with fail
    refine (s_l1Once Hc1.out 6 (by omega) (by omega)).mono ?_
    rintro en W2 ⟨k6, rfl, hc_, hg_⟩
    have Hz2 : Hid (W2.heap[w.heap.size]? = some (.cells #[.int .i64 0, .int .i64 0, .int .i64 0, .int .i64 0, .string ⟨#[]⟩, .string ⟨#[]⟩, .slice none 0 0] 52 (0, 0))) := hide ((hg_.block _ (blk_lt Hz1.out) (by intro e; injection e; omega)).trans Hz1.out)
    have Hg2 := hide (grown_trans2 Hg1.out hg_)
    have Hs2 : Hid (W1.grownBy W2 (some b)) := hide hg_
    have Hc2 := hide hc_
    have hsz2 : w.heap.size + 1 ≤ W2.heap.size := Nat.le_trans hsz1 hg_.size
    clear hc_ hg_
    cases k6
    · go_wp2_with fail
      refine (s_l1Below Hc2.out 4 (by omega) (by omega)).mono ?_
      rintro en W3 ⟨x, rfl, hx0, hx1, hc_, hg_⟩
      have Hz3 : Hid (W3.heap[w.heap.size]? = some (.cells #[.int .i64 0, .int .i64 0, .int .i64 0, .int .i64 0, .string ⟨#[]⟩, .string ⟨#[]⟩, .slice none 0 0] 52 (0, 0))) := hide ((hg_.block _ (blk_lt Hz2.out) (by intro e; injection e; omega)).trans Hz2.out)
      have Hg3 := hide (grown_trans2 Hg2.out hg_)
      have Hs3 : Hid (W2.grownBy W3 (some b)) := hide hg_
      have Hc3 := hide hc_
      have hsz3 : w.heap.size + 1 ≤ W3.heap.size := Nat.le_trans hsz2 hg_.size
      clear hc_ hg_
      go_wp2_with fail
      refine (s_l1Below Hc3.out 4 (by omega) (by omega)).mono ?_
      rintro en W4 ⟨p, rfl, hp0, hp1, hc_, hg_⟩
      have Hz4 : Hid (W4.heap[w.heap.size]? = some (.cells #[.int .i64 0, .int .i64 0, .int .i64 0, .int .i64 0, .string ⟨#[]⟩, .string ⟨#[]⟩, .slice none 0 0] 52 (0, 0))) := hide ((hg_.block _ (blk_lt Hz3.out) (by intro e; injection e; omega)).trans Hz3.out)
      have Hg4 := hide (grown_trans2 Hg3.out hg_)
      have Hs4 : Hid (W3.grownBy W4 (some b)) := hide hg_
      have Hc4 := hide hc_
      have hsz4 : w.heap.size + 1 ≤ W4.heap.size := Nat.le_trans hsz3 hg_.size
      clear hc_ hg_
      go_wp2_with fail
      refine (s_l2Name Hc4.out).mono ?_
      rintro en W5 ⟨m, rfl, hm, hc_, hg_⟩
      have Hz5 : Hid (W5.heap[w.heap.size]? = some (.cells #[.int .i64 0, .int .i64 0, .int .i64 0, .int .i64 0, .string ⟨#[]⟩, .string ⟨#[]⟩, .slice none 0 0] 52 (0, 0))) := hide ((hg_.block _ (blk_lt Hz4.out) (by intro e; injection e; omega)).trans Hz4.out)
      have Hg5 := hide (grown_trans2 Hg4.out hg_)
      have Hs5 : Hid (W4.grownBy W5 (some b)) := hide hg_
      have Hc5 := hide hc_
      have hsz5 : w.heap.size + 1 ≤ W5.heap.size := Nat.le_trans hsz4 hg_.size
      clear hc_ hg_
      have hbr : Below W5.heap.size W5 (W5.alloc (.cells #[.int .i64 p, .string m] 65)) := (Below.refl _ _).alloc (Nat.le_refl _) _
      have Hcr := hide (Hc5.out.below hbr)
      have Hrow := hide (heap_alloc_new W5 (.cells #[.int .i64 p, .string m] 65))
      have Hgr := hide (mk_base Hg5.out hbr Hg5.out.size)
      have Hzr := hide (blk_below Hz5.out hbr (blk_lt Hz5.out))
      have hszr : w.heap.size + 1 ≤ (W5.alloc (.cells #[.int .i64 p, .string m] 65)).heap.size := Nat.le_trans hsz5 hbr.size
      have hgb : W5.heap.size ≠ b := by have := hsz5; omega
      clear hbr
      go_wp2_with fail
      refine (s_l4Leaf Hcr.out (0) (1 + x) (by omega) (by omega) W5.heap.size p hp0 (by omega) m hm Hrow.out hgb).mono ?_
      rintro en WL ⟨e, A, G, rfl, hR, hf, hbk, hcL, hgL⟩
      have HzL := hide ((hgL.block _ (blk_lt Hzr.out) (by intro e; injection e; omega)).trans Hzr.out)
      have HgL := hide (grown_trans2 Hgr.out hgL)
      have HcL := hide hcL
      have HR := hide hR
      have Hf := hide hf
      clear hR hf hcL hgL
      obtain ⟨⟨h0, h1, h2, h3, h4, h5⟩, l⟩ := e
      simp only [Ex.h, Ex.args, ExH.cells] at HR ⊢
      go_wp2_with (refine wpList_store_at 52 (.tmp 4) (.tmp 29) (cs := [.int .i64 h0, .int .i64 h1, .int .i64 h2, .int .i64 h3, .string h4, .string h5, .slice A l.length l.length]) rfl Hi.out rfl rfl rfl rfl (by simp [Value.oneCell']) HzL.out (by decide) ?_; intro WF hP; have HP := hide hP; clear hP)
      obtain ⟨x0, x1, x2, x3, x4, x5, x6⟩ := HP.out.cellsAt.seven0
      have hbF : Below w.heap.size WL WF := HP.out.below (Nat.le_refl _)
      have hcF : Cur WF b := HcL.out.baseU hbF hlt
      have hgF : w.grownBy WF (some b) := mk_base HgL.out hbF (Nat.le_refl _)
      obtain ⟨hRF, hfF⟩ := ExR.putX HR.out Hf.out HP.out (by omega)
      exact bodyPost_ret (v := .agg #[.int .i64 h0, .int .i64 h1, .int .i64 h2, .int .i64 h3, .string h4, .string h5, .slice A l.length l.length]) (by simp [results, Try.results129, go_sem, x0, x1, x2, x3, x4, x5, x6]) rfl (⟨.mk ⟨h0, h1, h2, h3, h4, h5⟩ l, A, G, rfl, hRF, hfF.mono (by omega), Int.le_trans hbk (kF_ge 0), hcF, hgF⟩)
    · go_wp2_with fail
      refine (s_l1Below Hc2.out 4 (by omega) (by omega)).mono ?_
      rintro en W3 ⟨x, rfl, hx0, hx1, hc_, hg_⟩
      have Hz3 : Hid (W3.heap[w.heap.size]? = some (.cells #[.int .i64 0, .int .i64 0, .int .i64 0, .int .i64 0, .string ⟨#[]⟩, .string ⟨#[]⟩, .slice none 0 0] 52 (0, 0))) := hide ((hg_.block _ (blk_lt Hz2.out) (by intro e; injection e; omega)).trans Hz2.out)
      have Hg3 := hide (grown_trans2 Hg2.out hg_)
      have Hs3 : Hid (W2.grownBy W3 (some b)) := hide hg_
      have Hc3 := hide hc_
      have hsz3 : w.heap.size + 1 ≤ W3.heap.size := Nat.le_trans hsz2 hg_.size
      clear hc_ hg_
      go_wp2_with (refine wpList_store_at 52 (.tmp 4) (.tmp 18) (cs := [.int .i64 6, .int .i64 0, .int .i64 x, .int .i64 0, .string ⟨#[]⟩, .string ⟨#[]⟩, .slice none 0 0]) rfl Hi.out rfl rfl rfl rfl (by simp [Value.oneCell']) Hz3.out (by decide) ?_; intro WF hP; have HP := hide hP; clear hP)
      obtain ⟨x0, x1, x2, x3, x4, x5, x6⟩ := HP.out.cellsAt.seven0
      have hbF : Below w.heap.size W3 WF := HP.out.below (Nat.le_refl _)
      have hcF : Cur WF b := Hc3.out.baseU hbF hlt
      have hgF : w.grownBy WF (some b) := mk_base Hg3.out hbF (Nat.le_refl _)
      exact bodyPost_ret (v := .agg #[.int .i64 6, .int .i64 0, .int .i64 x, .int .i64 0, .string ⟨#[]⟩, .string ⟨#[]⟩, .slice none 0 0]) (by simp [results, Try.results129, go_sem, x0, x1, x2, x3, x4, x5, x6]) rfl (DrX.leaf ⟨6, 0, x, 0, ⟨#[]⟩, ⟨#[]⟩⟩ (exh_ok ⟨by omega, by omega⟩ ⟨by omega, by omega⟩ ⟨by omega, by omega⟩ ⟨by omega, by omega⟩ (by decide) (by decide)) (by show ((0 : Nat) : Int) + ((0 : Nat) : Int) ≤ kF 0; have := kF_ge 0; omega) hcF hgF)
  · go_wp2_with (refine wpList_store_at 52 (.tmp 4) (.tmp 13) (cs := [.int .i64 2, .int .i64 0, .int .i64 0, .int .i64 0, .string ⟨#[]⟩, .string ⟨#[]⟩, .slice none 0 0]) rfl Hi.out rfl rfl rfl rfl (by simp [Value.oneCell']) Hz1.out (by decide) ?_; intro WF hP; have HP := hide hP; clear hP)
    obtain ⟨x0, x1, x2, x3, x4, x5, x6⟩ := HP.out.cellsAt.seven0
    have hbF : Below w.heap.size W1 WF := HP.out.below (Nat.le_refl _)
    have hcF : Cur WF b := Hc1.out.baseU hbF hlt
    have hgF : w.grownBy WF (some b) := mk_base Hg1.out hbF (Nat.le_refl _)
    exact bodyPost_ret (v := .agg #[.int .i64 2, .int .i64 0, .int .i64 0, .int .i64 0, .string ⟨#[]⟩, .string ⟨#[]⟩, .slice none 0 0]) (by simp [results, Try.results129, go_sem, x0, x1, x2, x3, x4, x5, x6]) rfl (DrX.leaf ⟨2, 0, 0, 0, ⟨#[]⟩, ⟨#[]⟩⟩ (exh_ok ⟨by omega, by omega⟩ ⟨by omega, by omega⟩ ⟨by omega, by omega⟩ ⟨by omega, by omega⟩ (by decide) (by decide)) (by show ((0 : Nat) : Int) + ((0 : Nat) : Int) ≤ kF 0; have := kF_ge 0; omega) hcF hgF)
set_option maxRecDepth 100000 in
set_option maxHeartbeats 8000000 in
theorem s_freeS {b : Nat} {n : Nat} (hn100 : n ≤ 100) (hI : FrP b n) {w : World} (hc : Cur w b) : Calls Try.prog 129 #[.pointer (some ⟨b, 0, none⟩), .int .i64 ((n : Int) + 1 + 1)] w (DrX (n + 1 + 1) (kF (n + 1)) b w) := by
  have hlt := hc.lt
  have Hi : Hid ((Try.prog.info? 52).map (·.size) = some 7) := hide (by kernel_rfl)
  have hb0 : Below w.heap.size w (w.alloc (.cells #[.int .i64 0, .int .i64 0, .int .i64 0, .int .i64 0, .string ⟨#[]⟩, .string ⟨#[]⟩, .slice none 0 0] 52)) := (Below.refl _ _).alloc (Nat.le_refl _) _
  have Hz0 := hide (heap_alloc_new w (.cells #[.int .i64 0, .int .i64 0, .int .i64 0, .int .i64 0, .string ⟨#[]⟩, .string ⟨#[]⟩, .slice none 0 0] 52))
  have Hc0 := hide (hc.below hb0)
  have Hg0 := hide (grown_of (b := b) hb0)
  have hsz0 : w.heap.size + 1 ≤ (w.alloc (.cells #[.int .i64 0, .int .i64 0, .int .i64 0, .int .i64 0, .string ⟨#[]⟩, .string ⟨#[]⟩, .slice none 0 0] 52)).heap.size := by simp
  have hnn : ¬ ((n : Int) + 1 + 1 < 2) := by omega
  have hwr : wrap64 ((n : Int) + 1) = (n : Int) + 1 := by unfold wrap64; omega
  have HI := hide hI
  clear hI
  clear hc hb0
  go_enter Try.func129, Try.ntmps129
  go_wp2_with fail
  generalize w.alloc (.cells #[.int .i64 0, .int .i64 0, .int .i64 0, .int .i64 0, .string ⟨#[]⟩, .string ⟨#[]⟩, .slice none 0 0] 52) = W0 at Hz0 Hc0 Hg0 hsz0 ⊢
  refine (s_l1Once Hc0.out 4 (by omega) (by omega)).mono ?_
  rintro en W1 ⟨k4, rfl, hc_, hg_⟩
  have Hz1 : Hid (W1.heap[w.heap.size]? = some (.cells #[.int .i64 0, .int .i64 0, .int .i64 0, .int .i64 0, .string ⟨#[]⟩, .string ⟨#[]⟩, .slice none 0 0] 52 (0, 0))) := hide ((hg_.block _ (blk_lt Hz0.out) (by intro e; injection e; omega)).trans Hz0.out)
  have Hg1 := hide (grown_trans2 Hg0.out hg_)
  have Hs1 : Hid (W0.grownBy W1 (some b)) := hide hg_
  have Hc1 := hide hc_
  have hsz1 : w.heap.size + 1 ≤ W1.heap.size := Nat.le_trans hsz0 hg_.size
  clear hc_ hg_
  cases k4
  · go_wp2_with fail
    refine (s_l1Below Hc1.out 5 (by omega) (by omega)).mono ?_
    rintro en W2 ⟨x, rfl, hx0, hx1, hc_, hg_⟩
    have Hz2 : Hid (W2.heap[w.heap.size]? = some (.cells #[.int .i64 0, .int .i64 0, .int .i64 0, .int .i64 0, .string ⟨#[]⟩, .string ⟨#[]⟩, .slice none 0 0] 52 (0, 0))) := hide ((hg_.block _ (blk_lt Hz1.out) (by intro e; injection e; omega)).trans Hz1.out)
    have Hg2 := hide (grown_trans2 Hg1.out hg_)
    have Hs2 : Hid (W1.grownBy W2 (some b)) := hide hg_
    have Hc2 := hide hc_
    have hsz2 : w.heap.size + 1 ≤ W2.heap.size := Nat.le_trans hsz1 hg_.size
    clear hc_ hg_
    have hw1 : (n : Int) + 1 + 1 - 1 = (n : Int) + 1 := by omega
    by_cases hx2 : x = 0
    · subst hx2
      go_wp2_with fail
      refine (HI.out W2 Hc2.out).mono ?_
      rintro en W3 ⟨e1, A1, G1, rfl, hR, hf, hk1, hc_, hg_⟩
      have Hz3 : Hid (W3.heap[w.heap.size]? = some (.cells #[.int .i64 0, .int .i64 0, .int .i64 0, .int .i64 0, .string ⟨#[]⟩, .string ⟨#[]⟩, .slice none 0 0] 52 (0, 0))) := hide ((hg_.block _ (blk_lt Hz2.out) (by intro e; injection e; omega)).trans Hz2.out)
      have Hg3 := hide (grown_trans2 Hg2.out hg_)
      have Hc3 := hide hc_
      have hsz3 : w.heap.size + 1 ≤ W3.heap.size := Nat.le_trans hsz2 hg_.size
      have Hlt1 : Hid (∀ k ∈ G1, W2.heap.size ≤ k ∧ k < W3.heap.size) := hide fun k hk => ⟨hf.from_ k hk, hf.lt k hk⟩
      have hms1 : W2.heap.size ≤ W3.heap.size := hg_.size
      generalize e1.h.cells (.slice A1 e1.args.length e1.args.length) = us1 at hR ⊢
      have Hon1 := hide (ExR.one hR)
      obtain ⟨u10, u11, u12, u13, u14, u15, u16, rfl⟩ := list7 ((ExR.good (n + 1)).len hR)
      have HR1 := hide hR
      have Hf1 := hide hf
      clear hR hf hc_ hg_
      go_wp2_with fail
      refine (HI.out W3 Hc3.out).mono ?_
      rintro en W4 ⟨e2, A2, G2, rfl, hR, hf, hk2, hc_, hg_⟩
      have Hz4 : Hid (W4.heap[w.heap.size]? = some (.cells #[.int .i64 0, .int .i64 0, .int .i64 0, .int .i64 0, .string ⟨#[]⟩, .string ⟨#[]⟩, .slice none 0 0] 52 (0, 0))) := hide ((hg_.block _ (blk_lt Hz3.out) (by intro e; injection e; omega)).trans Hz3.out)
      have Hg4 := hide (grown_trans2 Hg3.out hg_)
      have Hc4 := hide hc_
      have hsz4 : w.heap.size + 1 ≤ W4.heap.size := Nat.le_trans hsz3 hg_.size
      obtain ⟨q1, q2⟩ := ExR.grownX HR1.out Hf1.out (show b < W2.heap.size by omega) hg_
      clear HR1 Hf1
      have HR1 := hide q1
      have Hf1 := hide q2
      clear q1 q2
      have Hlt2 : Hid (∀ k ∈ G2, W3.heap.size ≤ k ∧ k < W4.heap.size) := hide fun k hk => ⟨hf.from_ k hk, hf.lt k hk⟩
      have hms2 : W3.heap.size ≤ W4.heap.size := hg_.size
      generalize e2.h.cells (.slice A2 e2.args.length e2.args.length) = us2 at hR ⊢
      have Hon2 := hide (ExR.one hR)
      obtain ⟨u20, u21, u22, u23, u24, u25, u26, rfl⟩ := list7 ((ExR.good (n + 1)).len hR)
      have HR2 := hide hR
      have Hf2 := hide hf
      clear hR hf hc_ hg_
      go_wp2_with fail
      refine (HI.out W4 Hc4.out).mono ?_
      rintro en W5 ⟨e3, A3, G3, rfl, hR, hf, hk3, hc_, hg_⟩
      have Hz5 : Hid (W5.heap[w.heap.size]? = some (.cells #[.int .i64 0, .int .i64 0, .int .i64 0, .int .i64 0, .string ⟨#[]⟩, .string ⟨#[]⟩, .slice none 0 0] 52 (0, 0))) := hide ((hg_.block _ (blk_lt Hz4.out) (by intro e; injection e; omega)).trans Hz4.out)
      have Hg5 := hide (grown_trans2 Hg4.out hg_)
      have Hc5 := hide hc_
      have hsz5 : w.heap.size + 1 ≤ W5.heap.size := Nat.le_trans hsz4 hg_.size
      obtain ⟨q1, q2⟩ := ExR.grownX HR1.out Hf1.out (show b < W2.heap.size by omega) hg_
      clear HR1 Hf1
      have HR1 := hide q1
      have Hf1 := hide q2
      clear q1 q2
      obtain ⟨q1, q2⟩ := ExR.grownX HR2.out Hf2.out (show b < W3.heap.size by omega) hg_
      clear HR2 Hf2
      have HR2 := hide q1
      have Hf2 := hide q2
      clear q1 q2
      have Hlt3 : Hid (∀ k ∈ G3, W4.heap.size ≤ k ∧ k < W5.heap.size) := hide fun k hk => ⟨hf.from_ k hk, hf.lt k hk⟩
      have hms3 : W4.heap.size ≤ W5.heap.size := hg_.size
      generalize e3.h.cells (.slice A3 e3.args.length e3.args.length) = us3 at hR ⊢
      have Hon3 := hide (ExR.one hR)
      obtain ⟨u30, u31, u32, u33, u34, u35, u36, rfl⟩ := list7 ((ExR.good (n + 1)).len hR)
      have HR3 := hide hR
      have Hf3 := hide hf
      clear hR hf hc_ hg_
      have hbr : Below W5.heap.size W5 (W5.alloc (.cells #[u10, u11, u12, u13, u14, u15, u16, u20, u21, u22, u23, u24, u25, u26, u30, u31, u32, u33, u34, u35, u36] 52)) := (Below.refl _ _).alloc (Nat.le_refl _) _
      have Hcr := hide (Hc5.out.below hbr)
      have Hrow := hide (CellsAt.new W5 [u10, u11, u12, u13, u14, u15, u16, u20, u21, u22, u23, u24, u25, u26, u30, u31, u32, u33, u34, u35, u36] 52)
      have Hrw := hide (heap_alloc_new W5 (.cells #[u10, u11, u12, u13, u14, u15, u16, u20, u21, u22, u23, u24, u25, u26, u30, u31, u32, u33, u34, u35, u36] 52))
      have Hgr := hide (mk_base Hg5.out hbr Hg5.out.size)
      have Hzr := hide (blk_below Hz5.out hbr (blk_lt Hz5.out))
      have HX1 : Hid (ExR (n + 1) (W5.alloc (.cells #[u10, u11, u12, u13, u14, u15, u16, u20, u21, u22, u23, u24, u25, u26, u30, u31, u32, u33, u34, u35, u36] 52)) e1 [u10, u11, u12, u13, u14, u15, u16] G1) := hide ((ExR.good (n + 1)).below HR1.out hbr Hf1.out.lt)
      have HY1 := hide (Hf1.out.below hbr)
      have HX2 : Hid (ExR (n + 1) (W5.alloc (.cells #[u10, u11, u12, u13, u14, u15, u16, u20, u21, u22, u23, u24, u25, u26, u30, u31, u32, u33, u34, u35, u36] 52)) e2 [u20, u21, u22, u23, u24, u25, u26] G2) := hide ((ExR.good (n + 1)).below HR2.out hbr Hf2.out.lt)
      have HY2 := hide (Hf2.out.below hbr)
      have HX3 : Hid (ExR (n + 1) (W5.alloc (.cells #[u10, u11, u12, u13, u14, u15, u16, u20, u21, u22, u23, u24, u25, u26, u30, u31, u32, u33, u34, u35, u36] 52)) e3 [u30, u31, u32, u33, u34, u35, u36] G3) := hide ((ExR.good (n + 1)).below HR3.out hbr Hf3.out.lt)
      have HY3 := hide (Hf3.out.below hbr)
      have hszr := hbr.size
      clear hbr
      go_wp2_with (refine wpList_store_at 52 (.tmp 4) (.tmp 47) (cs := [.int .i64 5, .int .i64 0, .int .i64 0, .int .i64 0, .string ⟨#[]⟩, .string ⟨#[]⟩, .slice (some ⟨W5.heap.size, 0, none⟩) 3 3]) rfl Hi.out rfl rfl rfl rfl (by simp [Value.oneCell']) Hzr.out (by decide) ?_; intro WF hP; have HP := hide hP; clear hP)
      obtain ⟨x0, x1, x2, x3, x4, x5, x6⟩ := HP.out.cellsAt.seven0
      have hbF : Below w.heap.size (W5.alloc (.cells #[u10, u11, u12, u13, u14, u15, u16, u20, u21, u22, u23, u24, u25, u26, u30, u31, u32, u33, u34, u35, u36] 52)) WF := HP.out.below (Nat.le_refl _)
      have hcF : Cur WF b := Hcr.out.baseU hbF hlt
      have hgF : w.grownBy WF (some b) := mk_base Hgr.out hbF (Nat.le_refl _)
      obtain ⟨r1, s1⟩ := ExR.putX HX1.out HY1.out HP.out (show w.heap.size < W2.heap.size by omega)
      obtain ⟨r2, s2⟩ := ExR.putX HX2.out HY2.out HP.out (show w.heap.size < W3.heap.size by omega)
      obtain ⟨r3, s3⟩ := ExR.putX HX3.out HY3.out HP.out (show w.heap.size < W4.heap.size by omega)
      have g1 := Hlt1.out
      have g2 := Hlt2.out
      have g3 := Hlt3.out
      have hrow : CellsAt WF W5.heap.size 0 [u10, u11, u12, u13, u14, u15, u16, u20, u21, u22, u23, u24, u25, u26, u30, u31, u32, u33, u34, u35, u36] := Hrow.out.frame (HP.out.far _ (by omega))
      have hrw : WF.heap[W5.heap.size]? = some (.cells #[u10, u11, u12, u13, u14, u15, u16, u20, u21, u22, u23, u24, u25, u26, u30, u31, u32, u33, u34, u35, u36] 52 (0, 0)) := (HP.out.far _ (by omega)).trans Hrw.out
      have hfr : Fresh W2.heap.size WF (G1 ++ (G2 ++ (G3))) := (s1).append ((s2).append (s3) (fun k hk => by have := g2 k hk; omega) (by omega)) (fun k hk => by have := g1 k hk; omega) (by omega)
      have hel : ElR 7 (ExR (n + 1)) WF W5.heap.size 0 [e1, e2, e3] (G1 ++ (G2 ++ (G3))) := ⟨[u10, u11, u12, u13, u14, u15, u16], G1, G2 ++ (G3), rfl, hrow.sub 0 7, r1, ⟨[u20, u21, u22, u23, u24, u25, u26], G2, G3, rfl, hrow.sub 7 7, r2, ⟨[u30, u31, u32, u33, u34, u35, u36], G3, [], (List.append_nil _).symm, hrow.sub 14 7, r3, rfl⟩⟩⟩
      exact bodyPost_ret (v := .agg #[.int .i64 5, .int .i64 0, .int .i64 0, .int .i64 0, .string ⟨#[]⟩, .string ⟨#[]⟩, .slice (some ⟨W5.heap.size, 0, none⟩) 3 3]) (by simp [results, Try.results129, go_sem, x0, x1, x2, x3, x4, x5, x6]) rfl (⟨.mk ⟨5, 0, 0, 0, ⟨#[]⟩, ⟨#[]⟩⟩ [e1, e2, e3], some ⟨W5.heap.size, 0, none⟩, W5.heap.size :: (G1 ++ (G2 ++ (G3))), rfl, ⟨_, rfl, (exh_ok ⟨by omega, by omega⟩ ⟨by omega, by omega⟩ ⟨by omega, by omega⟩ ⟨by omega, by omega⟩ (by decide) (by decide)), ⟨_, 3, rfl, Nat.le_refl _, by simp [maxLen], .inr ⟨_, 0, _, rfl, blk_lt hrw, rfl, hel⟩⟩⟩, (Fresh.consX hfr (fun hk => (by simp only [List.mem_append] at hk; rcases hk with hk | hk | hk; exact absurd (g1 _ hk).2 (by omega); exact absurd (g2 _ hk).2 (by omega); exact absurd (g3 _ hk).2 (by omega))) (by omega) hrw).mono (by omega), by rw [bulk_mk]; simp only [sumBy, kF, List.length_cons, List.length_nil]; have := kF_ge n; have z0 : ((⟨#[]⟩ : ByteArray).size : Int) = 0 := rfl; rw [z0]; omega, hcF, hgF⟩)
    · have hx3 : (x == 0) = false := beq_eq_false_iff_ne.2 hx2
      by_cases hx4 : x = 1
      · subst hx4
        have hp := s_pickNewS Hc2.out [⟨#[115]⟩, ⟨#[116]⟩] (by decide) (by decide) (by decide)
        simp only [List.map_cons, List.map_nil, List.length_cons, List.length_nil] at hp
        have Hp := hide hp
        clear hp
        go_wp2_with (go_at_call 99; refine Calls.mono Hp.out ?_; rintro en W3 ⟨sy, rfl, hsy, hc_, hg_⟩; refine hold ?_)
        have Hz3 : Hid (W3.heap[w.heap.size]? = some (.cells #[.int .i64 0, .int .i64 0, .int .i64 0, .int .i64 0, .string ⟨#[]⟩, .string ⟨#[]⟩, .slice none 0 0] 52 (0, 0))) := hide ((hg_.block _ (blk_lt Hz2.out) (by intro e; injection e; omega)).trans Hz2.out)
        have Hg3 := hide (grown_trans2 Hg2.out hg_)
        have Hc3 := hide hc_
        have hsz3 : w.heap.size + 1 ≤ W3.heap.size := Nat.le_trans hsz2 hg_.size
        clear hc_ hg_ Hp
        refine Hold.go ?_
        go_wp2_with fail
        refine (s_l2Name Hc3.out).mono ?_
        rintro en W4 ⟨m, rfl, hm, hc_, hg_⟩
        have Hz4 : Hid (W4.heap[w.heap.size]? = some (.cells #[.int .i64 0, .int .i64 0, .int .i64 0, .int .i64 0, .string ⟨#[]⟩, .string ⟨#[]⟩, .slice none 0 0] 52 (0, 0))) := hide ((hg_.block _ (blk_lt Hz3.out) (by intro e; injection e; omega)).trans Hz3.out)
        have Hg4 := hide (grown_trans2 Hg3.out hg_)
        have Hs4 : Hid (W3.grownBy W4 (some b)) := hide hg_
        have Hc4 := hide hc_
        have hsz4 : w.heap.size + 1 ≤ W4.heap.size := Nat.le_trans hsz3 hg_.size
        clear hc_ hg_
        go_wp2_with fail
        refine (HI.out W4 Hc4.out).mono ?_
        rintro en W5 ⟨e1, A1, G1, rfl, hR, hf, hk1, hc_, hg_⟩
        have Hz5 : Hid (W5.heap[w.heap.size]? = some (.cells #[.int .i64 0, .int .i64 0, .int .i64 0, .int .i64 0, .string ⟨#[]⟩, .string ⟨#[]⟩, .slice none 0 0] 52 (0, 0))) := hide ((hg_.block _ (blk_lt Hz4.out) (by intro e; injection e; omega)).trans Hz4.out)
        have Hg5 := hide (grown_trans2 Hg4.out hg_)
        have Hc5 := hide hc_
        have hsz5 : w.heap.size + 1 ≤ W5.heap.size := Nat.le_trans hsz4 hg_.size
        have Hlt1 : Hid (∀ k ∈ G1, W4.heap.size ≤ k ∧ k < W5.heap.size) := hide fun k hk => ⟨hf.from_ k hk, hf.lt k hk⟩
        have hms1 : W4.heap.size ≤ W5.heap.size := hg_.size
        generalize e1.h.cells (.slice A1 e1.args.length e1.args.length) = us1 at hR ⊢
        have Hon1 := hide (ExR.one hR)
        obtain ⟨u10, u11, u12, u13, u14, u15, u16, rfl⟩ := list7 ((ExR.good (n + 1)).len hR)
        have HR1 := hide hR
        have Hf1 := hide hf
        clear hR hf hc_ hg_
        have hbr : Below W5.heap.size W5 (W5.alloc (.cells #[u10, u11, u12, u13, u14, u15, u16] 52)) := (Below.refl _ _).alloc (Nat.le_refl _) _
        have Hcr := hide (Hc5.out.below hbr)
        have Hrow := hide (CellsAt.new W5 [u10, u11, u12, u13, u14, u15, u16] 52)
        have Hrw := hide (heap_alloc_new W5 (.cells #[u10, u11, u12, u13, u14, u15, u16] 52))
        have Hgr := hide (mk_base Hg5.out hbr Hg5.out.size)
        have Hzr := hide (blk_below Hz5.out hbr (blk_lt Hz5.out))
        have HX1 : Hid (ExR (n + 1) (W5.alloc (.cells #[u10, u11, u12, u13, u14, u15, u16] 52)) e1 [u10, u11, u12, u13, u14, u15, u16] G1) := hide ((ExR.good (n + 1)).below HR1.out hbr Hf1.out.lt)
        have HY1 := hide (Hf1.out.below hbr)
        have hszr := hbr.size
        clear hbr
        go_wp2_with (refine wpList_store_at 52 (.tmp 4) (.tmp 60) (cs := [.int .i64 8, .int .i64 0, .int .i64 0, .int .i64 0, .string sy, .string m, .slice (some ⟨W5.heap.size, 0, none⟩) 1 1]) rfl Hi.out rfl rfl rfl rfl (by simp [Value.oneCell']) Hzr.out (by decide) ?_; intro WF hP; have HP := hide hP; clear hP)
        obtain ⟨x0, x1, x2, x3, x4, x5, x6⟩ := HP.out.cellsAt.seven0
        have hbF : Below w.heap.size (W5.alloc (.cells #[u10, u11, u12, u13, u14, u15, u16] 52)) WF := HP.out.below (Nat.le_refl _)
        have hcF : Cur WF b := Hcr.out.baseU hbF hlt
        have hgF : w.grownBy WF (some b) := mk_base Hgr.out hbF (Nat.le_refl _)
        obtain ⟨r1, s1⟩ := ExR.putX HX1.out HY1.out HP.out (show w.heap.size < W4.heap.size by omega)
        have g1 := Hlt1.out
        have hrow : CellsAt WF W5.heap.size 0 [u10, u11, u12, u13, u14, u15, u16] := Hrow.out.frame (HP.out.far _ (by omega))
        have hrw : WF.heap[W5.heap.size]? = some (.cells #[u10, u11, u12, u13, u14, u15, u16] 52 (0, 0)) := (HP.out.far _ (by omega)).trans Hrw.out
        have hfr : Fresh W4.heap.size WF (G1) := s1
        have hel : ElR 7 (ExR (n + 1)) WF W5.heap.size 0 [e1] (G1) := ⟨[u10, u11, u12, u13, u14, u15, u16], G1, [], (List.append_nil _).symm, hrow.sub 0 7, r1, rfl⟩
        exact bodyPost_ret (v := .agg #[.int .i64 8, .int .i64 0, .int .i64 0, .int .i64 0, .string sy, .string m, .slice (some ⟨W5.heap.size, 0, none⟩) 1 1]) (by simp [results, Try.results129, go_sem, x0, x1, x2, x3, x4, x5, x6]) rfl (⟨.mk ⟨8, 0, 0, 0, sy, m⟩ [e1], some ⟨W5.heap.size, 0, none⟩, W5.heap.size :: (G1), rfl, ⟨_, rfl, (exh_ok ⟨by omega, by omega⟩ ⟨by omega, by omega⟩ ⟨by omega, by omega⟩ ⟨by omega, by omega⟩ hsy hm), ⟨_, 1, rfl, Nat.le_refl _, by simp [maxLen], .inr ⟨_, 0, _, rfl, blk_lt hrw, rfl, hel⟩⟩⟩, (Fresh.consX hfr (fun hk => (absurd (g1 _ hk).2 (by omega))) (by omega) hrw).mono (by omega), by rw [bulk_mk]; simp only [sumBy, kF, List.length_cons, List.length_nil]; have := kF_ge n; skip; omega, hcF, hgF⟩)
      · have hx5 : (x == 1) = false := beq_eq_false_iff_ne.2 hx4
        go_wp2_with fail
        refine (s_l1Below Hc2.out 12 (by omega) (by omega)).mono ?_
        rintro en W3 ⟨y, rfl, hy0, hy1, hc_, hg_⟩
        have Hz3 : Hid (W3.heap[w.heap.size]? = some (.cells #[.int .i64 0, .int .i64 0, .int .i64 0, .int .i64 0, .string ⟨#[]⟩, .string ⟨#[]⟩, .slice none 0 0] 52 (0, 0))) := hide ((hg_.block _ (blk_lt Hz2.out) (by intro e; injection e; omega)).trans Hz2.out)
        have Hg3 := hide (grown_trans2 Hg2.out hg_)
        have Hs3 : Hid (W2.grownBy W3 (some b)) := hide hg_
        have Hc3 := hide hc_
        have hsz3 : w.heap.size + 1 ≤ W3.heap.size := Nat.le_trans hsz2 hg_.size
        clear hc_ hg_
        go_wp2_with fail
        refine (HI.out W3 Hc3.out).mono ?_
        rintro en W4 ⟨e1, A1, G1, rfl, hR, hf, hk1, hc_, hg_⟩
        have Hz4 : Hid (W4.heap[w.heap.size]? = some (.cells #[.int .i64 0, .int .i64 0, .int .i64 0, .int .i64 0, .string ⟨#[]⟩, .string ⟨#[]⟩, .slice none 0 0] 52 (0, 0))) := hide ((hg_.block _ (blk_lt Hz3.out) (by intro e; injection e; omega)).trans Hz3.out)
        have Hg4 := hide (grown_trans2 Hg3.out hg_)
        have Hc4 := hide hc_
        have hsz4 : w.heap.size + 1 ≤ W4.heap.size := Nat.le_trans hsz3 hg_.size
        have Hlt1 : Hid (∀ k ∈ G1, W3.heap.size ≤ k ∧ k < W4.heap.size) := hide fun k hk => ⟨hf.from_ k hk, hf.lt k hk⟩
        have hms1 : W3.heap.size ≤ W4.heap.size := hg_.size
        generalize e1.h.cells (.slice A1 e1.args.length e1.args.length) = us1 at hR ⊢
        have Hon1 := hide (ExR.one hR)
        obtain ⟨u10, u11, u12, u13, u14, u15, u16, rfl⟩ := list7 ((ExR.good (n + 1)).len hR)
        have HR1 := hide hR
        have Hf1 := hide hf
        clear hR hf hc_ hg_
        go_wp2_with fail
        refine (HI.out W4 Hc4.out).mono ?_
        rintro en W5 ⟨e2, A2, G2, rfl, hR, hf, hk2, hc_, hg_⟩
        have Hz5 : Hid (W5.heap[w.heap.size]? = some (.cells #[.int .i64 0, .int .i64 0, .int .i64 0, .int .i64 0, .string ⟨#[]⟩, .string ⟨#[]⟩, .slice none 0 0] 52 (0, 0))) := hide ((hg_.block _ (blk_lt Hz4.out) (by intro e; injection e; omega)).trans Hz4.out)
        have Hg5 := hide (grown_trans2 Hg4.out hg_)
        have Hc5 := hide hc_
        have hsz5 : w.heap.size + 1 ≤ W5.heap.size := Nat.le_trans hsz4 hg_.size
        obtain ⟨q1, q2⟩ := ExR.grownX HR1.out Hf1.out (show b < W3.heap.size by omega) hg_
        clear HR1 Hf1
        have HR1 := hide q1
        have Hf1 := hide q2
        clear q1 q2
        have Hlt2 : Hid (∀ k ∈ G2, W4.heap.size ≤ k ∧ k < W5.heap.size) := hide fun k hk => ⟨hf.from_ k hk, hf.lt k hk⟩
        have hms2 : W4.heap.size ≤ W5.heap.size := hg_.size
        generalize e2.h.cells (.slice A2 e2.args.length e2.args.length) = us2 at hR ⊢
        have Hon2 := hide (ExR.one hR)
        obtain ⟨u20, u21, u22, u23, u24, u25, u26, rfl⟩ := list7 ((ExR.good (n + 1)).len hR)
        have HR2 := hide hR
        have Hf2 := hide hf
        clear hR hf hc_ hg_
        go_wp2_with fail
        refine (s_l4Op (1 + y) ⟨by omega, by omega⟩ e1 e2 [u10, u11, u12, u13, u14, u15, u16] [u20, u21, u22, u23, u24, u25, u26] G1 G2 W5 HR1.out HR2.out).mono ?_
        rintro en WO ⟨g, rfl, hRO, hgO, hbO, hgc⟩
        have Hcr := hide (Hc5.out.below hbO)
        have Hgr := hide (mk_base Hg5.out hbO Hg5.out.size)
        have Hzr := hide (blk_below Hz5.out hbO (blk_lt Hz5.out))
        have HRO := hide hRO
        have HF1 := hide (Hf1.out.below hbO)
        have HF2 := hide (Hf2.out.below hbO)
        have hszr := hbO.size
        clear hRO hbO
        have hgc := hide hgc
        go_wp2_with (refine wpList_store_at 52 (.tmp 4) (.tmp 72) (cs := [.int .i64 4, .int .i64 (1 + y), .int .i64 0, .int .i64 0, .string ⟨#[]⟩, .string ⟨#[]⟩, .slice (some ⟨g, 0, none⟩) 2 2]) rfl Hi.out rfl rfl rfl rfl (by simp [Value.oneCell']) Hzr.out (by decide) ?_; intro WF hP; have HP := hide hP; clear hP)
        obtain ⟨x0, x1, x2, x3, x4, x5, x6⟩ := HP.out.cellsAt.seven0
        have hbF : Below w.heap.size WO WF := HP.out.below (Nat.le_refl _)
        have hcF : Cur WF b := Hcr.out.baseU hbF hlt
        have hgF : w.grownBy WF (some b) := mk_base Hgr.out hbF (Nat.le_refl _)
        have g1 := Hlt1.out
        have g2 := Hlt2.out
        have hkk : ∀ k ∈ g :: (G1 ++ G2), WF.heap[k]? = WO.heap[k]? := fun k hk => HP.out.far k (by
          rcases List.mem_cons.1 hk with rfl | hk
          · omega
          · rcases List.mem_append.1 hk with hk | hk
            · have := g1 k hk; omega
            · have := g2 k hk; omega)
        have hRF := (ExR.good (n + 1 + 1)).frame HRO.out hkk (by rw [HP.out.size]; exact Nat.le_refl _)
        obtain ⟨cO, tO, hcO⟩ := hgc.out
        have hfr : Fresh W3.heap.size WO (G1 ++ G2) := HF1.out.append HF2.out (fun k hk => by have := g1 k hk; omega) (by omega)
        have hfr2 : Fresh w.heap.size WF (g :: (G1 ++ G2)) := ((Fresh.consX hfr (fun hk => by rcases List.mem_append.1 hk with hk | hk; exact absurd (g1 _ hk).2 (by omega); exact absurd (g2 _ hk).2 (by omega)) (by omega) hcO).mono (by omega)).keep hkk
        exact bodyPost_ret (v := .agg #[.int .i64 4, .int .i64 (1 + y), .int .i64 0, .int .i64 0, .string ⟨#[]⟩, .string ⟨#[]⟩, .slice (some ⟨g, 0, none⟩) 2 2]) (by simp [results, Try.results129, go_sem, x0, x1, x2, x3, x4, x5, x6]) rfl (⟨.mk ⟨4, 1 + y, 0, 0, ⟨#[]⟩, ⟨#[]⟩⟩ [e1, e2], some ⟨g, 0, none⟩, g :: (G1 ++ G2), rfl, hRF, hfr2, by rw [bulk_mk]; simp only [sumBy, kF, List.length_cons, List.length_nil]; have := kF_ge n; have z0 : ((⟨#[]⟩ : ByteArray).size : Int) = 0 := rfl; rw [z0]; omega, hcF, hgF⟩)
  · go_wp2_with fail
    refine (s_l1Once Hc1.out 5 (by omega) (by omega)).mono ?_
    rintro en W2 ⟨k5, rfl, hc_, hg_⟩
    have Hz2 : Hid (W2.heap[w.heap.size]? = some (.cells #[.int .i64 0, .int .i64 0, .int .i64 0, .int .i64 0, .string ⟨#[]⟩, .string ⟨#[]⟩, .slice none 0 0] 52 (0, 0))) := hide ((hg_.block _ (blk_lt Hz1.out) (by intro e; injection e; omega)).trans Hz1.out)
    have Hg2 := hide (grown_trans2 Hg1.out hg_)
    have Hs2 : Hid (W1.grownBy W2 (some b)) := hide hg_
    have Hc2 := hide hc_
    have hsz2 : w.heap.size + 1 ≤ W2.heap.size := Nat.le_trans hsz1 hg_.size
    clear hc_ hg_
    cases k5
    · go_wp2_with fail
      refine (s_l1Once Hc2.out 6 (by omega) (by omega)).mono ?_
      rintro en W3 ⟨k6, rfl, hc_, hg_⟩
      have Hz3 : Hid (W3.heap[w.heap.size]? = some (.cells #[.int .i64 0, .int .i64 0, .int .i64 0, .int .i64 0, .string ⟨#[]⟩, .string ⟨#[]⟩, .slice none 0 0] 52 (0, 0))) := hide ((hg_.block _ (blk_lt Hz2.out) (by intro e; injection e; omega)).trans Hz2.out)
      have Hg3 := hide (grown_trans2 Hg2.out hg_)
      have Hs3 : Hid (W2.grownBy W3 (some b)) := hide hg_
      have Hc3 := hide hc_
      have hsz3 : w.heap.size + 1 ≤ W3.heap.size := Nat.le_trans hsz2 hg_.size
      clear hc_ hg_
      cases k6
      · go_wp2_with fail
        refine (s_l1Below Hc3.out 4 (by omega) (by omega)).mono ?_
        rintro en W4 ⟨x, rfl, hx0, hx1, hc_, hg_⟩
        have Hz4 : Hid (W4.heap[w.heap.size]? = some (.cells #[.int .i64 0, .int .i64 0, .int .i64 0, .int .i64 0, .string ⟨#[]⟩, .string ⟨#[]⟩, .slice none 0 0] 52 (0, 0))) := hide ((hg_.block _ (blk_lt Hz3.out) (by intro e; injection e; omega)).trans Hz3.out)
        have Hg4 := hide (grown_trans2 Hg3.out hg_)
        have Hs4 : Hid (W3.grownBy W4 (some b)) := hide hg_
        have Hc4 := hide hc_
        have hsz4 : w.heap.size + 1 ≤ W4.heap.size := Nat.le_trans hsz3 hg_.size
        clear hc_ hg_
        go_wp2_with fail
        refine (s_l1Below Hc4.out 4 (by omega) (by omega)).mono ?_
        rintro en W5 ⟨p, rfl, hp0, hp1, hc_, hg_⟩
        have Hz5 : Hid (W5.heap[w.heap.size]? = some (.cells #[.int .i64 0, .int .i64 0, .int .i64 0, .int .i64 0, .string ⟨#[]⟩, .string ⟨#[]⟩, .slice none 0 0] 52 (0, 0))) := hide ((hg_.block _ (blk_lt Hz4.out) (by intro e; injection e; omega)).trans Hz4.out)
        have Hg5 := hide (grown_trans2 Hg4.out hg_)
        have Hs5 : Hid (W4.grownBy W5 (some b)) := hide hg_
        have Hc5 := hide hc_
        have hsz5 : w.heap.size + 1 ≤ W5.heap.size := Nat.le_trans hsz4 hg_.size
        clear hc_ hg_
        go_wp2_with fail
        refine (s_l2Name Hc5.out).mono ?_
        rintro en W6 ⟨m, rfl, hm, hc_, hg_⟩
        have Hz6 : Hid (W6.heap[w.heap.size]? = some (.cells #[.int .i64 0, .int .i64 0, .int .i64 0, .int .i64 0, .string ⟨#[]⟩, .string ⟨#[]⟩, .slice none 0 0] 52 (0, 0))) := hide ((hg_.block _ (blk_lt Hz5.out) (by intro e; injection e; omega)).trans Hz5.out)
        have Hg6 := hide (grown_trans2 Hg5.out hg_)
        have Hs6 : Hid (W5.grownBy W6 (some b)) := hide hg_
        have Hc6 := hide hc_
        have hsz6 : w.heap.size + 1 ≤ W6.heap.size := Nat.le_trans hsz5 hg_.size
        clear hc_ hg_
        have hbr : Below W6.heap.size W6 (W6.alloc (.cells #[.int .i64 p, .string m] 65)) := (Below.refl _ _).alloc (Nat.le_refl _) _
        have Hcr := hide (Hc6.out.below hbr)
        have Hrow := hide (heap_alloc_new W6 (.cells #[.int .i64 p, .string m] 65))
        have Hgr := hide (mk_base Hg6.out hbr Hg6.out.size)
        have Hzr := hide (blk_below Hz6.out hbr (blk_lt Hz6.out))
        have hszr : w.heap.size + 1 ≤ (W6.alloc (.cells #[.int .i64 p, .string m] 65)).heap.size := Nat.le_trans hsz6 hbr.size
        have hgb : W6.heap.size ≠ b := by have := hsz6; omega
        clear hbr
        go_wp2_with fail
        refine (s_l4Leaf Hcr.out (n + 1) (1 + x) (by omega) (by omega) W6.heap.size p hp0 (by omega) m hm Hrow.out hgb).mono ?_
        rintro en WL ⟨e, A, G, rfl, hR, hf, hbk, hcL, hgL⟩
        have HzL := hide ((hgL.block _ (blk_lt Hzr.out) (by intro e; injection e; omega)).trans Hzr.out)
        have HgL := hide (grown_trans2 Hgr.out hgL)
        have HcL := hide hcL
        have HR := hide hR
        have Hf := hide hf
        clear hR hf hcL hgL
        obtain ⟨⟨h0, h1, h2, h3, h4, h5⟩, l⟩ := e
        simp only [Ex.h, Ex.args, ExH.cells] at HR ⊢
        go_wp2_with (refine wpList_store_at 52 (.tmp 4) (.tmp 29) (cs := [.int .i64 h0, .int .i64 h1, .int .i64 h2, .int .i64 h3, .string h4, .string h5, .slice A l.length l.length]) rfl Hi.out rfl rfl rfl rfl (by simp [Value.oneCell']) HzL.out (by decide) ?_; intro WF hP; have HP := hide hP; clear hP)
        obtain ⟨x0, x1, x2, x3, x4, x5, x6⟩ := HP.out.cellsAt.seven0
        have hbF : Below w.heap.size WL WF := HP.out.below (Nat.le_refl _)
        have hcF : Cur WF b := HcL.out.baseU hbF hlt
        have hgF : w.grownBy WF (some b) := mk_base HgL.out hbF (Nat.le_refl _)
        obtain ⟨hRF, hfF⟩ := ExR.putX HR.out Hf.out HP.out (by omega)
        exact bodyPost_ret (v := .agg #[.int .i64 h0, .int .i64 h1, .int .i64 h2, .int .i64 h3, .string h4, .string h5, .slice A l.length l.length]) (by simp [results, Try.results129, go_sem, x0, x1, x2, x3, x4, x5, x6]) rfl (⟨.mk ⟨h0, h1, h2, h3, h4, h5⟩ l, A, G, rfl, hRF, hfF.mono (by omega), Int.le_trans hbk (kF_ge (n + 1)), hcF, hgF⟩)
      · go_wp2_with fail
        refine (s_l1Below Hc3.out 4 (by omega) (by omega)).mono ?_
        rintro en W4 ⟨x, rfl, hx0, hx1, hc_, hg_⟩
        have Hz4 : Hid (W4.heap[w.heap.size]? = some (.cells #[.int .i64 0, .int .i64 0, .int .i64 0, .int .i64 0, .string ⟨#[]⟩, .string ⟨#[]⟩, .slice none 0 0] 52 (0, 0))) := hide ((hg_.block _ (blk_lt Hz3.out) (by intro e; injection e; omega)).trans Hz3.out)
        have Hg4 := hide (grown_trans2 Hg3.out hg_)
        have Hs4 : Hid (W3.grownBy W4 (some b)) := hide hg_
        have Hc4 := hide hc_
        have hsz4 : w.heap.size + 1 ≤ W4.heap.size := Nat.le_trans hsz3 hg_.size
        clear hc_ hg_
        go_wp2_with (refine wpList_store_at 52 (.tmp 4) (.tmp 18) (cs := [.int .i64 6, .int .i64 0, .int .i64 x, .int .i64 0, .string ⟨#[]⟩, .string ⟨#[]⟩, .slice none 0 0]) rfl Hi.out rfl rfl rfl rfl (by simp [Value.oneCell']) Hz4.out (by decide) ?_; intro WF hP; have HP := hide hP; clear hP)
        obtain ⟨x0, x1, x2, x3, x4, x5, x6⟩ := HP.out.cellsAt.seven0
        have hbF : Below w.heap.size W4 WF := HP.out.below (Nat.le_refl _)
        have hcF : Cur WF b := Hc4.out.baseU hbF hlt
        have hgF : w.grownBy WF (some b) := mk_base Hg4.out hbF (Nat.le_refl _)
        exact bodyPost_ret (v := .agg #[.int .i64 6, .int .i64 0, .int .i64 x, .int .i64 0, .string ⟨#[]⟩, .string ⟨#[]⟩, .slice none 0 0]) (by simp [results, Try.results129, go_sem, x0, x1, x2, x3, x4, x5, x6]) rfl (DrX.leaf ⟨6, 0, x, 0, ⟨#[]⟩, ⟨#[]⟩⟩ (exh_ok ⟨by omega, by omega⟩ ⟨by omega, by omega⟩ ⟨by omega, by omega⟩ ⟨by omega, by omega⟩ (by decide) (by decide)) (by show ((0 : Nat) : Int) + ((0 : Nat) : Int) ≤ kF (n + 1); have := kF_ge (n + 1); omega) hcF hgF)
    · go_wp2_with (refine wpList_store_at 52 (.tmp 4) (.tmp 13) (cs := [.int .i64 2, .int .i64 0, .int .i64 0, .int .i64 0, .string ⟨#[]⟩, .string ⟨#[]⟩, .slice none 0 0]) rfl Hi.out rfl rfl rfl rfl (by simp [Value.oneCell']) Hz2.out (by decide) ?_; intro WF hP; have HP := hide hP; clear hP)
      obtain ⟨x0, x1, x2, x3, x4, x5, x6⟩ := HP.out.cellsAt.seven0
      have hbF : Below w.heap.size W2 WF := HP.out.below (Nat.le_refl _)
      have hcF : Cur WF b := Hc2.out.baseU hbF hlt
      have hgF : w.grownBy WF (some b) := mk_base Hg2.out hbF (Nat.le_refl _)
      exact bodyPost_ret (v := .agg #[.int .i64 2, .int .i64 0, .int .i64 0, .int .i64 0, .string ⟨#[]⟩, .string ⟨#[]⟩, .slice none 0 0]) (by simp [results, Try.results129, go_sem, x0, x1, x2, x3, x4, x5, x6]) rfl (DrX.leaf ⟨2, 0, 0, 0, ⟨#[]⟩, ⟨#[]⟩⟩ (exh_ok ⟨by omega, by omega⟩ ⟨by omega, by omega⟩ ⟨by omega, by omega⟩ ⟨by omega, by omega⟩ (by decide) (by decide)) (by show ((0 : Nat) : Int) + ((0 : Nat) : Int) ≤ kF (n + 1); have := kF_ge (n + 1); omega) hcF hgF)
end Go.Proofs.Ytaihdnlpdibkoaa
