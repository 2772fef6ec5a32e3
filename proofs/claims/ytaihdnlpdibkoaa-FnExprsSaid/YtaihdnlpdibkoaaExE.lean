/- A leaf drawn. Conditions: the bytes drawn from can be read. -/
import Derived.Test.YtaihdnlpdibkoaaExD
namespace Go.Proofs.Ytaihdnlpdibkoaa
set_option maxRecDepth 100000
open Go.RowKit Go.WideShapes
set_option linter.unusedVariables false

set_option maxRecDepth 100000 in
set_option maxHeartbeats 4000000 in
/-- A small expression, from a list of one occurrence. -/
theorem s_l4Leaf {b : Nat} {w : World} (hc : Cur w b) (n : Nat) (kind : Int) (hk0 : 1 ≤ kind) (hk1 : kind ≤ 4) (g : Nat) (p : Int) (hp0 : 0 ≤ p) (hp1 : p ≤ 3) (m : ByteArray) (hm : m.size ≤ 32) (hgr : w.heap[g]? = some (.cells #[.int .i64 p, .string m] 65 (0, 0))) (hgb : g ≠ b) :
    Calls Try.prog 153 #[.pointer (some ⟨b, 0, none⟩), .int .i64 kind, .slice (some ⟨g, 0, none⟩) 1 1] w (DrX (n + 1) 64 b w) := by
  have hlt := hc.lt
  have Hi : Hid ((Try.prog.info? 52).map (·.size) = some 7) := hide (by kernel_rfl)
  have Hio : Hid ((Try.prog.info? 65).map (·.size) = some 2) := hide (by kernel_rfl)
  have hglt := blk_lt hgr
  have hb0 : Below w.heap.size w (w.alloc (.cells #[.int .i64 0, .int .i64 0, .int .i64 0, .int .i64 0, .string ⟨#[]⟩, .string ⟨#[]⟩, .slice none 0 0] 52)) := (Below.refl _ _).alloc (Nat.le_refl _) _
  have Hz0 := hide (heap_alloc_new w (.cells #[.int .i64 0, .int .i64 0, .int .i64 0, .int .i64 0, .string ⟨#[]⟩, .string ⟨#[]⟩, .slice none 0 0] 52))
  have Hc0 := hide (hc.below hb0)
  have Hg0 := hide (grown_of (b := b) hb0)
  have hsz0 : w.heap.size + 1 ≤ (w.alloc (.cells #[.int .i64 0, .int .i64 0, .int .i64 0, .int .i64 0, .string ⟨#[]⟩, .string ⟨#[]⟩, .slice none 0 0] 52)).heap.size := by simp
  have Hgr := hide hgr
  clear hc hb0 hgr
  go_enter Try.func153, Try.ntmps153
  go_wp2_with fail
  generalize w.alloc (.cells #[.int .i64 0, .int .i64 0, .int .i64 0, .int .i64 0, .string ⟨#[]⟩, .string ⟨#[]⟩, .slice none 0 0] 52) = W0 at Hz0 Hc0 Hg0 hsz0 ⊢
  refine (s_l1Once Hc0.out 4 (by omega) (by omega)).mono ?_
  rintro en W1 ⟨k0, rfl, hc_, hg_⟩
  have Hz1 : Hid (W1.heap[w.heap.size]? = some (.cells #[.int .i64 0, .int .i64 0, .int .i64 0, .int .i64 0, .string ⟨#[]⟩, .string ⟨#[]⟩, .slice none 0 0] 52 (0, 0))) := hide ((hg_.block _ (blk_lt Hz0.out) (by intro e; injection e; omega)).trans Hz0.out)
  have Hg1 := hide (grown_trans2 Hg0.out hg_)
  have Hs1 : Hid (W0.grownBy W1 (some b)) := hide hg_
  have Hc1 := hide hc_
  have hsz1 : w.heap.size + 1 ≤ W1.heap.size := Nat.le_trans hsz0 hg_.size
  clear hc_ hg_
  cases k0
  · go_wp2_with fail
    refine (s_l1Below Hc1.out 1 (by omega) (by omega)).mono ?_
    rintro en W2 ⟨i0, rfl, hi0, hi1, hc_, hg_⟩
    have Hz2 : Hid (W2.heap[w.heap.size]? = some (.cells #[.int .i64 0, .int .i64 0, .int .i64 0, .int .i64 0, .string ⟨#[]⟩, .string ⟨#[]⟩, .slice none 0 0] 52 (0, 0))) := hide ((hg_.block _ (blk_lt Hz1.out) (by intro e; injection e; omega)).trans Hz1.out)
    have Hg2 := hide (grown_trans2 Hg1.out hg_)
    have Hs2 : Hid (W1.grownBy W2 (some b)) := hide hg_
    have Hc2 := hide hc_
    have hsz2 : w.heap.size + 1 ≤ W2.heap.size := Nat.le_trans hsz1 hg_.size
    clear hc_ hg_
    obtain rfl : i0 = 0 := by omega
    have hgrk := (Hg2.out.block g hglt (by intro e; injection e; omega)).trans Hgr.out
    have p0 := cell_at (i := 0) hgrk (by simp)
    have p1 := cell_at (i := 1) hgrk (by simp)
    have hbk : Below W2.heap.size W2 (W2.alloc (.cells #[.int .i64 p, .string m] 65)) := (Below.refl _ _).alloc (Nat.le_refl _) _
    have Hzk := hide (blk_below Hz2.out hbk (blk_lt Hz2.out))
    have Hck := hide (Hc2.out.below hbk)
    have Hgk := hide (mk_base Hg2.out hbk Hg2.out.size)
    clear hbk hgrk
    go_wp2_with (refine wpList_store_at 52 (.tmp 6) (.tmp 27) (cs := [.int .i64 3, .int .i64 0, .int .i64 p, .int .i64 0, .string ⟨#[]⟩, .string m, .slice none 0 0]) rfl Hi.out rfl rfl rfl rfl (by simp [Value.oneCell']) Hzk.out (by decide) ?_; intro WF hP; have HP := hide hP; clear hP)
    obtain ⟨x0, x1, x2, x3, x4, x5, x6⟩ := HP.out.cellsAt.seven0
    have hbF : Below w.heap.size (W2.alloc (.cells #[.int .i64 p, .string m] 65)) WF := HP.out.below (Nat.le_refl _)
    have hcF : Cur WF b := Hck.out.baseU hbF hlt
    have hgF : w.grownBy WF (some b) := mk_base Hgk.out hbF (Nat.le_refl _)
    exact bodyPost_ret (v := .agg #[.int .i64 3, .int .i64 0, .int .i64 p, .int .i64 0, .string ⟨#[]⟩, .string m, .slice none 0 0]) (by simp [results, Try.results153, go_sem, x0, x1, x2, x3, x4, x5, x6]) rfl (DrX.leaf ⟨3, 0, p, 0, ⟨#[]⟩, m⟩ (exh_ok ⟨by omega, by omega⟩ ⟨by omega, by omega⟩ ⟨by omega, by omega⟩ ⟨by omega, by omega⟩ (by decide) hm) (by show (0 : Int) + (m.size : Int) ≤ 64; omega) hcF hgF)
  · have hks : kind = 1 ∨ kind = 2 ∨ kind = 3 ∨ kind = 4 := by omega
    rcases hks with rfl | rfl | rfl | rfl
    · go_wp2_with fail
      refine (s_l1Below Hc1.out 9 (by omega) (by omega)).mono ?_
      rintro en W2 ⟨x, rfl, hx0, hx1, hc_, hg_⟩
      have Hz2 : Hid (W2.heap[w.heap.size]? = some (.cells #[.int .i64 0, .int .i64 0, .int .i64 0, .int .i64 0, .string ⟨#[]⟩, .string ⟨#[]⟩, .slice none 0 0] 52 (0, 0))) := hide ((hg_.block _ (blk_lt Hz1.out) (by intro e; injection e; omega)).trans Hz1.out)
      have Hg2 := hide (grown_trans2 Hg1.out hg_)
      have Hs2 : Hid (W1.grownBy W2 (some b)) := hide hg_
      have Hc2 := hide hc_
      have hsz2 : w.heap.size + 1 ≤ W2.heap.size := Nat.le_trans hsz1 hg_.size
      clear hc_ hg_
      go_wp2_with fail
      refine (s_l4Const x 1 W2).mono ?_
      rintro en Wc ⟨rfl, hbc⟩
      have Hzk := hide (blk_below Hz2.out hbc (blk_lt Hz2.out))
      have Hck := hide (Hc2.out.below hbc)
      have Hgk := hide (mk_base Hg2.out hbc Hg2.out.size)
      clear hbc
      go_wp2_with (refine wpList_store_at 52 (.tmp 6) (.tmp 51) (cs := [.int .i64 1, .int .i64 x, .int .i64 0, .int .i64 1, .string ⟨#[]⟩, .string ⟨#[]⟩, .slice none 0 0]) rfl Hi.out rfl rfl rfl rfl (by simp [Value.oneCell']) Hzk.out (by decide) ?_; intro WF hP; have HP := hide hP; clear hP)
      obtain ⟨x0, x1, x2, x3, x4, x5, x6⟩ := HP.out.cellsAt.seven0
      have hbF : Below w.heap.size Wc WF := HP.out.below (Nat.le_refl _)
      have hcF : Cur WF b := Hck.out.baseU hbF hlt
      have hgF : w.grownBy WF (some b) := mk_base Hgk.out hbF (Nat.le_refl _)
      exact bodyPost_ret (v := .agg #[.int .i64 1, .int .i64 x, .int .i64 0, .int .i64 1, .string ⟨#[]⟩, .string ⟨#[]⟩, .slice none 0 0]) (by simp [results, Try.results153, go_sem, x0, x1, x2, x3, x4, x5, x6]) rfl (DrX.leaf ⟨1, x, 0, 1, ⟨#[]⟩, ⟨#[]⟩⟩ (exh_ok ⟨by omega, by omega⟩ ⟨by omega, by omega⟩ ⟨by omega, by omega⟩ ⟨by omega, by omega⟩ (by decide) (by decide)) (by show ((0 : Nat) : Int) + ((0 : Nat) : Int) ≤ 64; decide) hcF hgF)
    · go_wp2_with fail
      refine (s_l1Below Hc1.out 12 (by omega) (by omega)).mono ?_
      rintro en W2 ⟨x, rfl, hx0, hx1, hc_, hg_⟩
      have Hz2 : Hid (W2.heap[w.heap.size]? = some (.cells #[.int .i64 0, .int .i64 0, .int .i64 0, .int .i64 0, .string ⟨#[]⟩, .string ⟨#[]⟩, .slice none 0 0] 52 (0, 0))) := hide ((hg_.block _ (blk_lt Hz1.out) (by intro e; injection e; omega)).trans Hz1.out)
      have Hg2 := hide (grown_trans2 Hg1.out hg_)
      have Hs2 : Hid (W1.grownBy W2 (some b)) := hide hg_
      have Hc2 := hide hc_
      have hsz2 : w.heap.size + 1 ≤ W2.heap.size := Nat.le_trans hsz1 hg_.size
      clear hc_ hg_
      go_wp2_with fail
      have hmb := z_shl x (by omega) (by omega)
      generalize wrap64 (2 ^ x.toNat) = m2 at hmb ⊢
      obtain ⟨hm0, hm1⟩ := hmb
      refine (s_l4Const m2 2 W2).mono ?_
      rintro en Wc ⟨rfl, hbc⟩
      have Hzk := hide (blk_below Hz2.out hbc (blk_lt Hz2.out))
      have Hck := hide (Hc2.out.below hbc)
      have Hgk := hide (mk_base Hg2.out hbc Hg2.out.size)
      clear hbc
      go_wp2_with (refine wpList_store_at 52 (.tmp 6) (.tmp 48) (cs := [.int .i64 1, .int .i64 m2, .int .i64 0, .int .i64 2, .string ⟨#[]⟩, .string ⟨#[]⟩, .slice none 0 0]) rfl Hi.out rfl rfl rfl rfl (by simp [Value.oneCell']) Hzk.out (by decide) ?_; intro WF hP; have HP := hide hP; clear hP)
      obtain ⟨x0, x1, x2, x3, x4, x5, x6⟩ := HP.out.cellsAt.seven0
      have hbF : Below w.heap.size Wc WF := HP.out.below (Nat.le_refl _)
      have hcF : Cur WF b := Hck.out.baseU hbF hlt
      have hgF : w.grownBy WF (some b) := mk_base Hgk.out hbF (Nat.le_refl _)
      exact bodyPost_ret (v := .agg #[.int .i64 1, .int .i64 m2, .int .i64 0, .int .i64 2, .string ⟨#[]⟩, .string ⟨#[]⟩, .slice none 0 0]) (by simp [results, Try.results153, go_sem, x0, x1, x2, x3, x4, x5, x6]) rfl (DrX.leaf ⟨1, m2, 0, 2, ⟨#[]⟩, ⟨#[]⟩⟩ (exh_ok ⟨by omega, by omega⟩ ⟨by omega, by omega⟩ ⟨by omega, by omega⟩ ⟨by omega, by omega⟩ (by decide) (by decide)) (by show ((0 : Nat) : Int) + ((0 : Nat) : Int) ≤ 64; decide) hcF hgF)
    · go_wp2_with fail
      refine (s_l1Below Hc1.out 2 (by omega) (by omega)).mono ?_
      rintro en W2 ⟨x, rfl, hx0, hx1, hc_, hg_⟩
      have Hz2 : Hid (W2.heap[w.heap.size]? = some (.cells #[.int .i64 0, .int .i64 0, .int .i64 0, .int .i64 0, .string ⟨#[]⟩, .string ⟨#[]⟩, .slice none 0 0] 52 (0, 0))) := hide ((hg_.block _ (blk_lt Hz1.out) (by intro e; injection e; omega)).trans Hz1.out)
      have Hg2 := hide (grown_trans2 Hg1.out hg_)
      have Hs2 : Hid (W1.grownBy W2 (some b)) := hide hg_
      have Hc2 := hide hc_
      have hsz2 : w.heap.size + 1 ≤ W2.heap.size := Nat.le_trans hsz1 hg_.size
      clear hc_ hg_
      go_wp2_with fail
      refine (s_l4Const x 3 W2).mono ?_
      rintro en Wc ⟨rfl, hbc⟩
      have Hzk := hide (blk_below Hz2.out hbc (blk_lt Hz2.out))
      have Hck := hide (Hc2.out.below hbc)
      have Hgk := hide (mk_base Hg2.out hbc Hg2.out.size)
      clear hbc
      go_wp2_with (refine wpList_store_at 52 (.tmp 6) (.tmp 40) (cs := [.int .i64 1, .int .i64 x, .int .i64 0, .int .i64 3, .string ⟨#[]⟩, .string ⟨#[]⟩, .slice none 0 0]) rfl Hi.out rfl rfl rfl rfl (by simp [Value.oneCell']) Hzk.out (by decide) ?_; intro WF hP; have HP := hide hP; clear hP)
      obtain ⟨x0, x1, x2, x3, x4, x5, x6⟩ := HP.out.cellsAt.seven0
      have hbF : Below w.heap.size Wc WF := HP.out.below (Nat.le_refl _)
      have hcF : Cur WF b := Hck.out.baseU hbF hlt
      have hgF : w.grownBy WF (some b) := mk_base Hgk.out hbF (Nat.le_refl _)
      exact bodyPost_ret (v := .agg #[.int .i64 1, .int .i64 x, .int .i64 0, .int .i64 3, .string ⟨#[]⟩, .string ⟨#[]⟩, .slice none 0 0]) (by simp [results, Try.results153, go_sem, x0, x1, x2, x3, x4, x5, x6]) rfl (DrX.leaf ⟨1, x, 0, 3, ⟨#[]⟩, ⟨#[]⟩⟩ (exh_ok ⟨by omega, by omega⟩ ⟨by omega, by omega⟩ ⟨by omega, by omega⟩ ⟨by omega, by omega⟩ (by decide) (by decide)) (by show ((0 : Nat) : Int) + ((0 : Nat) : Int) ≤ 64; decide) hcF hgF)
    · go_wp2_with fail
      refine (s_l1Once Hc1.out 3 (by omega) (by omega)).mono ?_
      rintro en W2 ⟨k5, rfl, hc_, hg_⟩
      have Hz2 : Hid (W2.heap[w.heap.size]? = some (.cells #[.int .i64 0, .int .i64 0, .int .i64 0, .int .i64 0, .string ⟨#[]⟩, .string ⟨#[]⟩, .slice none 0 0] 52 (0, 0))) := hide ((hg_.block _ (blk_lt Hz1.out) (by intro e; injection e; omega)).trans Hz1.out)
      have Hg2 := hide (grown_trans2 Hg1.out hg_)
      have Hs2 : Hid (W1.grownBy W2 (some b)) := hide hg_
      have Hc2 := hide hc_
      have hsz2 : w.heap.size + 1 ≤ W2.heap.size := Nat.le_trans hsz1 hg_.size
      clear hc_ hg_
      cases k5
      · go_wp2_with (refine wpList_store_at 52 (.tmp 6) (.tmp 34) (cs := [.int .i64 6, .int .i64 0, .int .i64 0, .int .i64 0, .string ⟨#[]⟩, .string ⟨#[]⟩, .slice none 0 0]) rfl Hi.out rfl rfl rfl rfl (by simp [Value.oneCell']) Hz2.out (by decide) ?_; intro WF hP; have HP := hide hP; clear hP)
        obtain ⟨x0, x1, x2, x3, x4, x5, x6⟩ := HP.out.cellsAt.seven0
        have hbF : Below w.heap.size W2 WF := HP.out.below (Nat.le_refl _)
        have hcF : Cur WF b := Hc2.out.baseU hbF hlt
        have hgF : w.grownBy WF (some b) := mk_base Hg2.out hbF (Nat.le_refl _)
        exact bodyPost_ret (v := .agg #[.int .i64 6, .int .i64 0, .int .i64 0, .int .i64 0, .string ⟨#[]⟩, .string ⟨#[]⟩, .slice none 0 0]) (by simp [results, Try.results153, go_sem, x0, x1, x2, x3, x4, x5, x6]) rfl (DrX.leaf ⟨6, 0, 0, 0, ⟨#[]⟩, ⟨#[]⟩⟩ (exh_ok ⟨by omega, by omega⟩ ⟨by omega, by omega⟩ ⟨by omega, by omega⟩ ⟨by omega, by omega⟩ (by decide) (by decide)) (by show ((0 : Nat) : Int) + ((0 : Nat) : Int) ≤ 64; decide) hcF hgF)
      · go_wp2_with (refine wpList_store_at 52 (.tmp 6) (.tmp 33) (cs := [.int .i64 7, .int .i64 0, .int .i64 0, .int .i64 0, .string ⟨#[]⟩, .string ⟨#[]⟩, .slice none 0 0]) rfl Hi.out rfl rfl rfl rfl (by simp [Value.oneCell']) Hz2.out (by decide) ?_; intro WF hP; have HP := hide hP; clear hP)
        obtain ⟨x0, x1, x2, x3, x4, x5, x6⟩ := HP.out.cellsAt.seven0
        have hbF : Below w.heap.size W2 WF := HP.out.below (Nat.le_refl _)
        have hcF : Cur WF b := Hc2.out.baseU hbF hlt
        have hgF : w.grownBy WF (some b) := mk_base Hg2.out hbF (Nat.le_refl _)
        exact bodyPost_ret (v := .agg #[.int .i64 7, .int .i64 0, .int .i64 0, .int .i64 0, .string ⟨#[]⟩, .string ⟨#[]⟩, .slice none 0 0]) (by simp [results, Try.results153, go_sem, x0, x1, x2, x3, x4, x5, x6]) rfl (DrX.leaf ⟨7, 0, 0, 0, ⟨#[]⟩, ⟨#[]⟩⟩ (exh_ok ⟨by omega, by omega⟩ ⟨by omega, by omega⟩ ⟨by omega, by omega⟩ ⟨by omega, by omega⟩ (by decide) (by decide)) (by show ((0 : Nat) : Int) + ((0 : Nat) : Int) ≤ 64; decide) hcF hgF)
end Go.Proofs.Ytaihdnlpdibkoaa
