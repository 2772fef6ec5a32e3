/- Expressions drawn and bent a little. Conditions: the bytes drawn from can be read. -/
import Derived.Test.YtaihdnlpdibkoaaExB
namespace Go.Proofs.Ytaihdnlpdibkoaa
set_option maxRecDepth 100000
open Go.RowKit Go.WideShapes
set_option linter.unusedVariables false

theorem sumBy_app {α : Type} (g : α → Int) : ∀ (l r : List α), sumBy g (l ++ r) = sumBy g l + sumBy g r
  | [], r => by simp [sumBy]
  | x :: l, r => by simp only [List.cons_append, sumBy, sumBy_app g l r]; omega
/-- What a bent draw leaves: an expression of depth at most 11. -/
def DrE (b : Nat) (w : World) (en : Ending) (w' : World) : Prop := ∃ (e : Ex) (us : List Value) (G : List Nat), en = .returned (.agg (List.toArray us)) ∧ ExR 11 w' e us G ∧ bulkE 11 e ≤ 20000 ∧ w.grownBy w' (some b) ∧ ∀ k ∈ G, w.heap.size ≤ k
set_option maxRecDepth 100000 in
set_option maxHeartbeats 8000000 in
theorem s_l4Bent {b : Nat} {w : World} (hc : Cur w b) : Calls Try.prog 67 #[.pointer (some ⟨b, 0, none⟩)] w (DrE b w) := by
  have hlt := hc.lt
  have Hi : Hid ((Try.prog.info? 52).map (·.size) = some 7) := hide (by kernel_rfl)
  have hb0 : Below w.heap.size w (w.alloc (.cells #[.int .i64 0, .int .i64 0, .int .i64 0, .int .i64 0, .string ⟨#[]⟩, .string ⟨#[]⟩, .slice none 0 0] 52)) := (Below.refl _ _).alloc (Nat.le_refl _) _
  have Hz0 := hide (heap_alloc_new w (.cells #[.int .i64 0, .int .i64 0, .int .i64 0, .int .i64 0, .string ⟨#[]⟩, .string ⟨#[]⟩, .slice none 0 0] 52))
  have Hc0 := hide (hc.below hb0)
  have Hg0 := hide (grown_of (b := b) hb0)
  have hsz0 : w.heap.size + 1 ≤ (w.alloc (.cells #[.int .i64 0, .int .i64 0, .int .i64 0, .int .i64 0, .string ⟨#[]⟩, .string ⟨#[]⟩, .slice none 0 0] 52)).heap.size := by simp
  clear hc hb0
  go_enter Try.func67, Try.ntmps67
  go_wp2_with fail
  generalize w.alloc (.cells #[.int .i64 0, .int .i64 0, .int .i64 0, .int .i64 0, .string ⟨#[]⟩, .string ⟨#[]⟩, .slice none 0 0] 52) = W0 at Hz0 Hc0 Hg0 hsz0 ⊢
  refine (s_l4Draw Hc0.out).mono ?_
  rintro en W1 ⟨e, A, G, rfl, hR, hf, hbk, hc_, hg_⟩
  have hz1 := (hg_.block _ (blk_lt Hz0.out) (by intro e; injection e; omega)).trans Hz0.out
  have hg1 := grown_trans2 Hg0.out hg_
  have hsz1 : w.heap.size + 1 ≤ W1.heap.size := Nat.le_trans hsz0 hg_.size
  obtain ⟨⟨h0, h1, h2, h3, h4, h5⟩, l⟩ := e
  simp only [Ex.h, Ex.args, ExH.cells] at hR ⊢
  have hb3 : Below W1.heap.size W1 (W1.alloc (.cells #[.int .i64 h0, .int .i64 h1, .int .i64 h2, .int .i64 h3, .string h4, .string h5, .slice A l.length l.length] 52)) := (Below.refl _ _).alloc (Nat.le_refl _) _
  have hbx := heap_alloc_new W1 (.cells #[.int .i64 h0, .int .i64 h1, .int .i64 h2, .int .i64 h3, .string h4, .string h5, .slice A l.length l.length] 52)
  obtain ⟨v, hcs, hok, hsl⟩ := (show ExR (4 + 1) _ _ _ _ from hR)
  simp [ExH.cells, Ex.h] at hcs
  subst hcs
  simp only [Ex.h, Ex.args] at hok hsl
  have Hok := hide hok
  have HavG : Hid (∀ k ∈ G, w.heap.size + 1 ≤ k ∧ k < W1.heap.size) := hide fun k hk => ⟨Nat.le_trans hsz0 (hf.from_ k hk), hf.lt k hk⟩
  have HslV := hide (hsl.below (ExR.good 4) hb3 hf.lt)
  have HbxV := hide hbx
  have HcV := hide (hc_.below hb3)
  have HgV := hide (mk_base hg1 hb3 hg1.size)
  have HzV := hide (blk_below hz1 hb3 (blk_lt hz1))
  have hsV : W1.heap.size + 1 ≤ (W1.alloc (.cells #[.int .i64 h0, .int .i64 h1, .int .i64 h2, .int .i64 h3, .string h4, .string h5, .slice A l.length l.length] 52)).heap.size := by simp
  have hbk2 : (h4.size : Int) + h5.size + (l.length + sumBy (bulkE 4) l) ≤ 9184 := hbk
  clear hR hf hb3 hbx hc_ hg_ hz1 hg1 hok hsl hbk
  go_wp2_with fail
  generalize W1.alloc (.cells #[.int .i64 h0, .int .i64 h1, .int .i64 h2, .int .i64 h3, .string h4, .string h5, .slice A l.length l.length] 52) = V at HslV HbxV HcV HgV HzV hsV ⊢
  refine (s_l1Below HcV.out 14 (by omega) (by omega)).mono ?_
  rintro en W ⟨x, rfl, hx0, hx1, hc_, hg_⟩
  have Hc := hide hc_
  have hp3b : W1.heap.size ≠ b := by omega
  have Hbx := hide ((hg_.block _ (blk_lt HbxV.out) (by intro e; injection e; omega)).trans HbxV.out)
  have Hz := hide ((hg_.block _ (blk_lt HzV.out) (by intro e; injection e; omega)).trans HzV.out)
  have Hg := hide (grown_trans2 HgV.out hg_)
  have Hsl := hide (HslV.out.frame (ExR.good 4) (fun k hk => hg_.block k (by have := HavG.out k hk; omega) (by intro e; injection e; have := HavG.out k hk; omega)) hg_.size)
  have hsW : W1.heap.size + 1 ≤ W.heap.size := Nat.le_trans hsV hg_.size
  clear hc_ hg_ HslV HbxV HcV HgV HzV Hc0 Hz0 Hg0
  have r0 := cell_at (i := 0) Hbx.out (by simp)
  have r1 := cell_at (i := 1) Hbx.out (by simp)
  have r2 := cell_at (i := 2) Hbx.out (by simp)
  have r3 := cell_at (i := 3) Hbx.out (by simp)
  have r4 := cell_at (i := 4) Hbx.out (by simp)
  have r5 := cell_at (i := 5) Hbx.out (by simp)
  have r6 := cell_at (i := 6) Hbx.out (by simp)
  have hxs : x = 0 ∨ x = 1 ∨ x = 2 ∨ x = 3 ∨ x = 4 ∨ x = 5 ∨ 6 ≤ x := by omega
  rcases hxs with hq | hq | hq | hq | hq | hq | hq
  · subst hq
    go_wp2_with fail
    refine (s_l1Below Hc.out 11 (by omega) (by omega)).mono ?_
    rintro en WX ⟨y, rfl, hy0, hy1, hc_, hg_⟩
    have HbW := hide ((hg_.block _ (blk_lt Hbx.out) (by intro e; injection e; omega)).trans Hbx.out)
    have HzW := hide ((hg_.block _ (blk_lt Hz.out) (by intro e; injection e; omega)).trans Hz.out)
    have HgW := hide (grown_trans2 Hg.out hg_)
    have HslW := hide (Hsl.out.frame (ExR.good 4) (fun k hk => hg_.block k (by have := HavG.out k hk; omega) (by intro e; injection e; have := HavG.out k hk; omega)) hg_.size)
    have hsX : W1.heap.size + 1 ≤ WX.heap.size := Nat.le_trans hsW hg_.size
    clear hc_ hg_ r0 r1 r2 r3 r4 r5 r6
    have Hrs : Hid ((WX.setCell ⟨W1.heap.size, 0, none⟩ (.int .i64 y)).heap[W1.heap.size]? = some (.cells #[.int .i64 y, .int .i64 h1, .int .i64 h2, .int .i64 h3, .string h4, .string h5, .slice A l.length l.length] 52 (0, 0))) := hide (heap_setCell_same WX W1.heap.size 0 _ _ (.int .i64 y) HbW.out)
    have Hzs : Hid ((WX.setCell ⟨W1.heap.size, 0, none⟩ (.int .i64 y)).heap[w.heap.size]? = some (.cells #[.int .i64 0, .int .i64 0, .int .i64 0, .int .i64 0, .string ⟨#[]⟩, .string ⟨#[]⟩, .slice none 0 0] 52 (0, 0))) := hide ((heap_setCell_other WX ⟨W1.heap.size, 0, none⟩ w.heap.size (.int .i64 y) (by show w.heap.size ≠ W1.heap.size; omega)).trans HzW.out)
    have hbS : Below w.heap.size WX (WX.setCell ⟨W1.heap.size, 0, none⟩ (.int .i64 y)) := Below.setCell (p := ⟨W1.heap.size, 0, none⟩) (Below.refl _ _) (show w.heap.size ≤ W1.heap.size by omega) _
    have Hgs : Hid (w.grownBy (WX.setCell ⟨W1.heap.size, 0, none⟩ (.int .i64 y)) (some b)) := hide (mk_base HgW.out hbS (Nat.le_refl _))
    have HRs : Hid (ExR 5 (WX.setCell ⟨W1.heap.size, 0, none⟩ (.int .i64 y)) (.mk ⟨y, h1, h2, h3, h4, h5⟩ l) [.int .i64 y, .int .i64 h1, .int .i64 h2, .int .i64 h3, .string h4, .string h5, .slice A l.length l.length] G) := hide ⟨_, rfl, ⟨(show (Lit.int .i64 y).wf = true from wf_drawn (by omega) (by omega)), Hok.out.n, Hok.out.pos, Hok.out.type, Hok.out.symbol, Hok.out.name⟩, HslW.out.frame (ExR.good 4) (fun k hk => heap_setCell_other WX ⟨W1.heap.size, 0, none⟩ k (.int .i64 y) (by show k ≠ W1.heap.size; have := HavG.out k hk; omega)) hbS.size⟩
    have yy := frozen_of_row WX _ 0 _ _ HbW.out
    have rr := cell_at (i := 0) HbW.out (by simp)
    clear hbS
    have Hcw : Hid (CellsAt (WX.setCell ⟨W1.heap.size, 0, none⟩ (.int .i64 y)) W1.heap.size 0 [.int .i64 y, .int .i64 h1, .int .i64 h2, .int .i64 h3, .string h4, .string h5, .slice A l.length l.length]) := hide (fun i u hu => by
      rw [cell_of_row _ _ _ _ _ _ Hrs.out, Nat.zero_add]
      simpa using hu)
    have Hn7 : Hid (([.int .i64 y, .int .i64 h1, .int .i64 h2, .int .i64 h3, .string h4, .string h5, .slice A l.length l.length] : List Value).length = 7) := hide rfl
    have H17 := hide (ExR.one HRs.out)
    go_wp2_with (first
      | refine wpList_load_at 52 (.tmp 3) rfl Try.underlying52 rfl Hi.out rfl rfl Hn7.out Hcw.out ?_
      | (refine wpList_store_at 52 (.tmp 2) (.tmp 49) (cs := [.int .i64 y, .int .i64 h1, .int .i64 h2, .int .i64 h3, .string h4, .string h5, .slice A l.length l.length]) rfl Hi.out rfl rfl rfl Hn7.out H17.out Hzs.out (by decide) ?_; intro WF hP; have HP := hide hP; clear hP))
    obtain ⟨x0, x1, x2, x3, x4, x5, x6⟩ := HP.out.cellsAt.seven0
    have hbF : Below w.heap.size (WX.setCell ⟨W1.heap.size, 0, none⟩ (.int .i64 y)) WF := HP.out.below (Nat.le_refl _)
    have hgF : w.grownBy WF (some b) := mk_base Hgs.out hbF (Nat.le_refl _)
    have hRF : ExR 5 WF (.mk ⟨y, h1, h2, h3, h4, h5⟩ l) [.int .i64 y, .int .i64 h1, .int .i64 h2, .int .i64 h3, .string h4, .string h5, .slice A l.length l.length] G := (ExR.good _).frame HRs.out (fun k hk => HP.out.far k (by have := HavG.out k hk; omega)) (by rw [HP.out.size]; exact Nat.le_refl _)
    exact bodyPost_ret (v := .agg #[.int .i64 y, .int .i64 h1, .int .i64 h2, .int .i64 h3, .string h4, .string h5, .slice A l.length l.length]) (by simp [results, Try.results67, go_sem, x0, x1, x2, x3, x4, x5, x6]) rfl ⟨(.mk ⟨y, h1, h2, h3, h4, h5⟩ l), [.int .i64 y, .int .i64 h1, .int .i64 h2, .int .i64 h3, .string h4, .string h5, .slice A l.length l.length], G, rfl, hRF.up 11 (by omega), by rw [bulk_up _ WF _ _ _ hRF 11 (by omega)]; show (h4.size : Int) + h5.size + (l.length + sumBy (bulkE 4) l) ≤ 20000; omega, hgF, fun k hk => by have := HavG.out k hk; omega⟩
  · subst hq
    have hbA : Below W.heap.size W (W.alloc (.cells #[.int .i64 7, .int .i64 0, .int .i64 0, .int .i64 0, .string ⟨#[]⟩, .string ⟨#[]⟩, .slice none 0 0] 52)) := (Below.refl _ _).alloc (Nat.le_refl _) _
    have HslA := hide (Hsl.out.below (ExR.good 4) hbA (fun k hk => by have := HavG.out k hk; omega))
    have Hleaf : Hid (ExR 4 (W.alloc (.cells #[.int .i64 7, .int .i64 0, .int .i64 0, .int .i64 0, .string ⟨#[]⟩, .string ⟨#[]⟩, .slice none 0 0] 52)) (Ex.mk ⟨7, 0, 0, 0, ⟨#[]⟩, ⟨#[]⟩⟩ []) [.int .i64 7, .int .i64 0, .int .i64 0, .int .i64 0, .string ⟨#[]⟩, .string ⟨#[]⟩, .slice none 0 0] []) := hide (show ExR (3 + 1) _ _ _ _ from ⟨_, rfl, (exh_ok ⟨by omega, by omega⟩ ⟨by omega, by omega⟩ ⟨by omega, by omega⟩ ⟨by omega, by omega⟩ (by decide) (by decide)), nilX _⟩)
    have HcA := hide (CellsAt.new W [.int .i64 7, .int .i64 0, .int .i64 0, .int .i64 0, .string ⟨#[]⟩, .string ⟨#[]⟩, .slice none 0 0] 52)
    have Hl1 := hide (show ∀ u ∈ ([.int .i64 7, .int .i64 0, .int .i64 0, .int .i64 0, .string ⟨#[]⟩, .string ⟨#[]⟩, .slice none 0 0] : List Value), u.oneCell' = true by simp [Value.oneCell'])
    have HbA := hide (blk_below Hbx.out hbA (blk_lt Hbx.out))
    have HzA := hide (blk_below Hz.out hbA (blk_lt Hz.out))
    have HgA := hide (mk_base Hg.out hbA Hg.out.size)
    have hsA := hbA.size
    have hll : l.length ≤ 9184 := by have := sumBy_nonneg (bulkE_nonneg 4) l; omega
    clear hbA
    go_wp2_with (at_builtin; refine app_full rfl (.tmp 17) (.tmp 19) 50 52 rfl Try.underlying50 infoEx rfl (by decide) (ExR.good 4) (W.alloc (.cells #[.int .i64 7, .int .i64 0, .int .i64 0, .int .i64 0, .string ⟨#[]⟩, .string ⟨#[]⟩, .slice none 0 0] 52)) l A G HslA.out rfl (Ex.mk ⟨7, 0, 0, 0, ⟨#[]⟩, ⟨#[]⟩⟩ []) [.int .i64 7, .int .i64 0, .int .i64 0, .int .i64 0, .string ⟨#[]⟩, .string ⟨#[]⟩, .slice none 0 0] Hleaf.out Hl1.out W.heap.size (by first | rfl | simp [go_sem]) HcA.out (by omega) (by omega) ?_; intro A5 cap5 F5 w5 hsl5 hF5 hb5; refine hold ?_)
    have HbW := hide (blk_below HbA.out hb5 (blk_lt HbA.out))
    have Hsl5 := hide hsl5
    have HF5 := hide hF5
    have Hrs : Hid ((w5.setCell ⟨W1.heap.size, 6, none⟩ (.slice A5 (l.length + 1) cap5)).heap[W1.heap.size]? = some (.cells #[.int .i64 h0, .int .i64 h1, .int .i64 h2, .int .i64 h3, .string h4, .string h5, .slice A5 (l.length + 1) cap5] 52 (0, 0))) := hide (heap_setCell_same w5 W1.heap.size 6 _ _ (.slice A5 (l.length + 1) cap5) HbW.out)
    have Hzs : Hid ((w5.setCell ⟨W1.heap.size, 6, none⟩ (.slice A5 (l.length + 1) cap5)).heap[w.heap.size]? = some (.cells #[.int .i64 0, .int .i64 0, .int .i64 0, .int .i64 0, .string ⟨#[]⟩, .string ⟨#[]⟩, .slice none 0 0] 52 (0, 0))) := hide ((heap_setCell_other w5 ⟨W1.heap.size, 6, none⟩ w.heap.size (.slice A5 (l.length + 1) cap5) (by show w.heap.size ≠ W1.heap.size; omega)).trans (blk_below HzA.out hb5 (blk_lt HzA.out)))
    have hbS : Below w.heap.size w5 (w5.setCell ⟨W1.heap.size, 6, none⟩ (.slice A5 (l.length + 1) cap5)) := Below.setCell (p := ⟨W1.heap.size, 6, none⟩) (Below.refl _ _) (show w.heap.size ≤ W1.heap.size by omega) _
    have Hgs : Hid (w.grownBy (w5.setCell ⟨W1.heap.size, 6, none⟩ (.slice A5 (l.length + 1) cap5)) (some b)) := hide (mk_base (mk_base HgA.out hb5 HgA.out.size) hbS (Nat.le_refl _))
    have HavF : Hid (∀ k ∈ F5, k ≠ W1.heap.size ∧ k ≠ w.heap.size ∧ w.heap.size ≤ k) := hide fun k hk => by
      rcases HF5.out k hk with h | h
      · have := HavG.out k h; omega
      · omega
    have HRs : Hid (ExR 5 (w5.setCell ⟨W1.heap.size, 6, none⟩ (.slice A5 (l.length + 1) cap5)) (.mk ⟨h0, h1, h2, h3, h4, h5⟩ (l ++ [(Ex.mk ⟨7, 0, 0, 0, ⟨#[]⟩, ⟨#[]⟩⟩ [])])) [.int .i64 h0, .int .i64 h1, .int .i64 h2, .int .i64 h3, .string h4, .string h5, .slice A5 (l.length + 1) cap5] F5) := hide (show ExR (4 + 1) _ _ _ _ from ⟨.slice A5 (l.length + 1) cap5, rfl, Hok.out, Hsl5.out.frame (ExR.good 4) (fun k hk => heap_setCell_other w5 ⟨W1.heap.size, 6, none⟩ k (.slice A5 (l.length + 1) cap5) (by show k ≠ W1.heap.size; exact (HavF.out k hk).1)) hbS.size⟩)
    have yy := frozen_of_row w5 _ 6 _ _ HbW.out
    have rr := cell_at (i := 6) HbW.out (by simp)
    clear hbS hsl5 hF5 hb5 r0 r1 r2 r3 r4 r5 r6
    refine Hold.go ?_
    have Hcw : Hid (CellsAt (w5.setCell ⟨W1.heap.size, 6, none⟩ (.slice A5 (l.length + 1) cap5)) W1.heap.size 0 [.int .i64 h0, .int .i64 h1, .int .i64 h2, .int .i64 h3, .string h4, .string h5, .slice A5 (l.length + 1) cap5]) := hide (fun i u hu => by
      rw [cell_of_row _ _ _ _ _ _ Hrs.out, Nat.zero_add]
      simpa using hu)
    have Hn7 : Hid (([.int .i64 h0, .int .i64 h1, .int .i64 h2, .int .i64 h3, .string h4, .string h5, .slice A5 (l.length + 1) cap5] : List Value).length = 7) := hide rfl
    have H17 := hide (ExR.one HRs.out)
    go_wp2_with (first
      | refine wpList_load_at 52 (.tmp 3) rfl Try.underlying52 rfl Hi.out rfl rfl Hn7.out Hcw.out ?_
      | (refine wpList_store_at 52 (.tmp 2) (.tmp 49) (cs := [.int .i64 h0, .int .i64 h1, .int .i64 h2, .int .i64 h3, .string h4, .string h5, .slice A5 (l.length + 1) cap5]) rfl Hi.out rfl rfl rfl Hn7.out H17.out Hzs.out (by decide) ?_; intro WF hP; have HP := hide hP; clear hP))
    obtain ⟨x0, x1, x2, x3, x4, x5, x6⟩ := HP.out.cellsAt.seven0
    have hbF : Below w.heap.size (w5.setCell ⟨W1.heap.size, 6, none⟩ (.slice A5 (l.length + 1) cap5)) WF := HP.out.below (Nat.le_refl _)
    have hgF : w.grownBy WF (some b) := mk_base Hgs.out hbF (Nat.le_refl _)
    have hRF : ExR 5 WF (.mk ⟨h0, h1, h2, h3, h4, h5⟩ (l ++ [(Ex.mk ⟨7, 0, 0, 0, ⟨#[]⟩, ⟨#[]⟩⟩ [])])) [.int .i64 h0, .int .i64 h1, .int .i64 h2, .int .i64 h3, .string h4, .string h5, .slice A5 (l.length + 1) cap5] F5 := (ExR.good _).frame HRs.out (fun k hk => HP.out.far k ((HavF.out k hk).2.1)) (by rw [HP.out.size]; exact Nat.le_refl _)
    exact bodyPost_ret (v := .agg #[.int .i64 h0, .int .i64 h1, .int .i64 h2, .int .i64 h3, .string h4, .string h5, .slice A5 (l.length + 1) cap5]) (by simp [results, Try.results67, go_sem, x0, x1, x2, x3, x4, x5, x6]) rfl ⟨(.mk ⟨h0, h1, h2, h3, h4, h5⟩ (l ++ [(Ex.mk ⟨7, 0, 0, 0, ⟨#[]⟩, ⟨#[]⟩⟩ [])])), [.int .i64 h0, .int .i64 h1, .int .i64 h2, .int .i64 h3, .string h4, .string h5, .slice A5 (l.length + 1) cap5], F5, rfl, hRF.up 11 (by omega), by rw [bulk_up _ WF _ _ _ hRF 11 (by omega)]; show (h4.size : Int) + h5.size + (((l ++ [(Ex.mk ⟨7, 0, 0, 0, ⟨#[]⟩, ⟨#[]⟩⟩ [])]).length : Nat) + sumBy (bulkE 4) (l ++ [(Ex.mk ⟨7, 0, 0, 0, ⟨#[]⟩, ⟨#[]⟩⟩ [])])) ≤ 20000; rw [sumBy_app, List.length_append]; have z1 : sumBy (bulkE 4) [(Ex.mk ⟨7, 0, 0, 0, ⟨#[]⟩, ⟨#[]⟩⟩ [])] = 0 := rfl; rw [z1]; simp only [List.length_cons, List.length_nil]; omega, hgF, fun k hk => by exact (HavF.out k hk).2.2⟩
  · subst hq
    have hp := s_pickNew Hc.out [-1, 13, 4096, 1000001] (-1) 1000001 (by decide) (by decide) (by decide)
    simp only [List.map_cons, List.map_nil, List.length_cons, List.length_nil] at hp
    have Hp := hide hp
    clear hp
    go_wp2_with (go_at_call 98; refine Calls.mono Hp.out ?_; rintro en WX ⟨y, rfl, hy0, hy1, hc_, hg_⟩; refine hold ?_)
    have HbW := hide ((hg_.block _ (blk_lt Hbx.out) (by intro e; injection e; omega)).trans Hbx.out)
    have HzW := hide ((hg_.block _ (blk_lt Hz.out) (by intro e; injection e; omega)).trans Hz.out)
    have HgW := hide (grown_trans2 Hg.out hg_)
    have HslW := hide (Hsl.out.frame (ExR.good 4) (fun k hk => hg_.block k (by have := HavG.out k hk; omega) (by intro e; injection e; have := HavG.out k hk; omega)) hg_.size)
    have hsX : W1.heap.size + 1 ≤ WX.heap.size := Nat.le_trans hsW hg_.size
    clear hc_ hg_ r0 r1 r2 r3 r4 r5 r6
    clear Hp
    refine Hold.go ?_
    have Hrs : Hid ((WX.setCell ⟨W1.heap.size, 1, none⟩ (.int .i64 y)).heap[W1.heap.size]? = some (.cells #[.int .i64 h0, .int .i64 y, .int .i64 h2, .int .i64 h3, .string h4, .string h5, .slice A l.length l.length] 52 (0, 0))) := hide (heap_setCell_same WX W1.heap.size 1 _ _ (.int .i64 y) HbW.out)
    have Hzs : Hid ((WX.setCell ⟨W1.heap.size, 1, none⟩ (.int .i64 y)).heap[w.heap.size]? = some (.cells #[.int .i64 0, .int .i64 0, .int .i64 0, .int .i64 0, .string ⟨#[]⟩, .string ⟨#[]⟩, .slice none 0 0] 52 (0, 0))) := hide ((heap_setCell_other WX ⟨W1.heap.size, 1, none⟩ w.heap.size (.int .i64 y) (by show w.heap.size ≠ W1.heap.size; omega)).trans HzW.out)
    have hbS : Below w.heap.size WX (WX.setCell ⟨W1.heap.size, 1, none⟩ (.int .i64 y)) := Below.setCell (p := ⟨W1.heap.size, 1, none⟩) (Below.refl _ _) (show w.heap.size ≤ W1.heap.size by omega) _
    have Hgs : Hid (w.grownBy (WX.setCell ⟨W1.heap.size, 1, none⟩ (.int .i64 y)) (some b)) := hide (mk_base HgW.out hbS (Nat.le_refl _))
    have HRs : Hid (ExR 5 (WX.setCell ⟨W1.heap.size, 1, none⟩ (.int .i64 y)) (.mk ⟨h0, y, h2, h3, h4, h5⟩ l) [.int .i64 h0, .int .i64 y, .int .i64 h2, .int .i64 h3, .string h4, .string h5, .slice A l.length l.length] G) := hide ⟨_, rfl, ⟨Hok.out.kind, (show (Lit.int .i64 y).wf = true from wf_drawn (by omega) (by omega)), Hok.out.pos, Hok.out.type, Hok.out.symbol, Hok.out.name⟩, HslW.out.frame (ExR.good 4) (fun k hk => heap_setCell_other WX ⟨W1.heap.size, 1, none⟩ k (.int .i64 y) (by show k ≠ W1.heap.size; have := HavG.out k hk; omega)) hbS.size⟩
    have yy := frozen_of_row WX _ 1 _ _ HbW.out
    have rr := cell_at (i := 1) HbW.out (by simp)
    clear hbS
    have Hcw : Hid (CellsAt (WX.setCell ⟨W1.heap.size, 1, none⟩ (.int .i64 y)) W1.heap.size 0 [.int .i64 h0, .int .i64 y, .int .i64 h2, .int .i64 h3, .string h4, .string h5, .slice A l.length l.length]) := hide (fun i u hu => by
      rw [cell_of_row _ _ _ _ _ _ Hrs.out, Nat.zero_add]
      simpa using hu)
    have Hn7 : Hid (([.int .i64 h0, .int .i64 y, .int .i64 h2, .int .i64 h3, .string h4, .string h5, .slice A l.length l.length] : List Value).length = 7) := hide rfl
    have H17 := hide (ExR.one HRs.out)
    go_wp2_with (first
      | refine wpList_load_at 52 (.tmp 3) rfl Try.underlying52 rfl Hi.out rfl rfl Hn7.out Hcw.out ?_
      | (refine wpList_store_at 52 (.tmp 2) (.tmp 49) (cs := [.int .i64 h0, .int .i64 y, .int .i64 h2, .int .i64 h3, .string h4, .string h5, .slice A l.length l.length]) rfl Hi.out rfl rfl rfl Hn7.out H17.out Hzs.out (by decide) ?_; intro WF hP; have HP := hide hP; clear hP))
    obtain ⟨x0, x1, x2, x3, x4, x5, x6⟩ := HP.out.cellsAt.seven0
    have hbF : Below w.heap.size (WX.setCell ⟨W1.heap.size, 1, none⟩ (.int .i64 y)) WF := HP.out.below (Nat.le_refl _)
    have hgF : w.grownBy WF (some b) := mk_base Hgs.out hbF (Nat.le_refl _)
    have hRF : ExR 5 WF (.mk ⟨h0, y, h2, h3, h4, h5⟩ l) [.int .i64 h0, .int .i64 y, .int .i64 h2, .int .i64 h3, .string h4, .string h5, .slice A l.length l.length] G := (ExR.good _).frame HRs.out (fun k hk => HP.out.far k (by have := HavG.out k hk; omega)) (by rw [HP.out.size]; exact Nat.le_refl _)
    exact bodyPost_ret (v := .agg #[.int .i64 h0, .int .i64 y, .int .i64 h2, .int .i64 h3, .string h4, .string h5, .slice A l.length l.length]) (by simp [results, Try.results67, go_sem, x0, x1, x2, x3, x4, x5, x6]) rfl ⟨(.mk ⟨h0, y, h2, h3, h4, h5⟩ l), [.int .i64 h0, .int .i64 y, .int .i64 h2, .int .i64 h3, .string h4, .string h5, .slice A l.length l.length], G, rfl, hRF.up 11 (by omega), by rw [bulk_up _ WF _ _ _ hRF 11 (by omega)]; show (h4.size : Int) + h5.size + (l.length + sumBy (bulkE 4) l) ≤ 20000; omega, hgF, fun k hk => by have := HavG.out k hk; omega⟩
  · subst hq
    have hp := s_pickNew Hc.out [-1, 4, 1] (-1) 4 (by decide) (by decide) (by decide)
    simp only [List.map_cons, List.map_nil, List.length_cons, List.length_nil] at hp
    have Hp := hide hp
    clear hp
    go_wp2_with (go_at_call 98; refine Calls.mono Hp.out ?_; rintro en WX ⟨y, rfl, hy0, hy1, hc_, hg_⟩; refine hold ?_)
    have HbW := hide ((hg_.block _ (blk_lt Hbx.out) (by intro e; injection e; omega)).trans Hbx.out)
    have HzW := hide ((hg_.block _ (blk_lt Hz.out) (by intro e; injection e; omega)).trans Hz.out)
    have HgW := hide (grown_trans2 Hg.out hg_)
    have HslW := hide (Hsl.out.frame (ExR.good 4) (fun k hk => hg_.block k (by have := HavG.out k hk; omega) (by intro e; injection e; have := HavG.out k hk; omega)) hg_.size)
    have hsX : W1.heap.size + 1 ≤ WX.heap.size := Nat.le_trans hsW hg_.size
    clear hc_ hg_ r0 r1 r2 r3 r4 r5 r6
    clear Hp
    refine Hold.go ?_
    have Hrs : Hid ((WX.setCell ⟨W1.heap.size, 2, none⟩ (.int .i64 y)).heap[W1.heap.size]? = some (.cells #[.int .i64 h0, .int .i64 h1, .int .i64 y, .int .i64 h3, .string h4, .string h5, .slice A l.length l.length] 52 (0, 0))) := hide (heap_setCell_same WX W1.heap.size 2 _ _ (.int .i64 y) HbW.out)
    have Hzs : Hid ((WX.setCell ⟨W1.heap.size, 2, none⟩ (.int .i64 y)).heap[w.heap.size]? = some (.cells #[.int .i64 0, .int .i64 0, .int .i64 0, .int .i64 0, .string ⟨#[]⟩, .string ⟨#[]⟩, .slice none 0 0] 52 (0, 0))) := hide ((heap_setCell_other WX ⟨W1.heap.size, 2, none⟩ w.heap.size (.int .i64 y) (by show w.heap.size ≠ W1.heap.size; omega)).trans HzW.out)
    have hbS : Below w.heap.size WX (WX.setCell ⟨W1.heap.size, 2, none⟩ (.int .i64 y)) := Below.setCell (p := ⟨W1.heap.size, 2, none⟩) (Below.refl _ _) (show w.heap.size ≤ W1.heap.size by omega) _
    have Hgs : Hid (w.grownBy (WX.setCell ⟨W1.heap.size, 2, none⟩ (.int .i64 y)) (some b)) := hide (mk_base HgW.out hbS (Nat.le_refl _))
    have HRs : Hid (ExR 5 (WX.setCell ⟨W1.heap.size, 2, none⟩ (.int .i64 y)) (.mk ⟨h0, h1, y, h3, h4, h5⟩ l) [.int .i64 h0, .int .i64 h1, .int .i64 y, .int .i64 h3, .string h4, .string h5, .slice A l.length l.length] G) := hide ⟨_, rfl, ⟨Hok.out.kind, Hok.out.n, (show (Lit.int .i64 y).wf = true from wf_drawn (by omega) (by omega)), Hok.out.type, Hok.out.symbol, Hok.out.name⟩, HslW.out.frame (ExR.good 4) (fun k hk => heap_setCell_other WX ⟨W1.heap.size, 2, none⟩ k (.int .i64 y) (by show k ≠ W1.heap.size; have := HavG.out k hk; omega)) hbS.size⟩
    have yy := frozen_of_row WX _ 2 _ _ HbW.out
    have rr := cell_at (i := 2) HbW.out (by simp)
    clear hbS
    have Hcw : Hid (CellsAt (WX.setCell ⟨W1.heap.size, 2, none⟩ (.int .i64 y)) W1.heap.size 0 [.int .i64 h0, .int .i64 h1, .int .i64 y, .int .i64 h3, .string h4, .string h5, .slice A l.length l.length]) := hide (fun i u hu => by
      rw [cell_of_row _ _ _ _ _ _ Hrs.out, Nat.zero_add]
      simpa using hu)
    have Hn7 : Hid (([.int .i64 h0, .int .i64 h1, .int .i64 y, .int .i64 h3, .string h4, .string h5, .slice A l.length l.length] : List Value).length = 7) := hide rfl
    have H17 := hide (ExR.one HRs.out)
    go_wp2_with (first
      | refine wpList_load_at 52 (.tmp 3) rfl Try.underlying52 rfl Hi.out rfl rfl Hn7.out Hcw.out ?_
      | (refine wpList_store_at 52 (.tmp 2) (.tmp 49) (cs := [.int .i64 h0, .int .i64 h1, .int .i64 y, .int .i64 h3, .string h4, .string h5, .slice A l.length l.length]) rfl Hi.out rfl rfl rfl Hn7.out H17.out Hzs.out (by decide) ?_; intro WF hP; have HP := hide hP; clear hP))
    obtain ⟨x0, x1, x2, x3, x4, x5, x6⟩ := HP.out.cellsAt.seven0
    have hbF : Below w.heap.size (WX.setCell ⟨W1.heap.size, 2, none⟩ (.int .i64 y)) WF := HP.out.below (Nat.le_refl _)
    have hgF : w.grownBy WF (some b) := mk_base Hgs.out hbF (Nat.le_refl _)
    have hRF : ExR 5 WF (.mk ⟨h0, h1, y, h3, h4, h5⟩ l) [.int .i64 h0, .int .i64 h1, .int .i64 y, .int .i64 h3, .string h4, .string h5, .slice A l.length l.length] G := (ExR.good _).frame HRs.out (fun k hk => HP.out.far k (by have := HavG.out k hk; omega)) (by rw [HP.out.size]; exact Nat.le_refl _)
    exact bodyPost_ret (v := .agg #[.int .i64 h0, .int .i64 h1, .int .i64 y, .int .i64 h3, .string h4, .string h5, .slice A l.length l.length]) (by simp [results, Try.results67, go_sem, x0, x1, x2, x3, x4, x5, x6]) rfl ⟨(.mk ⟨h0, h1, y, h3, h4, h5⟩ l), [.int .i64 h0, .int .i64 h1, .int .i64 y, .int .i64 h3, .string h4, .string h5, .slice A l.length l.length], G, rfl, hRF.up 11 (by omega), by rw [bulk_up _ WF _ _ _ hRF 11 (by omega)]; show (h4.size : Int) + h5.size + (l.length + sumBy (bulkE 4) l) ≤ 20000; omega, hgF, fun k hk => by have := HavG.out k hk; omega⟩
  · subst hq
    have hp := s_pickNewS Hc.out [⟨#[105, 102]⟩, ⟨#[]⟩, ⟨#[120]⟩] (by decide) (by decide) (by decide)
    simp only [List.map_cons, List.map_nil, List.length_cons, List.length_nil] at hp
    have Hp := hide hp
    clear hp
    go_wp2_with (go_at_call 99; refine Calls.mono Hp.out ?_; rintro en WX ⟨y, rfl, hy, hc_, hg_⟩; refine hold ?_)
    have HbW := hide ((hg_.block _ (blk_lt Hbx.out) (by intro e; injection e; omega)).trans Hbx.out)
    have HzW := hide ((hg_.block _ (blk_lt Hz.out) (by intro e; injection e; omega)).trans Hz.out)
    have HgW := hide (grown_trans2 Hg.out hg_)
    have HslW := hide (Hsl.out.frame (ExR.good 4) (fun k hk => hg_.block k (by have := HavG.out k hk; omega) (by intro e; injection e; have := HavG.out k hk; omega)) hg_.size)
    have hsX : W1.heap.size + 1 ≤ WX.heap.size := Nat.le_trans hsW hg_.size
    clear hc_ hg_ r0 r1 r2 r3 r4 r5 r6
    clear Hp
    refine Hold.go ?_
    have Hrs : Hid ((WX.setCell ⟨W1.heap.size, 5, none⟩ (.string y)).heap[W1.heap.size]? = some (.cells #[.int .i64 h0, .int .i64 h1, .int .i64 h2, .int .i64 h3, .string h4, .string y, .slice A l.length l.length] 52 (0, 0))) := hide (heap_setCell_same WX W1.heap.size 5 _ _ (.string y) HbW.out)
    have Hzs : Hid ((WX.setCell ⟨W1.heap.size, 5, none⟩ (.string y)).heap[w.heap.size]? = some (.cells #[.int .i64 0, .int .i64 0, .int .i64 0, .int .i64 0, .string ⟨#[]⟩, .string ⟨#[]⟩, .slice none 0 0] 52 (0, 0))) := hide ((heap_setCell_other WX ⟨W1.heap.size, 5, none⟩ w.heap.size (.string y) (by show w.heap.size ≠ W1.heap.size; omega)).trans HzW.out)
    have hbS : Below w.heap.size WX (WX.setCell ⟨W1.heap.size, 5, none⟩ (.string y)) := Below.setCell (p := ⟨W1.heap.size, 5, none⟩) (Below.refl _ _) (show w.heap.size ≤ W1.heap.size by omega) _
    have Hgs : Hid (w.grownBy (WX.setCell ⟨W1.heap.size, 5, none⟩ (.string y)) (some b)) := hide (mk_base HgW.out hbS (Nat.le_refl _))
    have HRs : Hid (ExR 5 (WX.setCell ⟨W1.heap.size, 5, none⟩ (.string y)) (.mk ⟨h0, h1, h2, h3, h4, y⟩ l) [.int .i64 h0, .int .i64 h1, .int .i64 h2, .int .i64 h3, .string h4, .string y, .slice A l.length l.length] G) := hide ⟨_, rfl, ⟨Hok.out.kind, Hok.out.n, Hok.out.pos, Hok.out.type, Hok.out.symbol, (by show y.size ≤ maxLen; unfold maxLen; omega)⟩, HslW.out.frame (ExR.good 4) (fun k hk => heap_setCell_other WX ⟨W1.heap.size, 5, none⟩ k (.string y) (by show k ≠ W1.heap.size; have := HavG.out k hk; omega)) hbS.size⟩
    have yy := frozen_of_row WX _ 5 _ _ HbW.out
    have rr := cell_at (i := 5) HbW.out (by simp)
    clear hbS
    have Hcw : Hid (CellsAt (WX.setCell ⟨W1.heap.size, 5, none⟩ (.string y)) W1.heap.size 0 [.int .i64 h0, .int .i64 h1, .int .i64 h2, .int .i64 h3, .string h4, .string y, .slice A l.length l.length]) := hide (fun i u hu => by
      rw [cell_of_row _ _ _ _ _ _ Hrs.out, Nat.zero_add]
      simpa using hu)
    have Hn7 : Hid (([.int .i64 h0, .int .i64 h1, .int .i64 h2, .int .i64 h3, .string h4, .string y, .slice A l.length l.length] : List Value).length = 7) := hide rfl
    have H17 := hide (ExR.one HRs.out)
    go_wp2_with (first
      | refine wpList_load_at 52 (.tmp 3) rfl Try.underlying52 rfl Hi.out rfl rfl Hn7.out Hcw.out ?_
      | (refine wpList_store_at 52 (.tmp 2) (.tmp 49) (cs := [.int .i64 h0, .int .i64 h1, .int .i64 h2, .int .i64 h3, .string h4, .string y, .slice A l.length l.length]) rfl Hi.out rfl rfl rfl Hn7.out H17.out Hzs.out (by decide) ?_; intro WF hP; have HP := hide hP; clear hP))
    obtain ⟨x0, x1, x2, x3, x4, x5, x6⟩ := HP.out.cellsAt.seven0
    have hbF : Below w.heap.size (WX.setCell ⟨W1.heap.size, 5, none⟩ (.string y)) WF := HP.out.below (Nat.le_refl _)
    have hgF : w.grownBy WF (some b) := mk_base Hgs.out hbF (Nat.le_refl _)
    have hRF : ExR 5 WF (.mk ⟨h0, h1, h2, h3, h4, y⟩ l) [.int .i64 h0, .int .i64 h1, .int .i64 h2, .int .i64 h3, .string h4, .string y, .slice A l.length l.length] G := (ExR.good _).frame HRs.out (fun k hk => HP.out.far k (by have := HavG.out k hk; omega)) (by rw [HP.out.size]; exact Nat.le_refl _)
    exact bodyPost_ret (v := .agg #[.int .i64 h0, .int .i64 h1, .int .i64 h2, .int .i64 h3, .string h4, .string y, .slice A l.length l.length]) (by simp [results, Try.results67, go_sem, x0, x1, x2, x3, x4, x5, x6]) rfl ⟨(.mk ⟨h0, h1, h2, h3, h4, y⟩ l), [.int .i64 h0, .int .i64 h1, .int .i64 h2, .int .i64 h3, .string h4, .string y, .slice A l.length l.length], G, rfl, hRF.up 11 (by omega), by rw [bulk_up _ WF _ _ _ hRF 11 (by omega)]; show (h4.size : Int) + y.size + (l.length + sumBy (bulkE 4) l) ≤ 20000; omega, hgF, fun k hk => by have := HavG.out k hk; omega⟩
  · subst hq
    have HR0 : Hid (ExR 5 W (.mk ⟨h0, h1, h2, h3, h4, h5⟩ l) [.int .i64 h0, .int .i64 h1, .int .i64 h2, .int .i64 h3, .string h4, .string h5, .slice A l.length l.length] G) := hide (show ExR (4 + 1) _ _ _ _ from ⟨_, rfl, Hok.out, Hsl.out⟩)
    have Hav0 : Hid (∀ k ∈ G, k ≠ W1.heap.size ∧ k ≠ w.heap.size ∧ w.heap.size ≤ k) := hide fun k hk => by have := HavG.out k hk; omega
    have Hbk0 : Hid (bulkE 5 (.mk ⟨h0, h1, h2, h3, h4, h5⟩ l) ≤ 9184) := hide hbk2
    clear r0 r1 r2 r3 r4 r5 r6
    go_wp2_with fail
    go_loopw [4] (fun i wr => ∃ (j : Nat) (e : Ex) (us : List Value) (F : List Nat), j ≤ 5 ∧ i = .int .i64 j ∧ Hid (ExR (5 + j) wr e us F) ∧ Hid (bulkE (5 + j) e ≤ 9184 + 2 * j) ∧ Hid (∀ k ∈ F, k ≠ W1.heap.size ∧ k ≠ w.heap.size ∧ w.heap.size ≤ k) ∧ Hid (wr.heap[W1.heap.size]? = some (.cells us.toArray 52 (0, 0))) ∧ Hid (wr.heap[w.heap.size]? = some (.cells #[.int .i64 0, .int .i64 0, .int .i64 0, .int .i64 0, .string ⟨#[]⟩, .string ⟨#[]⟩, .slice none 0 0] 52 (0, 0))) ∧ Hid (w.grownBy wr (some b))) (fun i _ => 5 - (intOf i).toNat)
    case atStart => exact ⟨0, _, _, G, by omega, rfl, HR0, hide (by have := Hbk0.out; simpa using this), Hav0, Hbx, Hz, Hg⟩
    case round =>
      obtain ⟨j, e, us, F, hj, rfl, HRj, Hbk, Hav, Hrow, Hzj, Hgj⟩ := hrel
      obtain ⟨u0, u1, u2, u3, u4, u5, u6, rfl⟩ := list7 ((ExR.good _).len HRj.out)
      by_cases hlj : j < 5
      · have hji : (j : Int) < 5 := by omega
        have Hcw : Hid (CellsAt wr W1.heap.size 0 [u0, u1, u2, u3, u4, u5, u6]) := hide (fun i u hu => by
          rw [cell_of_row _ _ _ _ _ _ Hrow.out, Nat.zero_add]
          simpa using hu)
        have Hn7 : Hid (([u0, u1, u2, u3, u4, u5, u6] : List Value).length = 7) := hide rfl
        have Hleaf : Hid (ExR (5 + j) wr (.mk ⟨2, 0, 0, 0, ⟨#[]⟩, ⟨#[]⟩⟩ []) [.int .i64 2, .int .i64 0, .int .i64 0, .int .i64 0, .string ⟨#[]⟩, .string ⟨#[]⟩, .slice none 0 0] []) := hide (by
          rw [show 5 + j = (4 + j) + 1 by omega]
          exact ⟨_, rfl, (exh_ok ⟨by omega, by omega⟩ ⟨by omega, by omega⟩ ⟨by omega, by omega⟩ ⟨by omega, by omega⟩ (by decide) (by decide)), nilX _⟩)
        go_wp2_with (refine wpList_load_at 52 (.tmp 3) rfl Try.underlying52 rfl Hi.out rfl rfl Hn7.out Hcw.out ?_)
        refine (s_l4Op 1 ⟨by omega, by omega⟩ e (.mk ⟨2, 0, 0, 0, ⟨#[]⟩, ⟨#[]⟩⟩ []) [u0, u1, u2, u3, u4, u5, u6] [.int .i64 2, .int .i64 0, .int .i64 0, .int .i64 0, .string ⟨#[]⟩, .string ⟨#[]⟩, .slice none 0 0] F [] wr HRj.out Hleaf.out).mono ?_
        rintro en w5 ⟨g, rfl, hRO, hgO, hbO, _⟩
        have hsw : w.heap.size < wr.heap.size := blk_lt Hzj.out
        have hsp : W1.heap.size < wr.heap.size := blk_lt Hrow.out
        have HbW := hide (blk_below Hrow.out hbO hsp)
        have HzW := hide (blk_below Hzj.out hbO hsw)
        have HgW := hide (mk_base Hgj.out hbO Hgj.out.size)
        have HRO := hide hRO
        have HavO : Hid (∀ k ∈ g :: (F ++ []), k ≠ W1.heap.size ∧ k ≠ w.heap.size ∧ w.heap.size ≤ k) := hide fun k hk => by
          rw [List.append_nil] at hk
          rcases List.mem_cons.1 hk with rfl | hk
          · omega
          · exact Hav.out k hk
        have H1O := hide (ExR.one hRO)
        have HbkO : Hid (bulkE (5 + (j + 1)) (.mk ⟨4, 1, 0, 0, ⟨#[]⟩, ⟨#[]⟩⟩ [e, .mk ⟨2, 0, 0, 0, ⟨#[]⟩, ⟨#[]⟩⟩ []]) ≤ 9184 + 2 * ((j + 1 : Nat) : Int)) := hide (by
          rw [show 5 + (j + 1) = (5 + j) + 1 by omega, bulk_mk]
          have z0 : ((⟨#[]⟩ : ByteArray).size : Int) = 0 := rfl
          have z1 : bulkE (5 + j) (.mk ⟨2, 0, 0, 0, ⟨#[]⟩, ⟨#[]⟩⟩ []) = 0 := by
            rw [show 5 + j = (4 + j) + 1 by omega, bulk_mk, z0]
            simp [sumBy]
          simp only [sumBy, z1, List.length_cons, List.length_nil]
          rw [z0]
          have := Hbk.out
          omega)
        clear hRO hbO
        go_wp2_with (refine wpList_store_at 52 (.tmp 3) (.tmp 48) (cs := [.int .i64 4, .int .i64 1, .int .i64 0, .int .i64 0, .string ⟨#[]⟩, .string ⟨#[]⟩, .slice (some ⟨g, 0, none⟩) 2 2]) rfl Hi.out rfl rfl rfl rfl H1O.out HbW.out (by simp) ?_; intro WF hP; have HP := hide hP; clear hP; refine hold ?_)
        have HRn : Hid (ExR (5 + (j + 1)) WF (.mk ⟨4, 1, 0, 0, ⟨#[]⟩, ⟨#[]⟩⟩ [e, .mk ⟨2, 0, 0, 0, ⟨#[]⟩, ⟨#[]⟩⟩ []]) [.int .i64 4, .int .i64 1, .int .i64 0, .int .i64 0, .string ⟨#[]⟩, .string ⟨#[]⟩, .slice (some ⟨g, 0, none⟩) 2 2] (g :: (F ++ []))) := hide ((ExR.good _).frame HRO.out (fun k hk => HP.out.far k (HavO.out k hk).1) (by rw [HP.out.size]; exact Nat.le_refl _))
        have Hrn : Hid (WF.heap[W1.heap.size]? = some (.cells (List.toArray [.int .i64 4, .int .i64 1, .int .i64 0, .int .i64 0, .string ⟨#[]⟩, .string ⟨#[]⟩, .slice (some ⟨g, 0, none⟩) 2 2]) 52 (0, 0))) := hide (put_whole HP.out rfl)
        have Hzn : Hid (WF.heap[w.heap.size]? = some (.cells #[.int .i64 0, .int .i64 0, .int .i64 0, .int .i64 0, .string ⟨#[]⟩, .string ⟨#[]⟩, .slice none 0 0] 52 (0, 0))) := hide ((HP.out.far _ (by omega)).trans HzW.out)
        have Hgn := hide (mk_base HgW.out (HP.out.below (show w.heap.size ≤ W1.heap.size by omega)) (Nat.le_refl _))
        refine Hold.go ?_
        go_wp2_with fail
        go_roundw
        case rel => exact ⟨j + 1, _, _, _, by omega, by go_num, HRn, HbkO, HavO, Hrn, Hzn, Hgn⟩
        case measure => simp [intOf]; omega
      · have hj5 : j = 5 := by omega
        subst hj5
        have Hcw : Hid (CellsAt wr W1.heap.size 0 [u0, u1, u2, u3, u4, u5, u6]) := hide (fun i u hu => by
          rw [cell_of_row _ _ _ _ _ _ Hrow.out, Nat.zero_add]
          simpa using hu)
        have Hn7 : Hid (([u0, u1, u2, u3, u4, u5, u6] : List Value).length = 7) := hide rfl
        have H17 := hide (ExR.one HRj.out)
        go_wp2_with (first
          | refine wpList_load_at 52 (.tmp 3) rfl Try.underlying52 rfl Hi.out rfl rfl Hn7.out Hcw.out ?_
          | (refine wpList_store_at 52 (.tmp 2) (.tmp 49) (cs := [u0, u1, u2, u3, u4, u5, u6]) rfl Hi.out rfl rfl rfl Hn7.out H17.out Hzj.out (by decide) ?_; intro WF hP; have HP := hide hP; clear hP))
        obtain ⟨x0, x1, x2, x3, x4, x5, x6⟩ := HP.out.cellsAt.seven0
        have hbF : Below w.heap.size wr WF := HP.out.below (Nat.le_refl _)
        have hgF : w.grownBy WF (some b) := mk_base Hgj.out hbF (Nat.le_refl _)
        have hRF : ExR (5 + 5) WF e [u0, u1, u2, u3, u4, u5, u6] F := (ExR.good _).frame HRj.out (fun k hk => HP.out.far k ((Hav.out k hk).2.1)) (by rw [HP.out.size]; exact Nat.le_refl _)
        exact bodyPost_ret (v := .agg #[u0, u1, u2, u3, u4, u5, u6]) (by simp [results, Try.results67, go_sem, x0, x1, x2, x3, x4, x5, x6]) rfl ⟨e, [u0, u1, u2, u3, u4, u5, u6], F, rfl, hRF.up 11 (by omega), by rw [bulk_up _ WF _ _ _ hRF 11 (by omega)]; exact Int.le_trans Hbk.out (by omega), hgF, fun k hk => by exact (Hav.out k hk).2.2⟩
  · have n0 : (x == 0) = false := beq_eq_false_iff_ne.2 (by omega)
    have n1 : (x == 1) = false := beq_eq_false_iff_ne.2 (by omega)
    have n2 : (x == 2) = false := beq_eq_false_iff_ne.2 (by omega)
    have n3 : (x == 3) = false := beq_eq_false_iff_ne.2 (by omega)
    have n4 : (x == 4) = false := beq_eq_false_iff_ne.2 (by omega)
    have n5 : (x == 5) = false := beq_eq_false_iff_ne.2 (by omega)
    have HR0 : Hid (ExR 5 W (.mk ⟨h0, h1, h2, h3, h4, h5⟩ l) [.int .i64 h0, .int .i64 h1, .int .i64 h2, .int .i64 h3, .string h4, .string h5, .slice A l.length l.length] G) := hide (show ExR (4 + 1) _ _ _ _ from ⟨_, rfl, Hok.out, Hsl.out⟩)
    clear r0 r1 r2 r3 r4 r5 r6
    have Hcw : Hid (CellsAt W W1.heap.size 0 [.int .i64 h0, .int .i64 h1, .int .i64 h2, .int .i64 h3, .string h4, .string h5, .slice A l.length l.length]) := hide (fun i u hu => by
      rw [cell_of_row _ _ _ _ _ _ Hbx.out, Nat.zero_add]
      simpa using hu)
    have Hn7 : Hid (([.int .i64 h0, .int .i64 h1, .int .i64 h2, .int .i64 h3, .string h4, .string h5, .slice A l.length l.length] : List Value).length = 7) := hide rfl
    have H17 := hide (ExR.one HR0.out)
    go_wp2_with (first
      | refine wpList_load_at 52 (.tmp 3) rfl Try.underlying52 rfl Hi.out rfl rfl Hn7.out Hcw.out ?_
      | (refine wpList_store_at 52 (.tmp 2) (.tmp 49) (cs := [.int .i64 h0, .int .i64 h1, .int .i64 h2, .int .i64 h3, .string h4, .string h5, .slice A l.length l.length]) rfl Hi.out rfl rfl rfl Hn7.out H17.out Hz.out (by decide) ?_; intro WF hP; have HP := hide hP; clear hP))
    obtain ⟨x0, x1, x2, x3, x4, x5, x6⟩ := HP.out.cellsAt.seven0
    have hbF : Below w.heap.size W WF := HP.out.below (Nat.le_refl _)
    have hgF : w.grownBy WF (some b) := mk_base Hg.out hbF (Nat.le_refl _)
    have hRF : ExR 5 WF (.mk ⟨h0, h1, h2, h3, h4, h5⟩ l) [.int .i64 h0, .int .i64 h1, .int .i64 h2, .int .i64 h3, .string h4, .string h5, .slice A l.length l.length] G := (ExR.good _).frame HR0.out (fun k hk => HP.out.far k (by have := HavG.out k hk; omega)) (by rw [HP.out.size]; exact Nat.le_refl _)
    exact bodyPost_ret (v := .agg #[.int .i64 h0, .int .i64 h1, .int .i64 h2, .int .i64 h3, .string h4, .string h5, .slice A l.length l.length]) (by simp [results, Try.results67, go_sem, x0, x1, x2, x3, x4, x5, x6]) rfl ⟨(.mk ⟨h0, h1, h2, h3, h4, h5⟩ l), [.int .i64 h0, .int .i64 h1, .int .i64 h2, .int .i64 h3, .string h4, .string h5, .slice A l.length l.length], G, rfl, hRF.up 11 (by omega), by rw [bulk_up _ WF _ _ _ hRF 11 (by omega)]; show (h4.size : Int) + h5.size + (l.length + sumBy (bulkE 4) l) ≤ 20000; omega, hgF, fun k hk => by have := HavG.out k hk; omega⟩
end Go.Proofs.Ytaihdnlpdibkoaa
