/- Expressions drawn: constants, operations, leaves. Conditions: the bytes drawn from can be read. -/
import Derived.Test.YtaihdnlpdibkoaaDrawL
import Derived.Test.YtaihdnlpdibkoaaMade
import Derived.Test.YtaihdnlpdibkoaaWhole
import Derived.Test.YtaihdnlpdibkoaaExFns
import Derived.Test.YtaihdnlpdibkoaaExGlue
import Derived.Test.YtaihdnlpdibkoaaOccEq
namespace Go.Proofs.Ytaihdnlpdibkoaa
set_option maxRecDepth 100000
open Go.RowKit Go.WideShapes
set_option linter.unusedVariables false

theorem Cur.baseU {w w' : World} {b B : Nat} (h : Cur w b) (hb : Below B w w') (hB : b < B) : Cur w' b := by
  obtain ⟨A, n, c, zs, i, x, hh, h1, h2, hr, hz⟩ := h
  exact ⟨A, n, c, zs, i, x, (hb.block b hB).trans hh, h1, h2, hr.keep fun p hp => hb.cell (by omega), hz⟩
theorem grown_of {w w1 : World} {b : Nat} (h : Below w.heap.size w w1) : w.grownBy w1 (some b) := ⟨h.os, h.tape, h.output, h.size, fun k hk _ => h.block k hk⟩
theorem nilX {α : Type} {n : Nat} {R : CR α} (w : World) : SlR n R w [] (.slice none 0 0) [] := ⟨none, 0, rfl, Nat.le_refl _, by simp [maxLen], .inl ⟨rfl, rfl⟩⟩
theorem wf_drawn {t : Int} (h0 : -10000000 ≤ t) (h1 : t ≤ 10000000) : (Lit.int .i64 t).wf = true := by
  have e1 : IntKind.i64.min = -9223372036854775808 := rfl
  have e2 : IntKind.i64.max = 9223372036854775807 := rfl
  simp [Lit.wf, e1, e2]
  omega
theorem exh_ok {k n p t : Int} {s m : ByteArray} (h1 : 0 ≤ k ∧ k ≤ 100) (h2 : -10000000 ≤ n ∧ n ≤ 10000000) (h3 : -100 ≤ p ∧ p ≤ 100) (h4 : 0 ≤ t ∧ t ≤ 100) (h5 : s.size ≤ 32) (h6 : m.size ≤ 32) : (⟨k, n, p, t, s, m⟩ : ExH).ok :=
  ⟨wf_drawn (by show _ ≤ k; omega) (by show k ≤ _; omega), wf_drawn h2.1 h2.2, wf_drawn (by show _ ≤ p; omega) (by show p ≤ _; omega), wf_drawn (by show _ ≤ t; omega) (by show t ≤ _; omega), by show s.size ≤ maxLen; unfold maxLen; omega, by show m.size ≤ maxLen; unfold maxLen; omega⟩
/-- An expression drawn: in blocks made since; its size; its arguments' row is full. -/
def DrX (n : Nat) (K : Int) (b : Nat) (w : World) (en : Ending) (w' : World) : Prop := ∃ (e : Ex) (A : Option Addr) (G : List Nat), en = .returned (.agg (List.toArray (e.h.cells (.slice A e.args.length e.args.length)))) ∧ ExR n w' e (e.h.cells (.slice A e.args.length e.args.length)) G ∧ Fresh w.heap.size w' G ∧ bulkE n e ≤ K ∧ Cur w' b ∧ w.grownBy w' (some b)
theorem DrX.leaf {n : Nat} {K : Int} {b : Nat} {w w' : World} (h : ExH) (hok : h.ok) (hK : (h.symbol.size : Int) + h.name.size ≤ K) (hc : Cur w' b) (hg : w.grownBy w' (some b)) : DrX (n + 1) K b w (.returned (.agg #[.int .i64 h.kind, .int .i64 h.n, .int .i64 h.pos, .int .i64 h.type, .string h.symbol, .string h.name, .slice none 0 0])) w' :=
  ⟨.mk h [], none, [], rfl, ⟨_, rfl, hok, nilX w'⟩, Fresh.nil _ _, by simp [bulkE, sumBy, Ex.h, Ex.args]; omega, hc, hg⟩
theorem ExR.grownX {n n0 b : Nat} {w w' : World} {e : Ex} {cs : List Value} {G : List Nat} (h : ExR n w e cs G) (hf : Fresh n0 w G) (hb : b < n0) (hg : w.grownBy w' (some b)) : ExR n w' e cs G ∧ Fresh n0 w' G := by
  have hk : ∀ k ∈ G, w'.heap[k]? = w.heap[k]? := fun k hk => hg.block k (hf.lt k hk) (fun q => by injection q; have := hf.from_ k hk; omega)
  exact ⟨(ExR.good n).frame h hk hg.size, hf.keep hk⟩
/-- Sizes do not depend on the depth that is looked to. -/
theorem bulk_up : ∀ (d : Nat) (w : World) (e : Ex) (cs : List Value) (F : List Nat), ExR d w e cs F → ∀ d', d ≤ d' → bulkE d' e = bulkE d e
  | 0, _, _, _, _, h, _, _ => h.elim
  | d + 1, w, e, cs, F, h, 0, hd => by omega
  | d + 1, w, e, cs, F, h, d' + 1, hd => by
    obtain ⟨v, _, _, hs⟩ := h
    have key : ∀ (l : List Ex), (∀ x ∈ l, bulkE d' x = bulkE d x) → sumBy (bulkE d') l = sumBy (bulkE d) l := by
      intro l
      induction l with
      | nil => intro _; rfl
      | cons x r ih => intro h; simp only [sumBy]; rw [h x (by simp), ih fun y hy => h y (by simp [hy])]
    have hx : ∀ x ∈ e.args, bulkE d' x = bulkE d x := fun x hx => by
      obtain ⟨j, hj, rfl⟩ := List.getElem_of_mem hx
      obtain ⟨A, cap, hv, _, _⟩ := hs.form
      subst hv
      obtain ⟨_, _, cs', Fk, _, _, _, _, _, _, hR⟩ := SlR.get (ExR.good d) hs (List.getElem?_eq_getElem hj)
      exact bulk_up d w _ cs' Fk hR d' (by omega)
    simp only [bulkE, key e.args hx]
theorem z_shl (k : Int) (h0 : 0 ≤ k) (h1 : k ≤ 11) : 0 ≤ wrap64 (2 ^ k.toNat) ∧ wrap64 (2 ^ k.toNat) ≤ 2048 := by
  have : k = 0 ∨ k = 1 ∨ k = 2 ∨ k = 3 ∨ k = 4 ∨ k = 5 ∨ k = 6 ∨ k = 7 ∨ k = 8 ∨ k = 9 ∨ k = 10 ∨ k = 11 := by omega
  rcases this with rfl | rfl | rfl | rfl | rfl | rfl | rfl | rfl | rfl | rfl | rfl | rfl <;> (first | decide +kernel | (constructor <;> kernel_rfl))
set_option maxRecDepth 100000 in
theorem s_l4Const (n t : Int) (w : World) : Calls Try.prog 163 #[.int .i64 n, .int .i64 t] w fun en w' => en = .returned (.agg #[.int .i64 1, .int .i64 n, .int .i64 0, .int .i64 t, .string ⟨#[]⟩, .string ⟨#[]⟩, .slice none 0 0]) ∧ Below w.heap.size w w' := by
  have Hi : Hid ((Try.prog.info? 52).map (·.size) = some 7) := hide (by kernel_rfl)
  have hb : Below w.heap.size w (w.alloc (.cells #[.int .i64 0, .int .i64 0, .int .i64 0, .int .i64 0, .string ⟨#[]⟩, .string ⟨#[]⟩, .slice none 0 0] 52)) := (Below.refl _ _).alloc (Nat.le_refl _) _
  have Hz := hide (heap_alloc_new w (.cells #[.int .i64 0, .int .i64 0, .int .i64 0, .int .i64 0, .string ⟨#[]⟩, .string ⟨#[]⟩, .slice none 0 0] 52))
  have Hb := hide hb
  clear hb
  go_enter Try.func163, Try.ntmps163
  go_wp2_with (refine wpList_store_at 52 (.tmp 4) (.tmp 7) (cs := [.int .i64 1, .int .i64 n, .int .i64 0, .int .i64 t, .string ⟨#[]⟩, .string ⟨#[]⟩, .slice none 0 0]) rfl Hi.out rfl rfl rfl rfl (by simp [Value.oneCell']) Hz.out (by decide) ?_; intro WF hP; have HP := hide hP; clear hP)
  obtain ⟨x0, x1, x2, x3, x4, x5, x6⟩ := HP.out.cellsAt.seven0
  exact bodyPost_ret (v := .agg #[.int .i64 1, .int .i64 n, .int .i64 0, .int .i64 t, .string ⟨#[]⟩, .string ⟨#[]⟩, .slice none 0 0]) (by simp [results, Try.results163, go_sem, x0, x1, x2, x3, x4, x5, x6]) rfl ⟨rfl, Hb.out.trans (HP.out.below (Nat.le_refl _))⟩
set_option maxRecDepth 100000 in
set_option maxHeartbeats 2000000 in
/-- Two expressions under an operation. -/
theorem s_l4Op {n : Nat} (op : Int) (hop : 0 ≤ op ∧ op ≤ 100) (x y : Ex) (cx cy : List Value) (Fx Fy : List Nat) (w : World) (hx : ExR n w x cx Fx) (hy : ExR n w y cy Fy) :
    Calls Try.prog 100 #[.int .i64 op, .agg cx.toArray, .agg cy.toArray] w fun en w' => ∃ g : Nat, en = .returned (.agg #[.int .i64 4, .int .i64 op, .int .i64 0, .int .i64 0, .string ⟨#[]⟩, .string ⟨#[]⟩, .slice (some ⟨g, 0, none⟩) 2 2]) ∧ ExR (n + 1) w' (.mk ⟨4, op, 0, 0, ⟨#[]⟩, ⟨#[]⟩⟩ [x, y]) [.int .i64 4, .int .i64 op, .int .i64 0, .int .i64 0, .string ⟨#[]⟩, .string ⟨#[]⟩, .slice (some ⟨g, 0, none⟩) 2 2] (g :: (Fx ++ Fy)) ∧ w.heap.size ≤ g ∧ Below w.heap.size w w' ∧ ∃ c t, w'.heap[g]? = some (.cells c t (0, 0)) := by
  have hFx := (ExR.good n).lt hx
  have hFy := (ExR.good n).lt hy
  have ox := ExR.one hx
  have oy := ExR.one hy
  obtain ⟨a0, a1, a2, a3, a4, a5, a6, rfl⟩ := list7 ((ExR.good n).len hx)
  obtain ⟨c0, c1, c2, c3, c4, c5, c6, rfl⟩ := list7 ((ExR.good n).len hy)
  have Hi : Hid ((Try.prog.info? 52).map (·.size) = some 7) := hide (by kernel_rfl)
  have hb1 : Below w.heap.size w (w.alloc (.cells #[a0, a1, a2, a3, a4, a5, a6] 52)) := (Below.refl _ _).alloc (Nat.le_refl _) _
  have hA1 := CellsAt.new w [a0, a1, a2, a3, a4, a5, a6] 52
  have hs1 := World.size_alloc w (.cells #[a0, a1, a2, a3, a4, a5, a6] 52)
  obtain ⟨V1, hV1⟩ : ∃ V, V = w.alloc (.cells #[a0, a1, a2, a3, a4, a5, a6] 52) := ⟨_, rfl⟩
  rw [← hV1] at hb1 hA1 hs1
  have hb2 : Below V1.heap.size V1 (V1.alloc (.cells #[c0, c1, c2, c3, c4, c5, c6] 52)) := (Below.refl _ _).alloc (Nat.le_refl _) _
  have hC1 := CellsAt.new V1 [c0, c1, c2, c3, c4, c5, c6] 52
  have hs2 := World.size_alloc V1 (.cells #[c0, c1, c2, c3, c4, c5, c6] 52)
  obtain ⟨V2, hV2⟩ : ∃ V, V = V1.alloc (.cells #[c0, c1, c2, c3, c4, c5, c6] 52) := ⟨_, rfl⟩
  rw [← hV2] at hb2 hC1 hs2
  rw [hs1] at hC1
  have hb3 : Below V2.heap.size V2 (V2.alloc (.cells #[.int .i64 0, .int .i64 0, .int .i64 0, .int .i64 0, .string ⟨#[]⟩, .string ⟨#[]⟩, .slice none 0 0] 52)) := (Below.refl _ _).alloc (Nat.le_refl _) _
  have hz1 := heap_alloc_new V2 (.cells #[.int .i64 0, .int .i64 0, .int .i64 0, .int .i64 0, .string ⟨#[]⟩, .string ⟨#[]⟩, .slice none 0 0] 52)
  have hs3 := World.size_alloc V2 (.cells #[.int .i64 0, .int .i64 0, .int .i64 0, .int .i64 0, .string ⟨#[]⟩, .string ⟨#[]⟩, .slice none 0 0] 52)
  obtain ⟨V, hV⟩ : ∃ V, V = V2.alloc (.cells #[.int .i64 0, .int .i64 0, .int .i64 0, .int .i64 0, .string ⟨#[]⟩, .string ⟨#[]⟩, .slice none 0 0] 52) := ⟨_, rfl⟩
  rw [← hV] at hb3 hz1 hs3
  rw [show V2.heap.size = w.heap.size + 1 + 1 by omega] at hz1
  have hB12 : Below V1.heap.size V1 V := hb2.trans (hb3.mono (by omega))
  have hBV : Below w.heap.size w V := hb1.trans (hB12.mono (by omega))
  have HA : Hid (CellsAt V w.heap.size 0 [a0, a1, a2, a3, a4, a5, a6]) := hide (hA1.below hB12 (by omega))
  have HC : Hid (CellsAt V (w.heap.size + 1) 0 [c0, c1, c2, c3, c4, c5, c6]) := hide (hC1.below hb3 (by omega))
  have hbR : Below V.heap.size V (V.alloc (.cells #[a0, a1, a2, a3, a4, a5, a6, c0, c1, c2, c3, c4, c5, c6] 52)) := (Below.refl _ _).alloc (Nat.le_refl _) _
  have HZ : Hid ((V.alloc (.cells #[a0, a1, a2, a3, a4, a5, a6, c0, c1, c2, c3, c4, c5, c6] 52)).heap[w.heap.size + 1 + 1]? = some (.cells #[.int .i64 0, .int .i64 0, .int .i64 0, .int .i64 0, .string ⟨#[]⟩, .string ⟨#[]⟩, .slice none 0 0] 52 (0, 0))) := hide (blk_below hz1 hbR (blk_lt hz1))
  have HRow := hide (CellsAt.new V [a0, a1, a2, a3, a4, a5, a6, c0, c1, c2, c3, c4, c5, c6] 52)
  have hVs : V.heap.size = w.heap.size + 1 + 1 + 1 := by omega
  have HVs := hide hVs
  have HBV := hide hBV
  have HBR := hide hbR
  have HV := hide (show V = ((w.alloc (.cells #[a0, a1, a2, a3, a4, a5, a6] 52)).alloc (.cells #[c0, c1, c2, c3, c4, c5, c6] 52)).alloc (.cells #[.int .i64 0, .int .i64 0, .int .i64 0, .int .i64 0, .string ⟨#[]⟩, .string ⟨#[]⟩, .slice none 0 0] 52) by rw [hV, hV2, hV1])
  show Calls _ _ #[.int .i64 op, .agg #[a0, a1, a2, a3, a4, a5, a6], .agg #[c0, c1, c2, c3, c4, c5, c6]] w _
  have HX := hide hx
  have HY := hide hy
  have Hn1 : Hid (([a0, a1, a2, a3, a4, a5, a6] : List Value).length = 7) := hide rfl
  have Hn2 : Hid (([c0, c1, c2, c3, c4, c5, c6] : List Value).length = 7) := hide rfl
  have Hox := hide ox
  have Hoy := hide oy
  have HFx := hide hFx
  have HFy := hide hFy
  clear hx hy hb1 ox oy hFx hFy hA1 hs1 hV1 hb2 hC1 hs2 hV2 hb3 hz1 hs3 hV hB12 hBV hbR hVs
  have HgV : Hid (V.heap.size = w.heap.size + 1 + 1 + 1) := HVs
  go_enter Try.func100, Try.ntmps100
  go_wp2_with (first
    | refine wpList_load_at 52 (.tmp 4) rfl Try.underlying52 rfl Hi.out rfl rfl Hn1.out (by rw [← HV.out]; exact HA.out) ?_
    | refine wpList_load_at 52 (.tmp 5) rfl Try.underlying52 rfl Hi.out rfl rfl Hn2.out (by rw [← HV.out]; exact HC.out) ?_
    | (refine wpList_store_at 52 (.tmp 6) (.tmp 11) (cs := [.int .i64 4, .int .i64 op, .int .i64 0, .int .i64 0, .string ⟨#[]⟩, .string ⟨#[]⟩, .slice (some ⟨w.heap.size + 1 + 1 + 1, 0, none⟩) 2 2]) rfl Hi.out rfl rfl rfl rfl (by simp [Value.oneCell']) (by rw [← HV.out]; exact HZ.out) (by decide) ?_; intro WF hP; have HP := hide hP; clear hP))
  have hP := HP.out
  rw [← HV.out] at hP
  obtain ⟨x0, x1, x2, x3, x4, x5, x6⟩ := hP.cellsAt.seven0
  have hbF : Below (w.heap.size + 1 + 1) (V.alloc (.cells #[a0, a1, a2, a3, a4, a5, a6, c0, c1, c2, c3, c4, c5, c6] 52)) WF := hP.below (Nat.le_refl _)
  have hbA : Below w.heap.size w WF := (HBV.out.trans (HBR.out.mono (by have := HVs.out; omega))).trans (hbF.mono (by omega))
  have hrow : CellsAt WF (w.heap.size + 1 + 1 + 1) 0 [a0, a1, a2, a3, a4, a5, a6, c0, c1, c2, c3, c4, c5, c6] := by
    have h1 := HRow.out.frame (hP.far V.heap.size (by have := HVs.out; omega))
    rwa [HVs.out] at h1
  have hrw : WF.heap[w.heap.size + 1 + 1 + 1]? = some (.cells #[a0, a1, a2, a3, a4, a5, a6, c0, c1, c2, c3, c4, c5, c6] 52 (0, 0)) := by
    have h1 := (hP.far V.heap.size (by have := HVs.out; omega)).trans (heap_alloc_new V _)
    rwa [HVs.out] at h1
  have hx := (ExR.good n).below HX.out hbA HFx.out
  have hy := (ExR.good n).below HY.out hbA HFy.out
  have hz : w.heap.size + 1 + 1 + 1 < WF.heap.size := by rw [hP.size, World.size_alloc, HVs.out]; omega
  exact bodyPost_ret (v := .agg #[.int .i64 4, .int .i64 op, .int .i64 0, .int .i64 0, .string ⟨#[]⟩, .string ⟨#[]⟩, .slice (some ⟨w.heap.size + 1 + 1 + 1, 0, none⟩) 2 2]) (by simp [results, Try.results100, go_sem, x0, x1, x2, x3, x4, x5, x6]) rfl
    ⟨w.heap.size + 1 + 1 + 1, rfl, ⟨_, rfl, exh_ok ⟨by omega, by omega⟩ ⟨by omega, by omega⟩ ⟨by omega, by omega⟩ ⟨by omega, by omega⟩ (by decide) (by decide), ⟨_, 2, rfl, Nat.le_refl _, by simp [maxLen], .inr ⟨_, 0, Fx ++ Fy, rfl, hz, rfl, [a0, a1, a2, a3, a4, a5, a6], Fx, Fy, rfl, (hrow.sub 0 7), hx, [c0, c1, c2, c3, c4, c5, c6], Fy, [], (List.append_nil _).symm, (hrow.sub 7 7), hy, rfl⟩⟩⟩, by omega, hbA, _, _, hrw⟩
end Go.Proofs.Ytaihdnlpdibkoaa
