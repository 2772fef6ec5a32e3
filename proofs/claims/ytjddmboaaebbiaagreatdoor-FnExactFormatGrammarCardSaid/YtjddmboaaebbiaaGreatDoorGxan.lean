/- Several texts of one proof in one file: Expressions as text: both sides. A valid rule's lines are short. Plain: no program walked. Conditions: each theorem names its own. -/
import Derived.Test.YtjddmboaaebbiaaGreatDoorGxaf
import Derived.Deep.RegionHeld3
import Derived.Deep.QuietTactic
import Derived.BigQuiet
import Derived.Test.YtjddmboaaebbiaaGreatDoorGxam
import Derived.Test.YtjddmboaaebbiaaGreatDoorGxak

/- Expressions as text: both sides. Conditions: the expression is valid, and the library's table of powers is laid. -/
namespace Go.Proofs.YtjddmboaaebbiaaGreatDoor
set_option linter.unusedSimpArgs false
set_option linter.unusedVariables false
set_option maxRecDepth 100000
open Go.RowKit Go.Lib Go.WideShapes
set_option linter.unusedVariables false

def fmtExpr (D : Nat) (e : Ex) : ByteArray := if validE D e then txE D e else ⟨#[]⟩
theorem validE_parts {D : Nat} {e : Ex} (h : validE D e = true) : cntE D e ≤ 24 ∧ allE okN D e = true := by
  unfold validE at h
  simp only [Bool.and_eq_true, decide_eq_true_eq] at h
  exact ⟨h.1, h.2.2⟩
set_option maxRecDepth 100000 in
set_option maxHeartbeats 2000000 in
theorem i_tx4T {d : Nat} (hE : TxI d) (n p t : Int) (s m : ByteArray) (x0 x1 : Ex) (cs : List Value) (F : List Nat) (w : World) (h : ExR (d + 1) w (.mk ⟨4, n, p, t, s, m⟩ [x0, x1]) cs F) (hv : allE okN (d + 1) (.mk ⟨4, n, p, t, s, m⟩ [x0, x1]) = true) (hc : cntE (d + 1) (.mk ⟨4, n, p, t, s, m⟩ [x0, x1]) ≤ 24) (htab : TabIs Tryz.prog w "internal/strconv.uint64pow10" .u64 pow10Tab) :
    Calls Tryz.prog 30 #[.agg cs.toArray] w fun en w' => en = .returned (.string (txE (d + 1) (.mk ⟨4, n, p, t, s, m⟩ [x0, x1]))) ∧ Below w.heap.size w w' := by
  have HT : Hid (∀ W : World, Below w.heap.size w W → TabIs Tryz.prog W "internal/strconv.uint64pow10" .u64 pow10Tab) := hide (tabBelow_of_tabIs htab)
  clear htab
  obtain ⟨A, cap, rfl, hok, hl, hm, hs⟩ := ex_form h
  have HXe := hide (fun (W : World) (hW : Below w.heap.size w W) => (ExR.good (d + 1)).below h hW ((ExR.good (d + 1)).lt h))
  simp only [Ex.args, Ex.h, List.length_cons, List.length_nil] at hs hl hm hok
  have hv' : (okN (.mk ⟨4, n, p, t, s, m⟩ [x0, x1]) && ([x0, x1] : List Ex).all (allE okN d)) = true := hv
  rw [Bool.and_eq_true] at hv'
  obtain ⟨hn, hall⟩ := hv'
  have hn : nodeB 4 n p t s m 2 = true := hn
  have hcnt : 1 + sumBy (cntE d) [x0, x1] ≤ 24 := hc
  have HF := hide (hs.lt (ExR.good d))
  obtain ⟨n0, n1⟩ := wf_i64 hok.n
  obtain ⟨p0, p1⟩ := wf_i64 hok.pos
  simp only at n0 n1 p0 p1
  unfold maxLen at hm
  have hnn := cntE_nonneg d
  have hq0 := hnn x0
  have hq1 := hnn x1
  simp only [sumBy] at hcnt
  simp only [List.all_cons, List.all_nil, Bool.and_true, Bool.and_eq_true] at hall
  have Hva0 : Hid (allE okN d x0 = true) := hide hall.1
  have hc0 : cntE d x0 ≤ 24 := by omega
  have Hva1 : Hid (allE okN d x1 = true) := hide hall.2
  have hc1 : cntE d x1 ≤ 24 := by omega
  obtain ⟨bb0, off0, hA0, hbl0, c0_0, c0_1, c0_2, c0_3, c0_4, c0_5, c0_6, hcc0, Fk0, hR0⟩ := ex_arg hs (k := 0) (x := x0) rfl
  have Hsz0 := hide (tx_short (hR0 w (Below.refl _ _)) Hva0.out hc0)
  obtain ⟨bb1, off1, hA1, hbl1, c1_0, c1_1, c1_2, c1_3, c1_4, c1_5, c1_6, hcc1, Fk1, hR1⟩ := ex_arg hs (k := 1) (x := x1) rfl
  have Hsz1 := hide (tx_short (hR1 w (Below.refl _ _)) Hva1.out hc1)
  rw [hA0] at hA1
  injection hA1 with hA1
  injection hA1 with hB1 hO1 _
  subst hB1 hO1
  subst hA0
  have HR0 := hide hR0
  have HR1 := hide hR1
  clear hall hR0 hR1 hnn hq0 hq1
  have Hr := hide (i_tx4 hE n p t s m x0 x1)
  have Hv := hide hv
  have Hc := hide hc
  obtain ⟨C, hz0, hw0⟩ := boxes1 w [.int .i64 4, .int .i64 n, .int .i64 p, .int .i64 t, .string s, .string m, .slice (some ⟨bb0, off0, none⟩) 2 cap] 59
  show Calls _ _ #[.agg #[.int .i64 4, .int .i64 n, .int .i64 p, .int .i64 t, .string s, .string m, .slice (some ⟨bb0, off0, none⟩) 2 cap]] w _
  clear h hv hc hs
  go_enter Tryz.func30, Tryz.ntmps30
  go_wp2_with fail
  refine Calls.mono (Hr.out _ F _ (HXe.out _ hw0) Hv.out Hc.out (HT.out _ hw0)) ?_
  rintro en W1 ⟨rfl, hb⟩
  have hB1 := hw0.trans (hb.mono hw0.size)
  clear hb
  go_wp2_with fail
  go_ret
  exact ⟨rfl, hB1⟩
theorem i_txAll : ∀ d, TxI d
  | 0 => fun e cs F w h _ _ _ => h.elim
  | d + 1 => fun e cs F w h hv hc htab => by
    have hE := i_txAll d
    obtain ⟨⟨k, n, p, t, s, m⟩, l⟩ := e
    have hn : nodeB k n p t s m l.length = true := by
      have hv' : (okN (.mk ⟨k, n, p, t, s, m⟩ l) && l.all (allE okN d)) = true := hv
      rw [Bool.and_eq_true] at hv'
      exact hv'.1
    have hk : k = 1 ∨ k = 2 ∨ k = 3 ∨ k = 4 ∨ k = 5 ∨ k = 6 ∨ k = 7 ∨ k = 8 := by
      by_cases h8 : 1 ≤ k ∧ k ≤ 8
      · omega
      · rw [nodeB_out h8] at hn
        cases hn
    have hb : bareB k n p t s m l.length = true := by
      cases hq : bareB k n p t s m l.length
      · rw [nodeB_bare hq] at hn
        cases hn
      · rfl
    have hl : (l.length : Int) = if k = 4 then 2 else if k = 5 then 3 else if k = 8 then 1 else 0 := by
      unfold bareB at hb
      simp only [Bool.and_eq_true, decide_eq_true_eq] at hb
      exact hb.1.1.1.1.1
    rcases hk with rfl | rfl | rfl | rfl | rfl | rfl | rfl | rfl
    · have hl : l.length = 0 := by have : (l.length : Int) = 0 := hl; omega
      obtain rfl := List.length_eq_zero_iff.1 hl
      exact i_tx1 hE n p t s m cs F w h hv hc htab
    · have hl : l.length = 0 := by have : (l.length : Int) = 0 := hl; omega
      obtain rfl := List.length_eq_zero_iff.1 hl
      exact i_tx2 hE n p t s m cs F w h hv hc htab
    · have hl : l.length = 0 := by have : (l.length : Int) = 0 := hl; omega
      obtain rfl := List.length_eq_zero_iff.1 hl
      exact i_tx3 hE n p t s m cs F w h hv hc htab
    · have hl : l.length = 2 := by have : (l.length : Int) = 2 := hl; omega
      obtain ⟨x0, x1, rfl⟩ : ∃ x0 x1, l = [x0, x1] := by match l, hl with | [x0, x1], _ => exact ⟨x0, x1, rfl⟩
      exact i_tx4T hE n p t s m x0 x1 cs F w h hv hc htab
    · have hl : l.length = 3 := by have : (l.length : Int) = 3 := hl; omega
      obtain ⟨x0, x1, x2, rfl⟩ : ∃ x0 x1 x2, l = [x0, x1, x2] := by match l, hl with | [x0, x1, x2], _ => exact ⟨x0, x1, x2, rfl⟩
      exact i_tx5 hE n p t s m x0 x1 x2 cs F w h hv hc htab
    · have hl : l.length = 0 := by have : (l.length : Int) = 0 := hl; omega
      obtain rfl := List.length_eq_zero_iff.1 hl
      exact i_tx6 hE n p t s m cs F w h hv hc htab
    · have hl : l.length = 0 := by have : (l.length : Int) = 0 := hl; omega
      obtain rfl := List.length_eq_zero_iff.1 hl
      exact i_tx7 hE n p t s m cs F w h hv hc htab
    · have hl : l.length = 1 := by have : (l.length : Int) = 1 := hl; omega
      obtain ⟨x0, rfl⟩ : ∃ x0, l = [x0] := by match l, hl with | [x0], _ => exact ⟨x0, rfl⟩
      exact i_tx8 hE n p t s m x0 cs F w h hv hc htab
set_option maxRecDepth 100000 in
set_option maxHeartbeats 1000000 in
theorem s_FormatExpr (D : Nat) (e : Ex) (cs : List Value) (F : List Nat) (w : World) (h : ExR D w e cs F) (hbk : bulkE D e ≤ 1048576) :
    Calls Tryz.prog 24 #[.agg cs.toArray] w fun en w' => en = .returned (.string (fmtExpr D e)) ∧ Below w.heap.size w w' := by
  have HFe := hide ((ExR.good D).lt h)
  obtain ⟨v0, v1, v2, v3, v4, v5, v6, rfl⟩ := list7 ((ExR.good D).len h)
  have HX0 : Hid (∀ W : World, Below w.heap.size w W → ExR D W e [v0, v1, v2, v3, v4, v5, v6] F) := hide fun W hW => (ExR.good D).below h hW HFe.out
  obtain ⟨C, hz0, hw0⟩ := boxes1 w [v0, v1, v2, v3, v4, v5, v6] 59
  show Calls _ _ #[.agg #[v0, v1, v2, v3, v4, v5, v6]] w _
  clear h
  go_enter Tryz.func24, Tryz.ntmps24
  go_wp2_with fail
  generalize w.alloc (Obj.cells #[v0, v1, v2, v3, v4, v5, v6] 59) = W0 at C hz0 hw0 ⊢
  have hn0 : w.heap.size + 1 ≤ W0.heap.size := by omega
  have Hw : Hid (∀ W : World, Below (w.heap.size + 1) W0 W → Below w.heap.size w W) := hide fun W h => hw0.trans (h.mono (by omega))
  have e0 := cell_rule C (n := w.heap.size + 1) (by omega) 0 (v := v0) rfl
  have e1 := cell_rule C (n := w.heap.size + 1) (by omega) 1 (v := v1) rfl
  have e2 := cell_rule C (n := w.heap.size + 1) (by omega) 2 (v := v2) rfl
  have e3 := cell_rule C (n := w.heap.size + 1) (by omega) 3 (v := v3) rfl
  have e4 := cell_rule C (n := w.heap.size + 1) (by omega) 4 (v := v4) rfl
  have e5 := cell_rule C (n := w.heap.size + 1) (by omega) 5 (v := v5) rfl
  have e6 := cell_rule C (n := w.heap.size + 1) (by omega) 6 (v := v6) rfl
  have hB0 : Below (w.heap.size + 1) W0 W0 := Below.refl _ _
  clear C hz0 hw0
  refine Calls.mono (s_IsValidExpr D e _ F _ (HX0.out _ (Hw.out _ hB0)) hbk) ?_
  rintro en W1 ⟨rfl, hb⟩
  have hB1 : Below (w.heap.size + 1) W0 W1 := below_step hB0 hn0 hb
  clear hb
  cases hv : validE D e
  · have Hr : Hid (fmtExpr D e = ⟨#[]⟩) := hide (by unfold fmtExpr; rw [hv]; rfl)
    clear hv
    go_wp2_with fail
    go_ret
    exact ⟨ret_string Hr.out.symm, Hw.out _ hB1⟩
  · have Hr : Hid (fmtExpr D e = txE D e) := hide (by unfold fmtExpr; rw [hv]; rfl)
    obtain ⟨hc, ha⟩ := validE_parts hv
    have Ha := hide ha
    clear hv ha
    go_wp2_with fail
    refine Calls.mono (s_txAll D e _ F _ (HX0.out _ (Hw.out _ hB1)) Ha.out hc) ?_
    rintro en W2 ⟨rfl, hb⟩
    have hB2 : Below (w.heap.size + 1) W0 W2 := below_step hB1 hn0 hb
    clear hb
    go_wp2_with fail
    go_ret
    exact ⟨ret_string Hr.out.symm, Hw.out _ hB2⟩
end Go.Proofs.YtjddmboaaebbiaaGreatDoor

/- A valid rule's lines are short. Plain: no program walked. -/
namespace Go.Proofs.YtjddmboaaebbiaaGreatDoor
set_option linter.unusedSimpArgs false
set_option linter.unusedVariables false
set_option maxRecDepth 100000
open Go.RowKit Go.WideShapes Go.Lib
set_option linter.unusedVariables false

theorem rcat (a b c : ByteArray) : a ++ b ++ c = a ++ (b ++ c) := by apply ByteArray.ext; simp [Array.append_assoc]
/-- A valid rule's lines are short. -/
theorem lines_short {D : Nat} {x : Rul} (hE : ∀ e ∈ x.eqs, (eqT D e).size ≤ 20000) (hC : ∀ c ∈ x.cons, (conT D c).size ≤ 20000) (hv : RulV D x) (j k : Nat) : ∀ y ∈ linesR D x j k, y.size ≤ maxLen := by
  intro y hy
  unfold linesR at hy
  unfold maxLen
  rcases List.mem_cons.1 hy with rfl | hy
  · have := headT_size hv; omega
  · rcases List.mem_append.1 hy with hy | hy
    · obtain ⟨e, he, rfl⟩ := List.mem_map.1 hy
      have := hE e (List.mem_of_mem_take he); omega
    · obtain ⟨c, hc, rfl⟩ := List.mem_map.1 hy
      have := hC c (List.mem_of_mem_take hc); omega
theorem eq_short {D : Nat} {w : World} {e : Eqn} {cs : List Value} {F : List Nat} {n : Int} (h : EqnR D w e cs F) (hv : eqnOk D n e = true) : (txE D e.expr).size ≤ 9600 ∧ (eqT D e).size ≤ 20000 := by
  obtain ⟨f0, f1, _, hO, hE, _⟩ := h
  obtain ⟨_, hOk, _⟩ := hO
  unfold eqnOk at hv
  simp only [Bool.and_eq_true] at hv
  obtain ⟨p1, p2, p3⟩ := fits_parts hv.2
  have h1 := tx_size D _ _ _ hE p3
  have h2 : (txE D e.expr).size ≤ 9600 := by omega
  have h3 := wf_i64 hOk.pos
  have h4 := eqT_size h2 hv.1.1 h3.1 h3.2
  exact ⟨h2, by omega⟩
theorem con_short {D : Nat} {w : World} {c : Con} {cs : List Value} {F : List Nat} {n : Int} (h : ConR D w c cs F) (hv : conOk D n c = true) : (txE D c.target).size ≤ 9600 ∧ (txE D c.value).size ≤ 9600 ∧ (conT D c).size ≤ 20000 := by
  obtain ⟨f1, f2, _, hOk, _, _, hE, hE2, _⟩ := h
  unfold conOk at hv
  simp only [Bool.and_eq_true] at hv
  obtain ⟨⟨⟨v1, v2⟩, v3⟩, v4⟩ := hv
  obtain ⟨p1, p2, p3⟩ := fits_parts v3
  obtain ⟨q1, q2, q3⟩ := fits_parts v4
  have h1 := tx_size D _ _ _ hE p3
  have h2 := tx_size D _ _ _ hE2 q3
  have h3 : (txE D c.target).size ≤ 9600 := by omega
  have h4 : (txE D c.value).size ≤ 9600 := by omega
  have h5 := conT_size h3 h4 v1 v2
  exact ⟨h3, h4, by omega⟩
theorem fmtR_cnt {D : Nat} {x : Rul} (h : bulkRul D x ≤ 1048576) : (fmtR D x).length ≤ 100000000 := by
  have h1 := sumBy_nonneg (bulkEqn_nonneg D) x.eqs
  have h2 := bulkS_nonneg x.right
  have h3 := sumBy_nonneg (bulkCon_nonneg D) x.cons
  unfold bulkRul at h
  unfold fmtR
  split
  · have := linesR_len D x x.eqs.length x.cons.length
    omega
  · simp
end Go.Proofs.YtjddmboaaebbiaaGreatDoor
