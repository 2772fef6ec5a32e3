/- Expressions as text: the reference. Conditions: the expression is valid. -/
import Derived.Test.YtilibmialekpaaaDoorTxP
import Derived.Deep.RegionHeld3
import Derived.Deep.QuietTactic
import Derived.BigQuiet
namespace Go.Proofs.YtilibmialekpaaaDoor
set_option maxRecDepth 100000
open Go.RowKit Go.Lib Go.WideShapes
set_option linter.unusedVariables false

/-- One argument of an expression: its cells in every later world. -/
theorem ex_arg {d : Nat} {w : World} {l : List Ex} {A : Option Addr} {len cap : Nat} {F : List Nat} (h : SlR 7 (ExR d) w l (.slice A len cap) F) {k : Nat} {x : Ex} (hx : l[k]? = some x) :
    ∃ b off, A = some ⟨b, off, none⟩ ∧ b < w.heap.size ∧ ∃ c0 c1 c2 c3 c4 c5 c6, (∀ W : World, Below w.heap.size w W → ∀ j u, [c0, c1, c2, c3, c4, c5, c6][j]? = some u → W.cell? ⟨b, off + k * 7 + j, none⟩ = some u) ∧
      ∃ Fk, ∀ W : World, Below w.heap.size w W → ExR d W x [c0, c1, c2, c3, c4, c5, c6] Fk := by
  have hlt := h.lt (ExR.good d)
  obtain ⟨b, off, cs, Fk, hA, _, hbF, hFk, hcl, hcat, hR⟩ := SlR.get (ExR.good d) h hx
  obtain ⟨c0, c1, c2, c3, c4, c5, c6, rfl⟩ := list7 hcl
  exact ⟨b, off, hA, hlt b hbF, c0, c1, c2, c3, c4, c5, c6, fun W hW j u hu => (hW.cell (p := ⟨b, off + k * 7 + j, none⟩) (hlt b hbF)).trans (hcat j u hu), Fk, fun W hW => (ExR.good d).below hR hW fun j hj => hlt j (hFk j hj)⟩
def TxS (d : Nat) : Prop := ∀ (e : Ex) (cs : List Value) (F : List Nat) (w : World), ExR d w e cs F → allE okN d e = true → cntE d e ≤ 24 →
    Calls Tryd.prog 79 #[.agg cs.toArray] w fun en w' => en = .returned (.string (txE d e)) ∧ Below w.heap.size w w'
set_option maxRecDepth 100000 in
set_option maxHeartbeats 1000000 in
theorem s_atE {d : Nat} (hE : TxS d) (e : Ex) (cs : List Value) (F : List Nat) (w : World) (h : ExR d w e cs F) (hv : allE okN d e = true) (hc : cntE d e ≤ 24) (need : Int) :
    Calls Tryd.prog 115 #[.agg cs.toArray, .int .i64 need] w fun en w' => en = .returned (.string (atL (levH e.h) need (txE d e))) ∧ Below w.heap.size w w' := by
  have hsz := tx_short h hv hc
  have HFe := hide ((ExR.good d).lt h)
  obtain ⟨v0, v1, v2, v3, v4, v5, v6, rfl⟩ := list7 ((ExR.good d).len h)
  have HX0 : Hid (∀ W : World, Below w.heap.size w W → ExR d W e [v0, v1, v2, v3, v4, v5, v6] F) := hide fun W hW => (ExR.good d).below h hW HFe.out
  obtain ⟨C, hz0, hw0⟩ := boxes1 w [v0, v1, v2, v3, v4, v5, v6] 67
  show Calls _ _ #[.agg #[v0, v1, v2, v3, v4, v5, v6], .int .i64 need] w _
  obtain ⟨T, hT⟩ : ∃ T, txE d e = T := ⟨_, rfl⟩
  obtain ⟨lv, hlv⟩ : ∃ lv, levH e.h = lv := ⟨_, rfl⟩
  have Hr0 : Hid (atL (levH e.h) need (txE d e) = atL lv need T) := hide (by rw [hT, hlv])
  rw [hT] at hsz
  have HeT := hide hT
  have HeL := hide hlv
  clear hT hlv
  have Hv := hide hv
  clear h hv
  go_enter Tryd.func115, Tryd.ntmps115
  go_wp2_with fail
  generalize w.alloc (Obj.cells #[v0, v1, v2, v3, v4, v5, v6] 67) = W0 at C hz0 hw0 ⊢
  have hn0 : w.heap.size + 1 ≤ W0.heap.size := by omega
  have Hw : Hid (∀ W : World, Below (w.heap.size + 1) W0 W → Below w.heap.size w W) := hide fun W h => hw0.trans (h.mono (by omega))
  have e0 := cell_rule C (n := w.heap.size + 1) (by omega) 0 (v := v0) rfl
  have e1 := cell_rule C (n := w.heap.size + 1) (by omega) 1 (v := v1) rfl
  have e2 := cell_rule C (n := w.heap.size + 1) (by omega) 2 (v := v2) rfl
  have e3 := cell_rule C (n := w.heap.size + 1) (by omega) 3 (v := v3) rfl
  have e4 := cell_rule C (n := w.heap.size + 1) (by omega) 4 (v := v4) rfl
  have e5 := cell_rule C (n := w.heap.size + 1) (by omega) 5 (v := v5) rfl
  have e6 := cell_rule C (n := w.heap.size + 1) (by omega) 6 (v := v6) rfl
  have hB0 : Below (w.heap.size + 1) W0 W0 := Below.refl _ _
  clear C hz0 hw0
  refine Calls.mono (hE e _ F _ (HX0.out _ (Hw.out _ hB0)) Hv.out hc) ?_
  rintro en W1 ⟨rfl, hb⟩
  have hB1 : Below (w.heap.size + 1) W0 W1 := below_step hB0 hn0 hb
  clear hb
  rw [HeT.out]
  go_wp2_with fail
  refine Calls.mono (s_LevelOf d e _ F _ (HX0.out _ (Hw.out _ hB1))) ?_
  rintro en W2 ⟨rfl, hb⟩
  have hB2 : Below (w.heap.size + 1) W0 W2 := below_step hB1 hn0 hb
  clear hb
  rw [HeL.out]
  by_cases hl : lv < need
  · have Hr : Hid (atL (levH e.h) need (txE d e) = ⟨#[40]⟩ ++ T ++ ⟨#[41]⟩) := hide (by rw [Hr0.out]; unfold atL; rw [if_pos hl])
    go_wp2_with fail
    go_ret
    exact ⟨ret_string Hr.out.symm, Hw.out _ hB2⟩
  · have Hr : Hid (atL (levH e.h) need (txE d e) = T) := hide (by rw [Hr0.out]; unfold atL; rw [if_neg hl])
    go_wp2_with fail
    go_ret
    exact ⟨ret_string Hr.out.symm, Hw.out _ hB2⟩
set_option maxRecDepth 100000 in
set_option maxHeartbeats 2000000 in
theorem s_tx2 {d : Nat} (hE : TxS d) (n p t : Int) (s m : ByteArray) (cs : List Value) (F : List Nat) (w : World) (h : ExR (d + 1) w (.mk ⟨2, n, p, t, s, m⟩ []) cs F) (hv : allE okN (d + 1) (.mk ⟨2, n, p, t, s, m⟩ []) = true) (hc : cntE (d + 1) (.mk ⟨2, n, p, t, s, m⟩ []) ≤ 24) :
    Calls Tryd.prog 79 #[.agg cs.toArray] w fun en w' => en = .returned (.string (txE (d + 1) (.mk ⟨2, n, p, t, s, m⟩ []))) ∧ Below w.heap.size w w' := by
  obtain ⟨A, cap, rfl, hok, hl, hm, hs⟩ := ex_form h
  simp only [Ex.args, Ex.h, List.length_cons, List.length_nil] at hs hl hm hok
  have hv' : (okN (.mk ⟨2, n, p, t, s, m⟩ []) && ([] : List Ex).all (allE okN d)) = true := hv
  rw [Bool.and_eq_true] at hv'
  obtain ⟨hn, hall⟩ := hv'
  have hn : nodeB 2 n p t s m 0 = true := hn
  have hcnt : 1 + sumBy (cntE d) [] ≤ 24 := hc
  obtain ⟨n0, n1⟩ := wf_i64 hok.n
  obtain ⟨p0, p1⟩ := wf_i64 hok.pos
  simp only at n0 n1 p0 p1
  unfold maxLen at hm
  have Hr : Hid (txE (d + 1) (.mk ⟨2, n, p, t, s, m⟩ []) = ⟨#[108, 105, 116]⟩) := hide rfl
  obtain ⟨C, hz0, hw0⟩ := boxes1 w [.int .i64 2, .int .i64 n, .int .i64 p, .int .i64 t, .string s, .string m, .slice A 0 cap] 67
  show Calls _ _ #[.agg #[.int .i64 2, .int .i64 n, .int .i64 p, .int .i64 t, .string s, .string m, .slice A 0 cap]] w _
  clear h hv hc hs
  go_enter Tryd.func79, Tryd.ntmps79
  go_wp2_with fail
  go_ret
  exact ⟨ret_string Hr.out.symm, hw0⟩
set_option maxRecDepth 100000 in
set_option maxHeartbeats 2000000 in
theorem s_tx7 {d : Nat} (hE : TxS d) (n p t : Int) (s m : ByteArray) (cs : List Value) (F : List Nat) (w : World) (h : ExR (d + 1) w (.mk ⟨7, n, p, t, s, m⟩ []) cs F) (hv : allE okN (d + 1) (.mk ⟨7, n, p, t, s, m⟩ []) = true) (hc : cntE (d + 1) (.mk ⟨7, n, p, t, s, m⟩ []) ≤ 24) :
    Calls Tryd.prog 79 #[.agg cs.toArray] w fun en w' => en = .returned (.string (txE (d + 1) (.mk ⟨7, n, p, t, s, m⟩ []))) ∧ Below w.heap.size w w' := by
  obtain ⟨A, cap, rfl, hok, hl, hm, hs⟩ := ex_form h
  simp only [Ex.args, Ex.h, List.length_cons, List.length_nil] at hs hl hm hok
  have hv' : (okN (.mk ⟨7, n, p, t, s, m⟩ []) && ([] : List Ex).all (allE okN d)) = true := hv
  rw [Bool.and_eq_true] at hv'
  obtain ⟨hn, hall⟩ := hv'
  have hn : nodeB 7 n p t s m 0 = true := hn
  have hcnt : 1 + sumBy (cntE d) [] ≤ 24 := hc
  obtain ⟨n0, n1⟩ := wf_i64 hok.n
  obtain ⟨p0, p1⟩ := wf_i64 hok.pos
  simp only at n0 n1 p0 p1
  unfold maxLen at hm
  have Hr : Hid (txE (d + 1) (.mk ⟨7, n, p, t, s, m⟩ []) = ⟨#[110, 111, 110, 101]⟩) := hide rfl
  obtain ⟨C, hz0, hw0⟩ := boxes1 w [.int .i64 7, .int .i64 n, .int .i64 p, .int .i64 t, .string s, .string m, .slice A 0 cap] 67
  show Calls _ _ #[.agg #[.int .i64 7, .int .i64 n, .int .i64 p, .int .i64 t, .string s, .string m, .slice A 0 cap]] w _
  clear h hv hc hs
  go_enter Tryd.func79, Tryd.ntmps79
  go_wp2_with fail
  go_ret
  exact ⟨ret_string Hr.out.symm, hw0⟩
set_option maxRecDepth 100000 in
set_option maxHeartbeats 2000000 in
theorem s_tx1 {d : Nat} (hE : TxS d) (n p t : Int) (s m : ByteArray) (cs : List Value) (F : List Nat) (w : World) (h : ExR (d + 1) w (.mk ⟨1, n, p, t, s, m⟩ []) cs F) (hv : allE okN (d + 1) (.mk ⟨1, n, p, t, s, m⟩ []) = true) (hc : cntE (d + 1) (.mk ⟨1, n, p, t, s, m⟩ []) ≤ 24) :
    Calls Tryd.prog 79 #[.agg cs.toArray] w fun en w' => en = .returned (.string (txE (d + 1) (.mk ⟨1, n, p, t, s, m⟩ []))) ∧ Below w.heap.size w w' := by
  obtain ⟨A, cap, rfl, hok, hl, hm, hs⟩ := ex_form h
  simp only [Ex.args, Ex.h, List.length_cons, List.length_nil] at hs hl hm hok
  have hv' : (okN (.mk ⟨1, n, p, t, s, m⟩ []) && ([] : List Ex).all (allE okN d)) = true := hv
  rw [Bool.and_eq_true] at hv'
  obtain ⟨hn, hall⟩ := hv'
  have hn : nodeB 1 n p t s m 0 = true := hn
  have hcnt : 1 + sumBy (cntE d) [] ≤ 24 := hc
  obtain ⟨n0, n1⟩ := wf_i64 hok.n
  obtain ⟨p0, p1⟩ := wf_i64 hok.pos
  simp only at n0 n1 p0 p1
  unfold maxLen at hm
  have Hr : Hid (txE (d + 1) (.mk ⟨1, n, p, t, s, m⟩ []) = fmtTyped n t) := hide rfl
  obtain ⟨C, hz0, hw0⟩ := boxes1 w [.int .i64 1, .int .i64 n, .int .i64 p, .int .i64 t, .string s, .string m, .slice A 0 cap] 67
  show Calls _ _ #[.agg #[.int .i64 1, .int .i64 n, .int .i64 p, .int .i64 t, .string s, .string m, .slice A 0 cap]] w _
  clear h hv hc hs
  go_enter Tryd.func79, Tryd.ntmps79
  go_wp2_with fail
  refine Calls.mono (s_FormatTyped n t n0 n1 _) ?_
  rintro en W1 ⟨rfl, hb⟩
  have hB1 := hw0.trans (hb.mono hw0.size)
  clear hb
  go_wp2_with fail
  go_ret
  exact ⟨ret_string Hr.out.symm, hB1⟩
set_option maxRecDepth 100000 in
set_option maxHeartbeats 2000000 in
theorem s_tx6 {d : Nat} (hE : TxS d) (n p t : Int) (s m : ByteArray) (cs : List Value) (F : List Nat) (w : World) (h : ExR (d + 1) w (.mk ⟨6, n, p, t, s, m⟩ []) cs F) (hv : allE okN (d + 1) (.mk ⟨6, n, p, t, s, m⟩ []) = true) (hc : cntE (d + 1) (.mk ⟨6, n, p, t, s, m⟩ []) ≤ 24) :
    Calls Tryd.prog 79 #[.agg cs.toArray] w fun en w' => en = .returned (.string (txE (d + 1) (.mk ⟨6, n, p, t, s, m⟩ []))) ∧ Below w.heap.size w w' := by
  obtain ⟨A, cap, rfl, hok, hl, hm, hs⟩ := ex_form h
  simp only [Ex.args, Ex.h, List.length_cons, List.length_nil] at hs hl hm hok
  have hv' : (okN (.mk ⟨6, n, p, t, s, m⟩ []) && ([] : List Ex).all (allE okN d)) = true := hv
  rw [Bool.and_eq_true] at hv'
  obtain ⟨hn, hall⟩ := hv'
  have hn : nodeB 6 n p t s m 0 = true := hn
  have hcnt : 1 + sumBy (cntE d) [] ≤ 24 := hc
  obtain ⟨n0, n1⟩ := wf_i64 hok.n
  obtain ⟨p0, p1⟩ := wf_i64 hok.pos
  simp only at n0 n1 p0 p1
  unfold maxLen at hm
  have Hr : Hid (txE (d + 1) (.mk ⟨6, n, p, t, s, m⟩ []) = ⟨#[115, 101, 108, 102, 40]⟩ ++ num p ++ ⟨#[41]⟩) := hide rfl
  have hns := num_size p0 p1
  obtain ⟨C, hz0, hw0⟩ := boxes1 w [.int .i64 6, .int .i64 n, .int .i64 p, .int .i64 t, .string s, .string m, .slice A 0 cap] 67
  show Calls _ _ #[.agg #[.int .i64 6, .int .i64 n, .int .i64 p, .int .i64 t, .string s, .string m, .slice A 0 cap]] w _
  clear h hv hc hs
  go_enter Tryd.func79, Tryd.ntmps79
  go_wp2_with fail
  refine Calls.mono (s_FormatInt p p0 p1 _) ?_
  rintro en W1 ⟨rfl, hb⟩
  have hB1 := hw0.trans (hb.mono hw0.size)
  clear hb
  rw [show (⟨(itoa p).toArray⟩ : ByteArray) = num p from rfl]
  generalize num p = N at Hr hns ⊢
  go_wp2_with fail
  go_ret
  exact ⟨ret_string Hr.out.symm, hB1⟩
set_option maxRecDepth 100000 in
set_option maxHeartbeats 2000000 in
theorem s_tx3 {d : Nat} (hE : TxS d) (n p t : Int) (s m : ByteArray) (cs : List Value) (F : List Nat) (w : World) (h : ExR (d + 1) w (.mk ⟨3, n, p, t, s, m⟩ []) cs F) (hv : allE okN (d + 1) (.mk ⟨3, n, p, t, s, m⟩ []) = true) (hc : cntE (d + 1) (.mk ⟨3, n, p, t, s, m⟩ []) ≤ 24) :
    Calls Tryd.prog 79 #[.agg cs.toArray] w fun en w' => en = .returned (.string (txE (d + 1) (.mk ⟨3, n, p, t, s, m⟩ []))) ∧ Below w.heap.size w w' := by
  obtain ⟨A, cap, rfl, hok, hl, hm, hs⟩ := ex_form h
  simp only [Ex.args, Ex.h, List.length_cons, List.length_nil] at hs hl hm hok
  have hv' : (okN (.mk ⟨3, n, p, t, s, m⟩ []) && ([] : List Ex).all (allE okN d)) = true := hv
  rw [Bool.and_eq_true] at hv'
  obtain ⟨hn, hall⟩ := hv'
  have hn : nodeB 3 n p t s m 0 = true := hn
  have hcnt : 1 + sumBy (cntE d) [] ≤ 24 := hc
  obtain ⟨n0, n1⟩ := wf_i64 hok.n
  obtain ⟨p0, p1⟩ := wf_i64 hok.pos
  simp only at n0 n1 p0 p1
  unfold maxLen at hm
  have Hr : Hid (txE (d + 1) (.mk ⟨3, n, p, t, s, m⟩ []) = ⟨#[36]⟩ ++ num p ++ ⟨#[46]⟩ ++ m) := hide rfl
  have hns := num_size p0 p1
  have hms : m.size ≤ 8 := by unfold nodeB at hn; simp at hn; exact validN_size hn.2
  clear hn hcnt
  obtain ⟨C, hz0, hw0⟩ := boxes1 w [.int .i64 3, .int .i64 n, .int .i64 p, .int .i64 t, .string s, .string m, .slice A 0 cap] 67
  show Calls _ _ #[.agg #[.int .i64 3, .int .i64 n, .int .i64 p, .int .i64 t, .string s, .string m, .slice A 0 cap]] w _
  clear h hv hc hs
  go_enter Tryd.func79, Tryd.ntmps79
  go_wp2_with fail
  generalize w.alloc (Obj.cells #[.int .i64 3, .int .i64 n, .int .i64 p, .int .i64 t, .string s, .string m, .slice A 0 cap] 67) = W0 at C hz0 hw0 ⊢
  have hn0 : w.heap.size + 1 ≤ W0.heap.size := by omega
  have Hw : Hid (∀ W : World, Below (w.heap.size + 1) W0 W → Below w.heap.size w W) := hide fun W h => hw0.trans (h.mono (by omega))
  have e0 := cell_rule C (n := w.heap.size + 1) (by omega) 0 (v := .int .i64 3) rfl
  have e1 := cell_rule C (n := w.heap.size + 1) (by omega) 1 (v := .int .i64 n) rfl
  have e2 := cell_rule C (n := w.heap.size + 1) (by omega) 2 (v := .int .i64 p) rfl
  have e3 := cell_rule C (n := w.heap.size + 1) (by omega) 3 (v := .int .i64 t) rfl
  have e4 := cell_rule C (n := w.heap.size + 1) (by omega) 4 (v := .string s) rfl
  have e5 := cell_rule C (n := w.heap.size + 1) (by omega) 5 (v := .string m) rfl
  have e6 := cell_rule C (n := w.heap.size + 1) (by omega) 6 (v := .slice A 0 cap) rfl
  have hB0 : Below (w.heap.size + 1) W0 W0 := Below.refl _ _
  clear C hz0
  have q0 : ¬ 9223372036854775807 < 1 + (num p).size := by omega
  have q1 : ¬ 9223372036854775807 < 1 + (num p).size + 1 := by omega
  have q2 : ¬ 9223372036854775807 < 1 + (num p).size + 1 + m.size := by omega
  go_region_held3 (fun W => Below (w.heap.size + 1) W0 W) (first | assumption | exact Below.drew (by assumption))
    (first | (go_at_call 67; refine Calls.mono (s_FormatInt p p0 p1 _) ?_; rintro en W1 ⟨rfl, hb⟩; have hB1 : Below (w.heap.size + 1) W0 W1 := below_step (by first | assumption | exact Below.drew (by assumption)) hn0 hb; clear hb; rw [show (⟨(itoa p).toArray⟩ : ByteArray) = num p from rfl]; generalize num p = N at Hr hns q0 q1 q2 ⊢))
  go_wp2_with fail
  go_ret
  exact ⟨ret_string Hr.out.symm, Hw.out _ hB1⟩
set_option maxRecDepth 100000 in
set_option maxHeartbeats 2000000 in
theorem s_tx5 {d : Nat} (hE : TxS d) (n p t : Int) (s m : ByteArray) (x0 x1 x2 : Ex) (cs : List Value) (F : List Nat) (w : World) (h : ExR (d + 1) w (.mk ⟨5, n, p, t, s, m⟩ [x0, x1, x2]) cs F) (hv : allE okN (d + 1) (.mk ⟨5, n, p, t, s, m⟩ [x0, x1, x2]) = true) (hc : cntE (d + 1) (.mk ⟨5, n, p, t, s, m⟩ [x0, x1, x2]) ≤ 24) :
    Calls Tryd.prog 79 #[.agg cs.toArray] w fun en w' => en = .returned (.string (txE (d + 1) (.mk ⟨5, n, p, t, s, m⟩ [x0, x1, x2]))) ∧ Below w.heap.size w w' := by
  obtain ⟨A, cap, rfl, hok, hl, hm, hs⟩ := ex_form h
  simp only [Ex.args, Ex.h, List.length_cons, List.length_nil] at hs hl hm hok
  have hv' : (okN (.mk ⟨5, n, p, t, s, m⟩ [x0, x1, x2]) && ([x0, x1, x2] : List Ex).all (allE okN d)) = true := hv
  rw [Bool.and_eq_true] at hv'
  obtain ⟨hn, hall⟩ := hv'
  have hn : nodeB 5 n p t s m 3 = true := hn
  have hcnt : 1 + sumBy (cntE d) [x0, x1, x2] ≤ 24 := hc
  have HF := hide (hs.lt (ExR.good d))
  obtain ⟨n0, n1⟩ := wf_i64 hok.n
  obtain ⟨p0, p1⟩ := wf_i64 hok.pos
  simp only at n0 n1 p0 p1
  unfold maxLen at hm
  have hnn := cntE_nonneg d
  have hq0 := hnn x0
  have hq1 := hnn x1
  have hq2 := hnn x2
  simp only [sumBy] at hcnt
  simp only [List.all_cons, List.all_nil, Bool.and_true, Bool.and_eq_true] at hall
  have Hva0 : Hid (allE okN d x0 = true) := hide hall.1
  have hc0 : cntE d x0 ≤ 24 := by omega
  have Hva1 : Hid (allE okN d x1 = true) := hide hall.2.1
  have hc1 : cntE d x1 ≤ 24 := by omega
  have Hva2 : Hid (allE okN d x2 = true) := hide hall.2.2
  have hc2 : cntE d x2 ≤ 24 := by omega
  obtain ⟨bb0, off0, hA0, hbl0, c0_0, c0_1, c0_2, c0_3, c0_4, c0_5, c0_6, hcc0, Fk0, hR0⟩ := ex_arg hs (k := 0) (x := x0) rfl
  have Hsz0 := hide (tx_short (hR0 w (Below.refl _ _)) Hva0.out hc0)
  obtain ⟨bb1, off1, hA1, hbl1, c1_0, c1_1, c1_2, c1_3, c1_4, c1_5, c1_6, hcc1, Fk1, hR1⟩ := ex_arg hs (k := 1) (x := x1) rfl
  have Hsz1 := hide (tx_short (hR1 w (Below.refl _ _)) Hva1.out hc1)
  rw [hA0] at hA1
  injection hA1 with hA1
  injection hA1 with hB1 hO1 _
  subst hB1 hO1
  obtain ⟨bb2, off2, hA2, hbl2, c2_0, c2_1, c2_2, c2_3, c2_4, c2_5, c2_6, hcc2, Fk2, hR2⟩ := ex_arg hs (k := 2) (x := x2) rfl
  have Hsz2 := hide (tx_short (hR2 w (Below.refl _ _)) Hva2.out hc2)
  rw [hA0] at hA2
  injection hA2 with hA2
  injection hA2 with hB2 hO2 _
  subst hB2 hO2
  subst hA0
  have HR0 := hide hR0
  have HR1 := hide hR1
  have HR2 := hide hR2
  clear hall hR0 hR1 hR2 hnn hq0 hq1 hq2
  have Hr : Hid (txE (d + 1) (.mk ⟨5, n, p, t, s, m⟩ [x0, x1, x2]) = ⟨#[105, 102, 32]⟩ ++ txE d x0 ++ ⟨#[32, 116, 104, 101, 110, 32]⟩ ++ txE d x1 ++ ⟨#[32, 101, 108, 115, 101, 32]⟩ ++ txE d x2) := hide rfl
  have hs0 := Hsz0.out
  have hs1 := Hsz1.out
  have hs2 := Hsz2.out
  clear hn hcnt
  obtain ⟨C, hz0, hw0⟩ := boxes1 w [.int .i64 5, .int .i64 n, .int .i64 p, .int .i64 t, .string s, .string m, .slice (some ⟨bb0, off0, none⟩) 3 cap] 67
  show Calls _ _ #[.agg #[.int .i64 5, .int .i64 n, .int .i64 p, .int .i64 t, .string s, .string m, .slice (some ⟨bb0, off0, none⟩) 3 cap]] w _
  clear h hv hc hs
  go_enter Tryd.func79, Tryd.ntmps79
  go_wp2_with fail
  generalize w.alloc (Obj.cells #[.int .i64 5, .int .i64 n, .int .i64 p, .int .i64 t, .string s, .string m, .slice (some ⟨bb0, off0, none⟩) 3 cap] 67) = W0 at C hz0 hw0 ⊢
  have hn0 : w.heap.size + 1 ≤ W0.heap.size := by omega
  have Hw : Hid (∀ W : World, Below (w.heap.size + 1) W0 W → Below w.heap.size w W) := hide fun W h => hw0.trans (h.mono (by omega))
  have e0 := cell_rule C (n := w.heap.size + 1) (by omega) 0 (v := .int .i64 5) rfl
  have e1 := cell_rule C (n := w.heap.size + 1) (by omega) 1 (v := .int .i64 n) rfl
  have e2 := cell_rule C (n := w.heap.size + 1) (by omega) 2 (v := .int .i64 p) rfl
  have e3 := cell_rule C (n := w.heap.size + 1) (by omega) 3 (v := .int .i64 t) rfl
  have e4 := cell_rule C (n := w.heap.size + 1) (by omega) 4 (v := .string s) rfl
  have e5 := cell_rule C (n := w.heap.size + 1) (by omega) 5 (v := .string m) rfl
  have e6 := cell_rule C (n := w.heap.size + 1) (by omega) 6 (v := .slice (some ⟨bb0, off0, none⟩) 3 cap) rfl
  have hB0 : Below (w.heap.size + 1) W0 W0 := Below.refl _ _
  have a0_0 : ∀ W : World, Below (w.heap.size + 1) W0 W → W.cell? ⟨bb0, off0, none⟩ = some c0_0 := fun W hW => hcc0 W (Hw.out W hW) 0 _ rfl
  have a0_1 : ∀ W : World, Below (w.heap.size + 1) W0 W → W.cell? ⟨bb0, off0 + 1, none⟩ = some c0_1 := fun W hW => hcc0 W (Hw.out W hW) 1 _ rfl
  have a0_2 : ∀ W : World, Below (w.heap.size + 1) W0 W → W.cell? ⟨bb0, off0 + 2, none⟩ = some c0_2 := fun W hW => hcc0 W (Hw.out W hW) 2 _ rfl
  have a0_3 : ∀ W : World, Below (w.heap.size + 1) W0 W → W.cell? ⟨bb0, off0 + 3, none⟩ = some c0_3 := fun W hW => hcc0 W (Hw.out W hW) 3 _ rfl
  have a0_4 : ∀ W : World, Below (w.heap.size + 1) W0 W → W.cell? ⟨bb0, off0 + 4, none⟩ = some c0_4 := fun W hW => hcc0 W (Hw.out W hW) 4 _ rfl
  have a0_5 : ∀ W : World, Below (w.heap.size + 1) W0 W → W.cell? ⟨bb0, off0 + 5, none⟩ = some c0_5 := fun W hW => hcc0 W (Hw.out W hW) 5 _ rfl
  have a0_6 : ∀ W : World, Below (w.heap.size + 1) W0 W → W.cell? ⟨bb0, off0 + 6, none⟩ = some c0_6 := fun W hW => hcc0 W (Hw.out W hW) 6 _ rfl
  have a1_0 : ∀ W : World, Below (w.heap.size + 1) W0 W → W.cell? ⟨bb0, off0 + 7, none⟩ = some c1_0 := fun W hW => hcc1 W (Hw.out W hW) 0 _ rfl
  have a1_1 : ∀ W : World, Below (w.heap.size + 1) W0 W → W.cell? ⟨bb0, off0 + 8, none⟩ = some c1_1 := fun W hW => hcc1 W (Hw.out W hW) 1 _ rfl
  have a1_2 : ∀ W : World, Below (w.heap.size + 1) W0 W → W.cell? ⟨bb0, off0 + 9, none⟩ = some c1_2 := fun W hW => hcc1 W (Hw.out W hW) 2 _ rfl
  have a1_3 : ∀ W : World, Below (w.heap.size + 1) W0 W → W.cell? ⟨bb0, off0 + 10, none⟩ = some c1_3 := fun W hW => hcc1 W (Hw.out W hW) 3 _ rfl
  have a1_4 : ∀ W : World, Below (w.heap.size + 1) W0 W → W.cell? ⟨bb0, off0 + 11, none⟩ = some c1_4 := fun W hW => hcc1 W (Hw.out W hW) 4 _ rfl
  have a1_5 : ∀ W : World, Below (w.heap.size + 1) W0 W → W.cell? ⟨bb0, off0 + 12, none⟩ = some c1_5 := fun W hW => hcc1 W (Hw.out W hW) 5 _ rfl
  have a1_6 : ∀ W : World, Below (w.heap.size + 1) W0 W → W.cell? ⟨bb0, off0 + 13, none⟩ = some c1_6 := fun W hW => hcc1 W (Hw.out W hW) 6 _ rfl
  have a2_0 : ∀ W : World, Below (w.heap.size + 1) W0 W → W.cell? ⟨bb0, off0 + 14, none⟩ = some c2_0 := fun W hW => hcc2 W (Hw.out W hW) 0 _ rfl
  have a2_1 : ∀ W : World, Below (w.heap.size + 1) W0 W → W.cell? ⟨bb0, off0 + 15, none⟩ = some c2_1 := fun W hW => hcc2 W (Hw.out W hW) 1 _ rfl
  have a2_2 : ∀ W : World, Below (w.heap.size + 1) W0 W → W.cell? ⟨bb0, off0 + 16, none⟩ = some c2_2 := fun W hW => hcc2 W (Hw.out W hW) 2 _ rfl
  have a2_3 : ∀ W : World, Below (w.heap.size + 1) W0 W → W.cell? ⟨bb0, off0 + 17, none⟩ = some c2_3 := fun W hW => hcc2 W (Hw.out W hW) 3 _ rfl
  have a2_4 : ∀ W : World, Below (w.heap.size + 1) W0 W → W.cell? ⟨bb0, off0 + 18, none⟩ = some c2_4 := fun W hW => hcc2 W (Hw.out W hW) 4 _ rfl
  have a2_5 : ∀ W : World, Below (w.heap.size + 1) W0 W → W.cell? ⟨bb0, off0 + 19, none⟩ = some c2_5 := fun W hW => hcc2 W (Hw.out W hW) 5 _ rfl
  have a2_6 : ∀ W : World, Below (w.heap.size + 1) W0 W → W.cell? ⟨bb0, off0 + 20, none⟩ = some c2_6 := fun W hW => hcc2 W (Hw.out W hW) 6 _ rfl
  clear hcc0
  clear hcc1
  clear hcc2
  clear C hz0
  obtain ⟨T0, hT0⟩ : ∃ T, T = txE d x0 := ⟨_, rfl⟩
  obtain ⟨T1, hT1⟩ : ∃ T, T = txE d x1 := ⟨_, rfl⟩
  obtain ⟨T2, hT2⟩ : ∃ T, T = txE d x2 := ⟨_, rfl⟩
  rw [← hT0, ← hT1, ← hT2] at Hr
  rw [← hT0] at hs0
  have HT_0 := hide hT0
  clear hT0
  rw [← hT1] at hs1
  have HT_1 := hide hT1
  clear hT1
  rw [← hT2] at hs2
  have HT_2 := hide hT2
  clear hT2
  have q0 : ¬ 9223372036854775807 < 3 + T0.size := by omega
  have q1 : ¬ 9223372036854775807 < 3 + T0.size + 6 := by omega
  have q2 : ¬ 9223372036854775807 < 3 + T0.size + 6 + T1.size := by omega
  have q3 : ¬ 9223372036854775807 < 3 + T0.size + 6 + T1.size + 6 := by omega
  have q4 : ¬ 9223372036854775807 < 3 + T0.size + 6 + T1.size + 6 + T2.size := by omega
  go_region_held3 (fun W => Below (w.heap.size + 1) W0 W) (first | assumption | exact Below.drew (by assumption))
    (first
      | (go_at_call_has 79 c0_0; refine Calls.mono (hE x0 _ Fk0 _ (HR0.out _ (Hw.out _ (by first | assumption | exact Below.drew (by assumption)))) Hva0.out hc0) ?_; rintro en W1 ⟨rfl, hb⟩; have hB1 : Below (w.heap.size + 1) W0 W1 := below_step (by first | assumption | exact Below.drew (by assumption)) hn0 hb; clear hb; rw [← HT_0.out])
      | (go_at_call_has 79 c1_0; refine Calls.mono (hE x1 _ Fk1 _ (HR1.out _ (Hw.out _ (by first | assumption | exact Below.drew (by assumption)))) Hva1.out hc1) ?_; rintro en W2 ⟨rfl, hb⟩; have hB2 : Below (w.heap.size + 1) W0 W2 := below_step (by first | assumption | exact Below.drew (by assumption)) hn0 hb; clear hb; rw [← HT_1.out])
      | (go_at_call_has 79 c2_0; refine Calls.mono (hE x2 _ Fk2 _ (HR2.out _ (Hw.out _ (by first | assumption | exact Below.drew (by assumption)))) Hva2.out hc2) ?_; rintro en W3 ⟨rfl, hb⟩; have hB3 : Below (w.heap.size + 1) W0 W3 := below_step (by first | assumption | exact Below.drew (by assumption)) hn0 hb; clear hb; rw [← HT_2.out]))
  all_goals
    go_wp2_with fail
    go_ret
    exact ⟨ret_string Hr.out.symm, Hw.out _ hB3⟩
set_option maxRecDepth 100000 in
set_option maxHeartbeats 2000000 in
theorem s_tx8 {d : Nat} (hE : TxS d) (n p t : Int) (s m : ByteArray) (x0 : Ex) (cs : List Value) (F : List Nat) (w : World) (h : ExR (d + 1) w (.mk ⟨8, n, p, t, s, m⟩ [x0]) cs F) (hv : allE okN (d + 1) (.mk ⟨8, n, p, t, s, m⟩ [x0]) = true) (hc : cntE (d + 1) (.mk ⟨8, n, p, t, s, m⟩ [x0]) ≤ 24) :
    Calls Tryd.prog 79 #[.agg cs.toArray] w fun en w' => en = .returned (.string (txE (d + 1) (.mk ⟨8, n, p, t, s, m⟩ [x0]))) ∧ Below w.heap.size w w' := by
  obtain ⟨A, cap, rfl, hok, hl, hm, hs⟩ := ex_form h
  simp only [Ex.args, Ex.h, List.length_cons, List.length_nil] at hs hl hm hok
  have hv' : (okN (.mk ⟨8, n, p, t, s, m⟩ [x0]) && ([x0] : List Ex).all (allE okN d)) = true := hv
  rw [Bool.and_eq_true] at hv'
  obtain ⟨hn, hall⟩ := hv'
  have hn : nodeB 8 n p t s m 1 = true := hn
  have hcnt : 1 + sumBy (cntE d) [x0] ≤ 24 := hc
  have HF := hide (hs.lt (ExR.good d))
  obtain ⟨n0, n1⟩ := wf_i64 hok.n
  obtain ⟨p0, p1⟩ := wf_i64 hok.pos
  simp only at n0 n1 p0 p1
  unfold maxLen at hm
  have hnn := cntE_nonneg d
  have hq0 := hnn x0
  simp only [sumBy] at hcnt
  simp only [List.all_cons, List.all_nil, Bool.and_true, Bool.and_eq_true] at hall
  have Hva0 : Hid (allE okN d x0 = true) := hide hall
  have hc0 : cntE d x0 ≤ 24 := by omega
  obtain ⟨bb0, off0, hA0, hbl0, c0_0, c0_1, c0_2, c0_3, c0_4, c0_5, c0_6, hcc0, Fk0, hR0⟩ := ex_arg hs (k := 0) (x := x0) rfl
  have Hsz0 := hide (tx_short (hR0 w (Below.refl _ _)) Hva0.out hc0)
  subst hA0
  have HR0 := hide hR0
  clear hall hR0 hnn hq0
  have Hr : Hid (txE (d + 1) (.mk ⟨8, n, p, t, s, m⟩ [x0]) = s ++ ⟨#[46]⟩ ++ m ++ ⟨#[32, 111, 102, 32]⟩ ++ atL (levH x0.h) 4 (txE d x0)) := hide rfl
  have hs0 := Nat.le_trans (atL_size (levH x0.h) 4 (txE d x0)) (Nat.add_le_add_right Hsz0.out 2)
  have hms : m.size ≤ 8 := by unfold nodeB at hn; simp at hn; exact validN_size hn.2
  have hss : s.size ≤ 8 := by unfold nodeB at hn; simp at hn; exact validN_size hn.1.2
  clear hn hcnt
  obtain ⟨C, hz0, hw0⟩ := boxes1 w [.int .i64 8, .int .i64 n, .int .i64 p, .int .i64 t, .string s, .string m, .slice (some ⟨bb0, off0, none⟩) 1 cap] 67
  show Calls _ _ #[.agg #[.int .i64 8, .int .i64 n, .int .i64 p, .int .i64 t, .string s, .string m, .slice (some ⟨bb0, off0, none⟩) 1 cap]] w _
  clear h hv hc hs
  go_enter Tryd.func79, Tryd.ntmps79
  go_wp2_with fail
  generalize w.alloc (Obj.cells #[.int .i64 8, .int .i64 n, .int .i64 p, .int .i64 t, .string s, .string m, .slice (some ⟨bb0, off0, none⟩) 1 cap] 67) = W0 at C hz0 hw0 ⊢
  have hn0 : w.heap.size + 1 ≤ W0.heap.size := by omega
  have Hw : Hid (∀ W : World, Below (w.heap.size + 1) W0 W → Below w.heap.size w W) := hide fun W h => hw0.trans (h.mono (by omega))
  have e0 := cell_rule C (n := w.heap.size + 1) (by omega) 0 (v := .int .i64 8) rfl
  have e1 := cell_rule C (n := w.heap.size + 1) (by omega) 1 (v := .int .i64 n) rfl
  have e2 := cell_rule C (n := w.heap.size + 1) (by omega) 2 (v := .int .i64 p) rfl
  have e3 := cell_rule C (n := w.heap.size + 1) (by omega) 3 (v := .int .i64 t) rfl
  have e4 := cell_rule C (n := w.heap.size + 1) (by omega) 4 (v := .string s) rfl
  have e5 := cell_rule C (n := w.heap.size + 1) (by omega) 5 (v := .string m) rfl
  have e6 := cell_rule C (n := w.heap.size + 1) (by omega) 6 (v := .slice (some ⟨bb0, off0, none⟩) 1 cap) rfl
  have hB0 : Below (w.heap.size + 1) W0 W0 := Below.refl _ _
  have a0_0 : ∀ W : World, Below (w.heap.size + 1) W0 W → W.cell? ⟨bb0, off0, none⟩ = some c0_0 := fun W hW => hcc0 W (Hw.out W hW) 0 _ rfl
  have a0_1 : ∀ W : World, Below (w.heap.size + 1) W0 W → W.cell? ⟨bb0, off0 + 1, none⟩ = some c0_1 := fun W hW => hcc0 W (Hw.out W hW) 1 _ rfl
  have a0_2 : ∀ W : World, Below (w.heap.size + 1) W0 W → W.cell? ⟨bb0, off0 + 2, none⟩ = some c0_2 := fun W hW => hcc0 W (Hw.out W hW) 2 _ rfl
  have a0_3 : ∀ W : World, Below (w.heap.size + 1) W0 W → W.cell? ⟨bb0, off0 + 3, none⟩ = some c0_3 := fun W hW => hcc0 W (Hw.out W hW) 3 _ rfl
  have a0_4 : ∀ W : World, Below (w.heap.size + 1) W0 W → W.cell? ⟨bb0, off0 + 4, none⟩ = some c0_4 := fun W hW => hcc0 W (Hw.out W hW) 4 _ rfl
  have a0_5 : ∀ W : World, Below (w.heap.size + 1) W0 W → W.cell? ⟨bb0, off0 + 5, none⟩ = some c0_5 := fun W hW => hcc0 W (Hw.out W hW) 5 _ rfl
  have a0_6 : ∀ W : World, Below (w.heap.size + 1) W0 W → W.cell? ⟨bb0, off0 + 6, none⟩ = some c0_6 := fun W hW => hcc0 W (Hw.out W hW) 6 _ rfl
  clear hcc0
  clear C hz0
  obtain ⟨T, hT⟩ : ∃ T, T = atL (levH x0.h) 4 (txE d x0) := ⟨_, rfl⟩
  rw [← hT] at Hr hs0
  have HT_0 := hide hT
  clear hT
  have q0 : ¬ 9223372036854775807 < s.size + 1 := by omega
  have q1 : ¬ 9223372036854775807 < s.size + 1 + m.size := by omega
  have q2 : ¬ 9223372036854775807 < s.size + 1 + m.size + 4 := by omega
  have q3 : ¬ 9223372036854775807 < s.size + 1 + m.size + 4 + T.size := by omega
  go_region_held3 (fun W => Below (w.heap.size + 1) W0 W) (first | assumption | exact Below.drew (by assumption))
    (first | (go_at_call_has 115 c0_0; refine Calls.mono (s_atE hE x0 _ Fk0 _ (HR0.out _ (Hw.out _ (by first | assumption | exact Below.drew (by assumption)))) Hva0.out hc0 4) ?_; rintro en W1 ⟨rfl, hb⟩; have hB1 : Below (w.heap.size + 1) W0 W1 := below_step (by first | assumption | exact Below.drew (by assumption)) hn0 hb; clear hb; rw [← HT_0.out]))
  all_goals
    go_wp2_with fail
    go_ret
    exact ⟨ret_string Hr.out.symm, Hw.out _ hB1⟩
end Go.Proofs.YtilibmialekpaaaDoor
