/- Several texts of one proof in one file: Expressions as text: the reference, operators. Conditions: each theorem names its own. -/
import Derived.Test.YtjddmboaaebbiaaGreatDoorGxaf
import Derived.Deep.RegionHeld3
import Derived.Deep.QuietTactic
import Derived.BigQuiet
import Derived.Test.YtjddmboaaebbiaaGreatDoorGxak

/- Expressions as text: the reference, operators. Conditions: the expression is valid. -/
namespace Go.Proofs.YtjddmboaaebbiaaGreatDoor
set_option linter.unusedSimpArgs false
set_option linter.unusedVariables false
set_option maxRecDepth 100000
open Go.RowKit Go.Lib Go.WideShapes
set_option linter.unusedVariables false

theorem opW_at {k : Nat} (h1 : 1 ≤ k) (h2 : k ≤ 12) : (⟨#[]⟩ :: opWs)[k]? = some (opW (k : Int)) := by
  obtain ⟨j, rfl⟩ : ∃ j, k = j + 1 := ⟨k - 1, by omega⟩
  have hj : j < opWs.length := by show j < 12; omega
  unfold opW
  rw [Int.toNat_natCast, Nat.add_sub_cancel, List.getD_eq_getElem?_getD, List.getElem?_eq_getElem hj, List.getElem?_cons_succ, List.getElem?_eq_getElem hj]
  rfl
theorem lvN_cases (n : Int) : lvN n = 1 ∨ lvN n = 2 ∨ lvN n = 3 ∨ lvN n = 4 := by
  unfold lvN
  repeat' split
  all_goals omega
set_option maxRecDepth 100000 in
set_option maxHeartbeats 2000000 in
theorem s_tx4 {d : Nat} (hE : TxS d) (n p t : Int) (s m : ByteArray) (x0 x1 : Ex) (cs : List Value) (F : List Nat) (w : World) (h : ExR (d + 1) w (.mk ⟨4, n, p, t, s, m⟩ [x0, x1]) cs F) (hv : allE okN (d + 1) (.mk ⟨4, n, p, t, s, m⟩ [x0, x1]) = true) (hc : cntE (d + 1) (.mk ⟨4, n, p, t, s, m⟩ [x0, x1]) ≤ 24) :
    Calls Tryz.prog 83 #[.agg cs.toArray] w fun en w' => en = .returned (.string (txE (d + 1) (.mk ⟨4, n, p, t, s, m⟩ [x0, x1]))) ∧ Below w.heap.size w w' := by
  obtain ⟨A, cap, rfl, hok, hl, hm, hs⟩ := ex_form h
  have HXe := hide (fun (W : World) (hW : Below w.heap.size w W) => (ExR.good (d + 1)).below h hW ((ExR.good (d + 1)).lt h))
  simp only [Ex.args, Ex.h, List.length_cons, List.length_nil] at hs hl hm hok
  have hv' : (okN (.mk ⟨4, n, p, t, s, m⟩ [x0, x1]) && ([x0, x1] : List Ex).all (allE okN d)) = true := hv
  rw [Bool.and_eq_true] at hv'
  obtain ⟨hn, hall⟩ := hv'
  have hn : nodeB 4 n p t s m 2 = true := hn
  have hcnt : 1 + sumBy (cntE d) [x0, x1] ≤ 24 := hc
  have HF := hide (hs.lt (ExR.good d))
  obtain ⟨n0, n1⟩ := wf_i64 hok.n
  obtain ⟨p0, p1⟩ := wf_i64 hok.pos
  simp only at n0 n1 p0 p1
  unfold maxLen at hm
  have hnn := cntE_nonneg d
  have hq0 := hnn x0
  have hq1 := hnn x1
  simp only [sumBy] at hcnt
  simp only [List.all_cons, List.all_nil, Bool.and_true, Bool.and_eq_true] at hall
  have Hva0 : Hid (allE okN d x0 = true) := hide hall.1
  have hc0 : cntE d x0 ≤ 24 := by omega
  have Hva1 : Hid (allE okN d x1 = true) := hide hall.2
  have hc1 : cntE d x1 ≤ 24 := by omega
  obtain ⟨bb0, off0, hA0, hbl0, c0_0, c0_1, c0_2, c0_3, c0_4, c0_5, c0_6, hcc0, Fk0, hR0⟩ := ex_arg hs (k := 0) (x := x0) rfl
  have Hsz0 := hide (tx_short (hR0 w (Below.refl _ _)) Hva0.out hc0)
  obtain ⟨bb1, off1, hA1, hbl1, c1_0, c1_1, c1_2, c1_3, c1_4, c1_5, c1_6, hcc1, Fk1, hR1⟩ := ex_arg hs (k := 1) (x := x1) rfl
  have Hsz1 := hide (tx_short (hR1 w (Below.refl _ _)) Hva1.out hc1)
  rw [hA0] at hA1
  injection hA1 with hA1
  injection hA1 with hB1 hO1 _
  subst hB1 hO1
  subst hA0
  have HR0 := hide hR0
  have HR1 := hide hR1
  clear hall hR0 hR1 hnn hq0 hq1
  have hr : 1 ≤ n ∧ n ≤ 12 := by unfold nodeB inR at hn; simp at hn; exact hn.2
  obtain ⟨nn, rfl⟩ : ∃ nn : Nat, n = nn := ⟨n.toNat, by omega⟩
  have hwn := opW_at (k := nn) (by omega) (by omega)
  have hlv := lvN_cases nn
  have hws := opW_size nn
  have Hr1 : lvN nn = 1 → txE (d + 1) (.mk ⟨4, nn, p, t, s, m⟩ [x0, x1]) = atL (levH x0.h) 2 (txE d x0) ++ ⟨#[32]⟩ ++ opW nn ++ ⟨#[32]⟩ ++ atL (levH x1.h) 2 (txE d x1) := fun h => by show txOp nn _ _ _ _ = _; unfold txOp; rw [if_neg (by omega), h]; rfl
  have Hr2 : lvN nn = 2 → txE (d + 1) (.mk ⟨4, nn, p, t, s, m⟩ [x0, x1]) = atL (levH x0.h) 2 (txE d x0) ++ ⟨#[32]⟩ ++ opW nn ++ ⟨#[32]⟩ ++ atL (levH x1.h) 3 (txE d x1) := fun h => by show txOp nn _ _ _ _ = _; unfold txOp; rw [if_neg (by omega), h]; rfl
  have Hr3 : lvN nn = 3 → txE (d + 1) (.mk ⟨4, nn, p, t, s, m⟩ [x0, x1]) = atL (levH x0.h) 3 (txE d x0) ++ ⟨#[32]⟩ ++ opW nn ++ ⟨#[32]⟩ ++ atL (levH x1.h) 4 (txE d x1) := fun h => by show txOp nn _ _ _ _ = _; unfold txOp; rw [if_neg (by omega), h]; rfl
  have Hr4 : lvN nn = 4 → txE (d + 1) (.mk ⟨4, nn, p, t, s, m⟩ [x0, x1]) = opW nn ++ ⟨#[40]⟩ ++ txE d x0 ++ ⟨#[44, 32]⟩ ++ txE d x1 ++ ⟨#[41]⟩ := fun h => by show txOp nn _ _ _ _ = _; unfold txOp; rw [if_pos h]; rfl
  have hz0 := Hsz0.out
  have hz1 := Hsz1.out
  have ha10 := atL_size (levH x0.h) 2 (txE d x0)
  have ha11 := atL_size (levH x1.h) 2 (txE d x1)
  have ha20 := atL_size (levH x0.h) 2 (txE d x0)
  have ha21 := atL_size (levH x1.h) 3 (txE d x1)
  have ha30 := atL_size (levH x0.h) 3 (txE d x0)
  have ha31 := atL_size (levH x1.h) 4 (txE d x1)
  clear hn hcnt
  obtain ⟨C, hz0, hw0⟩ := boxes1 w [.int .i64 4, .int .i64 nn, .int .i64 p, .int .i64 t, .string s, .string m, .slice (some ⟨bb0, off0, none⟩) 2 cap] 59
  show Calls _ _ #[.agg #[.int .i64 4, .int .i64 nn, .int .i64 p, .int .i64 t, .string s, .string m, .slice (some ⟨bb0, off0, none⟩) 2 cap]] w _
  clear h hv hc hs
  go_enter Tryz.func83, Tryz.ntmps83
  have C1 : CellsAt ((w.alloc (Obj.cells #[.int .i64 4, .int .i64 nn, .int .i64 p, .int .i64 t, .string s, .string m, .slice (some ⟨bb0, off0, none⟩) 2 cap] 59)).alloc (Obj.cells #[.string ⟨#[]⟩, .string ⟨#[43]⟩, .string ⟨#[45]⟩, .string ⟨#[42]⟩, .string ⟨#[109, 97, 120]⟩, .string ⟨#[109, 105, 110]⟩, .string ⟨#[124]⟩, .string ⟨#[38]⟩, .string ⟨#[92]⟩, .string ⟨#[60]⟩, .string ⟨#[61, 61]⟩, .string ⟨#[104, 97, 115]⟩, .string ⟨#[119, 105, 116, 104]⟩] 9)) (w.alloc (Obj.cells #[.int .i64 4, .int .i64 nn, .int .i64 p, .int .i64 t, .string s, .string m, .slice (some ⟨bb0, off0, none⟩) 2 cap] 59)).heap.size 0 [.string ⟨#[]⟩, .string ⟨#[43]⟩, .string ⟨#[45]⟩, .string ⟨#[42]⟩, .string ⟨#[109, 97, 120]⟩, .string ⟨#[109, 105, 110]⟩, .string ⟨#[124]⟩, .string ⟨#[38]⟩, .string ⟨#[92]⟩, .string ⟨#[60]⟩, .string ⟨#[61, 61]⟩, .string ⟨#[104, 97, 115]⟩, .string ⟨#[119, 105, 116, 104]⟩] := CellsAt.new _ _ _
  have hwx : Below (w.alloc (Obj.cells #[.int .i64 4, .int .i64 nn, .int .i64 p, .int .i64 t, .string s, .string m, .slice (some ⟨bb0, off0, none⟩) 2 cap] 59)).heap.size (w.alloc (Obj.cells #[.int .i64 4, .int .i64 nn, .int .i64 p, .int .i64 t, .string s, .string m, .slice (some ⟨bb0, off0, none⟩) 2 cap] 59)) ((w.alloc (Obj.cells #[.int .i64 4, .int .i64 nn, .int .i64 p, .int .i64 t, .string s, .string m, .slice (some ⟨bb0, off0, none⟩) 2 cap] 59)).alloc (Obj.cells #[.string ⟨#[]⟩, .string ⟨#[43]⟩, .string ⟨#[45]⟩, .string ⟨#[42]⟩, .string ⟨#[109, 97, 120]⟩, .string ⟨#[109, 105, 110]⟩, .string ⟨#[124]⟩, .string ⟨#[38]⟩, .string ⟨#[92]⟩, .string ⟨#[60]⟩, .string ⟨#[61, 61]⟩, .string ⟨#[104, 97, 115]⟩, .string ⟨#[119, 105, 116, 104]⟩] 9)) := (Below.refl _ _).alloc (Nat.le_refl _) _
  have hz9 := World.size_alloc (w.alloc (Obj.cells #[.int .i64 4, .int .i64 nn, .int .i64 p, .int .i64 t, .string s, .string m, .slice (some ⟨bb0, off0, none⟩) 2 cap] 59)) (Obj.cells #[.string ⟨#[]⟩, .string ⟨#[43]⟩, .string ⟨#[45]⟩, .string ⟨#[42]⟩, .string ⟨#[109, 97, 120]⟩, .string ⟨#[109, 105, 110]⟩, .string ⟨#[124]⟩, .string ⟨#[38]⟩, .string ⟨#[92]⟩, .string ⟨#[60]⟩, .string ⟨#[61, 61]⟩, .string ⟨#[104, 97, 115]⟩, .string ⟨#[119, 105, 116, 104]⟩] 9)
  have C2 := C.below hwx (by omega)
  have hw1 := hw0.trans (hwx.mono hw0.size)
  rw [hz0] at C1 hz9
  clear hwx C hw0
  go_wp2_with fail
  generalize (w.alloc (Obj.cells #[.int .i64 4, .int .i64 nn, .int .i64 p, .int .i64 t, .string s, .string m, .slice (some ⟨bb0, off0, none⟩) 2 cap] 59)).alloc (Obj.cells #[.string ⟨#[]⟩, .string ⟨#[43]⟩, .string ⟨#[45]⟩, .string ⟨#[42]⟩, .string ⟨#[109, 97, 120]⟩, .string ⟨#[109, 105, 110]⟩, .string ⟨#[124]⟩, .string ⟨#[38]⟩, .string ⟨#[92]⟩, .string ⟨#[60]⟩, .string ⟨#[61, 61]⟩, .string ⟨#[104, 97, 115]⟩, .string ⟨#[119, 105, 116, 104]⟩] 9) = W0 at C1 C2 hw1 hz9 ⊢
  clear hz0
  have hn0 : w.heap.size + 2 ≤ W0.heap.size := by omega
  have Hw : Hid (∀ W : World, Below (w.heap.size + 2) W0 W → Below w.heap.size w W) := hide fun W h => hw1.trans (h.mono (by omega))
  have e0 := cell_rule C2 (n := w.heap.size + 2) (by omega) 0 (v := .int .i64 4) rfl
  have e1 := cell_rule C2 (n := w.heap.size + 2) (by omega) 1 (v := .int .i64 nn) rfl
  have e2 := cell_rule C2 (n := w.heap.size + 2) (by omega) 2 (v := .int .i64 p) rfl
  have e3 := cell_rule C2 (n := w.heap.size + 2) (by omega) 3 (v := .int .i64 t) rfl
  have e4 := cell_rule C2 (n := w.heap.size + 2) (by omega) 4 (v := .string s) rfl
  have e5 := cell_rule C2 (n := w.heap.size + 2) (by omega) 5 (v := .string m) rfl
  have e6 := cell_rule C2 (n := w.heap.size + 2) (by omega) 6 (v := .slice (some ⟨bb0, off0, none⟩) 2 cap) rfl
  have we := cell_rule C1 (n := w.heap.size + 2) (by omega) nn (v := .string (opW nn)) (show ((⟨#[]⟩ :: opWs).map Value.string)[nn]? = some (.string (opW nn)) by rw [List.getElem?_map, hwn]; rfl)
  have a0_0 : ∀ W : World, Below (w.heap.size + 2) W0 W → W.cell? ⟨bb0, off0, none⟩ = some c0_0 := fun W hW => hcc0 W (Hw.out W hW) 0 _ rfl
  have a0_1 : ∀ W : World, Below (w.heap.size + 2) W0 W → W.cell? ⟨bb0, off0 + 1, none⟩ = some c0_1 := fun W hW => hcc0 W (Hw.out W hW) 1 _ rfl
  have a0_2 : ∀ W : World, Below (w.heap.size + 2) W0 W → W.cell? ⟨bb0, off0 + 2, none⟩ = some c0_2 := fun W hW => hcc0 W (Hw.out W hW) 2 _ rfl
  have a0_3 : ∀ W : World, Below (w.heap.size + 2) W0 W → W.cell? ⟨bb0, off0 + 3, none⟩ = some c0_3 := fun W hW => hcc0 W (Hw.out W hW) 3 _ rfl
  have a0_4 : ∀ W : World, Below (w.heap.size + 2) W0 W → W.cell? ⟨bb0, off0 + 4, none⟩ = some c0_4 := fun W hW => hcc0 W (Hw.out W hW) 4 _ rfl
  have a0_5 : ∀ W : World, Below (w.heap.size + 2) W0 W → W.cell? ⟨bb0, off0 + 5, none⟩ = some c0_5 := fun W hW => hcc0 W (Hw.out W hW) 5 _ rfl
  have a0_6 : ∀ W : World, Below (w.heap.size + 2) W0 W → W.cell? ⟨bb0, off0 + 6, none⟩ = some c0_6 := fun W hW => hcc0 W (Hw.out W hW) 6 _ rfl
  have a1_0 : ∀ W : World, Below (w.heap.size + 2) W0 W → W.cell? ⟨bb0, off0 + 7, none⟩ = some c1_0 := fun W hW => hcc1 W (Hw.out W hW) 0 _ rfl
  have a1_1 : ∀ W : World, Below (w.heap.size + 2) W0 W → W.cell? ⟨bb0, off0 + 8, none⟩ = some c1_1 := fun W hW => hcc1 W (Hw.out W hW) 1 _ rfl
  have a1_2 : ∀ W : World, Below (w.heap.size + 2) W0 W → W.cell? ⟨bb0, off0 + 9, none⟩ = some c1_2 := fun W hW => hcc1 W (Hw.out W hW) 2 _ rfl
  have a1_3 : ∀ W : World, Below (w.heap.size + 2) W0 W → W.cell? ⟨bb0, off0 + 10, none⟩ = some c1_3 := fun W hW => hcc1 W (Hw.out W hW) 3 _ rfl
  have a1_4 : ∀ W : World, Below (w.heap.size + 2) W0 W → W.cell? ⟨bb0, off0 + 11, none⟩ = some c1_4 := fun W hW => hcc1 W (Hw.out W hW) 4 _ rfl
  have a1_5 : ∀ W : World, Below (w.heap.size + 2) W0 W → W.cell? ⟨bb0, off0 + 12, none⟩ = some c1_5 := fun W hW => hcc1 W (Hw.out W hW) 5 _ rfl
  have a1_6 : ∀ W : World, Below (w.heap.size + 2) W0 W → W.cell? ⟨bb0, off0 + 13, none⟩ = some c1_6 := fun W hW => hcc1 W (Hw.out W hW) 6 _ rfl
  have hB0 : Below (w.heap.size + 2) W0 W0 := Below.refl _ _
  clear hcc0 hcc1 C1 C2 hwn
  refine Calls.mono (s_LevelOf (d + 1) _ _ F _ (HXe.out _ (Hw.out _ hB0))) ?_
  rintro en W1 ⟨rfl, hb⟩
  have hB1 : Below (w.heap.size + 2) W0 W1 := below_step hB0 hn0 hb
  clear hb
  rw [show levH (Ex.mk ⟨4, nn, p, t, s, m⟩ [x0, x1]).h = lvN nn from rfl]
  have hm12 : (nn : Int) < 13 := by omega
  have hm00 : (0 : Int) ≤ (nn : Int) := by omega
  have Hws := hide hws
  rcases hlv with hlv | hlv | hlv | hlv
  · have Hr := hide (Hr1 hlv)
    clear Hr1 Hr2 Hr3 Hr4
    rw [hlv]
    clear hlv
    clear ha20 ha21
    clear ha30 ha31
    obtain ⟨T0, hT0⟩ : ∃ T, T = atL (levH x0.h) 2 (txE d x0) := ⟨_, rfl⟩
    rw [← hT0] at Hr ha10
    have HT_0 := hide hT0
    clear hT0
    obtain ⟨T1, hT1⟩ : ∃ T, T = atL (levH x1.h) 2 (txE d x1) := ⟨_, rfl⟩
    rw [← hT1] at Hr ha11
    have HT_1 := hide hT1
    clear hT1
    have q0 : ¬ 9223372036854775807 < T0.size + 1 := by have := Hws.out; omega
    have q1 : ¬ 9223372036854775807 < T0.size + 1 + (opW nn).size := by have := Hws.out; omega
    have q2 : ¬ 9223372036854775807 < T0.size + 1 + (opW nn).size + 1 := by have := Hws.out; omega
    have q3 : ¬ 9223372036854775807 < T0.size + 1 + (opW nn).size + 1 + T1.size := by have := Hws.out; omega
    go_wp2_with fail
    go_region_held3 (fun W => Below (w.heap.size + 2) W0 W) (first | assumption | exact Below.drew (by assumption))
      (first
        | (go_at_call 113; refine Calls.mono (s_l1Max 1 2 _) ?_; rintro en w9 ⟨rfl, rfl⟩; rw [show max (1 : Int) 2 = 2 from rfl])
        | (go_at_call_has 82 c0_0; refine Calls.mono (s_atE hE x0 _ Fk0 _ (HR0.out _ (Hw.out _ (by first | assumption | exact Below.drew (by assumption)))) Hva0.out hc0 2) ?_; rintro en W2 ⟨rfl, hb⟩; have hB2 : Below (w.heap.size + 2) W0 W2 := below_step (by first | assumption | exact Below.drew (by assumption)) hn0 hb; clear hb; rw [← HT_0.out])
        | (go_at_call_has 82 c1_0; refine Calls.mono (s_atE hE x1 _ Fk1 _ (HR1.out _ (Hw.out _ (by first | assumption | exact Below.drew (by assumption)))) Hva1.out hc1 2) ?_; rintro en W3 ⟨rfl, hb⟩; have hB3 : Below (w.heap.size + 2) W0 W3 := below_step (by first | assumption | exact Below.drew (by assumption)) hn0 hb; clear hb; rw [← HT_1.out]))
    all_goals
      go_wp2_with fail
      go_ret
      exact ⟨ret_string Hr.out.symm, Hw.out _ hB3⟩
  · have Hr := hide (Hr2 hlv)
    clear Hr1 Hr2 Hr3 Hr4
    rw [hlv]
    clear hlv
    clear ha10 ha11
    clear ha30 ha31
    obtain ⟨T0, hT0⟩ : ∃ T, T = atL (levH x0.h) 2 (txE d x0) := ⟨_, rfl⟩
    rw [← hT0] at Hr ha20
    have HT_0 := hide hT0
    clear hT0
    obtain ⟨T1, hT1⟩ : ∃ T, T = atL (levH x1.h) 3 (txE d x1) := ⟨_, rfl⟩
    rw [← hT1] at Hr ha21
    have HT_1 := hide hT1
    clear hT1
    have q0 : ¬ 9223372036854775807 < T0.size + 1 := by have := Hws.out; omega
    have q1 : ¬ 9223372036854775807 < T0.size + 1 + (opW nn).size := by have := Hws.out; omega
    have q2 : ¬ 9223372036854775807 < T0.size + 1 + (opW nn).size + 1 := by have := Hws.out; omega
    have q3 : ¬ 9223372036854775807 < T0.size + 1 + (opW nn).size + 1 + T1.size := by have := Hws.out; omega
    go_wp2_with fail
    go_region_held3 (fun W => Below (w.heap.size + 2) W0 W) (first | assumption | exact Below.drew (by assumption))
      (first
        | (go_at_call 113; refine Calls.mono (s_l1Max 2 2 _) ?_; rintro en w9 ⟨rfl, rfl⟩; rw [show max (2 : Int) 2 = 2 from rfl])
        | (go_at_call_has 82 c0_0; refine Calls.mono (s_atE hE x0 _ Fk0 _ (HR0.out _ (Hw.out _ (by first | assumption | exact Below.drew (by assumption)))) Hva0.out hc0 2) ?_; rintro en W2 ⟨rfl, hb⟩; have hB2 : Below (w.heap.size + 2) W0 W2 := below_step (by first | assumption | exact Below.drew (by assumption)) hn0 hb; clear hb; rw [← HT_0.out])
        | (go_at_call_has 82 c1_0; refine Calls.mono (s_atE hE x1 _ Fk1 _ (HR1.out _ (Hw.out _ (by first | assumption | exact Below.drew (by assumption)))) Hva1.out hc1 3) ?_; rintro en W3 ⟨rfl, hb⟩; have hB3 : Below (w.heap.size + 2) W0 W3 := below_step (by first | assumption | exact Below.drew (by assumption)) hn0 hb; clear hb; rw [← HT_1.out]))
    all_goals
      go_wp2_with fail
      go_ret
      exact ⟨ret_string Hr.out.symm, Hw.out _ hB3⟩
  · have Hr := hide (Hr3 hlv)
    clear Hr1 Hr2 Hr3 Hr4
    rw [hlv]
    clear hlv
    clear ha10 ha11
    clear ha20 ha21
    obtain ⟨T0, hT0⟩ : ∃ T, T = atL (levH x0.h) 3 (txE d x0) := ⟨_, rfl⟩
    rw [← hT0] at Hr ha30
    have HT_0 := hide hT0
    clear hT0
    obtain ⟨T1, hT1⟩ : ∃ T, T = atL (levH x1.h) 4 (txE d x1) := ⟨_, rfl⟩
    rw [← hT1] at Hr ha31
    have HT_1 := hide hT1
    clear hT1
    have q0 : ¬ 9223372036854775807 < T0.size + 1 := by have := Hws.out; omega
    have q1 : ¬ 9223372036854775807 < T0.size + 1 + (opW nn).size := by have := Hws.out; omega
    have q2 : ¬ 9223372036854775807 < T0.size + 1 + (opW nn).size + 1 := by have := Hws.out; omega
    have q3 : ¬ 9223372036854775807 < T0.size + 1 + (opW nn).size + 1 + T1.size := by have := Hws.out; omega
    go_wp2_with fail
    go_region_held3 (fun W => Below (w.heap.size + 2) W0 W) (first | assumption | exact Below.drew (by assumption))
      (first
        | (go_at_call 113; refine Calls.mono (s_l1Max 3 2 _) ?_; rintro en w9 ⟨rfl, rfl⟩; rw [show max (3 : Int) 2 = 3 from rfl])
        | (go_at_call_has 82 c0_0; refine Calls.mono (s_atE hE x0 _ Fk0 _ (HR0.out _ (Hw.out _ (by first | assumption | exact Below.drew (by assumption)))) Hva0.out hc0 3) ?_; rintro en W2 ⟨rfl, hb⟩; have hB2 : Below (w.heap.size + 2) W0 W2 := below_step (by first | assumption | exact Below.drew (by assumption)) hn0 hb; clear hb; rw [← HT_0.out])
        | (go_at_call_has 82 c1_0; refine Calls.mono (s_atE hE x1 _ Fk1 _ (HR1.out _ (Hw.out _ (by first | assumption | exact Below.drew (by assumption)))) Hva1.out hc1 4) ?_; rintro en W3 ⟨rfl, hb⟩; have hB3 : Below (w.heap.size + 2) W0 W3 := below_step (by first | assumption | exact Below.drew (by assumption)) hn0 hb; clear hb; rw [← HT_1.out]))
    all_goals
      go_wp2_with fail
      go_ret
      exact ⟨ret_string Hr.out.symm, Hw.out _ hB3⟩
  · have Hr := hide (Hr4 hlv)
    clear Hr1 Hr2 Hr3 Hr4
    rw [hlv]
    clear hlv
    clear ha10 ha11 ha20 ha21 ha30 ha31
    obtain ⟨T0, hT0⟩ : ∃ T, T = txE d x0 := ⟨_, rfl⟩
    rw [← hT0] at Hr hz0
    have HT_0 := hide hT0
    clear hT0
    obtain ⟨T1, hT1⟩ : ∃ T, T = txE d x1 := ⟨_, rfl⟩
    rw [← hT1] at Hr hz1
    have HT_1 := hide hT1
    clear hT1
    have q0 : ¬ 9223372036854775807 < (opW nn).size + 1 := by have := Hws.out; omega
    have q1 : ¬ 9223372036854775807 < (opW nn).size + 1 + T0.size := by have := Hws.out; omega
    have q2 : ¬ 9223372036854775807 < (opW nn).size + 1 + T0.size + 2 := by have := Hws.out; omega
    have q3 : ¬ 9223372036854775807 < (opW nn).size + 1 + T0.size + 2 + T1.size := by have := Hws.out; omega
    have q4 : ¬ 9223372036854775807 < (opW nn).size + 1 + T0.size + 2 + T1.size + 1 := by have := Hws.out; omega
    go_wp2_with fail
    go_region_held3 (fun W => Below (w.heap.size + 2) W0 W) (first | assumption | exact Below.drew (by assumption))
      (first
        | (go_at_call_has 52 c0_0; refine Calls.mono (hE x0 _ Fk0 _ (HR0.out _ (Hw.out _ (by first | assumption | exact Below.drew (by assumption)))) Hva0.out hc0) ?_; rintro en W2 ⟨rfl, hb⟩; have hB2 : Below (w.heap.size + 2) W0 W2 := below_step (by first | assumption | exact Below.drew (by assumption)) hn0 hb; clear hb; rw [← HT_0.out])
        | (go_at_call_has 52 c1_0; refine Calls.mono (hE x1 _ Fk1 _ (HR1.out _ (Hw.out _ (by first | assumption | exact Below.drew (by assumption)))) Hva1.out hc1) ?_; rintro en W3 ⟨rfl, hb⟩; have hB3 : Below (w.heap.size + 2) W0 W3 := below_step (by first | assumption | exact Below.drew (by assumption)) hn0 hb; clear hb; rw [← HT_1.out]))
    all_goals
      go_wp2_with fail
      go_ret
      exact ⟨ret_string Hr.out.symm, Hw.out _ hB3⟩
set_option maxRecDepth 100000 in
set_option maxHeartbeats 2000000 in
theorem s_tx4T {d : Nat} (hE : TxS d) (n p t : Int) (s m : ByteArray) (x0 x1 : Ex) (cs : List Value) (F : List Nat) (w : World) (h : ExR (d + 1) w (.mk ⟨4, n, p, t, s, m⟩ [x0, x1]) cs F) (hv : allE okN (d + 1) (.mk ⟨4, n, p, t, s, m⟩ [x0, x1]) = true) (hc : cntE (d + 1) (.mk ⟨4, n, p, t, s, m⟩ [x0, x1]) ≤ 24) :
    Calls Tryz.prog 52 #[.agg cs.toArray] w fun en w' => en = .returned (.string (txE (d + 1) (.mk ⟨4, n, p, t, s, m⟩ [x0, x1]))) ∧ Below w.heap.size w w' := by
  obtain ⟨A, cap, rfl, hok, hl, hm, hs⟩ := ex_form h
  have HXe := hide (fun (W : World) (hW : Below w.heap.size w W) => (ExR.good (d + 1)).below h hW ((ExR.good (d + 1)).lt h))
  simp only [Ex.args, Ex.h, List.length_cons, List.length_nil] at hs hl hm hok
  have hv' : (okN (.mk ⟨4, n, p, t, s, m⟩ [x0, x1]) && ([x0, x1] : List Ex).all (allE okN d)) = true := hv
  rw [Bool.and_eq_true] at hv'
  obtain ⟨hn, hall⟩ := hv'
  have hn : nodeB 4 n p t s m 2 = true := hn
  have hcnt : 1 + sumBy (cntE d) [x0, x1] ≤ 24 := hc
  have HF := hide (hs.lt (ExR.good d))
  obtain ⟨n0, n1⟩ := wf_i64 hok.n
  obtain ⟨p0, p1⟩ := wf_i64 hok.pos
  simp only at n0 n1 p0 p1
  unfold maxLen at hm
  have hnn := cntE_nonneg d
  have hq0 := hnn x0
  have hq1 := hnn x1
  simp only [sumBy] at hcnt
  simp only [List.all_cons, List.all_nil, Bool.and_true, Bool.and_eq_true] at hall
  have Hva0 : Hid (allE okN d x0 = true) := hide hall.1
  have hc0 : cntE d x0 ≤ 24 := by omega
  have Hva1 : Hid (allE okN d x1 = true) := hide hall.2
  have hc1 : cntE d x1 ≤ 24 := by omega
  obtain ⟨bb0, off0, hA0, hbl0, c0_0, c0_1, c0_2, c0_3, c0_4, c0_5, c0_6, hcc0, Fk0, hR0⟩ := ex_arg hs (k := 0) (x := x0) rfl
  have Hsz0 := hide (tx_short (hR0 w (Below.refl _ _)) Hva0.out hc0)
  obtain ⟨bb1, off1, hA1, hbl1, c1_0, c1_1, c1_2, c1_3, c1_4, c1_5, c1_6, hcc1, Fk1, hR1⟩ := ex_arg hs (k := 1) (x := x1) rfl
  have Hsz1 := hide (tx_short (hR1 w (Below.refl _ _)) Hva1.out hc1)
  rw [hA0] at hA1
  injection hA1 with hA1
  injection hA1 with hB1 hO1 _
  subst hB1 hO1
  subst hA0
  have HR0 := hide hR0
  have HR1 := hide hR1
  clear hall hR0 hR1 hnn hq0 hq1
  have Hr := hide (s_tx4 hE n p t s m x0 x1)
  have Hv := hide hv
  have Hc := hide hc
  obtain ⟨C, hz0, hw0⟩ := boxes1 w [.int .i64 4, .int .i64 n, .int .i64 p, .int .i64 t, .string s, .string m, .slice (some ⟨bb0, off0, none⟩) 2 cap] 59
  show Calls _ _ #[.agg #[.int .i64 4, .int .i64 n, .int .i64 p, .int .i64 t, .string s, .string m, .slice (some ⟨bb0, off0, none⟩) 2 cap]] w _
  clear h hv hc hs
  go_enter Tryz.func52, Tryz.ntmps52
  go_wp2_with fail
  refine Calls.mono (Hr.out _ F _ (HXe.out _ hw0) Hv.out Hc.out) ?_
  rintro en W1 ⟨rfl, hb⟩
  have hB1 := hw0.trans (hb.mono hw0.size)
  clear hb
  go_wp2_with fail
  go_ret
  exact ⟨rfl, hB1⟩
theorem s_txAll : ∀ d, TxS d
  | 0 => fun e cs F w h _ _ => h.elim
  | d + 1 => fun e cs F w h hv hc => by
    have hE := s_txAll d
    obtain ⟨⟨k, n, p, t, s, m⟩, l⟩ := e
    have hn : nodeB k n p t s m l.length = true := by
      have hv' : (okN (.mk ⟨k, n, p, t, s, m⟩ l) && l.all (allE okN d)) = true := hv
      rw [Bool.and_eq_true] at hv'
      exact hv'.1
    have hk : k = 1 ∨ k = 2 ∨ k = 3 ∨ k = 4 ∨ k = 5 ∨ k = 6 ∨ k = 7 ∨ k = 8 := by
      by_cases h8 : 1 ≤ k ∧ k ≤ 8
      · omega
      · rw [nodeB_out h8] at hn
        cases hn
    have hb : bareB k n p t s m l.length = true := by
      cases hq : bareB k n p t s m l.length
      · rw [nodeB_bare hq] at hn
        cases hn
      · rfl
    have hl : (l.length : Int) = if k = 4 then 2 else if k = 5 then 3 else if k = 8 then 1 else 0 := by
      unfold bareB at hb
      simp only [Bool.and_eq_true, decide_eq_true_eq] at hb
      exact hb.1.1.1.1.1
    rcases hk with rfl | rfl | rfl | rfl | rfl | rfl | rfl | rfl
    · have hl : l.length = 0 := by have : (l.length : Int) = 0 := hl; omega
      obtain rfl := List.length_eq_zero_iff.1 hl
      exact s_tx1 hE n p t s m cs F w h hv hc
    · have hl : l.length = 0 := by have : (l.length : Int) = 0 := hl; omega
      obtain rfl := List.length_eq_zero_iff.1 hl
      exact s_tx2 hE n p t s m cs F w h hv hc
    · have hl : l.length = 0 := by have : (l.length : Int) = 0 := hl; omega
      obtain rfl := List.length_eq_zero_iff.1 hl
      exact s_tx3 hE n p t s m cs F w h hv hc
    · have hl : l.length = 2 := by have : (l.length : Int) = 2 := hl; omega
      obtain ⟨x0, x1, rfl⟩ : ∃ x0 x1, l = [x0, x1] := by match l, hl with | [x0, x1], _ => exact ⟨x0, x1, rfl⟩
      exact s_tx4T hE n p t s m x0 x1 cs F w h hv hc
    · have hl : l.length = 3 := by have : (l.length : Int) = 3 := hl; omega
      obtain ⟨x0, x1, x2, rfl⟩ : ∃ x0 x1 x2, l = [x0, x1, x2] := by match l, hl with | [x0, x1, x2], _ => exact ⟨x0, x1, x2, rfl⟩
      exact s_tx5 hE n p t s m x0 x1 x2 cs F w h hv hc
    · have hl : l.length = 0 := by have : (l.length : Int) = 0 := hl; omega
      obtain rfl := List.length_eq_zero_iff.1 hl
      exact s_tx6 hE n p t s m cs F w h hv hc
    · have hl : l.length = 0 := by have : (l.length : Int) = 0 := hl; omega
      obtain rfl := List.length_eq_zero_iff.1 hl
      exact s_tx7 hE n p t s m cs F w h hv hc
    · have hl : l.length = 1 := by have : (l.length : Int) = 1 := hl; omega
      obtain ⟨x0, rfl⟩ : ∃ x0, l = [x0] := by match l, hl with | [x0], _ => exact ⟨x0, rfl⟩
      exact s_tx8 hE n p t s m x0 cs F w h hv hc
end Go.Proofs.YtjddmboaaebbiaaGreatDoor
