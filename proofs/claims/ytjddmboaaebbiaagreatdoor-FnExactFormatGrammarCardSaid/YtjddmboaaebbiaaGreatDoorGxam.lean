/- Several texts of one proof in one file: Expressions as text: the program, operators. Conditions: each theorem names its own. -/
import Derived.Test.YtjddmboaaebbiaaGreatDoorGxaf
import Derived.Deep.RegionHeld3
import Derived.Deep.QuietTactic
import Derived.BigQuiet
import Derived.Test.YtjddmboaaebbiaaGreatDoorGxak
import Derived.Test.YtjddmboaaebbiaaGreatDoorGxag
import Derived.Test.YtjddmboaaebbiaaGreatDoorGxal

/- Expressions as text: the program, operators. Conditions: the expression is valid, and the library's table of powers is laid. -/
namespace Go.Proofs.YtjddmboaaebbiaaGreatDoor
set_option linter.unusedSimpArgs false
set_option linter.unusedVariables false
set_option maxRecDepth 100000
open Go.RowKit Go.Lib Go.WideShapes
set_option linter.unusedVariables false

set_option maxRecDepth 100000 in
set_option maxHeartbeats 2000000 in
theorem i_opText (nn : Nat) (h1 : 1 ≤ nn) (h2 : nn ≤ 12) (w : World) : Calls Tryz.prog 96 #[.int .i64 nn] w fun en w' => en = .returned (.string (opW nn)) ∧ w = w' := by
  have hc : nn = 1 ∨ nn = 2 ∨ nn = 3 ∨ nn = 4 ∨ nn = 5 ∨ nn = 6 ∨ nn = 7 ∨ nn = 8 ∨ nn = 9 ∨ nn = 10 ∨ nn = 11 ∨ nn = 12 := by omega
  clear h1 h2
  rcases hc with rfl | rfl | rfl | rfl | rfl | rfl | rfl | rfl | rfl | rfl | rfl | rfl
  · have ix : ∀ w, (Instr.index 153 (.agg #[.string ⟨#[43]⟩, .string ⟨#[45]⟩, .string ⟨#[42]⟩, .string ⟨#[109, 97, 120]⟩, .string ⟨#[109, 105, 110]⟩, .string ⟨#[124]⟩, .string ⟨#[38]⟩, .string ⟨#[92]⟩, .string ⟨#[60]⟩, .string ⟨#[61, 61]⟩, .string ⟨#[104, 97, 115]⟩, .string ⟨#[119, 105, 116, 104]⟩]) (.int .i64 0)).run Tryz.prog w = .ok (.string ⟨#[43]⟩) w := fun _ => by kernel_rfl
    go_enter Tryz.func96, Tryz.ntmps96
    go_wp2_with (go_at_call 57; refine (i_within _ _ _ _).mono ?_; rintro e w' ⟨rfl, rfl⟩)
    go_ret
    exact ⟨rfl, rfl⟩
  · have ix : ∀ w, (Instr.index 153 (.agg #[.string ⟨#[43]⟩, .string ⟨#[45]⟩, .string ⟨#[42]⟩, .string ⟨#[109, 97, 120]⟩, .string ⟨#[109, 105, 110]⟩, .string ⟨#[124]⟩, .string ⟨#[38]⟩, .string ⟨#[92]⟩, .string ⟨#[60]⟩, .string ⟨#[61, 61]⟩, .string ⟨#[104, 97, 115]⟩, .string ⟨#[119, 105, 116, 104]⟩]) (.int .i64 1)).run Tryz.prog w = .ok (.string ⟨#[45]⟩) w := fun _ => by kernel_rfl
    go_enter Tryz.func96, Tryz.ntmps96
    go_wp2_with (go_at_call 57; refine (i_within _ _ _ _).mono ?_; rintro e w' ⟨rfl, rfl⟩)
    go_ret
    exact ⟨rfl, rfl⟩
  · have ix : ∀ w, (Instr.index 153 (.agg #[.string ⟨#[43]⟩, .string ⟨#[45]⟩, .string ⟨#[42]⟩, .string ⟨#[109, 97, 120]⟩, .string ⟨#[109, 105, 110]⟩, .string ⟨#[124]⟩, .string ⟨#[38]⟩, .string ⟨#[92]⟩, .string ⟨#[60]⟩, .string ⟨#[61, 61]⟩, .string ⟨#[104, 97, 115]⟩, .string ⟨#[119, 105, 116, 104]⟩]) (.int .i64 2)).run Tryz.prog w = .ok (.string ⟨#[42]⟩) w := fun _ => by kernel_rfl
    go_enter Tryz.func96, Tryz.ntmps96
    go_wp2_with (go_at_call 57; refine (i_within _ _ _ _).mono ?_; rintro e w' ⟨rfl, rfl⟩)
    go_ret
    exact ⟨rfl, rfl⟩
  · have ix : ∀ w, (Instr.index 153 (.agg #[.string ⟨#[43]⟩, .string ⟨#[45]⟩, .string ⟨#[42]⟩, .string ⟨#[109, 97, 120]⟩, .string ⟨#[109, 105, 110]⟩, .string ⟨#[124]⟩, .string ⟨#[38]⟩, .string ⟨#[92]⟩, .string ⟨#[60]⟩, .string ⟨#[61, 61]⟩, .string ⟨#[104, 97, 115]⟩, .string ⟨#[119, 105, 116, 104]⟩]) (.int .i64 3)).run Tryz.prog w = .ok (.string ⟨#[109, 97, 120]⟩) w := fun _ => by kernel_rfl
    go_enter Tryz.func96, Tryz.ntmps96
    go_wp2_with (go_at_call 57; refine (i_within _ _ _ _).mono ?_; rintro e w' ⟨rfl, rfl⟩)
    go_ret
    exact ⟨rfl, rfl⟩
  · have ix : ∀ w, (Instr.index 153 (.agg #[.string ⟨#[43]⟩, .string ⟨#[45]⟩, .string ⟨#[42]⟩, .string ⟨#[109, 97, 120]⟩, .string ⟨#[109, 105, 110]⟩, .string ⟨#[124]⟩, .string ⟨#[38]⟩, .string ⟨#[92]⟩, .string ⟨#[60]⟩, .string ⟨#[61, 61]⟩, .string ⟨#[104, 97, 115]⟩, .string ⟨#[119, 105, 116, 104]⟩]) (.int .i64 4)).run Tryz.prog w = .ok (.string ⟨#[109, 105, 110]⟩) w := fun _ => by kernel_rfl
    go_enter Tryz.func96, Tryz.ntmps96
    go_wp2_with (go_at_call 57; refine (i_within _ _ _ _).mono ?_; rintro e w' ⟨rfl, rfl⟩)
    go_ret
    exact ⟨rfl, rfl⟩
  · have ix : ∀ w, (Instr.index 153 (.agg #[.string ⟨#[43]⟩, .string ⟨#[45]⟩, .string ⟨#[42]⟩, .string ⟨#[109, 97, 120]⟩, .string ⟨#[109, 105, 110]⟩, .string ⟨#[124]⟩, .string ⟨#[38]⟩, .string ⟨#[92]⟩, .string ⟨#[60]⟩, .string ⟨#[61, 61]⟩, .string ⟨#[104, 97, 115]⟩, .string ⟨#[119, 105, 116, 104]⟩]) (.int .i64 5)).run Tryz.prog w = .ok (.string ⟨#[124]⟩) w := fun _ => by kernel_rfl
    go_enter Tryz.func96, Tryz.ntmps96
    go_wp2_with (go_at_call 57; refine (i_within _ _ _ _).mono ?_; rintro e w' ⟨rfl, rfl⟩)
    go_ret
    exact ⟨rfl, rfl⟩
  · have ix : ∀ w, (Instr.index 153 (.agg #[.string ⟨#[43]⟩, .string ⟨#[45]⟩, .string ⟨#[42]⟩, .string ⟨#[109, 97, 120]⟩, .string ⟨#[109, 105, 110]⟩, .string ⟨#[124]⟩, .string ⟨#[38]⟩, .string ⟨#[92]⟩, .string ⟨#[60]⟩, .string ⟨#[61, 61]⟩, .string ⟨#[104, 97, 115]⟩, .string ⟨#[119, 105, 116, 104]⟩]) (.int .i64 6)).run Tryz.prog w = .ok (.string ⟨#[38]⟩) w := fun _ => by kernel_rfl
    go_enter Tryz.func96, Tryz.ntmps96
    go_wp2_with (go_at_call 57; refine (i_within _ _ _ _).mono ?_; rintro e w' ⟨rfl, rfl⟩)
    go_ret
    exact ⟨rfl, rfl⟩
  · have ix : ∀ w, (Instr.index 153 (.agg #[.string ⟨#[43]⟩, .string ⟨#[45]⟩, .string ⟨#[42]⟩, .string ⟨#[109, 97, 120]⟩, .string ⟨#[109, 105, 110]⟩, .string ⟨#[124]⟩, .string ⟨#[38]⟩, .string ⟨#[92]⟩, .string ⟨#[60]⟩, .string ⟨#[61, 61]⟩, .string ⟨#[104, 97, 115]⟩, .string ⟨#[119, 105, 116, 104]⟩]) (.int .i64 7)).run Tryz.prog w = .ok (.string ⟨#[92]⟩) w := fun _ => by kernel_rfl
    go_enter Tryz.func96, Tryz.ntmps96
    go_wp2_with (go_at_call 57; refine (i_within _ _ _ _).mono ?_; rintro e w' ⟨rfl, rfl⟩)
    go_ret
    exact ⟨rfl, rfl⟩
  · have ix : ∀ w, (Instr.index 153 (.agg #[.string ⟨#[43]⟩, .string ⟨#[45]⟩, .string ⟨#[42]⟩, .string ⟨#[109, 97, 120]⟩, .string ⟨#[109, 105, 110]⟩, .string ⟨#[124]⟩, .string ⟨#[38]⟩, .string ⟨#[92]⟩, .string ⟨#[60]⟩, .string ⟨#[61, 61]⟩, .string ⟨#[104, 97, 115]⟩, .string ⟨#[119, 105, 116, 104]⟩]) (.int .i64 8)).run Tryz.prog w = .ok (.string ⟨#[60]⟩) w := fun _ => by kernel_rfl
    go_enter Tryz.func96, Tryz.ntmps96
    go_wp2_with (go_at_call 57; refine (i_within _ _ _ _).mono ?_; rintro e w' ⟨rfl, rfl⟩)
    go_ret
    exact ⟨rfl, rfl⟩
  · have ix : ∀ w, (Instr.index 153 (.agg #[.string ⟨#[43]⟩, .string ⟨#[45]⟩, .string ⟨#[42]⟩, .string ⟨#[109, 97, 120]⟩, .string ⟨#[109, 105, 110]⟩, .string ⟨#[124]⟩, .string ⟨#[38]⟩, .string ⟨#[92]⟩, .string ⟨#[60]⟩, .string ⟨#[61, 61]⟩, .string ⟨#[104, 97, 115]⟩, .string ⟨#[119, 105, 116, 104]⟩]) (.int .i64 9)).run Tryz.prog w = .ok (.string ⟨#[61, 61]⟩) w := fun _ => by kernel_rfl
    go_enter Tryz.func96, Tryz.ntmps96
    go_wp2_with (go_at_call 57; refine (i_within _ _ _ _).mono ?_; rintro e w' ⟨rfl, rfl⟩)
    go_ret
    exact ⟨rfl, rfl⟩
  · have ix : ∀ w, (Instr.index 153 (.agg #[.string ⟨#[43]⟩, .string ⟨#[45]⟩, .string ⟨#[42]⟩, .string ⟨#[109, 97, 120]⟩, .string ⟨#[109, 105, 110]⟩, .string ⟨#[124]⟩, .string ⟨#[38]⟩, .string ⟨#[92]⟩, .string ⟨#[60]⟩, .string ⟨#[61, 61]⟩, .string ⟨#[104, 97, 115]⟩, .string ⟨#[119, 105, 116, 104]⟩]) (.int .i64 10)).run Tryz.prog w = .ok (.string ⟨#[104, 97, 115]⟩) w := fun _ => by kernel_rfl
    go_enter Tryz.func96, Tryz.ntmps96
    go_wp2_with (go_at_call 57; refine (i_within _ _ _ _).mono ?_; rintro e w' ⟨rfl, rfl⟩)
    go_ret
    exact ⟨rfl, rfl⟩
  · have ix : ∀ w, (Instr.index 153 (.agg #[.string ⟨#[43]⟩, .string ⟨#[45]⟩, .string ⟨#[42]⟩, .string ⟨#[109, 97, 120]⟩, .string ⟨#[109, 105, 110]⟩, .string ⟨#[124]⟩, .string ⟨#[38]⟩, .string ⟨#[92]⟩, .string ⟨#[60]⟩, .string ⟨#[61, 61]⟩, .string ⟨#[104, 97, 115]⟩, .string ⟨#[119, 105, 116, 104]⟩]) (.int .i64 11)).run Tryz.prog w = .ok (.string ⟨#[119, 105, 116, 104]⟩) w := fun _ => by kernel_rfl
    go_enter Tryz.func96, Tryz.ntmps96
    go_wp2_with (go_at_call 57; refine (i_within _ _ _ _).mono ?_; rintro e w' ⟨rfl, rfl⟩)
    go_ret
    exact ⟨rfl, rfl⟩
set_option maxRecDepth 100000 in
set_option maxHeartbeats 2000000 in
theorem i_opLevel (nn : Nat) (w : World) : Calls Tryz.prog 95 #[.int .i64 nn] w fun en w' => en = .returned (.int .i64 (lvN nn)) ∧ w = w' := by
  by_cases h12 : nn ≤ 10
  · have hc : nn = 0 ∨ nn = 1 ∨ nn = 2 ∨ nn = 3 ∨ nn = 4 ∨ nn = 5 ∨ nn = 6 ∨ nn = 7 ∨ nn = 8 ∨ nn = 9 ∨ nn = 10 := by omega
    clear h12
    rcases hc with rfl | rfl | rfl | rfl | rfl | rfl | rfl | rfl | rfl | rfl | rfl
    all_goals
      go_enter Tryz.func95, Tryz.ntmps95
      go_wp2_with fail
      go_ret
      exact ⟨rfl, rfl⟩
  · have hl : lvN nn = 4 := by unfold lvN; rw [if_neg (by omega), if_neg (by omega), if_neg (by omega)]
    have t1 : ((nn : Int) == 1) = false := by simp; omega
    have t2 : ((nn : Int) == 2) = false := by simp; omega
    have t3 : ((nn : Int) == 3) = false := by simp; omega
    have t6 : ((nn : Int) == 6) = false := by simp; omega
    have t7 : ((nn : Int) == 7) = false := by simp; omega
    have t8 : ((nn : Int) == 8) = false := by simp; omega
    have t9 : ((nn : Int) == 9) = false := by simp; omega
    have t10 : ((nn : Int) == 10) = false := by simp; omega
    go_enter Tryz.func95, Tryz.ntmps95
    go_wp2_with fail
    go_ret
    exact ⟨by rw [hl]; rfl, rfl⟩
set_option maxRecDepth 100000 in
set_option maxHeartbeats 2000000 in
theorem i_tx4 {d : Nat} (hE : TxI d) (n p t : Int) (s m : ByteArray) (x0 x1 : Ex) (cs : List Value) (F : List Nat) (w : World) (h : ExR (d + 1) w (.mk ⟨4, n, p, t, s, m⟩ [x0, x1]) cs F) (hv : allE okN (d + 1) (.mk ⟨4, n, p, t, s, m⟩ [x0, x1]) = true) (hc : cntE (d + 1) (.mk ⟨4, n, p, t, s, m⟩ [x0, x1]) ≤ 24) (htab : TabIs Tryz.prog w "internal/strconv.uint64pow10" .u64 pow10Tab) :
    Calls Tryz.prog 61 #[.agg cs.toArray] w fun en w' => en = .returned (.string (txE (d + 1) (.mk ⟨4, n, p, t, s, m⟩ [x0, x1]))) ∧ Below w.heap.size w w' := by
  have HT : Hid (∀ W : World, Below w.heap.size w W → TabIs Tryz.prog W "internal/strconv.uint64pow10" .u64 pow10Tab) := hide (tabBelow_of_tabIs htab)
  clear htab
  obtain ⟨A, cap, rfl, hok, hl, hm, hs⟩ := ex_form h
  have HXe := hide (fun (W : World) (hW : Below w.heap.size w W) => (ExR.good (d + 1)).below h hW ((ExR.good (d + 1)).lt h))
  simp only [Ex.args, Ex.h, List.length_cons, List.length_nil] at hs hl hm hok
  have hv' : (okN (.mk ⟨4, n, p, t, s, m⟩ [x0, x1]) && ([x0, x1] : List Ex).all (allE okN d)) = true := hv
  rw [Bool.and_eq_true] at hv'
  obtain ⟨hn, hall⟩ := hv'
  have hn : nodeB 4 n p t s m 2 = true := hn
  have hcnt : 1 + sumBy (cntE d) [x0, x1] ≤ 24 := hc
  have HF := hide (hs.lt (ExR.good d))
  obtain ⟨n0, n1⟩ := wf_i64 hok.n
  obtain ⟨p0, p1⟩ := wf_i64 hok.pos
  simp only at n0 n1 p0 p1
  unfold maxLen at hm
  have hnn := cntE_nonneg d
  have hq0 := hnn x0
  have hq1 := hnn x1
  simp only [sumBy] at hcnt
  simp only [List.all_cons, List.all_nil, Bool.and_true, Bool.and_eq_true] at hall
  have Hva0 : Hid (allE okN d x0 = true) := hide hall.1
  have hc0 : cntE d x0 ≤ 24 := by omega
  have Hva1 : Hid (allE okN d x1 = true) := hide hall.2
  have hc1 : cntE d x1 ≤ 24 := by omega
  obtain ⟨bb0, off0, hA0, hbl0, c0_0, c0_1, c0_2, c0_3, c0_4, c0_5, c0_6, hcc0, Fk0, hR0⟩ := ex_arg hs (k := 0) (x := x0) rfl
  have Hsz0 := hide (tx_short (hR0 w (Below.refl _ _)) Hva0.out hc0)
  obtain ⟨bb1, off1, hA1, hbl1, c1_0, c1_1, c1_2, c1_3, c1_4, c1_5, c1_6, hcc1, Fk1, hR1⟩ := ex_arg hs (k := 1) (x := x1) rfl
  have Hsz1 := hide (tx_short (hR1 w (Below.refl _ _)) Hva1.out hc1)
  rw [hA0] at hA1
  injection hA1 with hA1
  injection hA1 with hB1 hO1 _
  subst hB1 hO1
  subst hA0
  have HR0 := hide hR0
  have HR1 := hide hR1
  clear hall hR0 hR1 hnn hq0 hq1
  have hr : 1 ≤ n ∧ n ≤ 12 := by unfold nodeB inR at hn; simp at hn; exact hn.2
  obtain ⟨nn, rfl⟩ : ∃ nn : Nat, n = nn := ⟨n.toNat, by omega⟩
  have hlv := lvN_cases nn
  have hws := opW_size nn
  have Hr1 : lvN nn = 1 → txE (d + 1) (.mk ⟨4, nn, p, t, s, m⟩ [x0, x1]) = atL (levH x0.h) 2 (txE d x0) ++ ⟨#[32]⟩ ++ opW nn ++ ⟨#[32]⟩ ++ atL (levH x1.h) 2 (txE d x1) := fun h => by show txOp nn _ _ _ _ = _; unfold txOp; rw [if_neg (by omega), h]; rfl
  have Hr2 : lvN nn = 2 → txE (d + 1) (.mk ⟨4, nn, p, t, s, m⟩ [x0, x1]) = atL (levH x0.h) 2 (txE d x0) ++ ⟨#[32]⟩ ++ opW nn ++ ⟨#[32]⟩ ++ atL (levH x1.h) 3 (txE d x1) := fun h => by show txOp nn _ _ _ _ = _; unfold txOp; rw [if_neg (by omega), h]; rfl
  have Hr3 : lvN nn = 3 → txE (d + 1) (.mk ⟨4, nn, p, t, s, m⟩ [x0, x1]) = atL (levH x0.h) 3 (txE d x0) ++ ⟨#[32]⟩ ++ opW nn ++ ⟨#[32]⟩ ++ atL (levH x1.h) 4 (txE d x1) := fun h => by show txOp nn _ _ _ _ = _; unfold txOp; rw [if_neg (by omega), h]; rfl
  have Hr4 : lvN nn = 4 → txE (d + 1) (.mk ⟨4, nn, p, t, s, m⟩ [x0, x1]) = opW nn ++ ⟨#[40]⟩ ++ txE d x0 ++ ⟨#[44, 32]⟩ ++ txE d x1 ++ ⟨#[41]⟩ := fun h => by show txOp nn _ _ _ _ = _; unfold txOp; rw [if_pos h]; rfl
  have hz0 := Hsz0.out
  have hz1 := Hsz1.out
  have ha10 := atL_size (levH x0.h) 2 (txE d x0)
  have ha11 := atL_size (levH x1.h) 2 (txE d x1)
  have ha20 := atL_size (levH x0.h) 2 (txE d x0)
  have ha21 := atL_size (levH x1.h) 3 (txE d x1)
  have ha30 := atL_size (levH x0.h) 3 (txE d x0)
  have ha31 := atL_size (levH x1.h) 4 (txE d x1)
  clear hn hcnt
  have Ho0 := hide (ExR.one (HR0.out w (Below.refl _ _)))
  have Ho1 := hide (ExR.one (HR1.out w (Below.refl _ _)))
  have X_hlv := hide hlv
  clear hlv
  have X_hws := hide hws
  clear hws
  have X_Hr1 := hide Hr1
  clear Hr1
  have X_Hr2 := hide Hr2
  clear Hr2
  have X_Hr3 := hide Hr3
  clear Hr3
  have X_Hr4 := hide Hr4
  clear Hr4
  have X_hz0 := hide hz0
  clear hz0
  have X_hz1 := hide hz1
  clear hz1
  have X_ha10 := hide ha10
  clear ha10
  have X_ha11 := hide ha11
  clear ha11
  have X_ha20 := hide ha20
  clear ha20
  have X_ha21 := hide ha21
  clear ha21
  have X_ha30 := hide ha30
  clear ha30
  have X_ha31 := hide ha31
  clear ha31
  obtain ⟨C, hz0, hw0⟩ := boxes1 w [.int .i64 4, .int .i64 nn, .int .i64 p, .int .i64 t, .string s, .string m, .slice (some ⟨bb0, off0, none⟩) 2 cap] 59
  show Calls _ _ #[.agg #[.int .i64 4, .int .i64 nn, .int .i64 p, .int .i64 t, .string s, .string m, .slice (some ⟨bb0, off0, none⟩) 2 cap]] w _
  clear h hv hc hs
  go_enter Tryz.func61, Tryz.ntmps61
  go_wp2_with fail
  generalize w.alloc (Obj.cells #[.int .i64 4, .int .i64 nn, .int .i64 p, .int .i64 t, .string s, .string m, .slice (some ⟨bb0, off0, none⟩) 2 cap] 59) = W0 at C hz0 hw0 ⊢
  have hn0 : w.heap.size + 1 ≤ W0.heap.size := by omega
  have Hw : Hid (∀ W : World, Below (w.heap.size + 1) W0 W → Below w.heap.size w W) := hide fun W h => hw0.trans (h.mono (by omega))
  have e0 := cell_rule C (n := w.heap.size + 1) (by omega) 0 (v := .int .i64 4) rfl
  have e1 := cell_rule C (n := w.heap.size + 1) (by omega) 1 (v := .int .i64 nn) rfl
  have e2 := cell_rule C (n := w.heap.size + 1) (by omega) 2 (v := .int .i64 p) rfl
  have e3 := cell_rule C (n := w.heap.size + 1) (by omega) 3 (v := .int .i64 t) rfl
  have e4 := cell_rule C (n := w.heap.size + 1) (by omega) 4 (v := .string s) rfl
  have e5 := cell_rule C (n := w.heap.size + 1) (by omega) 5 (v := .string m) rfl
  have e6 := cell_rule C (n := w.heap.size + 1) (by omega) 6 (v := .slice (some ⟨bb0, off0, none⟩) 2 cap) rfl
  have hB0 : Below (w.heap.size + 1) W0 W0 := Below.refl _ _
  have a0_0 : ∀ W : World, Below (w.heap.size + 1) W0 W → W.cell? ⟨bb0, off0, none⟩ = some c0_0 := fun W hW => hcc0 W (Hw.out W hW) 0 _ rfl
  have a0_1 : ∀ W : World, Below (w.heap.size + 1) W0 W → W.cell? ⟨bb0, off0 + 1, none⟩ = some c0_1 := fun W hW => hcc0 W (Hw.out W hW) 1 _ rfl
  have a0_2 : ∀ W : World, Below (w.heap.size + 1) W0 W → W.cell? ⟨bb0, off0 + 2, none⟩ = some c0_2 := fun W hW => hcc0 W (Hw.out W hW) 2 _ rfl
  have a0_3 : ∀ W : World, Below (w.heap.size + 1) W0 W → W.cell? ⟨bb0, off0 + 3, none⟩ = some c0_3 := fun W hW => hcc0 W (Hw.out W hW) 3 _ rfl
  have a0_4 : ∀ W : World, Below (w.heap.size + 1) W0 W → W.cell? ⟨bb0, off0 + 4, none⟩ = some c0_4 := fun W hW => hcc0 W (Hw.out W hW) 4 _ rfl
  have a0_5 : ∀ W : World, Below (w.heap.size + 1) W0 W → W.cell? ⟨bb0, off0 + 5, none⟩ = some c0_5 := fun W hW => hcc0 W (Hw.out W hW) 5 _ rfl
  have a0_6 : ∀ W : World, Below (w.heap.size + 1) W0 W → W.cell? ⟨bb0, off0 + 6, none⟩ = some c0_6 := fun W hW => hcc0 W (Hw.out W hW) 6 _ rfl
  have a1_0 : ∀ W : World, Below (w.heap.size + 1) W0 W → W.cell? ⟨bb0, off0 + 7, none⟩ = some c1_0 := fun W hW => hcc1 W (Hw.out W hW) 0 _ rfl
  have a1_1 : ∀ W : World, Below (w.heap.size + 1) W0 W → W.cell? ⟨bb0, off0 + 8, none⟩ = some c1_1 := fun W hW => hcc1 W (Hw.out W hW) 1 _ rfl
  have a1_2 : ∀ W : World, Below (w.heap.size + 1) W0 W → W.cell? ⟨bb0, off0 + 9, none⟩ = some c1_2 := fun W hW => hcc1 W (Hw.out W hW) 2 _ rfl
  have a1_3 : ∀ W : World, Below (w.heap.size + 1) W0 W → W.cell? ⟨bb0, off0 + 10, none⟩ = some c1_3 := fun W hW => hcc1 W (Hw.out W hW) 3 _ rfl
  have a1_4 : ∀ W : World, Below (w.heap.size + 1) W0 W → W.cell? ⟨bb0, off0 + 11, none⟩ = some c1_4 := fun W hW => hcc1 W (Hw.out W hW) 4 _ rfl
  have a1_5 : ∀ W : World, Below (w.heap.size + 1) W0 W → W.cell? ⟨bb0, off0 + 12, none⟩ = some c1_5 := fun W hW => hcc1 W (Hw.out W hW) 5 _ rfl
  have a1_6 : ∀ W : World, Below (w.heap.size + 1) W0 W → W.cell? ⟨bb0, off0 + 13, none⟩ = some c1_6 := fun W hW => hcc1 W (Hw.out W hW) 6 _ rfl
  clear hcc0
  clear hcc1
  clear C hz0
  have hg0 : (((W0.alloc (Obj.cells #[.int .i64 0, .int .i64 0, .int .i64 0, .int .i64 0, .string ⟨#[]⟩, .string ⟨#[]⟩, .slice none 0 0] 59)).alloc (Obj.cells #[.int .i64 0, .int .i64 0, .int .i64 0, .int .i64 0, .string ⟨#[]⟩, .string ⟨#[]⟩, .slice none 0 0] 59)).drew).heap[W0.heap.size]? = some (.cells #[.int .i64 0, .int .i64 0, .int .i64 0, .int .i64 0, .string ⟨#[]⟩, .string ⟨#[]⟩, .slice none 0 0] 59 (0, 0)) := two_new0 W0 #[.int .i64 0, .int .i64 0, .int .i64 0, .int .i64 0, .string ⟨#[]⟩, .string ⟨#[]⟩, .slice none 0 0] 59
  have hg1 : (((W0.alloc (Obj.cells #[.int .i64 0, .int .i64 0, .int .i64 0, .int .i64 0, .string ⟨#[]⟩, .string ⟨#[]⟩, .slice none 0 0] 59)).alloc (Obj.cells #[.int .i64 0, .int .i64 0, .int .i64 0, .int .i64 0, .string ⟨#[]⟩, .string ⟨#[]⟩, .slice none 0 0] 59)).drew).heap[W0.heap.size + 1]? = some (.cells #[.int .i64 0, .int .i64 0, .int .i64 0, .int .i64 0, .string ⟨#[]⟩, .string ⟨#[]⟩, .slice none 0 0] 59 (0, 0)) := two_new1 W0 #[.int .i64 0, .int .i64 0, .int .i64 0, .int .i64 0, .string ⟨#[]⟩, .string ⟨#[]⟩, .slice none 0 0] 59
  have hU : Below (w.heap.size + 1) W0 (((W0.alloc (Obj.cells #[.int .i64 0, .int .i64 0, .int .i64 0, .int .i64 0, .string ⟨#[]⟩, .string ⟨#[]⟩, .slice none 0 0] 59)).alloc (Obj.cells #[.int .i64 0, .int .i64 0, .int .i64 0, .int .i64 0, .string ⟨#[]⟩, .string ⟨#[]⟩, .slice none 0 0] 59)).drew) := (below_alloc hn0 _ (below_alloc hn0 _ hB0)).drew
  have HU := hide hU
  clear hU
  have hUz : (((W0.alloc (Obj.cells #[.int .i64 0, .int .i64 0, .int .i64 0, .int .i64 0, .string ⟨#[]⟩, .string ⟨#[]⟩, .slice none 0 0] 59)).alloc (Obj.cells #[.int .i64 0, .int .i64 0, .int .i64 0, .int .i64 0, .string ⟨#[]⟩, .string ⟨#[]⟩, .slice none 0 0] 59)).drew).heap.size = W0.heap.size + 2 := by show ((W0.alloc _).alloc _).heap.size = _; rw [World.size_alloc, World.size_alloc]
  have HUz := hide hUz
  clear hUz
  obtain ⟨wA1, wA2, wA3, wA4, wA5, wA6, wA7, wA8, wA9, wA10, wA11, wA12, wA13, wA14, sA0, sA1, sA2, sA3, sA4, sA5, sA6, sA7, sA8, sA9, sA10, sA11, sA12, sA13, PA⟩ := store77 Tryz.prog c0_0 c0_1 c0_2 c0_3 c0_4 c0_5 c0_6 c1_0 c1_1 c1_2 c1_3 c1_4 c1_5 c1_6 hg0 hg1 (by simp) (by simp) (by omega) Ho0.out Ho1.out
  have HPA := hide PA
  clear PA
  have H7A : Hid (Below (w.heap.size + 1) W0 wA7) := hide (HU.out.trans (HPA.out.1 _ (by omega) (by omega)))
  have HEA : Hid (Below (w.heap.size + 1) W0 wA14) := hide (HU.out.trans (HPA.out.2.2.2.2 _ (by omega) (by omega)))
  obtain ⟨wC1, wC2, wC3, wC4, wC5, wC6, wC7, wC8, wC9, wC10, wC11, wC12, wC13, wC14, sC0, sC1, sC2, sC3, sC4, sC5, sC6, sC7, sC8, sC9, sC10, sC11, sC12, sC13, PC⟩ := store77 Tryz.prog c0_0 c0_1 c0_2 c0_3 c0_4 c0_5 c0_6 c1_0 c1_1 c1_2 c1_3 c1_4 c1_5 c1_6 hg1 hg0 (by simp) (by simp) (by omega) Ho0.out Ho1.out
  have HPC := hide PC
  clear PC
  have H7C : Hid (Below (w.heap.size + 1) W0 wC7) := hide (HU.out.trans (HPC.out.1 _ (by omega) (by omega)))
  have HEC : Hid (Below (w.heap.size + 1) W0 wC14) := hide (HU.out.trans (HPC.out.2.2.2.2 _ (by omega) (by omega)))
  clear hg0 hg1
  go_region_held3 (fun W => Below (w.heap.size + 1) W0 W) (first | assumption | exact Below.drew (by assumption) | exact below_alloc hn0 _ (by assumption) | exact Below.drew (below_alloc hn0 _ (by assumption)) | exact below_alloc hn0 _ (below_alloc hn0 _ (by assumption)) | exact H7A.out | exact HEA.out | exact H7C.out | exact HEC.out)
    (fail)
  all_goals
    first
      | (clear HEA HEC H7A H7C; have hcur : Below (w.heap.size + 1) W0 wA14 := (by assumption); have cf := HPA.out.2.1; have cs := HPA.out.2.2.1; have hvz : W0.heap.size + 2 ≤ wA14.heap.size := Nat.le_of_eq (HUz.out.symm.trans HPA.out.2.2.2.1.symm); have b0_0 := cell_rule cf (n := W0.heap.size + 2) (by omega) 0 (v := c0_0) rfl; have b0_1 := cell_rule cf (n := W0.heap.size + 2) (by omega) 1 (v := c0_1) rfl; have b0_2 := cell_rule cf (n := W0.heap.size + 2) (by omega) 2 (v := c0_2) rfl; have b0_3 := cell_rule cf (n := W0.heap.size + 2) (by omega) 3 (v := c0_3) rfl; have b0_4 := cell_rule cf (n := W0.heap.size + 2) (by omega) 4 (v := c0_4) rfl; have b0_5 := cell_rule cf (n := W0.heap.size + 2) (by omega) 5 (v := c0_5) rfl; have b0_6 := cell_rule cf (n := W0.heap.size + 2) (by omega) 6 (v := c0_6) rfl; have b1_0 := cell_rule cs (n := W0.heap.size + 2) (by omega) 0 (v := c1_0) rfl; have b1_1 := cell_rule cs (n := W0.heap.size + 2) (by omega) 1 (v := c1_1) rfl; have b1_2 := cell_rule cs (n := W0.heap.size + 2) (by omega) 2 (v := c1_2) rfl; have b1_3 := cell_rule cs (n := W0.heap.size + 2) (by omega) 3 (v := c1_3) rfl; have b1_4 := cell_rule cs (n := W0.heap.size + 2) (by omega) 4 (v := c1_4) rfl; have b1_5 := cell_rule cs (n := W0.heap.size + 2) (by omega) 5 (v := c1_5) rfl; have b1_6 := cell_rule cs (n := W0.heap.size + 2) (by omega) 6 (v := c1_6) rfl; clear cf cs; generalize wA14 = V1 at *)
      | (clear HEA HEC H7A H7C; have hcur : Below (w.heap.size + 1) W0 wC14 := (by assumption); have cf := HPC.out.2.1; have cs := HPC.out.2.2.1; have hvz : W0.heap.size + 2 ≤ wC14.heap.size := Nat.le_of_eq (HUz.out.symm.trans HPC.out.2.2.2.1.symm); have b0_0 := cell_rule cf (n := W0.heap.size + 2) (by omega) 0 (v := c0_0) rfl; have b0_1 := cell_rule cf (n := W0.heap.size + 2) (by omega) 1 (v := c0_1) rfl; have b0_2 := cell_rule cf (n := W0.heap.size + 2) (by omega) 2 (v := c0_2) rfl; have b0_3 := cell_rule cf (n := W0.heap.size + 2) (by omega) 3 (v := c0_3) rfl; have b0_4 := cell_rule cf (n := W0.heap.size + 2) (by omega) 4 (v := c0_4) rfl; have b0_5 := cell_rule cf (n := W0.heap.size + 2) (by omega) 5 (v := c0_5) rfl; have b0_6 := cell_rule cf (n := W0.heap.size + 2) (by omega) 6 (v := c0_6) rfl; have b1_0 := cell_rule cs (n := W0.heap.size + 2) (by omega) 0 (v := c1_0) rfl; have b1_1 := cell_rule cs (n := W0.heap.size + 2) (by omega) 1 (v := c1_1) rfl; have b1_2 := cell_rule cs (n := W0.heap.size + 2) (by omega) 2 (v := c1_2) rfl; have b1_3 := cell_rule cs (n := W0.heap.size + 2) (by omega) 3 (v := c1_3) rfl; have b1_4 := cell_rule cs (n := W0.heap.size + 2) (by omega) 4 (v := c1_4) rfl; have b1_5 := cell_rule cs (n := W0.heap.size + 2) (by omega) 5 (v := c1_5) rfl; have b1_6 := cell_rule cs (n := W0.heap.size + 2) (by omega) 6 (v := c1_6) rfl; clear cf cs; generalize wC14 = V1 at *)
  all_goals as_aux_lemma =>
    have hlv := X_hlv.out
    clear X_hlv
    have hws := X_hws.out
    clear X_hws
    have Hr1 := X_Hr1.out
    clear X_Hr1
    have Hr2 := X_Hr2.out
    clear X_Hr2
    have Hr3 := X_Hr3.out
    clear X_Hr3
    have Hr4 := X_Hr4.out
    clear X_Hr4
    have hz0 := X_hz0.out
    clear X_hz0
    have hz1 := X_hz1.out
    clear X_hz1
    have ha10 := X_ha10.out
    clear X_ha10
    have ha11 := X_ha11.out
    clear X_ha11
    have ha20 := X_ha20.out
    clear X_ha20
    have ha21 := X_ha21.out
    clear X_ha21
    have ha30 := X_ha30.out
    clear X_ha30
    have ha31 := X_ha31.out
    clear X_ha31
    have Hw2 : Hid (∀ W : World, Below (W0.heap.size + 2) V1 W → Below w.heap.size w W) := hide fun W h => Hw.out W (hcur.trans (h.mono (by omega)))
    have f1 : ∀ W : World, Below (W0.heap.size + 2) V1 W → W.cell? ⟨w.heap.size, 1, none⟩ = some (.int .i64 nn) := fun W h => e1 W (hcur.trans (h.mono (by omega)))
    have hC0 : Below (W0.heap.size + 2) V1 V1 := Below.refl _ _
    clear hcur hB0 e0 e1 e2 e3 e4 e5 e6 a0_0 a0_1 a0_2 a0_3 a0_4 a0_5 a0_6 a1_0 a1_1 a1_2 a1_3 a1_4 a1_5 a1_6
    have hm12 : (nn : Int) < 13 := by omega
    have hm00 : (0 : Int) ≤ (nn : Int) := by omega
    have Hws := hide hws
    have h1n : 1 ≤ nn := by omega
    have h2n : nn ≤ 12 := by omega
    go_wp2_with fail
    refine Calls.mono (i_opLevel nn _) ?_
    rintro en w8 ⟨rfl, rfl⟩
    rcases hlv with hlv | hlv | hlv | hlv
    · have Hr := hide (Hr1 hlv)
      clear Hr1 Hr2 Hr3 Hr4
      rw [hlv]
      clear hlv
      clear ha20 ha21
      clear ha30 ha31
      obtain ⟨T0, hT0⟩ : ∃ T, T = atL (levH x0.h) 2 (txE d x0) := ⟨_, rfl⟩
      rw [← hT0] at Hr ha10
      have HT_0 := hide hT0
      clear hT0
      obtain ⟨T1, hT1⟩ : ∃ T, T = atL (levH x1.h) 2 (txE d x1) := ⟨_, rfl⟩
      rw [← hT1] at Hr ha11
      have HT_1 := hide hT1
      clear hT1
      have q0 : ¬ 9223372036854775807 < T0.size + 1 := by have := Hws.out; omega
      have q1 : ¬ 9223372036854775807 < T0.size + 1 + (opW nn).size := by have := Hws.out; omega
      have q2 : ¬ 9223372036854775807 < T0.size + 1 + (opW nn).size + 1 := by have := Hws.out; omega
      have q3 : ¬ 9223372036854775807 < T0.size + 1 + (opW nn).size + 1 + T1.size := by have := Hws.out; omega
      go_wp2_with fail
      go_region_held3 (fun W => Below (W0.heap.size + 2) V1 W) (first | assumption | exact Below.drew (by assumption))
        (first
          | (go_at_call 96; refine Calls.mono (i_opText nn h1n h2n _) ?_; rintro en w9 ⟨rfl, rfl⟩)
          | (go_at_call_has 60 c0_0; refine Calls.mono (i_atE hE x0 _ Fk0 _ (HR0.out _ (Hw2.out _ (by first | assumption | exact Below.drew (by assumption)))) Hva0.out hc0 2 (HT.out _ (Hw2.out _ (by first | assumption | exact Below.drew (by assumption))))) ?_; rintro en W2 ⟨rfl, hb⟩; have hB2 : Below (W0.heap.size + 2) V1 W2 := below_step (by first | assumption | exact Below.drew (by assumption)) hvz hb; clear hb; rw [← HT_0.out])
          | (go_at_call_has 60 c1_0; refine Calls.mono (i_atE hE x1 _ Fk1 _ (HR1.out _ (Hw2.out _ (by first | assumption | exact Below.drew (by assumption)))) Hva1.out hc1 2 (HT.out _ (Hw2.out _ (by first | assumption | exact Below.drew (by assumption))))) ?_; rintro en W3 ⟨rfl, hb⟩; have hB3 : Below (W0.heap.size + 2) V1 W3 := below_step (by first | assumption | exact Below.drew (by assumption)) hvz hb; clear hb; rw [← HT_1.out]))
      all_goals
        go_wp2_with fail
        go_ret
        exact ⟨ret_string Hr.out.symm, Hw2.out _ hB3⟩
    · have Hr := hide (Hr2 hlv)
      clear Hr1 Hr2 Hr3 Hr4
      rw [hlv]
      clear hlv
      clear ha10 ha11
      clear ha30 ha31
      obtain ⟨T0, hT0⟩ : ∃ T, T = atL (levH x0.h) 2 (txE d x0) := ⟨_, rfl⟩
      rw [← hT0] at Hr ha20
      have HT_0 := hide hT0
      clear hT0
      obtain ⟨T1, hT1⟩ : ∃ T, T = atL (levH x1.h) 3 (txE d x1) := ⟨_, rfl⟩
      rw [← hT1] at Hr ha21
      have HT_1 := hide hT1
      clear hT1
      have q0 : ¬ 9223372036854775807 < T0.size + 1 := by have := Hws.out; omega
      have q1 : ¬ 9223372036854775807 < T0.size + 1 + (opW nn).size := by have := Hws.out; omega
      have q2 : ¬ 9223372036854775807 < T0.size + 1 + (opW nn).size + 1 := by have := Hws.out; omega
      have q3 : ¬ 9223372036854775807 < T0.size + 1 + (opW nn).size + 1 + T1.size := by have := Hws.out; omega
      go_wp2_with fail
      go_region_held3 (fun W => Below (W0.heap.size + 2) V1 W) (first | assumption | exact Below.drew (by assumption))
        (first
          | (go_at_call 96; refine Calls.mono (i_opText nn h1n h2n _) ?_; rintro en w9 ⟨rfl, rfl⟩)
          | (go_at_call_has 60 c0_0; refine Calls.mono (i_atE hE x0 _ Fk0 _ (HR0.out _ (Hw2.out _ (by first | assumption | exact Below.drew (by assumption)))) Hva0.out hc0 2 (HT.out _ (Hw2.out _ (by first | assumption | exact Below.drew (by assumption))))) ?_; rintro en W2 ⟨rfl, hb⟩; have hB2 : Below (W0.heap.size + 2) V1 W2 := below_step (by first | assumption | exact Below.drew (by assumption)) hvz hb; clear hb; rw [← HT_0.out])
          | (go_at_call_has 60 c1_0; refine Calls.mono (i_atE hE x1 _ Fk1 _ (HR1.out _ (Hw2.out _ (by first | assumption | exact Below.drew (by assumption)))) Hva1.out hc1 3 (HT.out _ (Hw2.out _ (by first | assumption | exact Below.drew (by assumption))))) ?_; rintro en W3 ⟨rfl, hb⟩; have hB3 : Below (W0.heap.size + 2) V1 W3 := below_step (by first | assumption | exact Below.drew (by assumption)) hvz hb; clear hb; rw [← HT_1.out]))
      all_goals
        go_wp2_with fail
        go_ret
        exact ⟨ret_string Hr.out.symm, Hw2.out _ hB3⟩
    · have Hr := hide (Hr3 hlv)
      clear Hr1 Hr2 Hr3 Hr4
      rw [hlv]
      clear hlv
      clear ha10 ha11
      clear ha20 ha21
      obtain ⟨T0, hT0⟩ : ∃ T, T = atL (levH x0.h) 3 (txE d x0) := ⟨_, rfl⟩
      rw [← hT0] at Hr ha30
      have HT_0 := hide hT0
      clear hT0
      obtain ⟨T1, hT1⟩ : ∃ T, T = atL (levH x1.h) 4 (txE d x1) := ⟨_, rfl⟩
      rw [← hT1] at Hr ha31
      have HT_1 := hide hT1
      clear hT1
      have q0 : ¬ 9223372036854775807 < T0.size + 1 := by have := Hws.out; omega
      have q1 : ¬ 9223372036854775807 < T0.size + 1 + (opW nn).size := by have := Hws.out; omega
      have q2 : ¬ 9223372036854775807 < T0.size + 1 + (opW nn).size + 1 := by have := Hws.out; omega
      have q3 : ¬ 9223372036854775807 < T0.size + 1 + (opW nn).size + 1 + T1.size := by have := Hws.out; omega
      go_wp2_with fail
      go_region_held3 (fun W => Below (W0.heap.size + 2) V1 W) (first | assumption | exact Below.drew (by assumption))
        (first
          | (go_at_call 96; refine Calls.mono (i_opText nn h1n h2n _) ?_; rintro en w9 ⟨rfl, rfl⟩)
          | (go_at_call_has 60 c0_0; refine Calls.mono (i_atE hE x0 _ Fk0 _ (HR0.out _ (Hw2.out _ (by first | assumption | exact Below.drew (by assumption)))) Hva0.out hc0 3 (HT.out _ (Hw2.out _ (by first | assumption | exact Below.drew (by assumption))))) ?_; rintro en W2 ⟨rfl, hb⟩; have hB2 : Below (W0.heap.size + 2) V1 W2 := below_step (by first | assumption | exact Below.drew (by assumption)) hvz hb; clear hb; rw [← HT_0.out])
          | (go_at_call_has 60 c1_0; refine Calls.mono (i_atE hE x1 _ Fk1 _ (HR1.out _ (Hw2.out _ (by first | assumption | exact Below.drew (by assumption)))) Hva1.out hc1 4 (HT.out _ (Hw2.out _ (by first | assumption | exact Below.drew (by assumption))))) ?_; rintro en W3 ⟨rfl, hb⟩; have hB3 : Below (W0.heap.size + 2) V1 W3 := below_step (by first | assumption | exact Below.drew (by assumption)) hvz hb; clear hb; rw [← HT_1.out]))
      all_goals
        go_wp2_with fail
        go_ret
        exact ⟨ret_string Hr.out.symm, Hw2.out _ hB3⟩
    · have Hr := hide (Hr4 hlv)
      clear Hr1 Hr2 Hr3 Hr4
      rw [hlv]
      clear hlv
      clear ha10 ha11 ha20 ha21 ha30 ha31
      obtain ⟨T0, hT0⟩ : ∃ T, T = txE d x0 := ⟨_, rfl⟩
      rw [← hT0] at Hr hz0
      have HT_0 := hide hT0
      clear hT0
      obtain ⟨T1, hT1⟩ : ∃ T, T = txE d x1 := ⟨_, rfl⟩
      rw [← hT1] at Hr hz1
      have HT_1 := hide hT1
      clear hT1
      have q0 : ¬ 9223372036854775807 < (opW nn).size + 1 := by have := Hws.out; omega
      have q1 : ¬ 9223372036854775807 < (opW nn).size + 1 + T0.size := by have := Hws.out; omega
      have q2 : ¬ 9223372036854775807 < (opW nn).size + 1 + T0.size + 2 := by have := Hws.out; omega
      have q3 : ¬ 9223372036854775807 < (opW nn).size + 1 + T0.size + 2 + T1.size := by have := Hws.out; omega
      have q4 : ¬ 9223372036854775807 < (opW nn).size + 1 + T0.size + 2 + T1.size + 1 := by have := Hws.out; omega
      go_wp2_with fail
      go_region_held3 (fun W => Below (W0.heap.size + 2) V1 W) (first | assumption | exact Below.drew (by assumption))
        (first
          | (go_at_call 96; refine Calls.mono (i_opText nn h1n h2n _) ?_; rintro en w9 ⟨rfl, rfl⟩)
          | (go_at_call_has 30 c0_0; refine Calls.mono (hE x0 _ Fk0 _ (HR0.out _ (Hw2.out _ (by first | assumption | exact Below.drew (by assumption)))) Hva0.out hc0 (HT.out _ (Hw2.out _ (by first | assumption | exact Below.drew (by assumption))))) ?_; rintro en W2 ⟨rfl, hb⟩; have hB2 : Below (W0.heap.size + 2) V1 W2 := below_step (by first | assumption | exact Below.drew (by assumption)) hvz hb; clear hb; rw [← HT_0.out])
          | (go_at_call_has 30 c1_0; refine Calls.mono (hE x1 _ Fk1 _ (HR1.out _ (Hw2.out _ (by first | assumption | exact Below.drew (by assumption)))) Hva1.out hc1 (HT.out _ (Hw2.out _ (by first | assumption | exact Below.drew (by assumption))))) ?_; rintro en W3 ⟨rfl, hb⟩; have hB3 : Below (W0.heap.size + 2) V1 W3 := below_step (by first | assumption | exact Below.drew (by assumption)) hvz hb; clear hb; rw [← HT_1.out]))
      all_goals
        go_wp2_with fail
        go_ret
        exact ⟨ret_string Hr.out.symm, Hw2.out _ hB3⟩
end Go.Proofs.YtjddmboaaebbiaaGreatDoor
