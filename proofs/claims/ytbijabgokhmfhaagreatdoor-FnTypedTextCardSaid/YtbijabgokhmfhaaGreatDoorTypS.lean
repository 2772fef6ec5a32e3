/- Values read from their text: the reference's walk. Conditions: at most 2^20 bytes. -/
import Derived.Test.YtbijabgokhmfhaaGreatDoorTypQ
import Derived.Test.YtbijabgokhmfhaaGreatDoorSplitB
import Derived.Deep.RegionHeld3
import Derived.Deep.QuietTactic
import Derived.Sort.AtCall
namespace Go.Proofs.YtbijabgokhmfhaaGreatDoor
set_option maxRecDepth 100000
open Go.RowKit Go.WideShapes Go.Lib
set_option linter.unusedVariables false

set_option maxRecDepth 100000 in
set_option maxHeartbeats 4000000 in
theorem s_ParseTyped (s : ByteArray) (k : Int) (hs : s.size ≤ 1048576) (w : World) :
    Calls Tryz.prog 5 #[.string s, .int .i64 k] w fun e w' => e = .returned (tupT (parseT s k)) ∧ Below w.heap.size w w' := by
  have hw0 : Below w.heap.size w w := Below.refl _ _
  have Hb0 := hide hw0
  by_cases k1 : k = 1
  · subst k1
    have Hc := hide (s_ParseInt s hs w)
    have Hv : Hid (valS s 1 = (numIn s.data.toList (-999999999999) 999999999999).getD 0) := hide rfl
    have Hbd := hide (numIn_bd s.data.toList (-999999999999) 999999999999 (by decide) (by decide))
    generalize numIn s.data.toList (-999999999999) 999999999999 = o at Hc Hv Hbd
    unfold readV at Hc
    generalize o.getD 0 = v at Hc Hv Hbd
    generalize o.isSome = b at Hc
    have Hv1 : Hid (-9223372036854775808 ≤ v) := hide Hbd.out.1
    have Hv2 : Hid (v ≤ 9223372036854775807) := hide Hbd.out.2
    clear Hbd
    go_enter Tryz.func5, Tryz.ntmps5
    go_wp2_with fail
    refine Calls.mono Hc.out ?_
    rintro en w1 ⟨rfl, hb⟩
    have Hb1 := hide hb
    clear hb
    cases he : (s.toList == [])
    case true =>
      have he2 : s.toList = [] := by simpa using he
      have Hr : Hid (parseT s 1 = (0, false)) := hide (parse_empty he)
      go_wp2_with fail
      exact bodyPost_ret (v := .tuple #[.int .i64 0, .bool false]) (by simp [results, Tryz.results5, go_sem]) rfl ⟨by rw [Hr.out]; rfl, Hb1.out⟩
    case false =>
      have He := hide (ne_empty he)
      have he2 : ¬ s.toList = [] := by simpa using he
      go_wp2_with fail
      refine Calls.mono (s_FormatTyped v 1 Hv1.out Hv2.out _) ?_
      rintro en wf ⟨rfl, hbf⟩
      have Hbf := hide (Hb1.out.trans (hbf.mono Hb1.out.size))
      clear hbf he he2
      cases hc : ((fmtTyped v 1).toList == s.toList)
      case true =>
        have Hr := hide (parse_yes (k := 1) Hv.out He.out hc)
        generalize fmtTyped v 1 = N at hc ⊢
        have hc2 : (N.toList != s.toList) = false := by rw [bne, hc]; rfl
        go_wp2_with fail
        exact bodyPost_ret (v := .tuple #[.int .i64 v, .bool true]) (by simp [results, Tryz.results5, go_sem]) rfl ⟨by rw [Hr.out]; rfl, Hbf.out⟩
      case false =>
        have Hr := hide (parse_no (k := 1) Hv.out hc)
        generalize fmtTyped v 1 = N at hc ⊢
        have hc2 : (N.toList != s.toList) = true := by rw [bne, hc]; rfl
        go_wp2_with fail
        exact bodyPost_ret (v := .tuple #[.int .i64 0, .bool false]) (by simp [results, Tryz.results5, go_sem]) rfl ⟨by rw [Hr.out]; rfl, Hbf.out⟩
  by_cases k3 : k = 3
  · subst k3
    cases ht : isTrue s
    all_goals
      have Hv : Hid (valS s 3 = if isTrue s then 1 else 0) := hide rfl
      rw [ht] at Hv
      simp only [Bool.false_eq_true, if_true, if_false] at Hv
    case true =>
      have ht2 : s.toList = [116, 114, 117, 101] := by rw [Lib.toList_data]; exact (isTrue_iff s).1 ht
      clear ht
      have Hv1 : Hid (-9223372036854775808 ≤ (1 : Int)) := hide (by decide)
      have Hv2 : Hid ((1 : Int) ≤ 9223372036854775807) := hide (by decide)
      have he : (s.toList == []) = false := by rw [ht2]; rfl
      have He := hide (ne_empty he)
      have he2 : ¬ s.toList = [] := by simpa using he
      go_enter Tryz.func5, Tryz.ntmps5
      go_wp2_with (go_at_call 14; refine (s_l3Truth _ _).mono ?_; rintro e w' ⟨rfl, rfl⟩)
      refine Calls.mono (s_FormatTyped 1 3 Hv1.out Hv2.out _) ?_
      rintro en wf ⟨rfl, hbf⟩
      have Hbf := hide (Hb0.out.trans (hbf.mono Hb0.out.size))
      clear hbf he he2 ht2
      cases hc : ((fmtTyped 1 3).toList == s.toList)
      case true =>
        have Hr := hide (parse_yes (k := 3) Hv.out He.out hc)
        generalize fmtTyped 1 3 = N at hc ⊢
        have hc2 : (N.toList != s.toList) = false := by rw [bne, hc]; rfl
        go_wp2_with fail
        exact bodyPost_ret (v := .tuple #[.int .i64 1, .bool true]) (by simp [results, Tryz.results5, go_sem]) rfl ⟨by rw [Hr.out]; rfl, Hbf.out⟩
      case false =>
        have Hr := hide (parse_no (k := 3) Hv.out hc)
        generalize fmtTyped 1 3 = N at hc ⊢
        have hc2 : (N.toList != s.toList) = true := by rw [bne, hc]; rfl
        go_wp2_with fail
        exact bodyPost_ret (v := .tuple #[.int .i64 0, .bool false]) (by simp [results, Tryz.results5, go_sem]) rfl ⟨by rw [Hr.out]; rfl, Hbf.out⟩
    case false =>
      have ht2 : ¬ s.toList = [116, 114, 117, 101] := by rw [Lib.toList_data]; exact fun h => by rw [(isTrue_iff s).2 h] at ht; cases ht
      have ht3 : (s.toList == [116, 114, 117, 101]) = false := by simpa using ht2
      clear ht
      have Hv1 : Hid (-9223372036854775808 ≤ (0 : Int)) := hide (by decide)
      have Hv2 : Hid ((0 : Int) ≤ 9223372036854775807) := hide (by decide)
      cases he : (s.toList == [])
      case true =>
        have he2 : s.toList = [] := by simpa using he
        have Hr : Hid (parseT s 3 = (0, false)) := hide (parse_empty he)
        go_enter Tryz.func5, Tryz.ntmps5
        go_wp2_with (go_at_call 14; refine (s_l3Truth _ _).mono ?_; rintro e w' ⟨rfl, rfl⟩)
        exact bodyPost_ret (v := .tuple #[.int .i64 0, .bool false]) (by simp [results, Tryz.results5, go_sem]) rfl ⟨by rw [Hr.out]; rfl, Hb0.out⟩
      case false =>
        have He := hide (ne_empty he)
        have he2 : ¬ s.toList = [] := by simpa using he
        go_enter Tryz.func5, Tryz.ntmps5
        go_wp2_with (go_at_call 14; refine (s_l3Truth _ _).mono ?_; rintro e w' ⟨rfl, rfl⟩)
        refine Calls.mono (s_FormatTyped 0 3 Hv1.out Hv2.out _) ?_
        rintro en wf ⟨rfl, hbf⟩
        have Hbf := hide (Hb0.out.trans (hbf.mono Hb0.out.size))
        clear hbf he he2
        cases hc : ((fmtTyped 0 3).toList == s.toList)
        case true =>
          have Hr := hide (parse_yes (k := 3) Hv.out He.out hc)
          generalize fmtTyped 0 3 = N at hc ⊢
          have hc2 : (N.toList != s.toList) = false := by rw [bne, hc]; rfl
          go_wp2_with fail
          exact bodyPost_ret (v := .tuple #[.int .i64 0, .bool true]) (by simp [results, Tryz.results5, go_sem]) rfl ⟨by rw [Hr.out]; rfl, Hbf.out⟩
        case false =>
          have Hr := hide (parse_no (k := 3) Hv.out hc)
          generalize fmtTyped 0 3 = N at hc ⊢
          have hc2 : (N.toList != s.toList) = true := by rw [bne, hc]; rfl
          go_wp2_with fail
          exact bodyPost_ret (v := .tuple #[.int .i64 0, .bool false]) (by simp [results, Tryz.results5, go_sem]) rfl ⟨by rw [Hr.out]; rfl, Hbf.out⟩
  by_cases k4 : k = 4
  · subst k4
    by_cases h1 : 1 < s.size
    case pos =>
      have Hc := hide (s_ParseNumber (s.extract 1 s.size) (Nat.le_trans (ext_size _ _ _) hs) w)
      have Hv : Hid (valS s 4 = (numIn (s.extract 1 s.size).data.toList 0 999999).getD 0) := hide (show (if 1 < s.size then _ else (0 : Int)) = _ from if_pos h1)
      have Hbd := hide (numIn_bd (s.extract 1 s.size).data.toList 0 999999 (by decide) (by decide))
      generalize numIn (s.extract 1 s.size).data.toList 0 999999 = o at Hc Hv Hbd
      unfold readV at Hc
      generalize o.getD 0 = v at Hc Hv Hbd
      generalize o.isSome = b at Hc
      have Hv1 : Hid (-9223372036854775808 ≤ v) := hide Hbd.out.1
      have Hv2 : Hid (v ≤ 9223372036854775807) := hide Hbd.out.2
      clear Hbd
      go_enter Tryz.func5, Tryz.ntmps5
      go_wp2_with fail
      refine Calls.mono Hc.out ?_
      rintro en w1 ⟨rfl, hb⟩
      have Hb1 := hide hb
      clear hb
      cases he : (s.toList == [])
      case true =>
        have he2 : s.toList = [] := by simpa using he
        have Hr : Hid (parseT s 4 = (0, false)) := hide (parse_empty he)
        go_wp2_with fail
        exact bodyPost_ret (v := .tuple #[.int .i64 0, .bool false]) (by simp [results, Tryz.results5, go_sem]) rfl ⟨by rw [Hr.out]; rfl, Hb1.out⟩
      case false =>
        have He := hide (ne_empty he)
        have he2 : ¬ s.toList = [] := by simpa using he
        go_wp2_with fail
        refine Calls.mono (s_FormatTyped v 4 Hv1.out Hv2.out _) ?_
        rintro en wf ⟨rfl, hbf⟩
        have Hbf := hide (Hb1.out.trans (hbf.mono Hb1.out.size))
        clear hbf he he2
        cases hc : ((fmtTyped v 4).toList == s.toList)
        case true =>
          have Hr := hide (parse_yes (k := 4) Hv.out He.out hc)
          generalize fmtTyped v 4 = N at hc ⊢
          have hc2 : (N.toList != s.toList) = false := by rw [bne, hc]; rfl
          go_wp2_with fail
          exact bodyPost_ret (v := .tuple #[.int .i64 v, .bool true]) (by simp [results, Tryz.results5, go_sem]) rfl ⟨by rw [Hr.out]; rfl, Hbf.out⟩
        case false =>
          have Hr := hide (parse_no (k := 4) Hv.out hc)
          generalize fmtTyped v 4 = N at hc ⊢
          have hc2 : (N.toList != s.toList) = true := by rw [bne, hc]; rfl
          go_wp2_with fail
          exact bodyPost_ret (v := .tuple #[.int .i64 0, .bool false]) (by simp [results, Tryz.results5, go_sem]) rfl ⟨by rw [Hr.out]; rfl, Hbf.out⟩
    case neg =>
      have Hv : Hid (valS s 4 = 0) := hide (show (if 1 < s.size then _ else (0 : Int)) = _ from if_neg h1)
      have Hv1 : Hid (-9223372036854775808 ≤ (0 : Int)) := hide (by decide)
      have Hv2 : Hid ((0 : Int) ≤ 9223372036854775807) := hide (by decide)
      cases he : (s.toList == [])
      case true =>
        have he2 : s.toList = [] := by simpa using he
        have Hr : Hid (parseT s 4 = (0, false)) := hide (parse_empty he)
        go_enter Tryz.func5, Tryz.ntmps5
        go_wp2_with fail
        exact bodyPost_ret (v := .tuple #[.int .i64 0, .bool false]) (by simp [results, Tryz.results5, go_sem]) rfl ⟨by rw [Hr.out]; rfl, Hb0.out⟩
      case false =>
        have He := hide (ne_empty he)
        have he2 : ¬ s.toList = [] := by simpa using he
        go_enter Tryz.func5, Tryz.ntmps5
        go_wp2_with fail
        refine Calls.mono (s_FormatTyped 0 4 Hv1.out Hv2.out _) ?_
        rintro en wf ⟨rfl, hbf⟩
        have Hbf := hide (Hb0.out.trans (hbf.mono Hb0.out.size))
        clear hbf he he2
        cases hc : ((fmtTyped 0 4).toList == s.toList)
        case true =>
          have Hr := hide (parse_yes (k := 4) Hv.out He.out hc)
          generalize fmtTyped 0 4 = N at hc ⊢
          have hc2 : (N.toList != s.toList) = false := by rw [bne, hc]; rfl
          go_wp2_with fail
          exact bodyPost_ret (v := .tuple #[.int .i64 0, .bool true]) (by simp [results, Tryz.results5, go_sem]) rfl ⟨by rw [Hr.out]; rfl, Hbf.out⟩
        case false =>
          have Hr := hide (parse_no (k := 4) Hv.out hc)
          generalize fmtTyped 0 4 = N at hc ⊢
          have hc2 : (N.toList != s.toList) = true := by rw [bne, hc]; rfl
          go_wp2_with fail
          exact bodyPost_ret (v := .tuple #[.int .i64 0, .bool false]) (by simp [results, Tryz.results5, go_sem]) rfl ⟨by rw [Hr.out]; rfl, Hbf.out⟩
  by_cases k2 : k = 2
  case neg =>
    have Hv : Hid (valS s k = 0) := hide (by unfold valS; rw [if_neg k1, if_neg k3, if_neg k4, if_neg k2])
    have Hv1 : Hid (-9223372036854775808 ≤ (0 : Int)) := hide (by decide)
    have Hv2 : Hid ((0 : Int) ≤ 9223372036854775807) := hide (by decide)
    have q1 : (k == 1) = false := by simpa using k1
    have q2 : (k == 2) = false := by simpa using k2
    have q3 : (k == 3) = false := by simpa using k3
    have q4 : (k == 4) = false := by simpa using k4
    clear k1 k2 k3 k4
    cases he : (s.toList == [])
    case true =>
      have he2 : s.toList = [] := by simpa using he
      have Hr : Hid (parseT s k = (0, false)) := hide (parse_empty he)
      go_enter Tryz.func5, Tryz.ntmps5
      go_wp2_with fail
      exact bodyPost_ret (v := .tuple #[.int .i64 0, .bool false]) (by simp [results, Tryz.results5, go_sem]) rfl ⟨by rw [Hr.out]; rfl, Hb0.out⟩
    case false =>
      have He := hide (ne_empty he)
      have he2 : ¬ s.toList = [] := by simpa using he
      go_enter Tryz.func5, Tryz.ntmps5
      go_wp2_with fail
      refine Calls.mono (s_FormatTyped 0 k Hv1.out Hv2.out _) ?_
      rintro en wf ⟨rfl, hbf⟩
      have Hbf := hide (Hb0.out.trans (hbf.mono Hb0.out.size))
      clear hbf he he2
      cases hc : ((fmtTyped 0 k).toList == s.toList)
      case true =>
        have Hr := hide (parse_yes (k := k) Hv.out He.out hc)
        generalize fmtTyped 0 k = N at hc ⊢
        have hc2 : (N.toList != s.toList) = false := by rw [bne, hc]; rfl
        go_wp2_with fail
        exact bodyPost_ret (v := .tuple #[.int .i64 0, .bool true]) (by simp [results, Tryz.results5, go_sem]) rfl ⟨by rw [Hr.out]; rfl, Hbf.out⟩
      case false =>
        have Hr := hide (parse_no (k := k) Hv.out hc)
        generalize fmtTyped 0 k = N at hc ⊢
        have hc2 : (N.toList != s.toList) = true := by rw [bne, hc]; rfl
        go_wp2_with fail
        exact bodyPost_ret (v := .tuple #[.int .i64 0, .bool false]) (by simp [results, Tryz.results5, go_sem]) rfl ⟨by rw [Hr.out]; rfl, Hbf.out⟩
  subst k2
  clear k1 k3 k4
  by_cases h2 : 2 < s.size
  case neg =>
    have Hv : Hid (valS s 2 = 0) := hide (show (if 2 < s.size then _ else (0 : Int)) = _ from if_neg h2)
    have Hv1 : Hid (-9223372036854775808 ≤ (0 : Int)) := hide (by decide)
    have Hv2 : Hid ((0 : Int) ≤ 9223372036854775807) := hide (by decide)
    go_enter Tryz.func5, Tryz.ntmps5
    go_wp2_with fail
    go_loopw [6, 7] (fun v i wr => ∃ j : Nat, j ≤ 12 ∧ i = .int .i64 j ∧ v = .int .i64 0 ∧ Hid (Below w.heap.size w wr)) (fun _ i _ => 12 - (RowKit.intOf i).toNat)
    case atStart => exact ⟨0, by omega, rfl, rfl, Hb0⟩
    case round =>
      obtain ⟨j, hj, rfl, rfl, Hb⟩ := hrel
      by_cases hlt : j < 12
      · have hg : decide ((s.size : Int) > 2) = false := decide_eq_false (by omega)
        go_wp2_with fail
        exact ⟨⟨j + 1, by omega, by go_num, rfl, Hb⟩, by simp [RowKit.intOf]; omega⟩
      · have hjl : j = 12 := by omega
        subst hjl
        cases he : (s.toList == [])
        case true =>
          have he2 : s.toList = [] := by simpa using he
          have Hr : Hid (parseT s 2 = (0, false)) := hide (parse_empty he)
          go_wp2_with fail
          exact bodyPost_ret (v := .tuple #[.int .i64 0, .bool false]) (by simp [results, Tryz.results5, go_sem]) rfl ⟨by rw [Hr.out]; rfl, Hb.out⟩
        case false =>
          have He := hide (ne_empty he)
          have he2 : ¬ s.toList = [] := by simpa using he
          go_wp2_with fail
          refine Calls.mono (s_FormatTyped 0 2 Hv1.out Hv2.out _) ?_
          rintro en wf ⟨rfl, hbf⟩
          have Hbf := hide (Hb.out.trans (hbf.mono Hb.out.size))
          clear hbf he he2
          cases hc : ((fmtTyped 0 2).toList == s.toList)
          case true =>
            have Hr := hide (parse_yes (k := 2) Hv.out He.out hc)
            generalize fmtTyped 0 2 = N at hc ⊢
            have hc2 : (N.toList != s.toList) = false := by rw [bne, hc]; rfl
            go_wp2_with fail
            exact bodyPost_ret (v := .tuple #[.int .i64 0, .bool true]) (by simp [results, Tryz.results5, go_sem]) rfl ⟨by rw [Hr.out]; rfl, Hbf.out⟩
          case false =>
            have Hr := hide (parse_no (k := 2) Hv.out hc)
            generalize fmtTyped 0 2 = N at hc ⊢
            have hc2 : (N.toList != s.toList) = true := by rw [bne, hc]; rfl
            go_wp2_with fail
            exact bodyPost_ret (v := .tuple #[.int .i64 0, .bool false]) (by simp [results, Tryz.results5, go_sem]) rfl ⟨by rw [Hr.out]; rfl, Hbf.out⟩
  case pos =>
    have Hv : Hid (valS s 2 = setS (splitS (s.extract 1 (s.size - 1)) 32) 12) := hide (show (if 2 < s.size then _ else (0 : Int)) = _ from if_pos h2)
    have Hz := hide (Nat.le_trans (ext_size s 1 (s.size - 1)) hs)
    have Hsp : Hid (∀ W : World, Calls Tryz.prog 17 #[.string (s.extract 1 (s.size - 1)), .int .u8 (32 : UInt8).toNat] W fun e w' => ∃ v' G, e = .returned v' ∧ SlR 1 (StrR 0) w' (splitS (s.extract 1 (s.size - 1)) 32) v' G ∧ Fresh W.heap.size w' G ∧ Below W.heap.size W w') := hide fun W => s_SplitByte 0 (s.extract 1 (s.size - 1)) 32 Hz.out W
    generalize splitS (s.extract 1 (s.size - 1)) 32 = ws at Hv Hsp
    have hg : decide ((s.size : Int) > 2) = true := decide_eq_true (by omega)
    go_enter Tryz.func5, Tryz.ntmps5
    go_wp2_with fail
    go_loopw [6, 7] (fun v i wr => ∃ j : Nat, j ≤ 12 ∧ i = .int .i64 j ∧ v = .int .i64 (setS ws j) ∧ Hid (Below w.heap.size w wr)) (fun _ i _ => 12 - (RowKit.intOf i).toNat)
    case atStart => exact ⟨0, by omega, rfl, rfl, Hb0⟩
    case round =>
      obtain ⟨j, hj, rfl, rfl, Hb⟩ := hrel
      by_cases hlt : j < 12
      · cases hq : hasS ws (num (j : Int))
        · have Hst : Hid (setS ws (j + 1) = setS ws j) := hide (setS_no hq)
          have Hns := hide (num_size (n := (j : Int)) (by omega) (by omega))
          generalize setS ws j = a at Hst ⊢
          have Hq := hide hq
          clear hq
          go_wp2_with fail
          refine Calls.mono (Hsp.out wr) ?_
          rintro en w1 ⟨v1, G, rfl, hsl, hf, hb⟩
          have HF := hide (hsl.lt (StrR.good 0))
          obtain ⟨A, cap, rfl, hlc, hm⟩ := hsl.form
          have Hsl := hide hsl
          have Hm := hide (Nat.le_trans hlc hm)
          have Hb1 := hide (Hb.out.trans (hb.mono Hb.out.size))
          clear hsl hf hb hlc hm
          go_wp2_with fail
          refine Calls.mono (s_FormatInt j (by omega) (by omega) w1) ?_
          rintro en w2 ⟨rfl, hb⟩
          rw [show (⟨(itoa (j : Int)).toArray⟩ : ByteArray) = num j from rfl]
          have Hb2 := hide (Hb1.out.trans (hb.mono Hb1.out.size))
          have Hr2 := hide (Hsl.out.below (StrR.good 0) hb HF.out).strs.1
          clear hb
          generalize num (j : Int) = N at Hq ⊢
          go_wp2_with fail
          refine Calls.mono (s_l1Has _ _ _ _ ws _ _ Hr2.out (by have := Hm.out; unfold maxLen at this; omega)) ?_
          rintro en w3 ⟨rfl, rfl⟩
          rw [Hq.out]
          go_wp2_with fail
          exact ⟨⟨j + 1, by omega, by go_num, by rw [Hst.out], Hb2⟩, by simp [RowKit.intOf]; omega⟩
        · have Hst : Hid (setS ws (j + 1) = bits .or .i64 (setS ws j) (2 ^ j)) := hide (setS_yes hq)
          have Hns := hide (num_size (n := (j : Int)) (by omega) (by omega))
          generalize setS ws j = a at Hst ⊢
          have Hq := hide hq
          clear hq
          go_wp2_with fail
          refine Calls.mono (Hsp.out wr) ?_
          rintro en w1 ⟨v1, G, rfl, hsl, hf, hb⟩
          have HF := hide (hsl.lt (StrR.good 0))
          obtain ⟨A, cap, rfl, hlc, hm⟩ := hsl.form
          have Hsl := hide hsl
          have Hm := hide (Nat.le_trans hlc hm)
          have Hb1 := hide (Hb.out.trans (hb.mono Hb.out.size))
          clear hsl hf hb hlc hm
          go_wp2_with fail
          refine Calls.mono (s_FormatInt j (by omega) (by omega) w1) ?_
          rintro en w2 ⟨rfl, hb⟩
          rw [show (⟨(itoa (j : Int)).toArray⟩ : ByteArray) = num j from rfl]
          have Hb2 := hide (Hb1.out.trans (hb.mono Hb1.out.size))
          have Hr2 := hide (Hsl.out.below (StrR.good 0) hb HF.out).strs.1
          clear hb
          generalize num (j : Int) = N at Hq ⊢
          go_wp2_with fail
          refine Calls.mono (s_l1Has _ _ _ _ ws _ _ Hr2.out (by have := Hm.out; unfold maxLen at this; omega)) ?_
          rintro en w3 ⟨rfl, rfl⟩
          rw [Hq.out]
          go_wp2_with fail
          exact ⟨⟨j + 1, by omega, by go_num, by rw [Hst.out, wrap_pow hlt], Hb2⟩, by simp [RowKit.intOf]; omega⟩
      · have hjl : j = 12 := by omega
        subst hjl
        have Hbd := hide (setS_bd ws 12)
        generalize setS ws 12 = v at Hv Hbd ⊢
        have Hv1 : Hid (-9223372036854775808 ≤ v) := hide Hbd.out.1
        have Hv2 : Hid (v ≤ 9223372036854775807) := hide Hbd.out.2
        clear Hbd
        cases he : (s.toList == [])
        case true =>
          have he2 : s.toList = [] := by simpa using he
          have Hr : Hid (parseT s 2 = (0, false)) := hide (parse_empty he)
          go_wp2_with fail
          exact bodyPost_ret (v := .tuple #[.int .i64 0, .bool false]) (by simp [results, Tryz.results5, go_sem]) rfl ⟨by rw [Hr.out]; rfl, Hb.out⟩
        case false =>
          have He := hide (ne_empty he)
          have he2 : ¬ s.toList = [] := by simpa using he
          go_wp2_with fail
          refine Calls.mono (s_FormatTyped v 2 Hv1.out Hv2.out _) ?_
          rintro en wf ⟨rfl, hbf⟩
          have Hbf := hide (Hb.out.trans (hbf.mono Hb.out.size))
          clear hbf he he2
          cases hc : ((fmtTyped v 2).toList == s.toList)
          case true =>
            have Hr := hide (parse_yes (k := 2) Hv.out He.out hc)
            generalize fmtTyped v 2 = N at hc ⊢
            have hc2 : (N.toList != s.toList) = false := by rw [bne, hc]; rfl
            go_wp2_with fail
            exact bodyPost_ret (v := .tuple #[.int .i64 v, .bool true]) (by simp [results, Tryz.results5, go_sem]) rfl ⟨by rw [Hr.out]; rfl, Hbf.out⟩
          case false =>
            have Hr := hide (parse_no (k := 2) Hv.out hc)
            generalize fmtTyped v 2 = N at hc ⊢
            have hc2 : (N.toList != s.toList) = true := by rw [bne, hc]; rfl
            go_wp2_with fail
            exact bodyPost_ret (v := .tuple #[.int .i64 0, .bool false]) (by simp [results, Tryz.results5, go_sem]) rfl ⟨by rw [Hr.out]; rfl, Hbf.out⟩
end Go.Proofs.YtbijabgokhmfhaaGreatDoor
