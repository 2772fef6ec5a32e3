/- Values read from their text: the program's walk. Conditions: at most 2^20 bytes; the library's table and errors are laid; the world has the form that every start has. -/
import Derived.Test.YtbijabgokhmfhaaGreatDoorTypQ
import Derived.Test.YtbijabgokhmfhaaGreatDoorShelf
import Derived.Test.YtbijabgokhmfhaaGreatDoorShelfT
import Derived.Test.YtbijabgokhmfhaaGreatDoorSplitN
import Derived.ShapedOpen
namespace Go.Proofs.YtbijabgokhmfhaaGreatDoor
set_option maxRecDepth 100000
open Go.RowKit Go.WideShapes Go.Lib
set_option linter.unusedVariables false

set_option maxRecDepth 100000 in
set_option maxHeartbeats 4000000 in
theorem i_ParseTyped (s : ByteArray) (k : Int) (hs : s.size ≤ 1048576) (w : World) (hW : NumW w) (hsh : w.ShapedOpen Tryz.prog) :
    Calls Tryz.prog 6 #[.string s, .int .i64 k] w fun e w' => e = .returned (tupT (parseT s k)) ∧ Below w.heap.size w w' := by
  have hw0 : Below w.heap.size w w := Below.refl _ _
  have Hb0 := hide hw0
  have HW := hide (fun (W : World) (h : Below w.heap.size w W) => hW.below h)
  have HT : Hid (∀ W : World, Below w.heap.size w W → Lib.TabIs Tryz.prog W "internal/strconv.uint64pow10" .u64 Lib.pow10Tab) := hide (Lib.tabBelow_of_tabIs hW.tab)
  have HSh : Hid (∀ W : World, Below w.heap.size w W → W.ShapedOpen Tryz.prog) := hide fun W h => shaped_below3 hsh h
  clear hW hsh
  by_cases k1 : k = 1
  · subst k1
    have Hc := hide (i_ParseInt s hs w (HW.out w hw0))
    have Hv : Hid (valI s 1 = (numIn s.data.toList (-999999999999) 999999999999).getD 0) := hide rfl
    have Hbd := hide (numIn_bd s.data.toList (-999999999999) 999999999999 (by decide) (by decide))
    generalize numIn s.data.toList (-999999999999) 999999999999 = o at Hc Hv Hbd
    unfold readV at Hc
    generalize o.getD 0 = v at Hc Hv Hbd
    generalize o.isSome = b at Hc
    have Hv1 : Hid (-9223372036854775808 ≤ v) := hide Hbd.out.1
    have Hv2 : Hid (v ≤ 9223372036854775807) := hide Hbd.out.2
    clear Hbd
    go_enter Tryz.func6, Tryz.ntmps6
    go_wp2_with fail
    refine Calls.mono Hc.out ?_
    rintro en w1 ⟨rfl, hb⟩
    have Hb1 := hide hb
    clear hb
    cases he : (s.toList == [])
    case true =>
      have he2 : s.toList = [] := by simpa using he
      have Hr : Hid (parseT s 1 = (0, false)) := hide (parse_empty he)
      go_wp2_with fail
      exact bodyPost_ret (v := .tuple #[.int .i64 0, .bool false]) (by simp [results, Tryz.results6, go_sem]) rfl ⟨by rw [Hr.out]; rfl, Hb1.out⟩
    case false =>
      have He := hide (ne_empty he)
      have he2 : ¬ s.toList = [] := by simpa using he
      go_wp2_with fail
      refine Calls.mono (i_FormatTyped v 1 Hv1.out Hv2.out _ (HT.out _ Hb1.out)) ?_
      rintro en wf ⟨rfl, hbf⟩
      have Hbf := hide (Hb1.out.trans (hbf.mono Hb1.out.size))
      clear hbf he he2
      cases hc : ((fmtTyped v 1).toList == s.toList)
      case true =>
        have Hr := hide (parseI_yes (k := 1) Hv.out He.out hc)
        generalize fmtTyped v 1 = N at hc ⊢
        have hc2 : (N.toList != s.toList) = false := by rw [bne, hc]; rfl
        go_wp2_with fail
        exact bodyPost_ret (v := .tuple #[.int .i64 v, .bool true]) (by simp [results, Tryz.results6, go_sem]) rfl ⟨by rw [Hr.out]; rfl, Hbf.out⟩
      case false =>
        have Hr := hide (parseI_no (k := 1) Hv.out hc)
        generalize fmtTyped v 1 = N at hc ⊢
        have hc2 : (N.toList != s.toList) = true := by rw [bne, hc]; rfl
        go_wp2_with fail
        exact bodyPost_ret (v := .tuple #[.int .i64 0, .bool false]) (by simp [results, Tryz.results6, go_sem]) rfl ⟨by rw [Hr.out]; rfl, Hbf.out⟩
  by_cases k3 : k = 3
  · subst k3
    cases ht : isTrue s
    all_goals
      have Hv : Hid (valI s 3 = if isTrue s then 1 else 0) := hide rfl
      rw [ht] at Hv
      simp only [Bool.false_eq_true, if_true, if_false] at Hv
    case true =>
      have ht2 : s.toList = [116, 114, 117, 101] := by rw [Lib.toList_data]; exact (isTrue_iff s).1 ht
      clear ht
      have Hv1 : Hid (-9223372036854775808 ≤ (1 : Int)) := hide (by decide)
      have Hv2 : Hid ((1 : Int) ≤ 9223372036854775807) := hide (by decide)
      have he : (s.toList == []) = false := by rw [ht2]; rfl
      have He := hide (ne_empty he)
      have he2 : ¬ s.toList = [] := by simpa using he
      go_enter Tryz.func6, Tryz.ntmps6
      go_wp2_with (go_at_call 20; refine (i_flag _ _).mono ?_; rintro e w' ⟨rfl, rfl⟩)
      refine Calls.mono (i_FormatTyped 1 3 Hv1.out Hv2.out _ (HT.out _ Hb0.out)) ?_
      rintro en wf ⟨rfl, hbf⟩
      have Hbf := hide (Hb0.out.trans (hbf.mono Hb0.out.size))
      clear hbf he he2 ht2
      cases hc : ((fmtTyped 1 3).toList == s.toList)
      case true =>
        have Hr := hide (parseI_yes (k := 3) Hv.out He.out hc)
        generalize fmtTyped 1 3 = N at hc ⊢
        have hc2 : (N.toList != s.toList) = false := by rw [bne, hc]; rfl
        go_wp2_with fail
        exact bodyPost_ret (v := .tuple #[.int .i64 1, .bool true]) (by simp [results, Tryz.results6, go_sem]) rfl ⟨by rw [Hr.out]; rfl, Hbf.out⟩
      case false =>
        have Hr := hide (parseI_no (k := 3) Hv.out hc)
        generalize fmtTyped 1 3 = N at hc ⊢
        have hc2 : (N.toList != s.toList) = true := by rw [bne, hc]; rfl
        go_wp2_with fail
        exact bodyPost_ret (v := .tuple #[.int .i64 0, .bool false]) (by simp [results, Tryz.results6, go_sem]) rfl ⟨by rw [Hr.out]; rfl, Hbf.out⟩
    case false =>
      have ht2 : ¬ s.toList = [116, 114, 117, 101] := by rw [Lib.toList_data]; exact fun h => by rw [(isTrue_iff s).2 h] at ht; cases ht
      have ht3 : (s.toList == [116, 114, 117, 101]) = false := by simpa using ht2
      clear ht
      have Hv1 : Hid (-9223372036854775808 ≤ (0 : Int)) := hide (by decide)
      have Hv2 : Hid ((0 : Int) ≤ 9223372036854775807) := hide (by decide)
      cases he : (s.toList == [])
      case true =>
        have he2 : s.toList = [] := by simpa using he
        have Hr : Hid (parseT s 3 = (0, false)) := hide (parse_empty he)
        go_enter Tryz.func6, Tryz.ntmps6
        go_wp2_with (go_at_call 20; refine (i_flag _ _).mono ?_; rintro e w' ⟨rfl, rfl⟩)
        exact bodyPost_ret (v := .tuple #[.int .i64 0, .bool false]) (by simp [results, Tryz.results6, go_sem]) rfl ⟨by rw [Hr.out]; rfl, Hb0.out⟩
      case false =>
        have He := hide (ne_empty he)
        have he2 : ¬ s.toList = [] := by simpa using he
        go_enter Tryz.func6, Tryz.ntmps6
        go_wp2_with (go_at_call 20; refine (i_flag _ _).mono ?_; rintro e w' ⟨rfl, rfl⟩)
        refine Calls.mono (i_FormatTyped 0 3 Hv1.out Hv2.out _ (HT.out _ Hb0.out)) ?_
        rintro en wf ⟨rfl, hbf⟩
        have Hbf := hide (Hb0.out.trans (hbf.mono Hb0.out.size))
        clear hbf he he2
        cases hc : ((fmtTyped 0 3).toList == s.toList)
        case true =>
          have Hr := hide (parseI_yes (k := 3) Hv.out He.out hc)
          generalize fmtTyped 0 3 = N at hc ⊢
          have hc2 : (N.toList != s.toList) = false := by rw [bne, hc]; rfl
          go_wp2_with fail
          exact bodyPost_ret (v := .tuple #[.int .i64 0, .bool true]) (by simp [results, Tryz.results6, go_sem]) rfl ⟨by rw [Hr.out]; rfl, Hbf.out⟩
        case false =>
          have Hr := hide (parseI_no (k := 3) Hv.out hc)
          generalize fmtTyped 0 3 = N at hc ⊢
          have hc2 : (N.toList != s.toList) = true := by rw [bne, hc]; rfl
          go_wp2_with fail
          exact bodyPost_ret (v := .tuple #[.int .i64 0, .bool false]) (by simp [results, Tryz.results6, go_sem]) rfl ⟨by rw [Hr.out]; rfl, Hbf.out⟩
  by_cases k4 : k = 4
  · subst k4
    have Hp := hide (Tryz.strings_TrimPrefix s ⟨#[35]⟩ w)
    have Hc : Hid (∀ W : World, Below w.heap.size w W → Calls Tryz.prog 19 #[.string (cutH s)] W fun e w' => e = .returned (readV (numIn (cutH s).data.toList (-999999999999) 999999999999)) ∧ Below W.heap.size W w') := hide fun W h => i_ParseInt (cutH s) (Nat.le_trans (cutH_size s) hs) W (HW.out W h)
    have Hv : Hid (valI s 4 = (numIn (cutH s).data.toList (-999999999999) 999999999999).getD 0) := hide rfl
    have Hbd := hide (numIn_bd (cutH s).data.toList (-999999999999) 999999999999 (by decide) (by decide))
    change Hid (Calls Tryz.prog 21 #[.string s, .string ⟨#[35]⟩] w fun e w' => e = .returned (.string (cutH s)) ∧ w' = w) at Hp
    generalize numIn (cutH s).data.toList (-999999999999) 999999999999 = o at Hc Hv Hbd
    generalize cutH s = X at Hp Hc
    unfold readV at Hc
    generalize o.getD 0 = v at Hc Hv Hbd
    generalize o.isSome = b at Hc
    have Hv1 : Hid (-9223372036854775808 ≤ v) := hide Hbd.out.1
    have Hv2 : Hid (v ≤ 9223372036854775807) := hide Hbd.out.2
    clear Hbd
    go_enter Tryz.func6, Tryz.ntmps6
    go_wp2_with fail
    refine Calls.mono Hp.out ?_
    rintro en w1 ⟨rfl, rfl⟩
    go_wp2_with fail
    refine Calls.mono (Hc.out _ Hb0.out) ?_
    rintro en w1 ⟨rfl, hb⟩
    have Hb1 := hide hb
    clear hb
    cases he : (s.toList == [])
    case true =>
      have he2 : s.toList = [] := by simpa using he
      have Hr : Hid (parseT s 4 = (0, false)) := hide (parse_empty he)
      go_wp2_with fail
      exact bodyPost_ret (v := .tuple #[.int .i64 0, .bool false]) (by simp [results, Tryz.results6, go_sem]) rfl ⟨by rw [Hr.out]; rfl, Hb1.out⟩
    case false =>
      have He := hide (ne_empty he)
      have he2 : ¬ s.toList = [] := by simpa using he
      go_wp2_with fail
      refine Calls.mono (i_FormatTyped v 4 Hv1.out Hv2.out _ (HT.out _ Hb1.out)) ?_
      rintro en wf ⟨rfl, hbf⟩
      have Hbf := hide (Hb1.out.trans (hbf.mono Hb1.out.size))
      clear hbf he he2
      cases hc : ((fmtTyped v 4).toList == s.toList)
      case true =>
        have Hr := hide (parseI_yes (k := 4) Hv.out He.out hc)
        generalize fmtTyped v 4 = N at hc ⊢
        have hc2 : (N.toList != s.toList) = false := by rw [bne, hc]; rfl
        go_wp2_with fail
        exact bodyPost_ret (v := .tuple #[.int .i64 v, .bool true]) (by simp [results, Tryz.results6, go_sem]) rfl ⟨by rw [Hr.out]; rfl, Hbf.out⟩
      case false =>
        have Hr := hide (parseI_no (k := 4) Hv.out hc)
        generalize fmtTyped v 4 = N at hc ⊢
        have hc2 : (N.toList != s.toList) = true := by rw [bne, hc]; rfl
        go_wp2_with fail
        exact bodyPost_ret (v := .tuple #[.int .i64 0, .bool false]) (by simp [results, Tryz.results6, go_sem]) rfl ⟨by rw [Hr.out]; rfl, Hbf.out⟩
  by_cases k2 : k = 2
  case neg =>
    have Hv : Hid (valI s k = 0) := hide (by unfold valI; rw [if_neg k1, if_neg k3, if_neg k4, if_neg k2])
    have Hv1 : Hid (-9223372036854775808 ≤ (0 : Int)) := hide (by decide)
    have Hv2 : Hid ((0 : Int) ≤ 9223372036854775807) := hide (by decide)
    have q1 : (k == 1) = false := by simpa using k1
    have q2 : (k == 2) = false := by simpa using k2
    have q3 : (k == 3) = false := by simpa using k3
    have q4 : (k == 4) = false := by simpa using k4
    clear k1 k2 k3 k4
    cases he : (s.toList == [])
    case true =>
      have he2 : s.toList = [] := by simpa using he
      have Hr : Hid (parseT s k = (0, false)) := hide (parse_empty he)
      go_enter Tryz.func6, Tryz.ntmps6
      go_wp2_with fail
      exact bodyPost_ret (v := .tuple #[.int .i64 0, .bool false]) (by simp [results, Tryz.results6, go_sem]) rfl ⟨by rw [Hr.out]; rfl, Hb0.out⟩
    case false =>
      have He := hide (ne_empty he)
      have he2 : ¬ s.toList = [] := by simpa using he
      go_enter Tryz.func6, Tryz.ntmps6
      go_wp2_with fail
      refine Calls.mono (i_FormatTyped 0 k Hv1.out Hv2.out _ (HT.out _ Hb0.out)) ?_
      rintro en wf ⟨rfl, hbf⟩
      have Hbf := hide (Hb0.out.trans (hbf.mono Hb0.out.size))
      clear hbf he he2
      cases hc : ((fmtTyped 0 k).toList == s.toList)
      case true =>
        have Hr := hide (parseI_yes (k := k) Hv.out He.out hc)
        generalize fmtTyped 0 k = N at hc ⊢
        have hc2 : (N.toList != s.toList) = false := by rw [bne, hc]; rfl
        go_wp2_with fail
        exact bodyPost_ret (v := .tuple #[.int .i64 0, .bool true]) (by simp [results, Tryz.results6, go_sem]) rfl ⟨by rw [Hr.out]; rfl, Hbf.out⟩
      case false =>
        have Hr := hide (parseI_no (k := k) Hv.out hc)
        generalize fmtTyped 0 k = N at hc ⊢
        have hc2 : (N.toList != s.toList) = true := by rw [bne, hc]; rfl
        go_wp2_with fail
        exact bodyPost_ret (v := .tuple #[.int .i64 0, .bool false]) (by simp [results, Tryz.results6, go_sem]) rfl ⟨by rw [Hr.out]; rfl, Hbf.out⟩
  subst k2
  clear k1 k3 k4
  have Hv : Hid (valI s 2 = setI (wordsM (trimB s))) := hide rfl
  have Ht := hide (Any.strings_Trim_laid Tryz.lays160 (by kernel_rfl) s ⟨#[123, 125]⟩ w (by omega) (by decide) (ascii_of_all (by decide)))
  change Hid (Calls Tryz.prog 23 #[.string s, .string ⟨#[123, 125]⟩] w fun e w' => e = .returned (.string (trimB s)) ∧ Below w.heap.size w w') at Ht
  have Hts := hide (Nat.le_trans (trimB_size s) hs)
  generalize trimB s = T at Ht Hts Hv
  go_enter Tryz.func6, Tryz.ntmps6
  go_wp2_with fail
  refine Calls.mono Ht.out ?_
  rintro en w1 ⟨rfl, hb⟩
  have Hb1 := hide hb
  clear hb
  go_wp2_with fail
  refine Calls.mono (Tryz.strings_SplitN_shaped T ⟨#[32]⟩ 13 w1 (HSh.out _ Hb1.out) (by have := Hts.out; omega) (by decide) (by decide) (by decide)) ?_
  rintro en w2 ⟨rfl, hw2⟩
  have hwd : splitB ⟨#[32]⟩ 0 (min 13 (T.size + 1) - 1) T = wordsM T := rfl
  rw [hwd] at hw2 ⊢
  have hl13 : (wordsM T).length ≤ min 13 (T.size + 1) := by have := splitB_length_le ⟨#[32]⟩ 0 (min 13 (T.size + 1) - 1) T; rw [hwd] at this; omega
  have hcw : ∀ j x, (wordsM T)[j]? = some x → w2.cell? ⟨w1.heap.size, j, none⟩ = some (.string x) := fun j x hx => by
    rw [hw2]
    exact splitN_cell w1 (wordsM T) (min 13 (T.size + 1)) j x hx
  have hB2 : Below w.heap.size w w2 := by rw [hw2]; exact Hb1.out.alloc (Hb1.out.size) _
  have Hcw := hide hcw
  have hl13' : (wordsM T).length ≤ 13 := by omega
  have Hsz : Hid (∀ x ∈ wordsM T, x.size ≤ 1048576) := hide fun x hx => Nat.le_trans (splitB_size 32 _ T x hx) Hts.out
  have HB2 := hide hB2
  have Hbz : Hid (w1.heap.size < w2.heap.size) := hide (by rw [hw2, World.size_alloc]; omega)
  generalize min 13 (T.size + 1) = cap at hw2 hl13 ⊢
  clear hw2 hB2 hcw hwd
  generalize wordsM T = ws at *
  go_wp2_with fail
  go_loopw [6, 38] (fun v i wr => ∃ j : Nat, j ≤ ws.length ∧ i = .int .i64 j ∧ v = .int .i64 (setI (ws.take j)) ∧ Hid (Below w.heap.size w wr) ∧ Hid (Below w2.heap.size w2 wr)) (fun _ i _ => ws.length - (RowKit.intOf i).toNat)
  case atStart => exact ⟨0, by omega, rfl, rfl, HB2, hide (Below.refl _ _)⟩
  case round =>
    obtain ⟨j, hj, rfl, rfl, Hb, Hd⟩ := hrel
    by_cases hlt : j < ws.length
    · have hx : ws[j]? = some ws[j] := List.getElem?_eq_getElem hlt
      generalize ws[j] = x at hx
      have q := (Hd.out.cell (p := ⟨w1.heap.size, j, none⟩) Hbz.out).trans (Hcw.out j x hx)
      cases ho : numIn x.data.toList 0 999999 with
      | none =>
          have Hst := hide (setI_step (a := setI (ws.take j)) hx rfl)
          rw [ho] at Hst
          have HP : Hid (Calls Tryz.prog 24 #[.string x] wr fun e w' => e = .returned (readV (numIn x.data.toList 0 999999)) ∧ Below wr.heap.size wr w') := hide (i_ParseNumber x (Hsz.out x (List.mem_of_getElem? hx)) wr (HW.out wr Hb.out))
          rw [ho] at HP
          clear ho hx
          generalize setI (ws.take j) = a at Hst ⊢
          go_wp2_with fail
          refine Calls.mono HP.out ?_
          rintro en w3 ⟨rfl, hb⟩
          have Hb3 := hide (Hb.out.trans (hb.mono Hb.out.size))
          have Hd3 := hide (Hd.out.trans (hb.mono Hd.out.size))
          clear hb
          unfold readV
          simp only [Option.getD_none, Option.getD_some, Option.isSome_none, Option.isSome_some]
          go_wp2_with fail
          exact ⟨⟨j + 1, by omega, by go_num, by rw [Hst.out]; rfl, Hb3, Hd3⟩, by simp [RowKit.intOf]; omega⟩
      | some k =>
        obtain ⟨_, k0, k1⟩ := numIn_iff.1 ho
        obtain ⟨n, rfl⟩ := Int.eq_ofNat_of_zero_le k0
        by_cases hk : n ≤ 11
        · have hkd : decide ((n : Int) ≤ 11) = true := decide_eq_true (by omega)
          have Hst := hide (setI_step (a := setI (ws.take j)) hx rfl)
          rw [ho] at Hst
          have HP : Hid (Calls Tryz.prog 24 #[.string x] wr fun e w' => e = .returned (readV (numIn x.data.toList 0 999999)) ∧ Below wr.heap.size wr w') := hide (i_ParseNumber x (Hsz.out x (List.mem_of_getElem? hx)) wr (HW.out wr Hb.out))
          rw [ho] at HP
          clear ho hx
          generalize setI (ws.take j) = a at Hst ⊢
          go_wp2_with fail
          refine Calls.mono HP.out ?_
          rintro en w3 ⟨rfl, hb⟩
          have Hb3 := hide (Hb.out.trans (hb.mono Hb.out.size))
          have Hd3 := hide (Hd.out.trans (hb.mono Hd.out.size))
          clear hb
          unfold readV
          simp only [Option.getD_none, Option.getD_some, Option.isSome_none, Option.isSome_some]
          go_wp2_with fail
          exact ⟨⟨j + 1, by omega, by go_num, by rw [Hst.out, orN_yes hk]; first | rw [wrap_pow (by omega)] | trace_state, Hb3, Hd3⟩, by simp [RowKit.intOf]; omega⟩
        · have hkd : decide ((n : Int) ≤ 11) = false := decide_eq_false (by omega)
          have Hst := hide (setI_step (a := setI (ws.take j)) hx rfl)
          rw [ho] at Hst
          have HP : Hid (Calls Tryz.prog 24 #[.string x] wr fun e w' => e = .returned (readV (numIn x.data.toList 0 999999)) ∧ Below wr.heap.size wr w') := hide (i_ParseNumber x (Hsz.out x (List.mem_of_getElem? hx)) wr (HW.out wr Hb.out))
          rw [ho] at HP
          clear ho hx
          generalize setI (ws.take j) = a at Hst ⊢
          go_wp2_with fail
          refine Calls.mono HP.out ?_
          rintro en w3 ⟨rfl, hb⟩
          have Hb3 := hide (Hb.out.trans (hb.mono Hb.out.size))
          have Hd3 := hide (Hd.out.trans (hb.mono Hd.out.size))
          clear hb
          unfold readV
          simp only [Option.getD_none, Option.getD_some, Option.isSome_none, Option.isSome_some]
          go_wp2_with fail
          exact ⟨⟨j + 1, by omega, by go_num, by rw [Hst.out, orN_no hk], Hb3, Hd3⟩, by simp [RowKit.intOf]; omega⟩
    · have hjl : j = ws.length := by omega
      subst hjl
      rw [List.take_length] at *
      have Hbd := hide (setI_bd ws)
      generalize setI ws = v at Hv Hbd ⊢
      have Hv1 : Hid (-9223372036854775808 ≤ v) := hide Hbd.out.1
      have Hv2 : Hid (v ≤ 9223372036854775807) := hide Hbd.out.2
      clear Hbd
      cases he : (s.toList == [])
      case true =>
        have he2 : s.toList = [] := by simpa using he
        have Hr : Hid (parseT s 2 = (0, false)) := hide (parse_empty he)
        go_wp2_with fail
        exact bodyPost_ret (v := .tuple #[.int .i64 0, .bool false]) (by simp [results, Tryz.results6, go_sem]) rfl ⟨by rw [Hr.out]; rfl, Hb.out⟩
      case false =>
        have He := hide (ne_empty he)
        have he2 : ¬ s.toList = [] := by simpa using he
        go_wp2_with fail
        refine Calls.mono (i_FormatTyped v 2 Hv1.out Hv2.out _ (HT.out _ Hb.out)) ?_
        rintro en wf ⟨rfl, hbf⟩
        have Hbf := hide (Hb.out.trans (hbf.mono Hb.out.size))
        clear hbf he he2
        cases hc : ((fmtTyped v 2).toList == s.toList)
        case true =>
          have Hr := hide (parseI_yes (k := 2) Hv.out He.out hc)
          generalize fmtTyped v 2 = N at hc ⊢
          have hc2 : (N.toList != s.toList) = false := by rw [bne, hc]; rfl
          go_wp2_with fail
          exact bodyPost_ret (v := .tuple #[.int .i64 v, .bool true]) (by simp [results, Tryz.results6, go_sem]) rfl ⟨by rw [Hr.out]; rfl, Hbf.out⟩
        case false =>
          have Hr := hide (parseI_no (k := 2) Hv.out hc)
          generalize fmtTyped v 2 = N at hc ⊢
          have hc2 : (N.toList != s.toList) = true := by rw [bne, hc]; rfl
          go_wp2_with fail
          exact bodyPost_ret (v := .tuple #[.int .i64 0, .bool false]) (by simp [results, Tryz.results6, go_sem]) rfl ⟨by rw [Hr.out]; rfl, Hbf.out⟩
end Go.Proofs.YtbijabgokhmfhaaGreatDoor
