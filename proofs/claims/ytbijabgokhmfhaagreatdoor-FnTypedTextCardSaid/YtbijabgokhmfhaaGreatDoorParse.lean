/- ParseInt and ParseNumber, both sides. Conditions: at most 2^20 bytes; the program's: the library's table and errors are laid. -/
import Derived.Test.YtbijabgokhmfhaaGreatDoorRead
import Derived.Test.YtbijabgokhmfhaaGreatDoorRange
import Derived.Test.YtbijabgokhmfhaaGreatDoorRows
import Derived.Test.YtbijabgokhmfhaaGreatDoorLaid
import Derived.Lib.AtoiErrMem
import Derived.WalkSmall
namespace Go.Proofs.YtbijabgokhmfhaaGreatDoor
set_option maxRecDepth 100000
open Go.RowKit Go.Lib
set_option linter.unusedVariables false

/-- What the program's readers ask of a world: the table and the two errors of Go's library. -/
structure NumW (w : World) : Prop where
  tab : TabIs Tryz.prog w "internal/strconv.uint64pow10" .u64 pow10Tab
  syn : ∃ tp p, w.var? Tryz.prog "strconv.ErrSyntax" = some #[.iface tp p]
  rng : ∃ tp p, w.var? Tryz.prog "strconv.ErrRange" = some #[.iface tp p]
theorem var_below {w w' : World} {n : String} {cs : Array Value} (h : w.var? Tryz.prog n = some cs) (hb : Below w.heap.size w w') : w'.var? Tryz.prog n = some cs := by
  unfold World.var? at h ⊢
  cases hg : Tryz.prog.globalNamed n with
  | none => rw [hg] at h; simp at h
  | some g =>
    rw [hg] at h
    simp only [Option.bind_some] at h ⊢
    cases hq : w.heap[g]? with
    | none => rw [hq] at h; simp at h
    | some ob =>
      have := hb.block g (Array.getElem?_eq_some_iff.1 hq).1
      rw [this, hq]
      rw [hq] at h
      exact h
theorem NumW.below {w w' : World} (h : NumW w) (hb : Below w.heap.size w w') : NumW w' :=
  ⟨tabBelow_of_tabIs h.tab w' hb, h.syn.imp fun _ => Exists.imp fun _ e => var_below e hb, h.rng.imp fun _ => Exists.imp fun _ e => var_below e hb⟩
theorem s_ParseInt (s : ByteArray) (hs : s.size ≤ 1048576) (w : World) :
    Calls Tryz.prog 13 #[.string s] w fun e w' => e = .returned (readV (numIn s.data.toList (-999999999999) 999999999999)) ∧ Below w.heap.size w w' := by
  have hq := readN_eq s.data.toList 12 (by omega)
  have e1 : -((10 : Int) ^ 12) + 1 = -999999999999 := by decide
  have e2 : (10 : Int) ^ 12 - 1 = 999999999999 := by decide
  rw [e1, e2] at hq
  have Hc : Hid (Calls Tryz.prog 36 #[.string s, .int .i64 12] w fun e w' => e = .returned (readV (numIn s.data.toList (-999999999999) 999999999999)) ∧ Below w.heap.size w w') := hide (by rw [← hq]; exact s_l1Read s 12 (by omega) (by omega) hs w)
  clear hq
  generalize numIn s.data.toList (-999999999999) 999999999999 = o at Hc ⊢
  go_enter Tryz.func13, Tryz.ntmps13
  go_wp2_with fail
  refine Calls.mono Hc.out ?_
  rintro en w1 ⟨rfl, hb⟩
  have Hb := hide hb
  clear hb
  unfold readV
  generalize hv : o.getD 0 = v
  generalize hbo : o.isSome = b
  go_wp2_with fail
  exact bodyPost_ret (v := .tuple #[.int .i64 v, .bool b]) (by simp [results, Tryz.results13, go_sem]) rfl ⟨by unfold readV; rw [hv, hbo], Hb.out⟩
theorem numIn_small (s : List UInt8) : numIn s 0 999999 = match numIn s (-999999) 999999 with | some n => if n < 0 then none else some n | none => none := by
  cases h : numIn s (-999999) 999999 with
  | none =>
    refine numIn_none fun n e g1 g2 => ?_
    have := numIn_iff.2 ⟨e, show (-999999 : Int) ≤ n by omega, g2⟩
    rw [h] at this
    cases this
  | some n =>
    obtain ⟨e, g1, g2⟩ := numIn_iff.1 h
    by_cases hn : n < 0
    · simp only [hn, if_true]
      refine numIn_none fun m e2 k1 k2 => ?_
      have := numIn_iff.2 ⟨e2, show (-999999 : Int) ≤ m by omega, k2⟩
      rw [h] at this
      injection this with this
      omega
    · simp only [hn, if_false]
      exact numIn_iff.2 ⟨e, by omega, g2⟩
theorem s_ParseNumber (s : ByteArray) (hs : s.size ≤ 1048576) (w : World) :
    Calls Tryz.prog 15 #[.string s] w fun e w' => e = .returned (readV (numIn s.data.toList 0 999999)) ∧ Below w.heap.size w w' := by
  have hq := readN_eq s.data.toList 6 (by omega)
  have e1 : -((10 : Int) ^ 6) + 1 = -999999 := by decide
  have e2 : (10 : Int) ^ 6 - 1 = 999999 := by decide
  rw [e1, e2] at hq
  have Hc : Hid (Calls Tryz.prog 36 #[.string s, .int .i64 6] w fun e w' => e = .returned (readV (numIn s.data.toList (-999999) 999999)) ∧ Below w.heap.size w w') := hide (by rw [← hq]; exact s_l1Read s 6 (by omega) (by omega) hs w)
  have hsm := numIn_small s.data.toList
  clear hq
  rw [hsm]
  clear hsm
  cases ho : numIn s.data.toList (-999999) 999999 with
  | none =>
    rw [ho] at Hc
    clear ho
    go_enter Tryz.func15, Tryz.ntmps15
    go_wp2_with fail
    refine Calls.mono Hc.out ?_
    rintro en w1 ⟨rfl, hb⟩
    have Hb := hide hb
    clear hb
    unfold readV
    simp only [Option.getD_none, Option.isSome_none]
    go_wp2_with fail
    exact bodyPost_ret (v := .tuple #[.int .i64 0, .bool false]) (by simp [results, Tryz.results15, go_sem]) rfl ⟨rfl, Hb.out⟩
  | some n =>
    rw [ho] at Hc
    clear ho
    by_cases hn : n < 0
    · have hd : decide (n < 0) = true := decide_eq_true hn
      simp only [hn, if_true]
      go_enter Tryz.func15, Tryz.ntmps15
      go_wp2_with fail
      refine Calls.mono Hc.out ?_
      rintro en w1 ⟨rfl, hb⟩
      have Hb := hide hb
      clear hb
      unfold readV
      simp only [Option.getD_some, Option.isSome_some]
      go_wp2_with fail
      exact bodyPost_ret (v := .tuple #[.int .i64 0, .bool false]) (by simp [results, Tryz.results15, go_sem]) rfl ⟨rfl, Hb.out⟩
    · have hd : decide (n < 0) = false := decide_eq_false hn
      simp only [hn, if_false]
      go_enter Tryz.func15, Tryz.ntmps15
      go_wp2_with fail
      refine Calls.mono Hc.out ?_
      rintro en w1 ⟨rfl, hb⟩
      have Hb := hide hb
      clear hb
      unfold readV
      simp only [Option.getD_some, Option.isSome_some]
      go_wp2_with fail
      exact bodyPost_ret (v := .tuple #[.int .i64 n, .bool true]) (by simp [results, Tryz.results15, go_sem]) rfl ⟨rfl, Hb.out⟩
/-- Atoi fails: whatever the error. -/
theorem i_Atoi_bad (s : ByteArray) (hs : s.size ≤ 1048576) (w : World) (hW : NumW w) (h : ∀ v, atoiAll s.data.toList ≠ .ok v) :
    Calls Tryz.prog 58 #[.string s] w fun e w' => ∃ (x : Int) (t : TypeId) (p : Value), e = .returned (.tuple #[.int .i64 x, .iface t p]) ∧ Below w.heap.size w w' := by
  obtain ⟨tp, p, h1⟩ := hW.syn
  obtain ⟨tp', p', h2⟩ := hW.rng
  by_cases hr : atoiAll s.data.toList = .range
  · exact (Tryz.strconv_Atoi_range_var s (by omega) hr tp' p' w h2).mono fun e w' ⟨N, he, _, _, hb⟩ => ⟨_, _, _, he, hb⟩
  · exact (Tryz.strconv_Atoi_syntax_var s (by omega) hr h tp p w h1).mono fun e w' ⟨N, he, _, _, hb⟩ => ⟨_, _, _, he, hb⟩
set_option maxRecDepth 100000 in
set_option maxHeartbeats 2000000 in
theorem i_numberIn (s : ByteArray) (lo hi : Int) (hlo : -1000000000000 < lo) (hhi : hi < 1000000000000) (hs : s.size ≤ 1048576) (w : World) (hW : NumW w) :
    Calls Tryz.prog 37 #[.string s, .int .i64 lo, .int .i64 hi] w fun e w' => e = .returned (readV (numIn s.data.toList lo hi)) ∧ Below w.heap.size w w' := by
  have HW := hide hW
  by_cases hok : ∃ v, atoiAll s.data.toList = .ok v
  · obtain ⟨v, hv⟩ := hok
    have hnum := numIn_ok hlo hhi hv
    obtain ⟨b1, b2⟩ := atoiAll_bounds hv
    have Hv := hide hv
    clear hv hW
    by_cases hin : lo ≤ v ∧ v ≤ hi
    · have hin2 := inR_yes hin
      have Hst := hide (str_eq_iff (itoa v) s)
      by_cases hq : itoa v = s.data.toList
      · have Hr : Hid (numIn s.data.toList lo hi = some v) := hide (by rw [hnum, if_pos ⟨hin.1, hin.2, hq⟩])
        have Hq := hide hq
        clear hnum hq hin
        go_enter Tryz.func37, Tryz.ntmps37
        go_wp2_with fail
        refine Calls.mono (Tryz.strconv_Atoi_ok s (by omega) v Hv.out w) ?_
        rintro en w1 ⟨rfl, h1⟩
        have HB : Hid (Below w.heap.size w w1) := hide (by rcases h1 with rfl | ⟨t, rfl⟩; exact Below.refl _ _; exact bytesWorld_below _ _ _)
        clear h1
        go_wp2_with (first
          | (go_at_call 59; refine (i_within _ _ _ _).mono ?_; rintro e w' ⟨rfl, rfl⟩)
          | (go_at_call 27; refine (i_FormatInt v (by omega) (by omega) _ (HW.out.below HB.out).tab).mono ?_; rintro e w2 ⟨rfl, hb2⟩
             have HB2 := hide (HB.out.trans (hb2.mono HB.out.size))
             clear hb2
             generalize (⟨(itoa v).toArray⟩ : ByteArray) = N at Hst ⊢
             have hq1 : (N.toList == s.toList) = true := by rw [Hst.out]; exact decide_eq_true Hq.out
             have hq2 : (N.toList != s.toList) = false := by rw [bne, hq1]; rfl))
        exact bodyPost_ret (v := .tuple #[.int .i64 v, .bool true]) (by simp [results, Tryz.results37, go_sem]) rfl ⟨by rw [Hr.out]; rfl, HB2.out⟩
      · have Hr : Hid (numIn s.data.toList lo hi = none) := hide (by rw [hnum, if_neg (fun h => hq h.2.2)])
        have Hq := hide hq
        clear hnum hq hin
        go_enter Tryz.func37, Tryz.ntmps37
        go_wp2_with fail
        refine Calls.mono (Tryz.strconv_Atoi_ok s (by omega) v Hv.out w) ?_
        rintro en w1 ⟨rfl, h1⟩
        have HB : Hid (Below w.heap.size w w1) := hide (by rcases h1 with rfl | ⟨t, rfl⟩; exact Below.refl _ _; exact bytesWorld_below _ _ _)
        clear h1
        go_wp2_with (first
          | (go_at_call 59; refine (i_within _ _ _ _).mono ?_; rintro e w' ⟨rfl, rfl⟩)
          | (go_at_call 27; refine (i_FormatInt v (by omega) (by omega) _ (HW.out.below HB.out).tab).mono ?_; rintro e w2 ⟨rfl, hb2⟩
             have HB2 := hide (HB.out.trans (hb2.mono HB.out.size))
             clear hb2
             generalize (⟨(itoa v).toArray⟩ : ByteArray) = N at Hst ⊢
             have hq1 : (N.toList == s.toList) = false := by rw [Hst.out]; exact decide_eq_false Hq.out
             have hq2 : (N.toList != s.toList) = true := by rw [bne, hq1]; rfl))
        exact bodyPost_ret (v := .tuple #[.int .i64 0, .bool false]) (by simp [results, Tryz.results37, go_sem]) rfl ⟨by rw [Hr.out]; rfl, HB2.out⟩
    · have hin2 := inR_no hin
      have Hr : Hid (numIn s.data.toList lo hi = none) := hide (by rw [hnum, if_neg (fun h => hin ⟨h.1, h.2.1⟩)])
      clear hnum hin
      go_enter Tryz.func37, Tryz.ntmps37
      go_wp2_with fail
      refine Calls.mono (Tryz.strconv_Atoi_ok s (by omega) v Hv.out w) ?_
      rintro en w1 ⟨rfl, h1⟩
      have HB : Hid (Below w.heap.size w w1) := hide (by rcases h1 with rfl | ⟨t, rfl⟩; exact Below.refl _ _; exact bytesWorld_below _ _ _)
      clear h1
      go_wp2_with (go_at_call 59; refine (i_within _ _ _ _).mono ?_; rintro e w' ⟨rfl, rfl⟩)
      exact bodyPost_ret (v := .tuple #[.int .i64 0, .bool false]) (by simp [results, Tryz.results37, go_sem]) rfl ⟨by rw [Hr.out]; rfl, HB.out⟩
  · have hbad : ∀ v, atoiAll s.data.toList ≠ .ok v := fun v h => hok ⟨v, h⟩
    have Hr := hide (numIn_bad hlo hhi hbad)
    have Hc := hide (i_Atoi_bad s hs w hW hbad)
    clear hbad hok hW
    go_enter Tryz.func37, Tryz.ntmps37
    go_wp2_with fail
    refine Calls.mono Hc.out ?_
    rintro en w1 ⟨x, t, p, rfl, hb⟩
    have Hb := hide hb
    clear hb
    go_wp2_with fail
    exact bodyPost_ret (v := .tuple #[.int .i64 0, .bool false]) (by simp [results, Tryz.results37, go_sem]) rfl ⟨by rw [Hr.out]; rfl, Hb.out⟩
theorem i_ParseInt (s : ByteArray) (hs : s.size ≤ 1048576) (w : World) (hW : NumW w) :
    Calls Tryz.prog 19 #[.string s] w fun e w' => e = .returned (readV (numIn s.data.toList (-999999999999) 999999999999)) ∧ Below w.heap.size w w' := by
  have Hc := hide (i_numberIn s (-999999999999) 999999999999 (by omega) (by omega) hs w hW)
  clear hW
  generalize numIn s.data.toList (-999999999999) 999999999999 = o at Hc ⊢
  go_enter Tryz.func19, Tryz.ntmps19
  go_wp2_with fail
  refine Calls.mono Hc.out ?_
  rintro en w1 ⟨rfl, hb⟩
  have Hb := hide hb
  clear hb
  unfold readV
  generalize hv : o.getD 0 = v
  generalize hbo : o.isSome = b
  go_wp2_with fail
  exact bodyPost_ret (v := .tuple #[.int .i64 v, .bool b]) (by simp [results, Tryz.results19, go_sem]) rfl ⟨by unfold readV; rw [hv, hbo], Hb.out⟩
theorem i_ParseNumber (s : ByteArray) (hs : s.size ≤ 1048576) (w : World) (hW : NumW w) :
    Calls Tryz.prog 24 #[.string s] w fun e w' => e = .returned (readV (numIn s.data.toList 0 999999)) ∧ Below w.heap.size w w' := by
  have Hc := hide (i_numberIn s 0 999999 (by omega) (by omega) hs w hW)
  clear hW
  generalize numIn s.data.toList 0 999999 = o at Hc ⊢
  go_enter Tryz.func24, Tryz.ntmps24
  go_wp2_with fail
  refine Calls.mono Hc.out ?_
  rintro en w1 ⟨rfl, hb⟩
  have Hb := hide hb
  clear hb
  unfold readV
  generalize hv : o.getD 0 = v
  generalize hbo : o.isSome = b
  go_wp2_with fail
  exact bodyPost_ret (v := .tuple #[.int .i64 v, .bool b]) (by simp [results, Tryz.results24, go_sem]) rfl ⟨by unfold readV; rw [hv, hbo], Hb.out⟩
theorem star_es : "*" ++ "errors.errorString" = "*errors.errorString" := by decide
theorem row_es (u : TypeId) (h : Tryz.prog.typeName? 3 u = some "*errors.errorString") : u = 123 :=
  typeName_ptr_named (nm := "errors.errorString") (by rw [star_es]; kernel_rfl) (by kernel_rfl) (by decide) u (by rw [star_es]; exact h)
theorem sent_of {n : String} {text : List UInt8} {r : List (String × DataW Unit)} {w : World} {g : Nat} (h : laidMet Tryz.prog ((n, .iface "*errors.errorString" (.ptr (.agg [.lit (.string text)]))) :: r) w)
    (hg : Tryz.prog.globalNamed n = some g) (ht : (Tryz.prog.globals[g]?).map (·.type) = some 68) : ∃ tp p, w.var? Tryz.prog n = some #[.iface tp p] := by
  obtain ⟨a, s, hv, _⟩ := laid_sentinel h hg ht Tryz.underlying68 row_es Tryz.underlying123 Tryz.underlying125 rfl rfl Tryz.underlying9 (by kernel_rfl) (by kernel_rfl)
  exact ⟨_, _, hv⟩
/-- The world that a row's list lays (its first two tables aside: pass h.tail.tail). -/
theorem numW_tail {w : World} (h2 : laidMet Tryz.prog [("internal/strconv.uint64pow10", tabData .u64 pow10Tab), ("strconv.ErrRange", Rows.laid_strconv_ErrRange), ("strconv.ErrSyntax", Rows.laid_strconv_ErrSyntax)] w) : NumW w :=
  ⟨tab_pow10 h2, sent_of (g := (Tryz.prog.globalNamed "strconv.ErrSyntax").getD 0) h2.tail.tail (by kernel_rfl) (by kernel_rfl), sent_of (g := (Tryz.prog.globalNamed "strconv.ErrRange").getD 0) h2.tail (by kernel_rfl) (by kernel_rfl)⟩
end Go.Proofs.YtbijabgokhmfhaaGreatDoor
