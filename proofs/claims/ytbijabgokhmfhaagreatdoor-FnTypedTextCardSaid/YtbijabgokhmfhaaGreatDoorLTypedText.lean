/- The law FnTypedText: whatever the arguments, the call returns true and leaves the arguments as they were. Conditions: the listed variables of Go's library hold what its text lays (the card ties them). -/
import Derived.Test.YtbijabgokhmfhaaGreatDoorRows
import Derived.Test.YtbijabgokhmfhaaGreatDoorCards
import Derived.Test.YtbijabgokhmfhaaGreatDoorTie
import Derived.Test.YtbijabgokhmfhaaGreatDoorKit
import Derived.Test.YtbijabgokhmfhaaGreatDoorLaid
import Derived.Test.YtbijabgokhmfhaaGreatDoorTypD
import Derived.Test.YtbijabgokhmfhaaGreatDoorTypS
import Derived.Test.YtbijabgokhmfhaaGreatDoorTypI
import Derived.SevenTiedAt
namespace Go.Proofs.YtbijabgokhmfhaaGreatDoor.fnTypedText
set_option maxRecDepth 100000
open Go.ChangeShapes Go.WideShapes Go.ChangeAt Go.RowKit Go.Lib
set_option linter.unusedVariables false

theorem own : ownKnob Tryz.prog.godebug = none := by kernel_rfl

theorem valS_bd (s : ByteArray) (k : Int) : -9223372036854775808 ≤ valS s k ∧ valS s k ≤ 9223372036854775807 := by
  unfold valS
  (repeat' split)
  · exact numIn_bd _ _ _ (by decide) (by decide)
  · decide
  · decide
  · exact numIn_bd _ _ _ (by decide) (by decide)
  · decide
  · exact setS_bd _ _
  · decide
  · decide
theorem parseT_bd (s : ByteArray) (k : Int) : -9223372036854775808 ≤ (parseT s k).1 ∧ (parseT s k).1 ≤ 9223372036854775807 := by
  unfold parseT parseW
  split
  · exact valS_bd s k
  · decide
set_option maxRecDepth 100000 in
set_option maxHeartbeats 4000000 in
theorem walk (w : World) (A : Option Addr) (n c : Nat) (zs : List Int) (l : n ≤ c) (m : c ≤ maxLen) (hr : Rd w w.heap.size A n (zs.map (Value.int .u8))) (hz : ∀ z ∈ zs, (Lit.int .u8 z).wf = true) (hL : laidMet Tryz.prog Rows.fnTypedTextRow.laid w) (hsh : w.ShapedOpen Tryz.prog) :
    Calls Tryz.prog 4 #[.slice A n c] w fun e w' => e = .returned (.bool true) ∧ Below w.heap.size w w' := by
  have h4 := hL.tail.tail.tail.tail
  have hW : NumW w := ⟨tab_pow10 hL.tail.tail, sent_of (g := (Tryz.prog.globalNamed "strconv.ErrSyntax").getD 0) h4.tail (by kernel_rfl) (by kernel_rfl), sent_of (g := (Tryz.prog.globalNamed "strconv.ErrRange").getD 0) h4 (by kernel_rfl) (by kernel_rfl)⟩
  have HW := hide (fun (W : World) (h : Below w.heap.size w W) => hW.below h)
  have HT : Hid (∀ W : World, Below w.heap.size w W → Lib.TabIs Tryz.prog W "internal/strconv.uint64pow10" .u64 Lib.pow10Tab) := hide (Lib.tabBelow_of_tabIs hW.tab)
  have HSh : Hid (∀ W : World, Below w.heap.size w W → W.ShapedOpen Tryz.prog) := hide fun W h => shaped_below3 hsh h
  clear hL hsh h4 hW
  unfold maxLen at m
  by_cases hn : n ≤ 1048576
  case neg =>
    go_enter Tryz.func4, Tryz.ntmps4
    go_wp2_with (go_at_call 7; go_in)
    go_ret
    exact ⟨rfl, Below.refl _ _⟩
  have Hr := hide hr
  have Hz := hide hz
  clear hr hz
  go_enter Tryz.func4, Tryz.ntmps4
  go_wp2_with (go_at_call 7; go_in)
  refine Calls.mono (s_DrawFormatTyped A n c zs w Hr.out Hz.out hn) ?_
  rintro e w1 ⟨v, k, rfl, h0, h1, hb1⟩
  have Hb1 := hide hb1
  clear hb1
  go_wp2_with fail
  refine Calls.mono (i_FormatTyped v k h0 h1 w1 (HT.out w1 Hb1.out)) ?_
  rintro e w2 ⟨rfl, hb⟩
  have Hb2 := hide (Hb1.out.trans (hb.mono Hb1.out.size))
  clear hb
  have HN := hide (fmt_size k h0 h1)
  have Hs : Hid (∀ W : World, Calls Tryz.prog 10 #[.int .i64 v, .int .i64 k] W fun e w' => e = .returned (.string (fmtTyped v k)) ∧ Below W.heap.size W w') := hide fun W => s_FormatTyped v k h0 h1 W
  have Hp : Hid (∀ W : World, Below w.heap.size w W → Calls Tryz.prog 6 #[.string (fmtTyped v k), .int .i64 k] W fun e w' => e = .returned (tupT (if ofT v k = true then (v, true) else (0, false))) ∧ Below W.heap.size W w') := hide fun W h => by
    rw [← parseT_of]
    exact i_ParseTyped _ k (Nat.le_trans HN.out (by decide)) W (HW.out W h) (HSh.out W h)
  have Ho : Hid (∀ W : World, Calls Tryz.prog 11 #[.int .i64 v, .int .i64 k] W fun e w' => e = .returned (.bool (ofT v k)) ∧ W = w') := hide fun W => s_IsOfType v k W
  generalize ofT v k = t at Hp Ho
  generalize fmtTyped v k = N at Hs Hp HN ⊢
  have hN1 : (N.toList != N.toList) = false := by simp
  go_wp2_with fail
  refine Calls.mono (Hp.out w2 Hb2.out) ?_
  rintro e w3 ⟨rfl, hb⟩
  have Hb3 := hide (Hb2.out.trans (hb.mono Hb2.out.size))
  clear hb Hp
  cases t
  all_goals
    unfold tupT
    simp only [Bool.false_eq_true, if_true, if_false]
    have hv1 : (v != v) = false := by simp
    go_wp2_with fail
    refine Calls.mono (Hs.out w3) ?_
    rintro e w4 ⟨rfl, hb⟩
    have Hb4 := hide (Hb3.out.trans (hb.mono Hb3.out.size))
    clear hb
    go_wp2_with (go_at_call 11; refine (Ho.out _).mono ?_; rintro e w' ⟨rfl, rfl⟩)
    refine Calls.mono (s_DrawParseTyped A n c zs w4 (Hr.out.below Hb4.out |>.more Hb4.out.size) Hz.out hn) ?_
    rintro e w5 ⟨T, k2, rfl, hT, hb⟩
    have Hb5 := hide (Hb4.out.trans (hb.mono Hb4.out.size))
    have hT2 : T.size ≤ 1048576 := by omega
    have Hbd := hide (parseT_bd T k2)
    have Hi := hide (i_ParseTyped T k2 hT2 w5 (HW.out _ Hb5.out) (HSh.out _ Hb5.out))
    have Hsp : Hid (∀ W : World, Calls Tryz.prog 5 #[.string T, .int .i64 k2] W fun e w' => e = .returned (tupT (parseT T k2)) ∧ Below W.heap.size W w') := hide fun W => s_ParseTyped T k2 hT2 W
    have Htr := hide (fun h => parseT_true (s := T) (k := k2) h)
    clear hb hT hT2
    generalize parseT T k2 = r at Hbd Hi Hsp Htr
    obtain ⟨y, fine⟩ := r
    unfold tupT at Hi Hsp
    simp only at Hi Hsp Htr Hbd
    go_wp2_with fail
    refine Calls.mono Hi.out ?_
    rintro e w6 ⟨rfl, hb⟩
    have Hb6 := hide (Hb5.out.trans (hb.mono Hb5.out.size))
    clear hb
    go_wp2_with fail
    refine Calls.mono (Hsp.out w6) ?_
    rintro e w7 ⟨rfl, hb⟩
    have Hb7 := hide (Hb6.out.trans (hb.mono Hb6.out.size))
    clear hb
    cases fine
    · go_wp2_with fail
      go_ret
      exact ⟨rfl, Hb7.out⟩
    · have he := Htr.out rfl
      have Hf := hide (i_FormatTyped y k2 Hbd.out.1 Hbd.out.2 w7 (HT.out w7 Hb7.out))
      rw [he] at Hf
      clear he Htr
      have hT1 : (T.toList == T.toList) = true := by simp
      go_wp2_with fail
      refine Calls.mono Hf.out ?_
      rintro e w8 ⟨rfl, hb⟩
      have Hb8 := hide (Hb7.out.trans (hb.mono Hb7.out.size))
      clear hb
      go_wp2_with fail
      go_ret
      exact ⟨rfl, Hb8.out⟩

/-- The settled world, the listed variables laid: one start that fits. -/
noncomputable def low : Nat := (World.holding Tryz.prog default ⟨#[], #[], []⟩).heap.size
noncomputable def laidWorld (os : Os) : World :=
  { World.holding Tryz.prog os ⟨#[Obj.cells #[.string ⟨#[118, 97, 108, 117, 101, 32, 111, 117, 116, 32, 111, 102, 32, 114, 97, 110, 103, 101]⟩] 125, Obj.cells #[.string ⟨#[105, 110, 118, 97, 108, 105, 100, 32, 115, 121, 110, 116, 97, 120]⟩] 125], #[], []⟩ with heap := ((((((((World.holding Tryz.prog os ⟨#[Obj.cells #[.string ⟨#[118, 97, 108, 117, 101, 32, 111, 117, 116, 32, 111, 102, 32, 114, 97, 110, 103, 101]⟩] 125, Obj.cells #[.string ⟨#[105, 110, 118, 97, 108, 105, 100, 32, 115, 121, 110, 116, 97, 120]⟩] 125], #[], []⟩).heap.modify ((Tryz.prog.globalNamed "math/bits.deBruijn32tab").getD 0) (putG (dcells Rows.laid_math_bits_deBruijn32tab))).modify ((Tryz.prog.globalNamed "math/bits.deBruijn64tab").getD 0) (putG (dcells Rows.laid_math_bits_deBruijn64tab))).modify ((Tryz.prog.globalNamed "internal/strconv.uint64pow10").getD 0) (putG (dcells Rows.laid_internal_strconv_uint64pow10))).modify ((Tryz.prog.globalNamed "unicode/utf8.acceptRanges").getD 0) (putG (dcells Rows.laid_unicode_utf8_acceptRanges))).modify ((Tryz.prog.globalNamed "strconv.ErrRange").getD 0) (putG #[.iface 123 (.pointer (some ⟨low + 0, 0, none⟩))])).modify ((Tryz.prog.globalNamed "strconv.ErrSyntax").getD 0) (putG #[.iface 123 (.pointer (some ⟨low + 1, 0, none⟩))])).modify ((Tryz.prog.globalNamed "unicode/utf8.first").getD 0) (putG (dcells Rows.laid_unicode_utf8_first))) }
set_option maxRecDepth 100000 in
theorem laid_met (os : Os) (args : Array Value) : laidMet Tryz.prog Rows.fnTypedTextRow.laid ((laidWorld os).forCall (fun _ _ => 0) ⟨#[], args, []⟩).memory :=
  laidMet_of_run' 8 (by kernel_rfl) (by kernel_rfl)
set_option maxRecDepth 100000 in
theorem lifted (os : Os) (started : os.Started) (H : Type) (enc : TypeId × Value → H) :
    ReturnsInHanded {} Tryz.checked os 4 .any (fun w args => (Rows.fnTypedTextSpec.pre enc Tryz.prog Tryz.f4 Rows.fnTypedTextRow.domain false w args ∧ laidMet Tryz.prog Rows.fnTypedTextRow.laid w) ∧ sizedMet enc Tryz.prog Tryz.f4 (OpenSpec.ofChange Rows.fnTypedTextSpec) false w args) (Rows.fnTypedTextSpec.post enc Tryz.prog Tryz.f4 false true false false) := by
  refine returns_laid (C := Tryz.checked) (X := fun w _ => laidMet Tryz.prog Rows.fnTypedTextRow.laid w) (fun _ _ _ hh h => h.of_heap hh) own started (by kernel_rfl) Tryz.func4
    (ChangeSpec.witness_at (enc := enc) (C := Tryz.checked) (os := os) (X := fun w _ => laidMet Tryz.prog Rows.fnTypedTextRow.laid w) false (laidWorld os) #[.slice none 0 0] 12 rfl (by kernel_rfl) (by kernel_rfl) (by kernel_rfl) (by kernel_rfl) (by kernel_rfl) (laid_met os _)) ?_
  intro W base args ds gs before hval0 hW hL hsh
  have hval : ∀ (j : Nat) t v, Tryz.f4.params[j]? = some t → args[j]? = some v → Value.okWide Tryz.prog W .any base t v := hval0
  have hW' := hW
  obtain ⟨p, q, hA0, hV, rfl, hfz, hnd⟩ := hW
  have hA : DataW.TrodAll enc Tryz.prog W 0 (fun _ => true) true Tryz.f4.params.toList args.toList ds p := hA0
  rw [Tryz.params4] at hA hval
  obtain ⟨v0, vs0, d0, ds0, p0, q0, hargs, rfl, rfl, h0, r0x⟩ := trodAll_cons hA
  obtain ⟨rfl, rfl, rfl⟩ := trodAll_nil r0x
  obtain rfl : args = #[v0] := by cases args; simp_all
  obtain ⟨rfl, rfl⟩ := trodVars_none hV
  obtain ⟨A0, n0, c0, z0, rfl, l0, m0, r0, w0⟩ := open_intsR Tryz.underlying25 Tryz.underlying5 (by kernel_rfl) (hval 0 25 v0 rfl rfl) h0
  clear hA0 hval0
  refine (walk W A0 n0 c0 z0 l0 m0 r0 w0 hL hsh).mono fun e W' ⟨he, hb⟩ => ?_
  exact ⟨_, he, law_post (gs := []) hW' hb (by kernel_rfl) (by kernel_rfl) (by kernel_rfl) Tryz.underlying4 rfl rfl⟩

set_option maxHeartbeats 4000000 in
theorem over : Rows.fnTypedTextRow.holds Tryz.pinned (OpenSpec.ofChange Rows.fnTypedTextSpec) :=
  OpenClaim.holds_of_wide 4 Tryz.f4 rfl rfl rfl rfl rfl rfl rfl ⟨rfl, rfl, rfl, rfl, rfl⟩ rfl rfl rfl rfl rfl (by as_aux_lemma => kernel_rfl) Tryz.func4 (by as_aux_lemma => kernel_rfl)
    (of_decide_eq_true (by as_aux_lemma => kernel_rfl)) (by unfold Func.isWrapper; first | (rw [if_pos (by as_aux_lemma => decide +kernel)]; as_aux_lemma => kernel_rfl) | (rw [if_neg (by as_aux_lemma => decide +kernel)]; exact ⟨rfl, rfl⟩))
    (fun os started H enc _ => lifted os started H enc)

/-- The statement: the tied card. -/
theorem proved : Rows.FnTypedTextCardSaid :=
  Claim7.holds_tied_plain_at .later [] [.data, .data, .data, .data, .sentinel, .sentinel, .pinned] true (true, "aa46bc5bcdc3bbd462898308c0f15fb2070bb41c96ee744be73540bdee6a8d08") true
    over (fun _ h => by cases h) (by kernel_rfl) (fun _ h => by cases h) fnTypedText_row_tie rfl ⟨rfl, rfl⟩ (by kernel_rfl) rfl
    (fun f fn hf hfn => by
      obtain rfl : f = 4 := Option.some.inj ((show Tryz.prog.funcNamed "loop.example/g00512/laws.FnTypedText" = some 4 by kernel_rfl).symm.trans hf) |>.symm
      obtain rfl : fn = Tryz.f4 := (Option.some.inj (Tryz.func4.symm.trans hfn)).symm
      exact ⟨by kernel_rfl, fun j t ht => by
        rw [Tryz.params4] at ht
        rcases j with _ | j
        · obtain rfl := Option.some.inj ht
          kernel_rfl
        · simp at ht⟩)
    (by kernel_rfl)
#print axioms proved
end Go.Proofs.YtbijabgokhmfhaaGreatDoor.fnTypedText
