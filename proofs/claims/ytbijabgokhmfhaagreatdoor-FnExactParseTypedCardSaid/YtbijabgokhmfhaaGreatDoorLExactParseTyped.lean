/- The law FnExactParseTyped: whatever the arguments, the call returns true and leaves the arguments as they were. Conditions: the listed variables of Go's library hold what its text lays (the card ties them). -/
import Derived.Test.YtbijabgokhmfhaaGreatDoorRows
import Derived.Test.YtbijabgokhmfhaaGreatDoorCards
import Derived.Test.YtbijabgokhmfhaaGreatDoorTie
import Derived.Test.YtbijabgokhmfhaaGreatDoorKit
import Derived.Test.YtbijabgokhmfhaaGreatDoorLaid
import Derived.Test.YtbijabgokhmfhaaGreatDoorTypS
import Derived.Test.YtbijabgokhmfhaaGreatDoorTypI
import Derived.SevenTiedAt
namespace Go.Proofs.YtbijabgokhmfhaaGreatDoor.fnExactParseTyped
set_option maxRecDepth 100000
open Go.ChangeShapes Go.WideShapes Go.ChangeAt Go.RowKit
set_option linter.unusedVariables false

theorem own : ownKnob Tryz.prog.godebug = none := by kernel_rfl

theorem walk (w : World) (s : ByteArray) (hs0 : s.size ≤ maxLen) (k : Int) (hk : (Lit.int .i64 k).wf = true) (hL : laidMet Tryz.prog Rows.fnExactParseTypedRow.laid w) (hsh : w.ShapedOpen Tryz.prog) :
    Calls Tryz.prog 3 #[.string s, .int .i64 k] w fun en w' => en = .returned (.bool true) ∧ Below w.heap.size w w' := by
  have h4 := hL.tail.tail.tail.tail
  have HW : Hid (NumW w) := hide ⟨tab_pow10 hL.tail.tail, sent_of (g := (Tryz.prog.globalNamed "strconv.ErrSyntax").getD 0) h4.tail (by kernel_rfl) (by kernel_rfl), sent_of (g := (Tryz.prog.globalNamed "strconv.ErrRange").getD 0) h4 (by kernel_rfl) (by kernel_rfl)⟩
  clear h4
  have HSh : Hid (∀ W : World, Below w.heap.size w W → W.ShapedOpen Tryz.prog) := hide fun W h => shaped_below3 hsh h
  clear hL hsh
  unfold maxLen at hs0
  by_cases hbig : s.size ≤ 1048576
  case neg =>
    go_enter Tryz.func3, Tryz.ntmps3
    go_wp2_with fail
    go_ret
    exact ⟨rfl, Below.refl _ _⟩
  go_enter Tryz.func3, Tryz.ntmps3
  go_wp2_with fail
  refine Calls.mono (s_ParseTyped s k hbig w) ?_
  rintro en w1 ⟨rfl, hb1⟩
  have Hb1 := hide hb1
  have Hc := hide (i_ParseTyped s k hbig w1 (HW.out.below hb1) (HSh.out w1 hb1))
  clear hb1
  generalize parseT s k = o at Hc ⊢
  obtain ⟨v, b⟩ := o
  unfold tupT at Hc ⊢
  simp only at Hc ⊢
  go_wp2_with fail
  refine Calls.mono Hc.out ?_
  rintro en w2 ⟨rfl, hb2⟩
  have Hb2 := hide (Hb1.out.trans (hb2.mono Hb1.out.size))
  clear hb2
  go_wp2_with fail
  go_ret
  exact ⟨rfl, Hb2.out⟩

/-- The settled world, the listed variables laid: one start that fits. -/
noncomputable def low : Nat := (World.holding Tryz.prog default ⟨#[], #[], []⟩).heap.size
noncomputable def laidWorld (os : Os) : World :=
  { World.holding Tryz.prog os ⟨#[Obj.cells #[.string ⟨#[118, 97, 108, 117, 101, 32, 111, 117, 116, 32, 111, 102, 32, 114, 97, 110, 103, 101]⟩] 125, Obj.cells #[.string ⟨#[105, 110, 118, 97, 108, 105, 100, 32, 115, 121, 110, 116, 97, 120]⟩] 125], #[], []⟩ with heap := ((((((((World.holding Tryz.prog os ⟨#[Obj.cells #[.string ⟨#[118, 97, 108, 117, 101, 32, 111, 117, 116, 32, 111, 102, 32, 114, 97, 110, 103, 101]⟩] 125, Obj.cells #[.string ⟨#[105, 110, 118, 97, 108, 105, 100, 32, 115, 121, 110, 116, 97, 120]⟩] 125], #[], []⟩).heap.modify ((Tryz.prog.globalNamed "math/bits.deBruijn32tab").getD 0) (putG (dcells Rows.laid_math_bits_deBruijn32tab))).modify ((Tryz.prog.globalNamed "math/bits.deBruijn64tab").getD 0) (putG (dcells Rows.laid_math_bits_deBruijn64tab))).modify ((Tryz.prog.globalNamed "internal/strconv.uint64pow10").getD 0) (putG (dcells Rows.laid_internal_strconv_uint64pow10))).modify ((Tryz.prog.globalNamed "unicode/utf8.acceptRanges").getD 0) (putG (dcells Rows.laid_unicode_utf8_acceptRanges))).modify ((Tryz.prog.globalNamed "strconv.ErrRange").getD 0) (putG #[.iface 123 (.pointer (some ⟨low + 0, 0, none⟩))])).modify ((Tryz.prog.globalNamed "strconv.ErrSyntax").getD 0) (putG #[.iface 123 (.pointer (some ⟨low + 1, 0, none⟩))])).modify ((Tryz.prog.globalNamed "unicode/utf8.first").getD 0) (putG (dcells Rows.laid_unicode_utf8_first))) }
set_option maxRecDepth 100000 in
theorem laid_met (os : Os) (args : Array Value) : laidMet Tryz.prog Rows.fnExactParseTypedRow.laid ((laidWorld os).forCall (fun _ _ => 0) ⟨#[], args, []⟩).memory :=
  laidMet_of_run' 8 (by kernel_rfl) (by kernel_rfl)
set_option maxRecDepth 100000 in
theorem lifted (os : Os) (started : os.Started) (H : Type) (enc : TypeId × Value → H) :
    ReturnsInHanded {} Tryz.checked os 3 .any (fun w args => (Rows.fnExactParseTypedSpec.pre enc Tryz.prog Tryz.f3 Rows.fnExactParseTypedRow.domain false w args ∧ laidMet Tryz.prog Rows.fnExactParseTypedRow.laid w) ∧ sizedMet enc Tryz.prog Tryz.f3 (OpenSpec.ofChange Rows.fnExactParseTypedSpec) false w args) (Rows.fnExactParseTypedSpec.post enc Tryz.prog Tryz.f3 false true false false) := by
  refine returns_laid (C := Tryz.checked) (X := fun w _ => laidMet Tryz.prog Rows.fnExactParseTypedRow.laid w) (fun _ _ _ hh h => h.of_heap hh) own started (by kernel_rfl) Tryz.func3
    (ChangeSpec.witness_at (enc := enc) (C := Tryz.checked) (os := os) (X := fun w _ => laidMet Tryz.prog Rows.fnExactParseTypedRow.laid w) false (laidWorld os) #[.string ByteArray.empty, .int .i64 0] 12 rfl (by kernel_rfl) (by kernel_rfl) (by kernel_rfl) (by kernel_rfl) (by kernel_rfl) (laid_met os _)) ?_
  intro W base args ds gs before hval0 hW hL hsh
  have hval : ∀ (j : Nat) t v, Tryz.f3.params[j]? = some t → args[j]? = some v → Value.okWide Tryz.prog W .any base t v := hval0
  have hW' := hW
  obtain ⟨p, q, hA0, hV, rfl, hfz, hnd⟩ := hW
  have hA : DataW.TrodAll enc Tryz.prog W 0 (fun _ => true) true Tryz.f3.params.toList args.toList ds p := hA0
  rw [Tryz.params3] at hA hval
  obtain ⟨v0, vs0, d0, ds0, p0, q0, hargs, rfl, rfl, h0, r0x⟩ := trodAll_cons hA
  obtain ⟨v1, vs1, d1, ds1, p1, q1, rfl, rfl, rfl, h1, r1x⟩ := trodAll_cons r0x
  obtain ⟨rfl, rfl, rfl⟩ := trodAll_nil r1x
  obtain rfl : args = #[v0, v1] := by cases args; simp_all
  obtain ⟨rfl, rfl⟩ := trodVars_none hV
  obtain ⟨a0, rfl, rfl, rfl, w0⟩ := ChangeMaps.open_string Tryz.underlying9 (hval 0 9 v0 rfl rfl) h0
  obtain ⟨a1, rfl, rfl, rfl, w1⟩ := open_int Tryz.underlying3 (hval 1 3 v1 rfl rfl) h1
  clear hA0 hval0
  refine (walk W a0 w0 a1 w1 hL hsh).mono fun e W' ⟨he, hb⟩ => ?_
  exact ⟨_, he, law_post (gs := []) hW' hb (by kernel_rfl) (by kernel_rfl) (by kernel_rfl) Tryz.underlying4 rfl rfl⟩

set_option maxHeartbeats 4000000 in
theorem over : Rows.fnExactParseTypedRow.holds Tryz.pinned (OpenSpec.ofChange Rows.fnExactParseTypedSpec) :=
  OpenClaim.holds_of_wide 3 Tryz.f3 rfl rfl rfl rfl rfl rfl rfl ⟨rfl, rfl, rfl, rfl, rfl⟩ rfl rfl rfl rfl rfl (by as_aux_lemma => kernel_rfl) Tryz.func3 (by as_aux_lemma => kernel_rfl)
    (of_decide_eq_true (by as_aux_lemma => kernel_rfl)) (by unfold Func.isWrapper; first | (rw [if_pos (by as_aux_lemma => decide +kernel)]; as_aux_lemma => kernel_rfl) | (rw [if_neg (by as_aux_lemma => decide +kernel)]; exact ⟨rfl, rfl⟩))
    (fun os started H enc _ => lifted os started H enc)

/-- The statement: the tied card. -/
theorem proved : Rows.FnExactParseTypedCardSaid :=
  Claim7.holds_tied_plain_at .later [] [.data, .data, .data, .data, .sentinel, .sentinel, .pinned] true (true, "aa46bc5bcdc3bbd462898308c0f15fb2070bb41c96ee744be73540bdee6a8d08") true
    over (fun _ h => by cases h) (by kernel_rfl) (fun _ h => by cases h) fnExactParseTyped_row_tie rfl ⟨rfl, rfl⟩ (by kernel_rfl) rfl
    (fun f fn hf hfn => by
      obtain rfl : f = 3 := Option.some.inj ((show Tryz.prog.funcNamed "loop.example/g00512/laws.FnExactParseTyped" = some 3 by kernel_rfl).symm.trans hf) |>.symm
      obtain rfl : fn = Tryz.f3 := (Option.some.inj (Tryz.func3.symm.trans hfn)).symm
      exact ⟨by kernel_rfl, fun j t ht => by
        rw [Tryz.params3] at ht
        rcases j with _ | _ | j
        · obtain rfl := Option.some.inj ht
          kernel_rfl
        · obtain rfl := Option.some.inj ht
          kernel_rfl
        · simp at ht⟩)
    (by kernel_rfl)
#print axioms proved
end Go.Proofs.YtbijabgokhmfhaaGreatDoor.fnExactParseTyped
