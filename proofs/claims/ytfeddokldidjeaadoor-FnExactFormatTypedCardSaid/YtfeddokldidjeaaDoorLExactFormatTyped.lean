/- The law FnExactFormatTyped: whatever the arguments, the call returns true and leaves the arguments as they were. Conditions: the listed variables of Go's library hold what its text lays (the card ties them). -/
import Derived.Test.YtfeddokldidjeaaDoorRows
import Derived.Test.YtfeddokldidjeaaDoorCards
import Derived.Test.YtfeddokldidjeaaDoorTie
import Derived.Test.YtfeddokldidjeaaDoorKit
import Derived.Test.YtfeddokldidjeaaDoorLaid
import Derived.Test.YtfeddokldidjeaaDoorFmtT
import Derived.SevenTiedAt
namespace Go.Proofs.YtfeddokldidjeaaDoor.fnExactFormatTyped
set_option maxRecDepth 100000
open Go.ChangeShapes Go.WideShapes Go.ChangeAt Go.RowKit
set_option linter.unusedVariables false

theorem own : ownKnob Tryd.prog.godebug = none := by kernel_rfl

theorem walk (w : World) (v : Int) (hv : (Lit.int .i64 v).wf = true) (k : Int) (hk : (Lit.int .i64 k).wf = true) (hL : laidMet Tryd.prog Rows.fnExactFormatTypedRow.laid w) (hsh : w.ShapedOpen Tryd.prog) :
    Calls Tryd.prog 7 #[.int .i64 v, .int .i64 k] w fun en w' => en = .returned (.bool true) ∧ Below w.heap.size w w' := by
  obtain ⟨h0, h1⟩ := wf_i64 hv
  have htab := tab_pow10 hL.tail.tail
  have HT : Hid (∀ W : World, Below w.heap.size w W → Lib.TabIs Tryd.prog W "internal/strconv.uint64pow10" .u64 Lib.pow10Tab) := hide (Lib.tabBelow_of_tabIs htab)
  clear hL hsh htab
  go_enter Tryd.func7, Tryd.ntmps7
  go_wp2_with fail
  refine Calls.mono (s_FormatTyped v k h0 h1 w) ?_
  rintro en w1 ⟨rfl, hb1⟩
  have Hb1 := hide hb1
  have Hc := hide (i_FormatTyped v k h0 h1 w1 (HT.out w1 hb1))
  clear hb1
  generalize fmtTyped v k = N at Hc ⊢
  go_wp2_with fail
  refine Calls.mono Hc.out ?_
  rintro en w2 ⟨rfl, hb2⟩
  have Hb2 := hide (Hb1.out.trans (hb2.mono Hb1.out.size))
  clear hb2
  go_wp2_with fail
  go_ret
  exact ⟨rfl, Hb2.out⟩

/-- The settled world, the listed variables laid: one start that fits. -/
noncomputable def low : Nat := (World.holding Tryd.prog default ⟨#[], #[], []⟩).heap.size
noncomputable def laidWorld (os : Os) : World :=
  { World.holding Tryd.prog os ⟨#[], #[], []⟩ with heap := ((((World.holding Tryd.prog os ⟨#[], #[], []⟩).heap.modify ((Tryd.prog.globalNamed "math/bits.deBruijn32tab").getD 0) (putG (dcells Rows.laid_math_bits_deBruijn32tab))).modify ((Tryd.prog.globalNamed "math/bits.deBruijn64tab").getD 0) (putG (dcells Rows.laid_math_bits_deBruijn64tab))).modify ((Tryd.prog.globalNamed "internal/strconv.uint64pow10").getD 0) (putG (dcells Rows.laid_internal_strconv_uint64pow10))) }
set_option maxRecDepth 100000 in
theorem laid_met (os : Os) (args : Array Value) : laidMet Tryd.prog Rows.fnExactFormatTypedRow.laid ((laidWorld os).forCall (fun _ _ => 0) ⟨#[], args, []⟩).memory :=
  laidMet_of_run' 8 (by kernel_rfl) (by kernel_rfl)
set_option maxRecDepth 100000 in
theorem lifted (os : Os) (started : os.Started) (H : Type) (enc : TypeId × Value → H) :
    ReturnsInHanded {} Tryd.checked os 7 .any (fun w args => (Rows.fnExactFormatTypedSpec.pre enc Tryd.prog Tryd.f7 Rows.fnExactFormatTypedRow.domain false w args ∧ laidMet Tryd.prog Rows.fnExactFormatTypedRow.laid w) ∧ sizedMet enc Tryd.prog Tryd.f7 (OpenSpec.ofChange Rows.fnExactFormatTypedSpec) false w args) (Rows.fnExactFormatTypedSpec.post enc Tryd.prog Tryd.f7 false true false false) := by
  refine returns_laid (C := Tryd.checked) (X := fun w _ => laidMet Tryd.prog Rows.fnExactFormatTypedRow.laid w) (fun _ _ _ hh h => h.of_heap hh) own started (by kernel_rfl) Tryd.func7
    (ChangeSpec.witness_at (enc := enc) (C := Tryd.checked) (os := os) (X := fun w _ => laidMet Tryd.prog Rows.fnExactFormatTypedRow.laid w) false (laidWorld os) #[.int .i64 0, .int .i64 0] 12 rfl (by kernel_rfl) (by kernel_rfl) (by kernel_rfl) (by kernel_rfl) (by kernel_rfl) (laid_met os _)) ?_
  intro W base args ds gs before hval0 hW hL hsh
  have hval : ∀ (j : Nat) t v, Tryd.f7.params[j]? = some t → args[j]? = some v → Value.okWide Tryd.prog W .any base t v := hval0
  have hW' := hW
  obtain ⟨p, q, hA0, hV, rfl, hfz, hnd⟩ := hW
  have hA : DataW.TrodAll enc Tryd.prog W 0 (fun _ => true) true Tryd.f7.params.toList args.toList ds p := hA0
  rw [Tryd.params7] at hA hval
  obtain ⟨v0, vs0, d0, ds0, p0, q0, hargs, rfl, rfl, h0, r0x⟩ := trodAll_cons hA
  obtain ⟨v1, vs1, d1, ds1, p1, q1, rfl, rfl, rfl, h1, r1x⟩ := trodAll_cons r0x
  obtain ⟨rfl, rfl, rfl⟩ := trodAll_nil r1x
  obtain rfl : args = #[v0, v1] := by cases args; simp_all
  obtain ⟨rfl, rfl⟩ := trodVars_none hV
  obtain ⟨a0, rfl, rfl, rfl, w0⟩ := open_int Tryd.underlying3 (hval 0 3 v0 rfl rfl) h0
  obtain ⟨a1, rfl, rfl, rfl, w1⟩ := open_int Tryd.underlying3 (hval 1 3 v1 rfl rfl) h1
  clear hA0 hval0
  refine (walk W a0 w0 a1 w1 hL hsh).mono fun e W' ⟨he, hb⟩ => ?_
  exact ⟨_, he, law_post (gs := []) hW' hb (by kernel_rfl) (by kernel_rfl) (by kernel_rfl) Tryd.underlying4 rfl rfl⟩

set_option maxHeartbeats 4000000 in
theorem over : Rows.fnExactFormatTypedRow.holds Tryd.pinned (OpenSpec.ofChange Rows.fnExactFormatTypedSpec) :=
  OpenClaim.holds_of_wide 7 Tryd.f7 rfl rfl rfl rfl rfl rfl rfl ⟨rfl, rfl, rfl, rfl, rfl⟩ rfl rfl rfl rfl rfl (by as_aux_lemma => kernel_rfl) Tryd.func7 (by as_aux_lemma => kernel_rfl)
    (of_decide_eq_true (by as_aux_lemma => kernel_rfl)) (by unfold Func.isWrapper; first | (rw [if_pos (by as_aux_lemma => decide +kernel)]; as_aux_lemma => kernel_rfl) | (rw [if_neg (by as_aux_lemma => decide +kernel)]; exact ⟨rfl, rfl⟩))
    (fun os started H enc _ => lifted os started H enc)

/-- The statement: the tied card. -/
theorem proved : Rows.FnExactFormatTypedCardSaid :=
  Claim7.holds_tied_plain_at .later [] [.data, .data, .data] true (true, "d91346e697681c365464e79f1b2e0ec05c6c2c2b2e3455f9ce9dae63aecd9907") true
    over (fun _ h => by cases h) (by kernel_rfl) (fun _ h => by cases h) fnExactFormatTyped_row_tie rfl ⟨rfl, rfl⟩ (by kernel_rfl) rfl
    (fun f fn hf hfn => by
      obtain rfl : f = 7 := Option.some.inj ((show Tryd.prog.funcNamed "loop.example/g00512/laws.FnExactFormatTyped" = some 7 by kernel_rfl).symm.trans hf) |>.symm
      obtain rfl : fn = Tryd.f7 := (Option.some.inj (Tryd.func7.symm.trans hfn)).symm
      exact ⟨by kernel_rfl, fun j t ht => by
        rw [Tryd.params7] at ht
        rcases j with _ | _ | j
        · obtain rfl := Option.some.inj ht
          kernel_rfl
        · obtain rfl := Option.some.inj ht
          kernel_rfl
        · simp at ht⟩)
    (by kernel_rfl)
#print axioms proved
end Go.Proofs.YtfeddokldidjeaaDoor.fnExactFormatTyped
