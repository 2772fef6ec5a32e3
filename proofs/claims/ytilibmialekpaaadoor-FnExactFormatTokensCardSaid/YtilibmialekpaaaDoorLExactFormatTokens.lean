/- The law FnExactFormatTokens: whatever the arguments, the call returns true and leaves the arguments as they were. Conditions: the listed variables of Go's library hold what its text lays (the card ties them). -/
import Derived.Test.YtilibmialekpaaaDoorRows
import Derived.Test.YtilibmialekpaaaDoorCards
import Derived.Test.YtilibmialekpaaaDoorTie
import Derived.Test.YtilibmialekpaaaDoorKit
import Derived.Test.YtilibmialekpaaaDoorLaid
import Derived.Test.YtilibmialekpaaaDoorFmtK
import Derived.Test.YtilibmialekpaaaDoorTknL
import Derived.SevenTiedAt
namespace Go.Proofs.YtilibmialekpaaaDoor.fnExactFormatTokens
set_option maxRecDepth 100000
open Go.ChangeShapes Go.WideShapes Go.ChangeAt Go.RowKit
set_option linter.unusedVariables false

theorem own : ownKnob Tryd.prog.godebug = none := by kernel_rfl

set_option maxRecDepth 100000 in
set_option maxHeartbeats 4000000 in
theorem walk (w : World) (D0 : Nat) (x0 : List Tkn) (v0 : Value) (F0 : List Nat) (h0 : SlR 4 (TknR D0) w x0 v0 F0) (hL : laidMet Tryd.prog Rows.fnExactFormatTokensRow.laid w) (hsh : w.ShapedOpen Tryd.prog) : Calls Tryd.prog 6 #[v0] w fun en w' => en = .returned (.bool true) ∧ Below w.heap.size w w' := by
  have htab := tab_pow10 hL.tail.tail
  have HT : Hid (∀ W : World, Below w.heap.size w W → Lib.TabIs Tryd.prog W "internal/strconv.uint64pow10" .u64 Lib.pow10Tab) := hide (Lib.tabBelow_of_tabIs htab)
  clear hL hsh htab
  have h0 := h0.mono (fun x cs F (hx : TknR D0 w x cs F) => hx.up (D0) (by omega))
  generalize D0 = D at h0
  have A0 := hide h0
  have LA0 := hide (h0.lt (TknR.good D))
  clear h0
  go_enter Tryd.func6, Tryd.ntmps6
  go_wp2_with fail
  refine Calls.mono (zs_Tkn D x0 v0 F0 _ 1048576 A0.out (by omega) (by omega)) ?_
  rintro en W1 ⟨⟨r0, rfl, hr⟩, hb⟩
  have z1 : w.heap.size ≤ W1.heap.size := hb.size
  have B1 := hide hb
  have Hw1 : Hid (Below w.heap.size w W1) := hide (hb)
  clear hb
  rcases hr with rfl | ⟨hr0, hq⟩
  · go_wp2_with fail
    go_ret
    exact ⟨rfl, Hw1.out⟩
  have hnn := sumBy_nonneg (bulkTkn_nonneg D) x0
  have Hb0 : Hid (x0.length ≤ 1048576 ∧ sumBy (bulkTkn D) x0 ≤ 1048576) := hide (by omega)
  have hn0 : x0.length ≤ 1048576 := by omega
  have hl0 : r0 ≤ 1048576 := by omega
  clear hq hnn
  go_wp2_with fail
  clear hr0 hl0
  refine Calls.mono (cs_Tkn D x0 v0 F0 _ (A0.out.below (TknR.good D) Hw1.out LA0.out) Hb0.out.1 Hb0.out.2) ?_
  rintro en W2 ⟨vp0, Gp0, rfl, hR, hf, hb⟩
  have z2 : W1.heap.size ≤ W2.heap.size := hb.size
  have B2 := hide hb
  have Hw2 : Hid (Below w.heap.size w W2) := hide (Hw1.out.trans (hb.mono Hw1.out.size))
  clear hb
  have Op0 := hide hR
  have Lp0 := hide hf.lt
  have Rp0 := hide hf
  clear hR hf
  go_wp2_with fail
  refine Calls.mono (s_FormatTokens D x0 _ Gp0 _ Op0.out hn0 Hb0.out.2) ?_
  rintro en W3 ⟨rfl, hb⟩
  have z3 : W2.heap.size ≤ W3.heap.size := hb.size
  have B3 := hide hb
  have Hw3 : Hid (Below w.heap.size w W3) := hide (Hw2.out.trans (hb.mono Hw2.out.size))
  clear hb
  go_wp2_with fail
  refine Calls.mono (cs_Tkn D x0 v0 F0 _ (A0.out.below (TknR.good D) Hw3.out LA0.out) Hb0.out.1 Hb0.out.2) ?_
  rintro en W4 ⟨vx0, Gx0, rfl, hR, hf, hb⟩
  have z4 : W3.heap.size ≤ W4.heap.size := hb.size
  have B4 := hide hb
  have Hw4 : Hid (Below w.heap.size w W4) := hide (Hw3.out.trans (hb.mono Hw3.out.size))
  clear hb
  have Ox0 := hide hR
  have Lx0 := hide hf.lt
  have Rx0 := hide hf
  clear hR hf
  go_wp2_with fail
  refine Calls.mono (i_FormatTokens D x0 _ Gx0 _ Ox0.out hn0 Hb0.out.2 (HT.out _ Hw4.out)) ?_
  rintro en W5 ⟨rfl, hb⟩
  have z5 : W4.heap.size ≤ W5.heap.size := hb.size
  have B5 := hide hb
  have Hw5 : Hid (Below w.heap.size w W5) := hide (Hw4.out.trans (hb.mono Hw4.out.size))
  clear hb
  go_wp2_with fail
  refine Calls.mono (cs_Tkn D x0 v0 F0 _ (A0.out.below (TknR.good D) Hw5.out LA0.out) Hb0.out.1 Hb0.out.2) ?_
  rintro en W6 ⟨vq0, Gq0, rfl, hR, hf, hb⟩
  have z6 : W5.heap.size ≤ W6.heap.size := hb.size
  have B6 := hide hb
  have Hw6 : Hid (Below w.heap.size w W6) := hide (Hw5.out.trans (hb.mono Hw5.out.size))
  clear hb
  have Oq0 := hide hR
  have Lq0 := hide hf.lt
  have Rq0 := hide hf
  clear hR hf
  go_wp2_with fail
  refine Calls.mono (es_Tkn D x0 _ _ Gx0 Gq0 _ (Ox0.out.below (TknR.good D) (below_step B5.out (Nat.le_refl _) B6.out) (fun b hb => Nat.lt_of_lt_of_le (Lx0.out b hb) (by omega))) Oq0.out) ?_
  rintro en W7 ⟨rfl, hb⟩
  have z7 : W6.heap.size ≤ W7.heap.size := hb.size
  have B7 := hide hb
  have Hw7 : Hid (Below w.heap.size w W7) := hide (Hw6.out.trans (hb.mono Hw6.out.size))
  clear hb
  go_wp2_with fail
  go_ret
  exact ⟨rfl, Hw7.out⟩

/-- The settled world, the listed variables laid: one start that fits. -/
noncomputable def low : Nat := (World.holding Tryd.prog default ⟨#[], #[], []⟩).heap.size
noncomputable def laidWorld (os : Os) : World :=
  { World.holding Tryd.prog os ⟨#[], #[], []⟩ with heap := ((((World.holding Tryd.prog os ⟨#[], #[], []⟩).heap.modify ((Tryd.prog.globalNamed "math/bits.deBruijn32tab").getD 0) (putG (dcells Rows.laid_math_bits_deBruijn32tab))).modify ((Tryd.prog.globalNamed "math/bits.deBruijn64tab").getD 0) (putG (dcells Rows.laid_math_bits_deBruijn64tab))).modify ((Tryd.prog.globalNamed "internal/strconv.uint64pow10").getD 0) (putG (dcells Rows.laid_internal_strconv_uint64pow10))) }
set_option maxRecDepth 100000 in
theorem laid_met (os : Os) (args : Array Value) : laidMet Tryd.prog Rows.fnExactFormatTokensRow.laid ((laidWorld os).forCall (fun _ _ => 0) ⟨#[], args, []⟩).memory :=
  laidMet_of_run' 8 (by kernel_rfl) (by kernel_rfl)
set_option maxRecDepth 100000 in
theorem lifted (os : Os) (started : os.Started) (H : Type) (enc : TypeId × Value → H) :
    ReturnsInHanded {} Tryd.checked os 6 .any (fun w args => (Rows.fnExactFormatTokensSpec.pre enc Tryd.prog Tryd.f6 Rows.fnExactFormatTokensRow.domain false w args ∧ laidMet Tryd.prog Rows.fnExactFormatTokensRow.laid w) ∧ sizedMet enc Tryd.prog Tryd.f6 (OpenSpec.ofChange Rows.fnExactFormatTokensSpec) false w args) (Rows.fnExactFormatTokensSpec.post enc Tryd.prog Tryd.f6 false true false false) := by
  refine returns_laid (C := Tryd.checked) (X := fun w _ => laidMet Tryd.prog Rows.fnExactFormatTokensRow.laid w) (fun _ _ _ hh h => h.of_heap hh) own started (by kernel_rfl) Tryd.func6
    (ChangeSpec.witness_at (enc := enc) (C := Tryd.checked) (os := os) (X := fun w _ => laidMet Tryd.prog Rows.fnExactFormatTokensRow.laid w) false (laidWorld os) #[.slice none 0 0] 12 rfl (by kernel_rfl) (by kernel_rfl) (by kernel_rfl) (by kernel_rfl) (by kernel_rfl) (laid_met os _)) ?_
  intro W base args ds gs before hval0 hW hL hsh
  have hval : ∀ (j : Nat) t v, Tryd.f6.params[j]? = some t → args[j]? = some v → Value.okWide Tryd.prog W .any base t v := hval0
  have hW' := hW
  obtain ⟨p, q, hA0, hV, rfl, hfz, hnd⟩ := hW
  have hA : DataW.TrodAll enc Tryd.prog W 0 (fun _ => true) true Tryd.f6.params.toList args.toList ds p := hA0
  rw [Tryd.params6] at hA hval
  obtain ⟨v0, vs0, d0, ds0, p0, q0, hargs, rfl, rfl, h0, r0x⟩ := trodAll_cons hA
  obtain ⟨rfl, rfl, rfl⟩ := trodAll_nil r0x
  obtain rfl : args = #[v0] := by cases args; simp_all
  obtain ⟨rfl, rfl⟩ := trodVars_none hV
  obtain ⟨D0, a0, F0, w0⟩ := open_TknL (hval 0 47 v0 rfl rfl) h0
  clear hA0 hval0
  refine (walk W D0 a0 v0 F0 w0 hL hsh).mono fun e W' ⟨he, hb⟩ => ?_
  exact ⟨_, he, law_post (gs := []) hW' hb (by kernel_rfl) (by kernel_rfl) (by kernel_rfl) Tryd.underlying4 rfl rfl⟩

set_option maxHeartbeats 4000000 in
theorem over : Rows.fnExactFormatTokensRow.holds Tryd.pinned (OpenSpec.ofChange Rows.fnExactFormatTokensSpec) :=
  OpenClaim.holds_of_wide 6 Tryd.f6 rfl rfl rfl rfl rfl rfl rfl ⟨rfl, rfl, rfl, rfl, rfl⟩ rfl rfl rfl rfl rfl (by as_aux_lemma => kernel_rfl) Tryd.func6 (by as_aux_lemma => kernel_rfl)
    (of_decide_eq_true (by as_aux_lemma => kernel_rfl)) (by unfold Func.isWrapper; first | (rw [if_pos (by as_aux_lemma => decide +kernel)]; as_aux_lemma => kernel_rfl) | (rw [if_neg (by as_aux_lemma => decide +kernel)]; exact ⟨rfl, rfl⟩))
    (fun os started H enc _ => lifted os started H enc)

/-- The statement: the tied card. -/
theorem proved : Rows.FnExactFormatTokensCardSaid :=
  Claim7.holds_tied_plain_at .later [] [.data, .data, .data] true (true, "bdf918a1d7c683ce6f5ba06d59302ea52027dabb11903bf30625ae58bf8d2de1") true
    over (fun _ h => by cases h) (by kernel_rfl) (fun _ h => by cases h) fnExactFormatTokens_row_tie rfl ⟨rfl, rfl⟩ (by kernel_rfl) rfl
    (fun f fn hf hfn => by
      obtain rfl : f = 6 := Option.some.inj ((show Tryd.prog.funcNamed "loop.example/g00512/laws.FnExactFormatTokens" = some 6 by kernel_rfl).symm.trans hf) |>.symm
      obtain rfl : fn = Tryd.f6 := (Option.some.inj (Tryd.func6.symm.trans hfn)).symm
      exact ⟨by kernel_rfl, fun j t ht => by
        rw [Tryd.params6] at ht
        rcases j with _ | j
        · obtain rfl := Option.some.inj ht
          kernel_rfl
        · simp at ht⟩)
    (by kernel_rfl)
#print axioms proved
end Go.Proofs.YtilibmialekpaaaDoor.fnExactFormatTokens
