/- The law FnNumbers: whatever the arguments, the call returns true and leaves the arguments as they were. Conditions: the listed variables of Go's library hold what its text lays (the card ties them). -/
import Derived.Test.YtfeddokldidjeaaDoorRows
import Derived.Test.YtfeddokldidjeaaDoorCards
import Derived.Test.YtfeddokldidjeaaDoorTie
import Derived.Test.YtfeddokldidjeaaDoorKit
import Derived.Test.YtfeddokldidjeaaDoorLaid
import Derived.Test.YtfeddokldidjeaaDoorParse
import Derived.Test.YtfeddokldidjeaaDoorDrawN
import Derived.SevenTiedAt
namespace Go.Proofs.YtfeddokldidjeaaDoor.fnNumbers
set_option maxRecDepth 100000
open Go.ChangeShapes Go.WideShapes Go.ChangeAt Go.RowKit Go.Lib
set_option linter.unusedVariables false

theorem own : ownKnob Tryd.prog.godebug = none := by kernel_rfl

theorem itoa_inj {a b : Int} (h : itoa a = itoa b) : a = b := by
  have h1 := atoi_itoa a
  rw [h, atoi_itoa] at h1
  exact (Option.some.inj h1).symm
theorem num_in {n : Int} (h : -999999999999 ≤ n ∧ n ≤ 999999999999) : numIn (itoa n) (-999999999999) 999999999999 = some n := numIn_iff.2 ⟨rfl, h.1, h.2⟩
theorem num_out {n : Int} (h : ¬ (-999999999999 ≤ n ∧ n ≤ 999999999999)) : numIn (itoa n) (-999999999999) 999999999999 = none :=
  numIn_none fun m e h0 h1 => h (by rw [← itoa_inj e]; exact ⟨h0, h1⟩)
theorem len_le {u : Nat} : nDigits u ≤ 12 ↔ u ≤ 999999999999 := by
  constructor
  · intro h
    have h1 := lt_pow_nDigits u
    have h2 : 10 ^ nDigits u ≤ 10 ^ 12 := Nat.pow_le_pow_right (by omega) h
    have h3 : (10 : Nat) ^ 12 = 1000000000000 := by decide
    omega
  · intro h
    exact nDigits_le_of_lt 12 u (by omega) (by have h3 : (10 : Nat) ^ 12 = 1000000000000 := by decide
                                               omega)
theorem num_len (n : Int) : ((⟨(itoa n).toArray⟩ : ByteArray).size = nDigits n.natAbs + (if n < 0 then 1 else 0)) := by
  have h : (itoa n).length = nDigits n.natAbs + (if n < 0 then 1 else 0) := by
    unfold itoa
    split
    · rename_i h
      rw [List.length_cons, decDigits_length]
      try rw [show (-n).toNat = n.natAbs by omega]
    · rename_i h
      rw [decDigits_length, Nat.add_zero]
      congr 1
      omega
  simpa [ByteArray.size] using h
set_option maxRecDepth 100000 in
set_option maxHeartbeats 4000000 in
theorem walk (w : World) (A : Option Addr) (n c : Nat) (zs : List Int) (l : n ≤ c) (m : c ≤ maxLen) (hr : Rd w w.heap.size A n (zs.map (Value.int .u8))) (hz : ∀ z ∈ zs, (Lit.int .u8 z).wf = true) (hL : laidMet Tryd.prog Rows.fnNumbersRow.laid w) (hsh : w.ShapedOpen Tryd.prog) :
    Calls Tryd.prog 8 #[.slice A n c] w fun e w' => e = .returned (.bool true) ∧ Below w.heap.size w w' := by
  have HW := hide (numW_of (show laidMet Tryd.prog Rows.fnExactParseIntRow.laid w from hL))
  clear hL hsh
  unfold maxLen at m
  by_cases hn : n ≤ 1048576
  case neg =>
    go_enter Tryd.func8, Tryd.ntmps8
    go_wp2_with (go_at_call 23; go_in)
    go_ret
    exact ⟨rfl, Below.refl _ _⟩
  have Hr := hide hr
  have Hz := hide hz
  clear hr hz
  go_enter Tryd.func8, Tryd.ntmps8
  go_wp2_with (go_at_call 23; go_in)
  refine Calls.mono (s_DrawFormatInt A n c zs w Hr.out Hz.out hn) ?_
  rintro e w1 ⟨x, rfl, hx0, hx1, hb1⟩
  have Hb1 := hide hb1
  clear hb1
  go_wp2_with fail
  refine Calls.mono (i_FormatInt x hx0 hx1 w1 (HW.out.below Hb1.out).tab) ?_
  rintro e w2 ⟨rfl, hb⟩
  have Hb2 := hide (Hb1.out.trans (hb.mono Hb1.out.size))
  clear hb
  have hnl := num_len x
  have Hsp := fun W => s_FormatInt x hx0 hx1 W
  have Hpi : Hid (∀ W : World, NumW W → Calls Tryd.prog 13 #[.string ⟨(itoa x).toArray⟩] W fun e w' => e = .returned (readV (numIn (itoa x) (-999999999999) 999999999999)) ∧ Below W.heap.size W w') := hide fun W hW => i_ParseInt ⟨(itoa x).toArray⟩ (by rw [num_len]; have := nDigits_le20 x.natAbs (by omega); split <;> omega) W hW
  have hnd := nDigits_le20 x.natAbs (by omega)
  have Hll := hide (len_le (u := x.natAbs))
  have Hok : Hid (readV (numIn (itoa x) (-999999999999) 999999999999) = .tuple #[.int .i64 (if (-999999999999 ≤ x ∧ x ≤ 999999999999) then x else 0), .bool (decide (-999999999999 ≤ x ∧ x ≤ 999999999999))]) := hide (by
    by_cases h : -999999999999 ≤ x ∧ x ≤ 999999999999
    · rw [num_in h, if_pos h, decide_eq_true h]; rfl
    · rw [num_out h, if_neg h, decide_eq_false h]; rfl)
  have HSp := hide Hsp
  clear Hsp
  generalize (⟨(itoa x).toArray⟩ : ByteArray) = N at hnl HSp Hpi ⊢
  generalize nDigits x.natAbs = K at hnl Hll hnd
  have hq1 : (N.toList == N.toList) = true := by simp
  have hq2 : (N.toList != N.toList) = false := by simp
  go_wp2_with fail
  refine Calls.mono (Hpi.out w2 (HW.out.below Hb2.out)) ?_
  rw [Hok.out]
  rintro e w3 ⟨rfl, hb⟩
  have Hb3 := hide (Hb2.out.trans (hb.mono Hb2.out.size))
  clear hb
  have hmid : ∃ (y : Int) (ok : Bool), y = (if (-999999999999 ≤ x ∧ x ≤ 999999999999) then x else 0) ∧ ok = decide (-999999999999 ≤ x ∧ x ≤ 999999999999) ∧ ((ok = true ∧ y = x ∧ ((N.size : Int) ≤ 12 ∨ (x < 0 ∧ (N.size : Int) ≤ 13))) ∨ (ok = false ∧ 12 < (N.size : Int) ∧ (x < 0 → 13 < (N.size : Int)))) := by
    refine ⟨_, _, rfl, rfl, ?_⟩
    have h2 := Hll.out
    by_cases h : -999999999999 ≤ x ∧ x ≤ 999999999999
    · left
      refine ⟨decide_eq_true h, if_pos h, ?_⟩
      by_cases hx : x < 0
      · rw [if_pos hx] at hnl; right; exact ⟨hx, by omega⟩
      · rw [if_neg hx] at hnl; left; omega
    · right
      refine ⟨decide_eq_false h, ?_⟩
      by_cases hx : x < 0
      · rw [if_pos hx] at hnl; exact ⟨by omega, fun _ => by omega⟩
      · rw [if_neg hx] at hnl; exact ⟨by omega, fun h => absurd h hx⟩
  obtain ⟨y, ok, hy, hok, hcase⟩ := hmid
  rw [← hy, ← hok]
  clear hy hok Hll Hok Hpi hnl
  have Hfin : Hid (∀ W : World, Below w.heap.size w W → ∀ t : ByteArray, t.size ≤ 32 → Calls Tryd.prog 15 #[.string t] W fun e w' => e = .returned (readV (numIn t.data.toList 0 999999)) ∧ Below W.heap.size W w') := hide fun W hW t ht => i_ParseNumber t (by omega) W (HW.out.below hW)
  go_wp2_with fail
  refine Calls.mono (HSp.out w3) ?_
  rintro e w4 ⟨rfl, hb⟩
  have Hb4 := hide (Hb3.out.trans (hb.mono Hb3.out.size))
  clear hb HSp
  have hN : N.size ≤ N.size := Nat.le_refl _
  rcases hcase with ⟨rfl, hyx, hlen | ⟨hx, hlen⟩⟩ | ⟨rfl, h1, h2⟩
  all_goals try (have hxy := hyx.symm; clear hyx; subst hxy)
  all_goals first
    | (by_cases h12 : (N.size : Int) ≤ 12
       all_goals
         by_cases hxn : x < 0
         all_goals first
           | (exfalso; omega)
           | (try have h13 := h2 hxn
              go_wp2_with fail
              refine Calls.mono (s_DrawParseNumber A n c zs w4 (Hr.out.below Hb4.out |>.more Hb4.out.size) Hz.out hn) ?_
              rintro e w5 ⟨t, rfl, ht, hb⟩
              have Hb5 := hide (Hb4.out.trans (hb.mono Hb4.out.size))
              clear hb
              have Hs := hide (s_ParseNumber t (by omega))
              have Hiff := hide (fun v => numIn_iff (s := t.data.toList) (lo := 0) (hi := 999999) (n := v))
              have Hc := hide (Hfin.out w5 Hb5.out t ht)
              cases ho : numIn t.data.toList 0 999999 with
              | none =>
                rw [ho] at Hc Hs
                unfold readV at Hc Hs
                simp only [Option.getD_none, Option.isSome_none] at Hc Hs
                clear ho
                go_wp2_with fail
                refine Calls.mono Hc.out ?_
                rintro e w6 ⟨rfl, hb⟩
                have Hb6 := hide (Hb5.out.trans (hb.mono Hb5.out.size))
                clear hb
                go_wp2_with fail
                refine Calls.mono (Hs.out w6) ?_
                rintro e w7 ⟨rfl, hb⟩
                have Hb7 := hide (Hb6.out.trans (hb.mono Hb6.out.size))
                clear hb
                go_wp2_with fail
                go_ret
                exact ⟨rfl, Hb7.out⟩
              | some v =>
                have hv := (Hiff.out v).1 ho
                obtain ⟨he, hv0, hv1⟩ := hv
                have He : Hid ((⟨(itoa v).toArray⟩ : ByteArray) = t) := hide (by rw [he])
                rw [ho] at Hc Hs
                unfold readV at Hc Hs
                simp only [Option.getD_some, Option.isSome_some] at Hc Hs
                have ht1 : (t.toList == t.toList) = true := by simp
                clear ho he
                go_wp2_with fail
                refine Calls.mono Hc.out ?_
                rintro e w6 ⟨rfl, hb⟩
                have Hb6 := hide (Hb5.out.trans (hb.mono Hb5.out.size))
                clear hb
                go_wp2_with fail
                refine Calls.mono (Hs.out w6) ?_
                rintro e w7 ⟨rfl, hb⟩
                have Hb7 := hide (Hb6.out.trans (hb.mono Hb6.out.size))
                clear hb
                go_wp2_with fail
                refine Calls.mono (i_FormatInt v (by omega) (by omega) w7 (HW.out.below Hb7.out).tab) ?_
                rintro e w8 ⟨rfl, hb⟩
                have Hb8 := hide (Hb7.out.trans (hb.mono Hb7.out.size))
                clear hb
                rw [He.out]
                go_wp2_with fail
                go_ret
                exact ⟨rfl, Hb8.out⟩))

/-- The settled world, the listed variables laid: one start that fits. -/
noncomputable def low : Nat := (World.holding Tryd.prog default ⟨#[], #[], []⟩).heap.size
noncomputable def laidWorld (os : Os) : World :=
  { World.holding Tryd.prog os ⟨#[Obj.cells #[.string ⟨#[118, 97, 108, 117, 101, 32, 111, 117, 116, 32, 111, 102, 32, 114, 97, 110, 103, 101]⟩] 107, Obj.cells #[.string ⟨#[105, 110, 118, 97, 108, 105, 100, 32, 115, 121, 110, 116, 97, 120]⟩] 107], #[], []⟩ with heap := ((((((World.holding Tryd.prog os ⟨#[Obj.cells #[.string ⟨#[118, 97, 108, 117, 101, 32, 111, 117, 116, 32, 111, 102, 32, 114, 97, 110, 103, 101]⟩] 107, Obj.cells #[.string ⟨#[105, 110, 118, 97, 108, 105, 100, 32, 115, 121, 110, 116, 97, 120]⟩] 107], #[], []⟩).heap.modify ((Tryd.prog.globalNamed "math/bits.deBruijn32tab").getD 0) (putG (dcells Rows.laid_math_bits_deBruijn32tab))).modify ((Tryd.prog.globalNamed "math/bits.deBruijn64tab").getD 0) (putG (dcells Rows.laid_math_bits_deBruijn64tab))).modify ((Tryd.prog.globalNamed "internal/strconv.uint64pow10").getD 0) (putG (dcells Rows.laid_internal_strconv_uint64pow10))).modify ((Tryd.prog.globalNamed "strconv.ErrRange").getD 0) (putG #[.iface 105 (.pointer (some ⟨low + 0, 0, none⟩))])).modify ((Tryd.prog.globalNamed "strconv.ErrSyntax").getD 0) (putG #[.iface 105 (.pointer (some ⟨low + 1, 0, none⟩))])) }
set_option maxRecDepth 100000 in
theorem laid_met (os : Os) (args : Array Value) : laidMet Tryd.prog Rows.fnNumbersRow.laid ((laidWorld os).forCall (fun _ _ => 0) ⟨#[], args, []⟩).memory :=
  laidMet_of_run' 8 (by kernel_rfl) (by kernel_rfl)
set_option maxRecDepth 100000 in
theorem lifted (os : Os) (started : os.Started) (H : Type) (enc : TypeId × Value → H) :
    ReturnsInHanded {} Tryd.checked os 8 .any (fun w args => (Rows.fnNumbersSpec.pre enc Tryd.prog Tryd.f8 Rows.fnNumbersRow.domain false w args ∧ laidMet Tryd.prog Rows.fnNumbersRow.laid w) ∧ sizedMet enc Tryd.prog Tryd.f8 (OpenSpec.ofChange Rows.fnNumbersSpec) false w args) (Rows.fnNumbersSpec.post enc Tryd.prog Tryd.f8 false true false false) := by
  refine returns_laid (C := Tryd.checked) (X := fun w _ => laidMet Tryd.prog Rows.fnNumbersRow.laid w) (fun _ _ _ hh h => h.of_heap hh) own started (by kernel_rfl) Tryd.func8
    (ChangeSpec.witness_at (enc := enc) (C := Tryd.checked) (os := os) (X := fun w _ => laidMet Tryd.prog Rows.fnNumbersRow.laid w) false (laidWorld os) #[.slice none 0 0] 12 rfl (by kernel_rfl) (by kernel_rfl) (by kernel_rfl) (by kernel_rfl) (by kernel_rfl) (laid_met os _)) ?_
  intro W base args ds gs before hval0 hW hL hsh
  have hval : ∀ (j : Nat) t v, Tryd.f8.params[j]? = some t → args[j]? = some v → Value.okWide Tryd.prog W .any base t v := hval0
  have hW' := hW
  obtain ⟨p, q, hA0, hV, rfl, hfz, hnd⟩ := hW
  have hA : DataW.TrodAll enc Tryd.prog W 0 (fun _ => true) true Tryd.f8.params.toList args.toList ds p := hA0
  rw [Tryd.params8] at hA hval
  obtain ⟨v0, vs0, d0, ds0, p0, q0, hargs, rfl, rfl, h0, r0x⟩ := trodAll_cons hA
  obtain ⟨rfl, rfl, rfl⟩ := trodAll_nil r0x
  obtain rfl : args = #[v0] := by cases args; simp_all
  obtain ⟨rfl, rfl⟩ := trodVars_none hV
  obtain ⟨A0, n0, c0, z0, rfl, l0, m0, r0, w0⟩ := open_intsR Tryd.underlying34 Tryd.underlying5 (by kernel_rfl) (hval 0 34 v0 rfl rfl) h0
  clear hA0 hval0
  refine (walk W A0 n0 c0 z0 l0 m0 r0 w0 hL hsh).mono fun e W' ⟨he, hb⟩ => ?_
  exact ⟨_, he, law_post (gs := []) hW' hb (by kernel_rfl) (by kernel_rfl) (by kernel_rfl) Tryd.underlying4 rfl rfl⟩

set_option maxHeartbeats 4000000 in
theorem over : Rows.fnNumbersRow.holds Tryd.pinned (OpenSpec.ofChange Rows.fnNumbersSpec) :=
  OpenClaim.holds_of_wide 8 Tryd.f8 rfl rfl rfl rfl rfl rfl rfl ⟨rfl, rfl, rfl, rfl, rfl⟩ rfl rfl rfl rfl rfl (by as_aux_lemma => kernel_rfl) Tryd.func8 (by as_aux_lemma => kernel_rfl)
    (of_decide_eq_true (by as_aux_lemma => kernel_rfl)) (by unfold Func.isWrapper; first | (rw [if_pos (by as_aux_lemma => decide +kernel)]; as_aux_lemma => kernel_rfl) | (rw [if_neg (by as_aux_lemma => decide +kernel)]; exact ⟨rfl, rfl⟩))
    (fun os started H enc _ => lifted os started H enc)

/-- The statement: the tied card. -/
theorem proved : Rows.FnNumbersCardSaid :=
  Claim7.holds_tied_plain_at .later [] [.data, .data, .data, .sentinel, .sentinel] true (true, "d91346e697681c365464e79f1b2e0ec05c6c2c2b2e3455f9ce9dae63aecd9907") true
    over (fun _ h => by cases h) (by kernel_rfl) (fun _ h => by cases h) fnNumbers_row_tie rfl ⟨rfl, rfl⟩ (by kernel_rfl) rfl
    (fun f fn hf hfn => by
      obtain rfl : f = 8 := Option.some.inj ((show Tryd.prog.funcNamed "loop.example/g00512/laws.FnNumbers" = some 8 by kernel_rfl).symm.trans hf) |>.symm
      obtain rfl : fn = Tryd.f8 := (Option.some.inj (Tryd.func8.symm.trans hfn)).symm
      exact ⟨by kernel_rfl, fun j t ht => by
        rw [Tryd.params8] at ht
        rcases j with _ | j
        · obtain rfl := Option.some.inj ht
          kernel_rfl
        · simp at ht⟩)
    (by kernel_rfl)
#print axioms proved
end Go.Proofs.YtfeddokldidjeaaDoor.fnNumbers
