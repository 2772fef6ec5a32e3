/- The law FnSplit: whatever the arguments, the call returns true and leaves the arguments as they were. Conditions: the listed variables of Go's library hold what its text lays (the card ties them). -/
import Derived.Test.YtfeddokldidjeaaDoorRows
import Derived.Test.YtfeddokldidjeaaDoorCards
import Derived.Test.YtfeddokldidjeaaDoorTie
import Derived.Test.YtfeddokldidjeaaDoorKit
import Derived.Test.YtfeddokldidjeaaDoorLaid
import Derived.Test.YtfeddokldidjeaaDoorSplitL
import Derived.SevenTiedAt
namespace Go.Proofs.YtfeddokldidjeaaDoor.fnSplit
set_option maxRecDepth 100000
open Go.ChangeShapes Go.WideShapes Go.ChangeAt Go.RowKit
set_option linter.unusedVariables false

theorem own : ownKnob Tryd.prog.godebug = none := by kernel_rfl

theorem bulkS_le {m : Nat} : ∀ l : List ByteArray, (∀ x ∈ l, x.size ≤ m) → bulkS l ≤ (m : Int) * l.length
  | [], _ => by simp [bulkS]
  | a :: r, h => by
    have h1 := bulkS_le r (fun x hx => h x (by simp [hx]))
    have h2 := h a (by simp)
    simp only [List.length_cons]
    show (a.size : Int) + bulkS r ≤ _
    rw [Int.natCast_add, Int.mul_add]
    omega
set_option maxRecDepth 100000 in
set_option maxHeartbeats 2000000 in
theorem walk (w : World) (A : Option Addr) (n c : Nat) (zs : List Int) (l : n ≤ c) (m : c ≤ maxLen) (hr : Rd w w.heap.size A n (zs.map (Value.int .u8))) (hz : ∀ z ∈ zs, (Lit.int .u8 z).wf = true) (hL : laidMet Tryd.prog Rows.fnSplitRow.laid w) (hsh : w.ShapedOpen Tryd.prog) :
    Calls Tryd.prog 9 #[.slice A n c] w fun e w' => e = .returned (.bool true) ∧ Below w.heap.size w w' := by
  clear hL
  have Hsh := hide hsh
  clear hsh
  unfold maxLen at m
  by_cases hn : n ≤ 1048576
  case neg =>
    go_enter Tryd.func9, Tryd.ntmps9
    go_wp2_with (go_at_call 23; go_in)
    go_ret
    exact ⟨rfl, Below.refl _ _⟩
  go_enter Tryd.func9, Tryd.ntmps9
  go_wp2_with (go_at_call 23; go_in)
  refine Calls.mono (s_DrawSplitByte A n c zs w hr hz hn) ?_
  rintro e w1 ⟨s, b, rfl, hs, hb1⟩
  have Hb1 := hide hb1
  clear hb1 hr hz
  go_wp2_with fail
  refine Calls.mono (i_SplitByte 0 s b (by omega) w1 (shaped_below Hsh.out Hb1.out)) ?_
  rintro e w2 ⟨v, G, rfl, hR, hf, hb⟩
  obtain ⟨A1, c1, rfl, hlc, hcm⟩ := hR.form
  unfold maxLen at hcm
  have hle := splitS_le s b
  have Hsz := hide (splitS_size s b)
  have Hb2 := hide (Hb1.out.trans (hb.mono Hb1.out.size))
  have HLt := hide hf.lt
  have HR := hide hR
  have hconv := run_one b w2
  have hBA : Below w2.heap.size w2 (w2.alloc (.cells #[.int .u8 (b.toNat : Int)] 5)) := (Below.refl _ _).alloc (Nat.le_refl _) _
  have Hj := hide (i_Join 0 (splitS s b) _ G _ (HR.out.below (StrR.good 0) hBA HLt.out) ⟨#[b]⟩ (show 1 ≤ 1048576 by decide) (by omega) (by have h := bulkS_le (m := 32) (splitS s b) (fun x hx => Nat.le_trans (Hsz.out x hx) hs); omega))
  have Hjs : Hid ((⟨(joinL (splitS s b) ⟨#[b]⟩).toArray⟩ : ByteArray) = s) := hide (by rw [join_split])
  have Hjb := hide hBA
  have hbb := byte_lt b
  clear hR hf hb hBA
  go_wp2_with fail
  refine Calls.mono Hj.out ?_
  rintro e w3 ⟨rfl, hb⟩
  have Hb3 := hide (Hb2.out.trans ((Hjb.out.trans (hb.mono Hjb.out.size)).mono Hb2.out.size))
  have HB23 := hide (Hjb.out.trans (hb.mono Hjb.out.size))
  rw [Hjs.out]
  have hq1 : (s.toList == s.toList) = true := by simp
  have hq2 : (s.toList != s.toList) = false := by simp
  clear hb hconv
  go_wp2_with fail
  refine Calls.mono (s_SplitByte 0 s b (by omega) w3) ?_
  rintro e w4 ⟨v4, G4, rfl, hR, _, hb⟩
  obtain ⟨A4, c4, rfl, _, _⟩ := hR.form
  have Hb4 := hide (Hb3.out.trans (hb.mono Hb3.out.size))
  have HB24 := hide (HB23.out.trans (hb.mono HB23.out.size))
  have hq3 : (((splitS s b).length : Int) != ((splitS s b).length : Int)) = false := by simp
  clear hR hb hq1 hq2
  go_wp2_with fail
  go_loopw [6] (fun i wr => ∃ j : Nat, j ≤ (splitS s b).length ∧ i = .int .i64 j ∧ Hid (Below w2.heap.size w2 wr)) (fun i _ => (splitS s b).length - (RowKit.intOf i).toNat)
  case atStart => exact ⟨0, by omega, rfl, HB24⟩
  case round =>
    obtain ⟨j, hj, rfl, Hb⟩ := hrel
    by_cases hlt : j < (splitS s b).length
    · have hX : (splitS s b)[j]? = some (splitS s b)[j] := List.getElem?_eq_getElem hlt
      generalize (splitS s b)[j] = X at hX
      obtain ⟨bk, off, cs, Fk, hA, _, hbF, _, _, hcat, hRx⟩ := SlR.get (StrR.good 0) (HR.out.below (StrR.good 0) Hb.out HLt.out) hX
      subst hA
      obtain ⟨rfl, _, _⟩ := hRx
      have e0 : wr.cell? ⟨bk, off + j, none⟩ = some (.string X) := by
        have := hcat 0 _ rfl
        rwa [Nat.mul_one, Nat.add_zero] at this
      have Hone := hide (split_part (List.mem_of_getElem? hX))
      have hXs := Hsz.out X (List.mem_of_getElem? hX)
      have hj0 : (0 : Int) ≤ (j : Int) := by omega
      have hj1 : (j : Int) < ((splitS s b).length : Int) := by omega
      have Hbw := hide (Hb2.out.trans (Hb.out.mono Hb2.out.size))
      clear hX hcat hbF
      go_wp2_with fail
      refine Calls.mono (i_SplitByte 0 X b (by omega) wr (shaped_below Hsh.out Hbw.out)) ?_
      rintro e w5 ⟨v5, G5, rfl, hR, _, hb⟩
      obtain ⟨A5, c5, rfl, _, _⟩ := hR.form
      rw [Hone.out]
      have Hb5 := hide (Hb.out.trans (hb.mono Hb.out.size))
      clear hR hb
      go_wp2_with fail
      go_roundw
      case rel => exact ⟨j + 1, by omega, by go_num, Hb5⟩
      case measure => simp [RowKit.intOf]; omega
    · have Hbw := hide (Hb2.out.trans (Hb.out.mono Hb2.out.size))
      go_wp2_with fail
      go_ret
      exact ⟨rfl, Hbw.out⟩

/-- The settled world, the listed variables laid: one start that fits. -/
noncomputable def low : Nat := (World.holding Tryd.prog default ⟨#[], #[], []⟩).heap.size
noncomputable def laidWorld (os : Os) : World :=
  { World.holding Tryd.prog os ⟨#[], #[], []⟩ with heap := (((World.holding Tryd.prog os ⟨#[], #[], []⟩).heap.modify ((Tryd.prog.globalNamed "unicode/utf8.acceptRanges").getD 0) (putG (dcells Rows.laid_unicode_utf8_acceptRanges))).modify ((Tryd.prog.globalNamed "unicode/utf8.first").getD 0) (putG (dcells Rows.laid_unicode_utf8_first))) }
set_option maxRecDepth 100000 in
theorem laid_met (os : Os) (args : Array Value) : laidMet Tryd.prog Rows.fnSplitRow.laid ((laidWorld os).forCall (fun _ _ => 0) ⟨#[], args, []⟩).memory :=
  laidMet_of_run' 8 (by kernel_rfl) (by kernel_rfl)
set_option maxRecDepth 100000 in
theorem lifted (os : Os) (started : os.Started) (H : Type) (enc : TypeId × Value → H) :
    ReturnsInHanded {} Tryd.checked os 9 .any (fun w args => (Rows.fnSplitSpec.pre enc Tryd.prog Tryd.f9 Rows.fnSplitRow.domain false w args ∧ laidMet Tryd.prog Rows.fnSplitRow.laid w) ∧ sizedMet enc Tryd.prog Tryd.f9 (OpenSpec.ofChange Rows.fnSplitSpec) false w args) (Rows.fnSplitSpec.post enc Tryd.prog Tryd.f9 false true false false) := by
  refine returns_laid (C := Tryd.checked) (X := fun w _ => laidMet Tryd.prog Rows.fnSplitRow.laid w) (fun _ _ _ hh h => h.of_heap hh) own started (by kernel_rfl) Tryd.func9
    (ChangeSpec.witness_at (enc := enc) (C := Tryd.checked) (os := os) (X := fun w _ => laidMet Tryd.prog Rows.fnSplitRow.laid w) false (laidWorld os) #[.slice none 0 0] 12 rfl (by kernel_rfl) (by kernel_rfl) (by kernel_rfl) (by kernel_rfl) (by kernel_rfl) (laid_met os _)) ?_
  intro W base args ds gs before hval0 hW hL hsh
  have hval : ∀ (j : Nat) t v, Tryd.f9.params[j]? = some t → args[j]? = some v → Value.okWide Tryd.prog W .any base t v := hval0
  have hW' := hW
  obtain ⟨p, q, hA0, hV, rfl, hfz, hnd⟩ := hW
  have hA : DataW.TrodAll enc Tryd.prog W 0 (fun _ => true) true Tryd.f9.params.toList args.toList ds p := hA0
  rw [Tryd.params9] at hA hval
  obtain ⟨v0, vs0, d0, ds0, p0, q0, hargs, rfl, rfl, h0, r0x⟩ := trodAll_cons hA
  obtain ⟨rfl, rfl, rfl⟩ := trodAll_nil r0x
  obtain rfl : args = #[v0] := by cases args; simp_all
  obtain ⟨rfl, rfl⟩ := trodVars_none hV
  obtain ⟨A0, n0, c0, z0, rfl, l0, m0, r0, w0⟩ := open_intsR Tryd.underlying34 Tryd.underlying5 (by kernel_rfl) (hval 0 34 v0 rfl rfl) h0
  clear hA0 hval0
  refine (walk W A0 n0 c0 z0 l0 m0 r0 w0 hL hsh).mono fun e W' ⟨he, hb⟩ => ?_
  exact ⟨_, he, law_post (gs := []) hW' hb (by kernel_rfl) (by kernel_rfl) (by kernel_rfl) Tryd.underlying4 rfl rfl⟩

set_option maxHeartbeats 4000000 in
theorem over : Rows.fnSplitRow.holds Tryd.pinned (OpenSpec.ofChange Rows.fnSplitSpec) :=
  OpenClaim.holds_of_wide 9 Tryd.f9 rfl rfl rfl rfl rfl rfl rfl ⟨rfl, rfl, rfl, rfl, rfl⟩ rfl rfl rfl rfl rfl (by as_aux_lemma => kernel_rfl) Tryd.func9 (by as_aux_lemma => kernel_rfl)
    (of_decide_eq_true (by as_aux_lemma => kernel_rfl)) (by unfold Func.isWrapper; first | (rw [if_pos (by as_aux_lemma => decide +kernel)]; as_aux_lemma => kernel_rfl) | (rw [if_neg (by as_aux_lemma => decide +kernel)]; exact ⟨rfl, rfl⟩))
    (fun os started H enc _ => lifted os started H enc)

/-- The statement: the tied card. -/
theorem proved : Rows.FnSplitCardSaid :=
  Claim7.holds_tied_plain_at .later [] [.data, .pinned] true (true, "d91346e697681c365464e79f1b2e0ec05c6c2c2b2e3455f9ce9dae63aecd9907") true
    over (fun _ h => by cases h) (by kernel_rfl) (fun _ h => by cases h) fnSplit_row_tie rfl ⟨rfl, rfl⟩ (by kernel_rfl) rfl
    (fun f fn hf hfn => by
      obtain rfl : f = 9 := Option.some.inj ((show Tryd.prog.funcNamed "loop.example/g00512/laws.FnSplit" = some 9 by kernel_rfl).symm.trans hf) |>.symm
      obtain rfl : fn = Tryd.f9 := (Option.some.inj (Tryd.func9.symm.trans hfn)).symm
      exact ⟨by kernel_rfl, fun j t ht => by
        rw [Tryd.params9] at ht
        rcases j with _ | j
        · obtain rfl := Option.some.inj ht
          kernel_rfl
        · simp at ht⟩)
    (by kernel_rfl)
#print axioms proved
end Go.Proofs.YtfeddokldidjeaaDoor.fnSplit
