/- The law FnTokens: whatever the arguments, the call returns true and leaves the arguments as they were. Conditions: the listed variables of Go's library hold what its text lays (the card ties them). -/
import Derived.Test.YtigdciegnpejoaaDoorRows
import Derived.Test.YtigdciegnpejoaaDoorCards
import Derived.Test.YtigdciegnpejoaaDoorTie
import Derived.Test.YtigdciegnpejoaaDoorKit
import Derived.Test.YtigdciegnpejoaaDoorLaid
import Derived.Test.YtigdciegnpejoaaDoorTokE
import Derived.Test.YtigdciegnpejoaaDoorToks
import Derived.SevenTiedAt
namespace Go.Proofs.YtigdciegnpejoaaDoor.fnTokens
set_option maxRecDepth 100000
open Go.ChangeShapes Go.WideShapes Go.ChangeAt Go.RowKit
set_option linter.unusedVariables false

theorem own : ownKnob Tryd.prog.godebug = none := by kernel_rfl

theorem good_ok {t : Tkn} (h : goodT t) (h0 : 0 ≤ t.off) (h1 : t.off ≤ 1048576) : t.ok ∧ t.text.size ≤ 32 := by
  have e1 : IntKind.i64.min = -9223372036854775808 := rfl
  have e2 : IntKind.i64.max = 9223372036854775807 := rfl
  have hw : ∀ {z : Int}, 0 ≤ z → z ≤ 1048576 → (Lit.int .i64 z).wf = true := fun {z} a b => by simp [Lit.wf, e1, e2]; omega
  rcases h with ⟨a1, a2, _, _, a5⟩ | ⟨a1, a2, a3, a4⟩ | ⟨a1, a2, a3⟩
  · exact ⟨⟨hw (by omega) (by omega), hw (by omega) (by omega), hw h0 h1, by unfold maxLen; omega⟩, by omega⟩
  · have : t.text.size = 0 := by rw [a4]; rfl
    exact ⟨⟨hw (by omega) (by omega), hw (by omega) (by omega), hw h0 h1, by unfold maxLen; omega⟩, by omega⟩
  · have : t.text.size ≤ 2 := by
      rcases a3 with a3 | ⟨b, _, a3⟩ <;> rw [a3]
      · exact Nat.le_refl 2
      · show (1 : Nat) ≤ 2; omega
    exact ⟨⟨hw (by omega) (by omega), hw (by omega) (by omega), hw h0 h1, by unfold maxLen; omega⟩, by omega⟩
theorem good_kind {t : Tkn} (h : goodT t) : t.kind = 1 ∨ t.kind = 2 ∨ t.kind = 3 := by
  rcases h with ⟨a, _⟩ | ⟨a, _⟩ | ⟨a, _⟩
  · exact .inl a
  · exact .inr (.inl a)
  · exact .inr (.inr a)
set_option maxRecDepth 100000 in
set_option maxHeartbeats 8000000 in
theorem walk (w : World) (A : Option Addr) (n c : Nat) (zs : List Int) (l : n ≤ c) (m : c ≤ maxLen) (hr : Rd w w.heap.size A n (zs.map (Value.int .u8))) (hz : ∀ z ∈ zs, (Lit.int .u8 z).wf = true) (hL : laidMet Tryd.prog Rows.fnTokensRow.laid w) (hsh : w.ShapedOpen Tryd.prog) :
    Calls Tryd.prog 6 #[.slice A n c] w fun e w' => e = .returned (.bool true) ∧ Below w.heap.size w w' := by
  have HW := hide (numW_tail hL.tail.tail)
  have Hi : Hid ((Tryd.prog.info? 48).map (·.size) = some 4) := hide (by kernel_rfl)
  clear hL hsh
  unfold maxLen at m
  by_cases hn : n ≤ 1048576
  case neg =>
    go_enter Tryd.func6, Tryd.ntmps6
    go_wp2_with (go_at_call 12; go_in)
    go_ret
    exact ⟨rfl, Below.refl _ _⟩
  have Hr := hide hr
  have Hz := hide hz
  clear hr hz
  go_enter Tryd.func6, Tryd.ntmps6
  go_wp2_with (go_at_call 12; go_in)
  refine Calls.mono (s_DrawTokenize A n c zs w Hr.out Hz.out hn) ?_
  rintro e w1 ⟨s, rfl, hs, hb1⟩
  have Hb1 := hide hb1
  clear hb1
  go_wp2_with fail
  refine Calls.mono (i_Tokenize 0 s (by omega) w1 (HW.out.below Hb1.out)) ?_
  rintro e w2 ⟨v2, G2, rfl, hS2, _, hb2⟩
  obtain ⟨A2, c2, rfl, _, _⟩ := hS2.form
  have Hb2 := hide (Hb1.out.trans (hb2.mono Hb1.out.size))
  have Hlt2 := hide (hS2.lt (TknR.good 0))
  have HS2 := hide hS2
  clear hb2 hS2
  go_wp2_with fail
  refine Calls.mono (s_Tokenize 0 s (by omega) w2) ?_
  rintro e w3 ⟨v3, G3, rfl, hS3, _, hb3⟩
  have HS3 := hide (HS2.out.below (TknR.good 0) hb3 Hlt2.out)
  have Hb3 := hide (Hb2.out.trans (hb3.mono Hb2.out.size))
  have hz23 := hb3.size
  have Hall := hide (toks_all s)
  have hl80 := toksOf_len s
  have Hbad := hide (toks_bad (s := s))
  clear hb3 hS3 HS2
  generalize (toksOf s).1 = L at *
  generalize (toksOf s).2 = q at *
  by_cases hq : 0 ≤ q
  · have hL0 : L = [] := Hbad.out hq
    subst hL0
    go_wp2_with fail
    go_ret
    exact ⟨rfl, Hb3.out⟩
  have hok : ∀ t ∈ L, t.ok ∧ t.text.size ≤ 32 := fun t ht => good_ok (Hall.out t ht).1 (Hall.out t ht).2.1 (by have := (Hall.out t ht).2.2; omega)
  have Hsum := hide (toks_sum (D := 0) hok)
  have hfz := fmtToks_le hok (by omega)
  have Hbk : Hid (¬ 160 < (fmtToks L).size → toksOf (fmtToks L) = (relT L 0, -1)) := hide (toks_back (fun t ht => (Hall.out t ht).1) hl80)
  clear hok
  go_wp2_with fail
  refine Calls.mono (i_FormatTokens 0 L _ G2 w3 HS3.out (by omega) (by have := Hsum.out; omega) (HW.out.below Hb3.out).tab) ?_
  rintro e w4 ⟨rfl, hb4⟩
  have Hlt3 : Hid (∀ k ∈ G2, k < w3.heap.size) := hide fun k hk => Nat.lt_of_lt_of_le (Hlt2.out k hk) hz23
  have HS4 := hide (HS3.out.below (TknR.good 0) hb4 Hlt3.out)
  have Hb4 := hide (Hb3.out.trans (hb4.mono Hb3.out.size))
  have hz34 := hb4.size
  have Hlong := hide (toks_long (s := fmtToks L))
  clear hb4 HS3
  generalize fmtToks L = f at *
  go_wp2_with fail
  refine Calls.mono (i_Tokenize 0 f (by omega) w4 (HW.out.below Hb4.out)) ?_
  rintro e w5 ⟨v5, G5, rfl, hS5, _, hb5⟩
  obtain ⟨A5, c5, rfl, _, _⟩ := hS5.form
  have Hlt4 : Hid (∀ k ∈ G2, k < w4.heap.size) := hide fun k hk => Nat.lt_of_lt_of_le (Hlt3.out k hk) hz34
  have HS6 := hide (HS4.out.below (TknR.good 0) hb5 Hlt4.out)
  have Hb5 := hide (Hb4.out.trans (hb5.mono Hb4.out.size))
  have hz45 := hb5.size
  have HS5 := hide hS5
  clear hb5 hS5 HS4
  by_cases hf : 160 < f.size
  · have e := Hlong.out hf
    have hfI : (160 : Int) < (f.size : Int) := by omega
    rw [e]
    clear e
    go_wp2_with fail
    go_ret
    exact ⟨rfl, Hb5.out⟩
  have e5 := Hbk.out hf
  have hfI : ¬ (160 : Int) < (f.size : Int) := by omega
  rw [e5] at HS5 ⊢
  have hRl := relT_len L 0
  have HRt : Hid (∀ (i : Nat) (t : Tkn), L[i]? = some t → ∃ o : Nat, (relT L 0)[i]? = some (⟨t.kind, t.n, o, t.text⟩ : Tkn)) := hide fun i t h => relT_at h
  simp only at HS5 ⊢
  generalize relT L 0 = R at HS5 hRl HRt ⊢
  rw [hRl]
  have Hlt5 : Hid (∀ k ∈ G2, k < w5.heap.size) := hide fun k hk => Nat.lt_of_lt_of_le (Hlt4.out k hk) hz45
  have Hlt6 := hide (HS5.out.lt (TknR.good 0))
  have hlI : (L.length : Int) ≤ 80 := by omega
  clear e5 hf Hbk Hlong hfz
  go_wp2_with fail
  go_loopw [11] (fun i wr => ∃ j : Nat, j ≤ L.length ∧ i = .int .i64 j ∧ Hid (Below w5.heap.size w5 wr)) (fun i _ => L.length - (RowKit.intOf i).toNat)
  case atStart => exact ⟨0, by omega, rfl, hide (Below.refl _ _)⟩
  case round =>
    obtain ⟨j, hj, rfl, Hb⟩ := hrel
    by_cases hlt : j < L.length
    · have hX : L[j]? = some L[j] := List.getElem?_eq_getElem hlt
      generalize L[j] = t at hX
      obtain ⟨o, hY⟩ := HRt.out j t hX
      have hgd := Hall.out t (List.mem_of_getElem? hX)
      obtain ⟨b2, of2, cs2, Fk2, hA2, hbz2, hbF2, _, hcl2, hcat2, hR2⟩ := SlR.get (TknR.good 0) HS6.out hX
      obtain ⟨b5, of5, cs5, Fk5, hA5, hbz5, hbF5, _, hcl5, hcat5, hR5⟩ := SlR.get (TknR.good 0) HS5.out hY
      subst hA2 hA5
      obtain ⟨k, n0, p, x⟩ := t
      simp only at hgd hR5 hR2
      obtain ⟨y0, y1, y2, y3, rfl⟩ := list4 hcl2
      obtain ⟨_, _, h0, h1, h2, h3, _⟩ := hR2
      obtain rfl := Option.some.inj h0
      obtain rfl := Option.some.inj h1
      obtain rfl := Option.some.inj h2
      obtain rfl := Option.some.inj h3
      obtain ⟨z0, z1, z2, z3, rfl⟩ := list4 hcl5
      have H1 := hide (TknR.one hR5)
      obtain ⟨_, _, h0, h1, h2, h3, _⟩ := hR5
      obtain rfl := Option.some.inj h0
      obtain rfl := Option.some.inj h1
      obtain rfl := Option.some.inj h2
      obtain rfl := Option.some.inj h3
      simp only at hcat2 hcat5 H1 ⊢
      have hr5 := Hb.out
      have Hn : Hid (([.int .i64 k, .int .i64 n0, .int .i64 o, .string x] : List Value).length = 4) := hide rfl
      have Hc : Hid (CellsAt wr b5 (of5 + j * 4) [.int .i64 k, .int .i64 n0, .int .i64 o, .string x]) := hide (hcat5.below hr5 hbz5)
      have m0 : ∀ W : World, Below w5.heap.size w5 W → W.cell? ⟨b2, of2 + j * 4, none⟩ = some (.int .i64 k) := fun W h => hcat2.below h hbz2 0 _ rfl
      have m1 : ∀ W : World, Below w5.heap.size w5 W → W.cell? ⟨b2, of2 + j * 4 + 1, none⟩ = some (.int .i64 n0) := fun W h => hcat2.below h hbz2 1 _ rfl
      have m2 : ∀ W : World, Below w5.heap.size w5 W → W.cell? ⟨b2, of2 + j * 4 + 2, none⟩ = some (.int .i64 p) := fun W h => hcat2.below h hbz2 2 _ rfl
      have m3 : ∀ W : World, Below w5.heap.size w5 W → W.cell? ⟨b2, of2 + j * 4 + 3, none⟩ = some (.string x) := fun W h => hcat2.below h hbz2 3 _ rfl
      have hj0 : (0 : Int) ≤ (j : Int) := by omega
      have hj1 : (j : Int) < (L.length : Int) := by omega
      have hz5r := hr5.size
      have hkk := good_kind hgd.1
      have hp0 := hgd.2.1
      have hp1 := hgd.2.2
      simp only at hkk hp0 hp1
      clear hX hY hcat2 hcat5 hgd hbF2 hbF5 h0 h1 h2 h3
      go_wp2_with (first
        | refine wpList_load_at 48 (.tmp 64) rfl Tryd.underlying48 rfl Hi.out rfl rfl Hn.out Hc.out ?_
        | (refine wpList_store_new 48 (.tmp 12) (.tmp 65) rfl Hi.out rfl rfl rfl rfl Hn.out H1.out rfl ?_; refine hold ?_))
      have zb := heap_alloc_new wr (.cells #[.int .i64 k, .int .i64 n0, .int .i64 o, .string x] 48)
      have hV : Below w5.heap.size w5 (wr.alloc (.cells #[.int .i64 k, .int .i64 n0, .int .i64 o, .string x] 48)) := hr5.alloc hz5r _
      generalize wr.alloc (.cells #[.int .i64 k, .int .i64 n0, .int .i64 o, .string x] 48) = V at zb hV ⊢
      have q2 : V.cell? ⟨wr.heap.size, 2, none⟩ = some (.int .i64 o) := cell_at (i := 2) zb (by simp)
      have f2 := frozen_of_row V _ 2 _ _ zb
      refine Hold.go ?_
      go_wp2_with fail
      have zb2 : (V.setCell ⟨wr.heap.size, 2, none⟩ (.int .i64 p)).heap[wr.heap.size]? = some (.cells #[.int .i64 k, .int .i64 n0, .int .i64 p, .string x] 48 (0, 0)) := heap_setCell_same V wr.heap.size 2 _ _ (.int .i64 p) zb
      have hV2 : Below w5.heap.size w5 (V.setCell ⟨wr.heap.size, 2, none⟩ (.int .i64 p)) := Below.setCell (p := ⟨wr.heap.size, 2, none⟩) hV hz5r _
      generalize V.setCell ⟨wr.heap.size, 2, none⟩ (.int .i64 p) = V2 at zb2 hV2 ⊢
      have hlb : wr.heap.size < V2.heap.size := blk_lt zb2
      have C2 : CellsAt V2 wr.heap.size 0 [.int .i64 k, .int .i64 n0, .int .i64 p, .string x] := fun i u hu => by
        rw [cell_of_row _ _ _ _ _ _ zb2, Nat.zero_add]
        simpa using hu
      have n0' := cell_rule C2 (n := V2.heap.size) hlb 0 rfl
      have n1' := cell_rule C2 (n := V2.heap.size) hlb 1 rfl
      have n2' := cell_rule C2 (n := V2.heap.size) hlb 2 rfl
      have n3' := cell_rule C2 (n := V2.heap.size) hlb 3 rfl
      have HV2 : Hid (∀ W : World, Below V2.heap.size V2 W → Below w5.heap.size w5 W) := hide fun W h => hV2.trans (h.mono hV2.size)
      have o0 := fun (W : World) (h : Below V2.heap.size V2 W) => m0 W (HV2.out W h)
      have o1 := fun (W : World) (h : Below V2.heap.size V2 W) => m1 W (HV2.out W h)
      have o2 := fun (W : World) (h : Below V2.heap.size V2 W) => m2 W (HV2.out W h)
      have o3 := fun (W : World) (h : Below V2.heap.size V2 W) => m3 W (HV2.out W h)
      have hVV : Below V2.heap.size V2 V2 := Below.refl _ _
      have hxx : (x.toList == x.toList) = true := by simp
      have hd1 : decide ((s.size : Int) ≤ p) = false := decide_eq_false (by omega)
      have hd2 : decide (p ≥ (s.size : Int)) = false := decide_eq_false (by omega)
      clear m0 m1 m2 m3 q2 f2 zb zb2 C2 hV hV2
      rcases hkk with rfl | rfl | rfl
      all_goals
        go_region_held3 (fun W => Below V2.heap.size V2 W)
          (first | assumption | exact Below.drew (by assumption))
          ((go_at_call 28; refine Calls.mono (i_IsWord _ _ _ _ _ _) ?_; rintro en w7 ⟨rfl, hb7⟩; have h7 : Below V2.heap.size V2 w7 := (Below.drew hVV).trans hb7; clear hb7))
        go_wp2_with fail
        go_roundw
        case rel => exact ⟨j + 1, by omega, by go_num, hide (HV2.out _ (by (repeat (first | assumption | apply Below.drew))))⟩
        case measure => simp [RowKit.intOf]; omega
    · have hjl : j = L.length := by omega
      subst hjl
      go_wp2_with fail
      go_ret
      exact ⟨rfl, Hb5.out.trans (Hb.out.mono Hb5.out.size)⟩

/-- The settled world, the listed variables laid: one start that fits. -/
noncomputable def low : Nat := (World.holding Tryd.prog default ⟨#[], #[], []⟩).heap.size
noncomputable def laidWorld (os : Os) : World :=
  { World.holding Tryd.prog os ⟨#[Obj.cells #[.string ⟨#[118, 97, 108, 117, 101, 32, 111, 117, 116, 32, 111, 102, 32, 114, 97, 110, 103, 101]⟩] 153, Obj.cells #[.string ⟨#[105, 110, 118, 97, 108, 105, 100, 32, 115, 121, 110, 116, 97, 120]⟩] 153], #[], []⟩ with heap := ((((((World.holding Tryd.prog os ⟨#[Obj.cells #[.string ⟨#[118, 97, 108, 117, 101, 32, 111, 117, 116, 32, 111, 102, 32, 114, 97, 110, 103, 101]⟩] 153, Obj.cells #[.string ⟨#[105, 110, 118, 97, 108, 105, 100, 32, 115, 121, 110, 116, 97, 120]⟩] 153], #[], []⟩).heap.modify ((Tryd.prog.globalNamed "math/bits.deBruijn32tab").getD 0) (putG (dcells Rows.laid_math_bits_deBruijn32tab))).modify ((Tryd.prog.globalNamed "math/bits.deBruijn64tab").getD 0) (putG (dcells Rows.laid_math_bits_deBruijn64tab))).modify ((Tryd.prog.globalNamed "internal/strconv.uint64pow10").getD 0) (putG (dcells Rows.laid_internal_strconv_uint64pow10))).modify ((Tryd.prog.globalNamed "strconv.ErrRange").getD 0) (putG #[.iface 151 (.pointer (some ⟨low + 0, 0, none⟩))])).modify ((Tryd.prog.globalNamed "strconv.ErrSyntax").getD 0) (putG #[.iface 151 (.pointer (some ⟨low + 1, 0, none⟩))])) }
set_option maxRecDepth 100000 in
theorem laid_met (os : Os) (args : Array Value) : laidMet Tryd.prog Rows.fnTokensRow.laid ((laidWorld os).forCall (fun _ _ => 0) ⟨#[], args, []⟩).memory :=
  laidMet_of_run' 8 (by kernel_rfl) (by kernel_rfl)
set_option maxRecDepth 100000 in
theorem lifted (os : Os) (started : os.Started) (H : Type) (enc : TypeId × Value → H) :
    ReturnsInHanded {} Tryd.checked os 6 .any (fun w args => (Rows.fnTokensSpec.pre enc Tryd.prog Tryd.f6 Rows.fnTokensRow.domain false w args ∧ laidMet Tryd.prog Rows.fnTokensRow.laid w) ∧ sizedMet enc Tryd.prog Tryd.f6 (OpenSpec.ofChange Rows.fnTokensSpec) false w args) (Rows.fnTokensSpec.post enc Tryd.prog Tryd.f6 false true false false) := by
  refine returns_laid (C := Tryd.checked) (X := fun w _ => laidMet Tryd.prog Rows.fnTokensRow.laid w) (fun _ _ _ hh h => h.of_heap hh) own started (by kernel_rfl) Tryd.func6
    (ChangeSpec.witness_at (enc := enc) (C := Tryd.checked) (os := os) (X := fun w _ => laidMet Tryd.prog Rows.fnTokensRow.laid w) false (laidWorld os) #[.slice none 0 0] 12 rfl (by kernel_rfl) (by kernel_rfl) (by kernel_rfl) (by kernel_rfl) (by kernel_rfl) (laid_met os _)) ?_
  intro W base args ds gs before hval0 hW hL hsh
  have hval : ∀ (j : Nat) t v, Tryd.f6.params[j]? = some t → args[j]? = some v → Value.okWide Tryd.prog W .any base t v := hval0
  have hW' := hW
  obtain ⟨p, q, hA0, hV, rfl, hfz, hnd⟩ := hW
  have hA : DataW.TrodAll enc Tryd.prog W 0 (fun _ => true) true Tryd.f6.params.toList args.toList ds p := hA0
  rw [Tryd.params6] at hA hval
  obtain ⟨v0, vs0, d0, ds0, p0, q0, hargs, rfl, rfl, h0, r0x⟩ := trodAll_cons hA
  obtain ⟨rfl, rfl, rfl⟩ := trodAll_nil r0x
  obtain rfl : args = #[v0] := by cases args; simp_all
  obtain ⟨rfl, rfl⟩ := trodVars_none hV
  obtain ⟨A0, n0, c0, z0, rfl, l0, m0, r0, w0⟩ := open_intsR Tryd.underlying30 Tryd.underlying5 (by kernel_rfl) (hval 0 30 v0 rfl rfl) h0
  clear hA0 hval0
  refine (walk W A0 n0 c0 z0 l0 m0 r0 w0 hL hsh).mono fun e W' ⟨he, hb⟩ => ?_
  exact ⟨_, he, law_post (gs := []) hW' hb (by kernel_rfl) (by kernel_rfl) (by kernel_rfl) Tryd.underlying4 rfl rfl⟩

set_option maxHeartbeats 4000000 in
theorem over : Rows.fnTokensRow.holds Tryd.pinned (OpenSpec.ofChange Rows.fnTokensSpec) :=
  OpenClaim.holds_of_wide 6 Tryd.f6 rfl rfl rfl rfl rfl rfl rfl ⟨rfl, rfl, rfl, rfl, rfl⟩ rfl rfl rfl rfl rfl (by as_aux_lemma => kernel_rfl) Tryd.func6 (by as_aux_lemma => kernel_rfl)
    (of_decide_eq_true (by as_aux_lemma => kernel_rfl)) (by unfold Func.isWrapper; first | (rw [if_pos (by as_aux_lemma => decide +kernel)]; as_aux_lemma => kernel_rfl) | (rw [if_neg (by as_aux_lemma => decide +kernel)]; exact ⟨rfl, rfl⟩))
    (fun os started H enc _ => lifted os started H enc)

/-- The statement: the tied card. -/
theorem proved : Rows.FnTokensCardSaid :=
  Claim7.holds_tied_plain_at .later [] [.data, .data, .data, .sentinel, .sentinel] true (true, "355930d0589be338aae0bef9a31ce51361e8c91ffeae62b9f659ec90b138ac02") true
    over (fun _ h => by cases h) (by kernel_rfl) (fun _ h => by cases h) fnTokens_row_tie rfl ⟨rfl, rfl⟩ (by kernel_rfl) rfl
    (fun f fn hf hfn => by
      obtain rfl : f = 6 := Option.some.inj ((show Tryd.prog.funcNamed "loop.example/g00512/laws.FnTokens" = some 6 by kernel_rfl).symm.trans hf) |>.symm
      obtain rfl : fn = Tryd.f6 := (Option.some.inj (Tryd.func6.symm.trans hfn)).symm
      exact ⟨by kernel_rfl, fun j t ht => by
        rw [Tryd.params6] at ht
        rcases j with _ | j
        · obtain rfl := Option.some.inj ht
          kernel_rfl
        · simp at ht⟩)
    (by kernel_rfl)
#print axioms proved
end Go.Proofs.YtigdciegnpejoaaDoor.fnTokens
