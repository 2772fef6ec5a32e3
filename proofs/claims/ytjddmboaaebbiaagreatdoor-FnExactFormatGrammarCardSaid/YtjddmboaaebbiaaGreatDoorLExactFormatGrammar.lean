/- The law FnExactFormatGrammar: whatever the arguments, the call returns true and leaves the arguments as they were. Conditions: the listed variables of Go's library hold what its text lays (the card ties them). -/
import Derived.Test.YtjddmboaaebbiaaGreatDoorRows
import Derived.Test.YtjddmboaaebbiaaGreatDoorCards
import Derived.Test.YtjddmboaaebbiaaGreatDoorTie
import Derived.Test.YtjddmboaaebbiaaGreatDoorGxaa
import Derived.Test.YtjddmboaaebbiaaGreatDoorGxaq
import Derived.Test.YtjddmboaaebbiaaGreatDoorGxat
import Derived.SevenTiedAt
namespace Go.Proofs.YtjddmboaaebbiaaGreatDoor.fnExactFormatGrammar
set_option linter.unusedSimpArgs false
set_option maxRecDepth 100000
open Go.ChangeShapes Go.WideShapes Go.ChangeAt Go.RowKit
set_option linter.unusedVariables false

theorem own : ownKnob Tryz.prog.godebug = none := by kernel_rfl

set_option maxRecDepth 100000 in
set_option maxHeartbeats 40000000 in
theorem walk0 (w : World) (D0 : Nat) (x0 : Grm) (cs0 : List Value) (F0 : List Nat) (h0 : GrmR D0 w x0 cs0 F0) (hMw : WordsIs w 0 modeWs) (hTy : WordsIs w 1 typeWs) (hTw : Lib.TabIs Tryz.prog w "internal/strconv.uint64pow10" .u64 Lib.pow10Tab) : Calls Tryz.prog 4 #[.agg cs0.toArray] w fun en w' => en = .returned (.bool true) ∧ Below w.heap.size w w' := by
  have h0 := h0.up (D0) (by omega)
  generalize D0 = D at h0
  have HF0 := hide ((GrmR.good D).lt h0)
  obtain ⟨av0, av1, rfl⟩ := list2 ((GrmR.good D).len h0)
  have HX0 : Hid (∀ W : World, Below w.heap.size w W → GrmR D W x0 [av0, av1] F0) := hide fun W hW => (GrmR.good D).below h0 hW HF0.out
  clear h0
  obtain ⟨C0, hz0, hw0⟩ := boxes1 w [av0, av1] 42
  show Calls _ _ #[.agg #[av0, av1]] w _
  go_enter Tryz.func4, Tryz.ntmps4
  go_wp2_with fail
  generalize w.alloc (Obj.cells #[av0, av1] 42) = V0 at C0 hz0 hw0 ⊢
  have zV0 : w.heap.size + 1 ≤ V0.heap.size := Nat.le_of_eq hz0.symm
  have Hw_0 : Hid (∀ X : World, Below V0.heap.size V0 X → Below w.heap.size w X) := hide fun X h => hw0.trans (h.mono (by omega))
  have ca0_0_0 := cell_rule C0 (n := V0.heap.size) (by omega) 0 (v := av0) rfl
  have ca0_1_0 := cell_rule C0 (n := V0.heap.size) (by omega) 1 (v := av1) rfl
  clear C0 hz0 hw0
  have hV0 : Below V0.heap.size V0 V0 := Below.refl _ _
  have hD0 : ∀ X : World, Below V0.heap.size V0 X → Below V0.heap.size V0 X.drew := fun _ h => h.drew
  have hA0 : ∀ (X : World) (o : Obj), Below V0.heap.size V0 X → Below V0.heap.size V0 (X.alloc o) := fun _ o h => below_alloc (Nat.le_refl _) o h
  refine Calls.mono (z_Grm D x0 _ F0 _ 1048576 (HX0.out _ (Hw_0.out _ (by (repeat (first | assumption | exact Below.refl _ _ | apply Below.drew | refine below_alloc (Nat.le_refl _) _ ?_))))) (by omega) (by omega)) ?_
  rintro en W1 ⟨⟨r0, rfl, hr⟩, hb⟩
  have hW1 : Below V0.heap.size V0 W1 := below_step (by (repeat (first | assumption | exact Below.refl _ _ | apply Below.drew | refine below_alloc (Nat.le_refl _) _ ?_))) (Nat.le_refl _) hb
  have zW1 : V0.heap.size ≤ W1.heap.size := hW1.size
  clear hb
  rcases hr with rfl | ⟨hr0, hq⟩
  · go_wp2_with fail
    go_ret
    exact ⟨rfl, Hw_0.out _ hW1⟩
  have hnn := bulkGrm_nonneg D x0
  have Hbk0 : Hid (bulkGrm D x0 ≤ 1048576) := hide (by omega)
  have hl0 : r0 ≤ 1048576 := by omega
  clear hq hnn
  have HT0 : Hid (∀ W : World, Below w.heap.size w W → Calls Tryz.prog 16 #[.agg #[av0, av1]] W fun en w' => ∃ us F', en = .returned (.agg (List.toArray us)) ∧ GrmR D w' x0 us F' ∧ Fresh W.heap.size w' F' ∧ Below W.heap.size W w') := hide fun W hW =>
    c_Grm D x0 _ F0 W (HX0.out W hW) Hbk0.out
  go_wp2_with fail
  clear hr0 hl0
  have hst := fun (w : World) (a : Addr) (v : Value) (m : Mode) (hv : v.oneCell' = true) => run_store Tryz.prog w a v m hv
  have HMw := hide (fun (W : World) (hW : Below w.heap.size w W) => hMw.below (hMw.lt (by decide)) hW)
  have HTy := hide (fun (W : World) (hW : Below w.heap.size w W) => hTy.below (hTy.lt (by decide)) hW)
  have HTw : Hid (∀ W : World, Below w.heap.size w W → Lib.TabIs Tryz.prog W "internal/strconv.uint64pow10" .u64 Lib.pow10Tab) := hide (Lib.tabBelow_of_tabIs hTw)
  clear hMw hTy hTw
  -- the reference
  refine Calls.mono (HT0.out _ (Hw_0.out _ (by (repeat (first | assumption | exact Below.refl _ _ | apply Below.drew | refine below_alloc (Nat.le_refl _) _ ?_))))) ?_
  rintro en W2 ⟨us, Fuz, rfl, hR, hf, hb⟩
  obtain ⟨uz0, uz1, rfl⟩ := list2 ((GrmR.good D).len hR)
  have hW2 : Below V0.heap.size V0 W2 := below_step (by (repeat (first | assumption | exact Below.refl _ _ | apply Below.drew | refine below_alloc (Nat.le_refl _) _ ?_))) (Nat.le_refl _) hb
  have zW2 : V0.heap.size ≤ W2.heap.size := hW2.size
  clear hb
  have HRu := hide hR
  clear hR hf
  go_wp2_with fail
  refine Calls.mono (s_FormatGrammar D x0 _ Fuz _ HRu.out Hbk0.out) ?_
  rintro en W3 ⟨rfl, hb⟩
  have hW3 : Below V0.heap.size V0 W3 := below_step (by (repeat (first | assumption | exact Below.refl _ _ | apply Below.drew | refine below_alloc (Nat.le_refl _) _ ?_))) (Nat.le_refl _) hb
  have zW3 : V0.heap.size ≤ W3.heap.size := hW3.size
  clear hb
  clear HRu
  go_wp2_with fail
  refine Calls.mono (HT0.out _ (Hw_0.out _ (by (repeat (first | assumption | exact Below.refl _ _ | apply Below.drew | refine below_alloc (Nat.le_refl _) _ ?_))))) ?_
  rintro en W4 ⟨us, Fx0, rfl, hR, hf, hb⟩
  obtain ⟨x0_0, x0_1, rfl⟩ := list2 ((GrmR.good D).len hR)
  have ho := GrmR.one hR
  have ox0_0 := ho x0_0 (by simp)
  have ox0_1 := ho x0_1 (by simp)
  have hRk := hide hR
  have hfk := hide hf
  have Hlo_x0 : Hid (∀ b ∈ Fx0, W3.heap.size ≤ b) := hide hf.from_
  have Hhi_x0 : Hid (∀ b ∈ Fx0, b < W4.heap.size) := hide hf.lt
  have hW4 : Below V0.heap.size V0 W4 := below_step (by (repeat (first | assumption | exact Below.refl _ _ | apply Below.drew | refine below_alloc (Nat.le_refl _) _ ?_))) (Nat.le_refl _) hb
  have zW4 : V0.heap.size ≤ W4.heap.size := hW4.size
  clear hb
  clear ho hR hf
  go_wp2_with fail
  have Cx := CellsAt.new W4 [x0_0, x0_1] 48
  have hz := World.size_alloc W4 (Obj.cells #[x0_0, x0_1] 48)
  have hst0 : Below W4.heap.size W4 (W4.alloc (Obj.cells #[x0_0, x0_1] 48)) := (Below.refl _ _).alloc (Nat.le_refl _) _
  generalize W4.alloc (Obj.cells #[x0_0, x0_1] 48) = V1 at Cx hz hst0 ⊢
  have zV1 : W4.heap.size + 1 ≤ V1.heap.size := Nat.le_of_eq hz.symm
  have hbW : ∀ X : World, Below V1.heap.size V1 X → Below W4.heap.size W4 X := fun X hX => hst0.trans (hX.mono (by omega))
  have hbb : ∀ X : World, Below V1.heap.size V1 X → Below V0.heap.size V0 X := fun X hX => hW4.trans ((hbW X hX).mono hW4.size)
  have ca0_0_1 := fun (X : World) (hX : Below V1.heap.size V1 X) => ca0_0_0 X (hbb X hX)
  have ca0_1_1 := fun (X : World) (hX : Below V1.heap.size V1 X) => ca0_1_0 X (hbb X hX)
  have Hw_1 : Hid (∀ X : World, Below V1.heap.size V1 X → Below w.heap.size w X) := hide fun X hX => Hw_0.out X (hbb X hX)
  clear ca0_0_0 ca0_1_0 Hw_0
  have cx0_0_1 := cell_rule Cx (n := V1.heap.size) (by omega) 0 (v := x0_0) rfl
  have cx0_1_1 := cell_rule Cx (n := V1.heap.size) (by omega) 1 (v := x0_1) rfl
  have hV1 : Below V1.heap.size V1 V1 := Below.refl _ _
  have hD1 : ∀ X : World, Below V1.heap.size V1 X → Below V1.heap.size V1 X.drew := fun _ h => h.drew
  have hA1 : ∀ (X : World) (o : Obj), Below V1.heap.size V1 X → Below V1.heap.size V1 (X.alloc o) := fun _ o h => below_alloc (Nat.le_refl _) o h
  clear Cx hz hst0
  have hRv := fun (X : World) (hX : Below V1.heap.size V1 X) => (GrmR.good D).below hRk.out (hbW X hX) Hhi_x0.out
  have Hx0_1 : Hid (∀ X : World, Below V1.heap.size V1 X → GrmR D X x0 [x0_0, x0_1] Fx0) := hide hRv
  have Rx0_1 : Hid (∀ X : World, Below V1.heap.size V1 X → Fresh (W3.heap.size) X Fx0) := hide fun X hX => hfk.out.below (hbW X hX)
  clear hRk hfk hRv ox0_0 ox0_1
  clear hbW hbb hW4 hV0 hD0 hA0
  go_wp2_with fail
  -- the program
  refine Calls.mono (i_FormatGrammar D x0 _ Fx0 _ (Hx0_1.out _ (by (repeat (first | assumption | exact Below.refl _ _ | apply Below.drew | refine below_alloc (Nat.le_refl _) _ ?_)))) Hbk0.out (HMw.out _ (Hw_1.out _ (by (repeat (first | assumption | exact Below.refl _ _ | apply Below.drew | refine below_alloc (Nat.le_refl _) _ ?_))))) (HTy.out _ (Hw_1.out _ (by (repeat (first | assumption | exact Below.refl _ _ | apply Below.drew | refine below_alloc (Nat.le_refl _) _ ?_))))) (HTw.out _ (Hw_1.out _ (by (repeat (first | assumption | exact Below.refl _ _ | apply Below.drew | refine below_alloc (Nat.le_refl _) _ ?_)))))) ?_
  rintro en W5 ⟨rfl, hb⟩
  have hW5 : Below V1.heap.size V1 W5 := below_step (by (repeat (first | assumption | exact Below.refl _ _ | apply Below.drew | refine below_alloc (Nat.le_refl _) _ ?_))) (Nat.le_refl _) hb
  have zW5 : V1.heap.size ≤ W5.heap.size := hW5.size
  clear hb
  go_wp2_with fail
  go_region_held3 (fun W => Below V1.heap.size V1 W)
    (first | assumption | exact Below.drew (by assumption))
    (first
      | (go_at_call_has 16 av0; refine Calls.mono (HT0.out _ ?hw) ?_; (case hw => exact Hw_1.out _ (by (repeat (first | assumption | exact Below.refl _ _ | apply Below.drew | refine below_alloc (Nat.le_refl _) _ ?_)))); rintro en W6 ⟨us, Fe0, rfl, hR, hf, hb⟩; obtain ⟨e0_0, e0_1, rfl⟩ := list2 ((GrmR.good D).len hR); have hW6 : Below V1.heap.size V1 W6 := below_step (by (repeat (first | assumption | exact Below.refl _ _ | apply Below.drew | refine below_alloc (Nat.le_refl _) _ ?_))) (Nat.le_refl _) hb; have HRe0 := hide hR; clear hR hf hb)
      | (go_at_call 18; refine Calls.mono (e_Grm D x0 _ _ Fx0 Fe0 _ (Hx0_1.out _ (by (repeat (first | assumption | exact Below.refl _ _ | apply Below.drew | refine below_alloc (Nat.le_refl _) _ ?_)))) HRe0.out) ?_; rintro en W7 ⟨rfl, hb⟩; have hW7 : Below V1.heap.size V1 W7 := below_step (by (repeat (first | assumption | exact Below.refl _ _ | apply Below.drew | refine below_alloc (Nat.le_refl _) _ ?_))) (Nat.le_refl _) hb; clear hb))
  clear HRe0
  go_wp2_with fail
  go_ret
  exact ⟨rfl, Hw_1.out _ (by (repeat (first | assumption | exact Below.refl _ _ | apply Below.drew | refine below_alloc (Nat.le_refl _) _ ?_)))⟩
theorem walk (w : World) (D0 : Nat) (x0 : Grm) (cs0 : List Value) (F0 : List Nat) (h0 : GrmR D0 w x0 cs0 F0) (hL : laidMet Tryz.prog Rows.fnExactFormatGrammarRow.laid w) (hsh : w.ShapedOpen Tryz.prog) : Calls Tryz.prog 4 #[.agg cs0.toArray] w fun en w' => en = .returned (.bool true) ∧ Below w.heap.size w w' := by
  have hm : WordsIs w 0 modeWs := words_of_head (P := Tryz.prog) (zs := [[105, 110, 104], [115, 121, 110], [99, 111, 108]]) (t := 115) (e := 9) (n := 3) (by kernel_rfl) (by kernel_rfl) Tryz.underlying115 Tryz.underlying9 (by kernel_rfl) (by kernel_rfl) hL.tail.tail.tail
  have ht : WordsIs w 1 typeWs := words_of_head (P := Tryz.prog) (zs := [[110, 117, 109], [115, 101, 116], [98, 111, 111, 108], [110, 111, 100, 101]]) (t := 116) (e := 9) (n := 4) (by kernel_rfl) (by kernel_rfl) Tryz.underlying116 Tryz.underlying9 (by kernel_rfl) (by kernel_rfl) hL.tail.tail.tail.tail
  exact walk0 w D0 x0 cs0 F0 h0 hm ht (tab_pow10 hL.tail.tail)

/-- The settled world, the listed variables laid: one start that fits. -/
noncomputable def low : Nat := (World.holding Tryz.prog default ⟨#[], #[], []⟩).heap.size
noncomputable def laidWorld (os : Os) : World :=
  { World.holding Tryz.prog os ⟨#[], #[], []⟩ with heap := ((((((World.holding Tryz.prog os ⟨#[], #[], []⟩).heap.modify ((Tryz.prog.globalNamed "math/bits.deBruijn32tab").getD 0) (putG (dcells Rows.laid_math_bits_deBruijn32tab))).modify ((Tryz.prog.globalNamed "math/bits.deBruijn64tab").getD 0) (putG (dcells Rows.laid_math_bits_deBruijn64tab))).modify ((Tryz.prog.globalNamed "internal/strconv.uint64pow10").getD 0) (putG (dcells Rows.laid_internal_strconv_uint64pow10))).modify ((Tryz.prog.globalNamed "loop.example/g00512/impl.modeWords").getD 0) (putG (dcells Rows.laid_loop_example_g00512_impl_modeWords))).modify ((Tryz.prog.globalNamed "loop.example/g00512/impl.typeWords").getD 0) (putG (dcells Rows.laid_loop_example_g00512_impl_typeWords))) }
set_option maxRecDepth 100000 in
theorem laid_met (os : Os) (args : Array Value) : laidMet Tryz.prog Rows.fnExactFormatGrammarRow.laid ((laidWorld os).forCall (fun _ _ => 0) ⟨#[], args, []⟩).memory :=
  laidMet_of_run' 8 (by kernel_rfl) (by kernel_rfl)
set_option maxRecDepth 100000 in
theorem lifted (os : Os) (started : os.Started) (H : Type) (enc : TypeId × Value → H) :
    ReturnsInHanded {} Tryz.checked os 4 .any (fun w args => (Rows.fnExactFormatGrammarSpec.pre enc Tryz.prog Tryz.f4 Rows.fnExactFormatGrammarRow.domain false w args ∧ laidMet Tryz.prog Rows.fnExactFormatGrammarRow.laid w) ∧ sizedMet enc Tryz.prog Tryz.f4 (OpenSpec.ofChange Rows.fnExactFormatGrammarSpec) false w args) (Rows.fnExactFormatGrammarSpec.post enc Tryz.prog Tryz.f4 false true false false) := by
  refine returns_laid (C := Tryz.checked) (X := fun w _ => laidMet Tryz.prog Rows.fnExactFormatGrammarRow.laid w) (fun _ _ _ hh h => h.of_heap hh) own started (by kernel_rfl) Tryz.func4
    (ChangeSpec.witness_at (enc := enc) (C := Tryz.checked) (os := os) (X := fun w _ => laidMet Tryz.prog Rows.fnExactFormatGrammarRow.laid w) false (laidWorld os) #[.agg #[.slice none 0 0, .slice none 0 0]] 12 rfl (by kernel_rfl) (by kernel_rfl) (by kernel_rfl) (by kernel_rfl) (by kernel_rfl) (laid_met os _)) ?_
  intro W base args ds gs before hval0 hW hL hsh
  have hval : ∀ (j : Nat) t v, Tryz.f4.params[j]? = some t → args[j]? = some v → Value.okWide Tryz.prog W .any base t v := hval0
  have hW' := hW
  obtain ⟨p, q, hA0, hV, rfl, hfz, hnd⟩ := hW
  have hA : DataW.TrodAll enc Tryz.prog W 0 (fun _ => true) true Tryz.f4.params.toList args.toList ds p := hA0
  rw [Tryz.params4] at hA hval
  obtain ⟨v0, vs0, d0, ds0, p0, q0, hargs, rfl, rfl, h0, r0x⟩ := trodAll_cons hA
  obtain ⟨rfl, rfl, rfl⟩ := trodAll_nil r0x
  obtain rfl : args = #[v0] := by cases args; simp_all
  obtain ⟨gv0, gv1, rfl⟩ : ∃ gv0 gv1, gs = [gv0, gv1] := by have h9 := vars_len hV; match gs, h9 with | [gv0, gv1], _ => exact ⟨gv0, gv1, rfl⟩
  obtain ⟨D0, a0, cs0, F0, rfl, w0⟩ := open_Grm (hval 0 42 v0 rfl rfl) h0
  clear hA0 hval0
  refine (walk W D0 a0 cs0 F0 w0 hL hsh).mono fun e W' ⟨he, hb⟩ => ?_
  exact ⟨_, he, law_postV hW' hb (by kernel_rfl) (by kernel_rfl) (by kernel_rfl) Tryz.underlying4 (by kernel_rfl) rfl⟩

set_option maxHeartbeats 4000000 in
theorem over : Rows.fnExactFormatGrammarRow.holds Tryz.pinned (OpenSpec.ofChange Rows.fnExactFormatGrammarSpec) :=
  OpenClaim.holds_of_wide 4 Tryz.f4 rfl rfl rfl rfl rfl rfl rfl ⟨rfl, rfl, rfl, rfl, rfl⟩ rfl rfl rfl rfl rfl (by as_aux_lemma => kernel_rfl) Tryz.func4 (by as_aux_lemma => kernel_rfl)
    (of_decide_eq_true (by as_aux_lemma => kernel_rfl)) (by unfold Func.isWrapper; first | (rw [if_pos (by as_aux_lemma => decide +kernel)]; as_aux_lemma => kernel_rfl) | (rw [if_neg (by as_aux_lemma => decide +kernel)]; exact ⟨rfl, rfl⟩))
    (fun os started H enc _ => lifted os started H enc)

/-- The statement: the tied card. -/
theorem proved : Rows.FnExactFormatGrammarCardSaid :=
  Claim7.holds_tied_plain_at .later [] [.data, .data, .data, .widerDeep, .widerDeep] true (true, "76516ba099224dc574bf2ce54a56aebf6214251692cac6b55763c019b0de660d") false
    over (fun _ h => by cases h) (by kernel_rfl) (fun _ h => by cases h) fnExactFormatGrammar_row_tie rfl ⟨rfl, rfl⟩ (by kernel_rfl) rfl
    (fun f fn hf hfn => by
      obtain rfl : f = 4 := Option.some.inj ((show Tryz.prog.funcNamed "loop.example/g00512/laws.FnExactFormatGrammar" = some 4 by kernel_rfl).symm.trans hf) |>.symm
      obtain rfl : fn = Tryz.f4 := (Option.some.inj (Tryz.func4.symm.trans hfn)).symm
      exact ⟨by kernel_rfl, fun j t ht => by
        rw [Tryz.params4] at ht
        rcases j with _ | j
        · obtain rfl := Option.some.inj ht
          kernel_rfl
        · simp at ht⟩)
    (by kernel_rfl)
#print axioms proved
end Go.Proofs.YtjddmboaaebbiaaGreatDoor.fnExactFormatGrammar
