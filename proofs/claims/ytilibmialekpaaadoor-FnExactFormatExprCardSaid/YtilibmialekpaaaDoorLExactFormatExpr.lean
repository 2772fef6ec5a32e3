/- The law FnExactFormatExpr: whatever the arguments, the call returns true and leaves the arguments as they were. Conditions: the listed variables of Go's library hold what its text lays (the card ties them). -/
import Derived.Test.YtilibmialekpaaaDoorRows
import Derived.Test.YtilibmialekpaaaDoorCards
import Derived.Test.YtilibmialekpaaaDoorTie
import Derived.Test.YtilibmialekpaaaDoorKit
import Derived.Test.YtilibmialekpaaaDoorLaid
import Derived.Test.YtilibmialekpaaaDoorTxF
import Derived.Test.YtilibmialekpaaaDoorExGlue
import Derived.Test.YtilibmialekpaaaDoorLawKit
import Derived.SevenTiedAt
namespace Go.Proofs.YtilibmialekpaaaDoor.fnExactFormatExpr
set_option maxRecDepth 100000
open Go.ChangeShapes Go.WideShapes Go.ChangeAt Go.RowKit
set_option linter.unusedVariables false

theorem own : ownKnob Tryd.prog.godebug = none := by kernel_rfl

set_option maxRecDepth 100000 in
set_option maxHeartbeats 40000000 in
theorem walk0 (w : World) (D0 : Nat) (x0 : Ex) (cs0 : List Value) (F0 : List Nat) (h0 : ExR D0 w x0 cs0 F0) (hTw : Lib.TabIs Tryd.prog w "internal/strconv.uint64pow10" .u64 Lib.pow10Tab) : Calls Tryd.prog 9 #[.agg cs0.toArray] w fun en w' => en = .returned (.bool true) ∧ Below w.heap.size w w' := by
  have h0 := h0.up (D0) (by omega)
  generalize D0 = D at h0
  have HF0 := hide ((ExR.good D).lt h0)
  obtain ⟨av0, av1, av2, av3, av4, av5, av6, rfl⟩ := list7 ((ExR.good D).len h0)
  have HX0 : Hid (∀ W : World, Below w.heap.size w W → ExR D W x0 [av0, av1, av2, av3, av4, av5, av6] F0) := hide fun W hW => (ExR.good D).below h0 hW HF0.out
  clear h0
  obtain ⟨C0, hz0, hw0⟩ := boxes1 w [av0, av1, av2, av3, av4, av5, av6] 62
  show Calls _ _ #[.agg #[av0, av1, av2, av3, av4, av5, av6]] w _
  go_enter Tryd.func9, Tryd.ntmps9
  go_wp2_with fail
  generalize w.alloc (Obj.cells #[av0, av1, av2, av3, av4, av5, av6] 62) = V0 at C0 hz0 hw0 ⊢
  have zV0 : w.heap.size + 1 ≤ V0.heap.size := Nat.le_of_eq hz0.symm
  have Hw_0 : Hid (∀ X : World, Below V0.heap.size V0 X → Below w.heap.size w X) := hide fun X h => hw0.trans (h.mono (by omega))
  have ca0_0_0 := cell_rule C0 (n := V0.heap.size) (by omega) 0 (v := av0) rfl
  have ca0_1_0 := cell_rule C0 (n := V0.heap.size) (by omega) 1 (v := av1) rfl
  have ca0_2_0 := cell_rule C0 (n := V0.heap.size) (by omega) 2 (v := av2) rfl
  have ca0_3_0 := cell_rule C0 (n := V0.heap.size) (by omega) 3 (v := av3) rfl
  have ca0_4_0 := cell_rule C0 (n := V0.heap.size) (by omega) 4 (v := av4) rfl
  have ca0_5_0 := cell_rule C0 (n := V0.heap.size) (by omega) 5 (v := av5) rfl
  have ca0_6_0 := cell_rule C0 (n := V0.heap.size) (by omega) 6 (v := av6) rfl
  clear C0 hz0 hw0
  have hV0 : Below V0.heap.size V0 V0 := Below.refl _ _
  have hD0 : ∀ X : World, Below V0.heap.size V0 X → Below V0.heap.size V0 X.drew := fun _ h => h.drew
  have hA0 : ∀ (X : World) (o : Obj), Below V0.heap.size V0 X → Below V0.heap.size V0 (X.alloc o) := fun _ o h => below_alloc (Nat.le_refl _) o h
  refine Calls.mono (l_szExpr D x0 _ F0 _ 1048576 (HX0.out _ (Hw_0.out _ (by (repeat (first | assumption | exact Below.refl _ _ | apply Below.drew | refine below_alloc (Nat.le_refl _) _ ?_))))) (by omega) (by omega)) ?_
  rintro en W1 ⟨⟨r0, rfl, hr⟩, hb⟩
  have hW1 : Below V0.heap.size V0 W1 := below_step (by (repeat (first | assumption | exact Below.refl _ _ | apply Below.drew | refine below_alloc (Nat.le_refl _) _ ?_))) (Nat.le_refl _) hb
  have zW1 : V0.heap.size ≤ W1.heap.size := hW1.size
  clear hb
  rcases hr with rfl | ⟨hr0, hq⟩
  · go_wp2_with fail
    go_ret
    exact ⟨rfl, Hw_0.out _ hW1⟩
  have hnn := bulkE_nonneg D x0
  have Hbk0 : Hid (bulkE D x0 ≤ 1048576) := hide (by omega)
  have hl0 : r0 ≤ 1048576 := by omega
  clear hq hnn
  have HT0 : Hid (∀ W : World, Below w.heap.size w W → Calls Tryd.prog 39 #[.agg #[av0, av1, av2, av3, av4, av5, av6]] W fun en w' => ∃ us F', en = .returned (.agg (List.toArray us)) ∧ ExR D w' x0 us F' ∧ Fresh W.heap.size w' F' ∧ Below W.heap.size W w') := hide fun W hW =>
    c_Ex D x0 _ F0 W (HX0.out W hW) Hbk0.out
  go_wp2_with fail
  clear hr0 hl0
  have hst := fun (w : World) (a : Addr) (v : Value) (m : Mode) (hv : v.oneCell' = true) => run_store Tryd.prog w a v m hv
  have HTw : Hid (∀ W : World, Below w.heap.size w W → Lib.TabIs Tryd.prog W "internal/strconv.uint64pow10" .u64 Lib.pow10Tab) := hide (Lib.tabBelow_of_tabIs hTw)
  clear hTw
  -- the reference
  refine Calls.mono (HT0.out _ (Hw_0.out _ (by (repeat (first | assumption | exact Below.refl _ _ | apply Below.drew | refine below_alloc (Nat.le_refl _) _ ?_))))) ?_
  rintro en W2 ⟨us, Fuz, rfl, hR, hf, hb⟩
  obtain ⟨uz0, uz1, uz2, uz3, uz4, uz5, uz6, rfl⟩ := list7 ((ExR.good D).len hR)
  have hW2 : Below V0.heap.size V0 W2 := below_step (by (repeat (first | assumption | exact Below.refl _ _ | apply Below.drew | refine below_alloc (Nat.le_refl _) _ ?_))) (Nat.le_refl _) hb
  have zW2 : V0.heap.size ≤ W2.heap.size := hW2.size
  clear hb
  have HRu := hide hR
  clear hR hf
  go_wp2_with fail
  refine Calls.mono (s_FormatExpr D x0 _ Fuz _ HRu.out Hbk0.out) ?_
  rintro en W3 ⟨rfl, hb⟩
  have hW3 : Below V0.heap.size V0 W3 := below_step (by (repeat (first | assumption | exact Below.refl _ _ | apply Below.drew | refine below_alloc (Nat.le_refl _) _ ?_))) (Nat.le_refl _) hb
  have zW3 : V0.heap.size ≤ W3.heap.size := hW3.size
  clear hb
  clear HRu
  go_wp2_with fail
  refine Calls.mono (HT0.out _ (Hw_0.out _ (by (repeat (first | assumption | exact Below.refl _ _ | apply Below.drew | refine below_alloc (Nat.le_refl _) _ ?_))))) ?_
  rintro en W4 ⟨us, Fx0, rfl, hR, hf, hb⟩
  obtain ⟨x0_0, x0_1, x0_2, x0_3, x0_4, x0_5, x0_6, rfl⟩ := list7 ((ExR.good D).len hR)
  have ho := ExR.one hR
  have ox0_0 := ho x0_0 (by simp)
  have ox0_1 := ho x0_1 (by simp)
  have ox0_2 := ho x0_2 (by simp)
  have ox0_3 := ho x0_3 (by simp)
  have ox0_4 := ho x0_4 (by simp)
  have ox0_5 := ho x0_5 (by simp)
  have ox0_6 := ho x0_6 (by simp)
  have hRk := hide hR
  have hfk := hide hf
  have Hlo_x0 : Hid (∀ b ∈ Fx0, W3.heap.size ≤ b) := hide hf.from_
  have Hhi_x0 : Hid (∀ b ∈ Fx0, b < W4.heap.size) := hide hf.lt
  have hW4 : Below V0.heap.size V0 W4 := below_step (by (repeat (first | assumption | exact Below.refl _ _ | apply Below.drew | refine below_alloc (Nat.le_refl _) _ ?_))) (Nat.le_refl _) hb
  have zW4 : V0.heap.size ≤ W4.heap.size := hW4.size
  clear hb
  clear ho hR hf
  go_wp2_with fail
  have Cx := CellsAt.new W4 [x0_0, x0_1, x0_2, x0_3, x0_4, x0_5, x0_6] 67
  have hz := World.size_alloc W4 (Obj.cells #[x0_0, x0_1, x0_2, x0_3, x0_4, x0_5, x0_6] 67)
  have hst0 : Below W4.heap.size W4 (W4.alloc (Obj.cells #[x0_0, x0_1, x0_2, x0_3, x0_4, x0_5, x0_6] 67)) := (Below.refl _ _).alloc (Nat.le_refl _) _
  generalize W4.alloc (Obj.cells #[x0_0, x0_1, x0_2, x0_3, x0_4, x0_5, x0_6] 67) = V1 at Cx hz hst0 ⊢
  have zV1 : W4.heap.size + 1 ≤ V1.heap.size := Nat.le_of_eq hz.symm
  have hbW : ∀ X : World, Below V1.heap.size V1 X → Below W4.heap.size W4 X := fun X hX => hst0.trans (hX.mono (by omega))
  have hbb : ∀ X : World, Below V1.heap.size V1 X → Below V0.heap.size V0 X := fun X hX => hW4.trans ((hbW X hX).mono hW4.size)
  have ca0_0_1 := fun (X : World) (hX : Below V1.heap.size V1 X) => ca0_0_0 X (hbb X hX)
  have ca0_1_1 := fun (X : World) (hX : Below V1.heap.size V1 X) => ca0_1_0 X (hbb X hX)
  have ca0_2_1 := fun (X : World) (hX : Below V1.heap.size V1 X) => ca0_2_0 X (hbb X hX)
  have ca0_3_1 := fun (X : World) (hX : Below V1.heap.size V1 X) => ca0_3_0 X (hbb X hX)
  have ca0_4_1 := fun (X : World) (hX : Below V1.heap.size V1 X) => ca0_4_0 X (hbb X hX)
  have ca0_5_1 := fun (X : World) (hX : Below V1.heap.size V1 X) => ca0_5_0 X (hbb X hX)
  have ca0_6_1 := fun (X : World) (hX : Below V1.heap.size V1 X) => ca0_6_0 X (hbb X hX)
  have Hw_1 : Hid (∀ X : World, Below V1.heap.size V1 X → Below w.heap.size w X) := hide fun X hX => Hw_0.out X (hbb X hX)
  clear ca0_0_0 ca0_1_0 ca0_2_0 ca0_3_0 ca0_4_0 ca0_5_0 ca0_6_0 Hw_0
  have cx0_0_1 := cell_rule Cx (n := V1.heap.size) (by omega) 0 (v := x0_0) rfl
  have cx0_1_1 := cell_rule Cx (n := V1.heap.size) (by omega) 1 (v := x0_1) rfl
  have cx0_2_1 := cell_rule Cx (n := V1.heap.size) (by omega) 2 (v := x0_2) rfl
  have cx0_3_1 := cell_rule Cx (n := V1.heap.size) (by omega) 3 (v := x0_3) rfl
  have cx0_4_1 := cell_rule Cx (n := V1.heap.size) (by omega) 4 (v := x0_4) rfl
  have cx0_5_1 := cell_rule Cx (n := V1.heap.size) (by omega) 5 (v := x0_5) rfl
  have cx0_6_1 := cell_rule Cx (n := V1.heap.size) (by omega) 6 (v := x0_6) rfl
  have hV1 : Below V1.heap.size V1 V1 := Below.refl _ _
  have hD1 : ∀ X : World, Below V1.heap.size V1 X → Below V1.heap.size V1 X.drew := fun _ h => h.drew
  have hA1 : ∀ (X : World) (o : Obj), Below V1.heap.size V1 X → Below V1.heap.size V1 (X.alloc o) := fun _ o h => below_alloc (Nat.le_refl _) o h
  clear Cx hz hst0
  have hRv := fun (X : World) (hX : Below V1.heap.size V1 X) => (ExR.good D).below hRk.out (hbW X hX) Hhi_x0.out
  have Hx0_1 : Hid (∀ X : World, Below V1.heap.size V1 X → ExR D X x0 [x0_0, x0_1, x0_2, x0_3, x0_4, x0_5, x0_6] Fx0) := hide hRv
  have Rx0_1 : Hid (∀ X : World, Below V1.heap.size V1 X → Fresh (W3.heap.size) X Fx0) := hide fun X hX => hfk.out.below (hbW X hX)
  clear hRk hfk hRv ox0_0 ox0_1 ox0_2 ox0_3 ox0_4 ox0_5 ox0_6
  clear hbW hbb hW4 hV0 hD0 hA0
  go_wp2_with fail
  -- the program
  refine Calls.mono (i_FormatExpr D x0 _ Fx0 _ (Hx0_1.out _ (by (repeat (first | assumption | exact Below.refl _ _ | apply Below.drew | refine below_alloc (Nat.le_refl _) _ ?_)))) Hbk0.out (HTw.out _ (Hw_1.out _ (by (repeat (first | assumption | exact Below.refl _ _ | apply Below.drew | refine below_alloc (Nat.le_refl _) _ ?_)))))) ?_
  rintro en W5 ⟨rfl, hb⟩
  have hW5 : Below V1.heap.size V1 W5 := below_step (by (repeat (first | assumption | exact Below.refl _ _ | apply Below.drew | refine below_alloc (Nat.le_refl _) _ ?_))) (Nat.le_refl _) hb
  have zW5 : V1.heap.size ≤ W5.heap.size := hW5.size
  clear hb
  go_wp2_with fail
  go_region_held3 (fun W => Below V1.heap.size V1 W)
    (first | assumption | exact Below.drew (by assumption))
    (first
      | (go_at_call_has 39 av0; refine Calls.mono (HT0.out _ ?hw) ?_; (case hw => exact Hw_1.out _ (by (repeat (first | assumption | exact Below.refl _ _ | apply Below.drew | refine below_alloc (Nat.le_refl _) _ ?_)))); rintro en W6 ⟨us, Fe0, rfl, hR, hf, hb⟩; obtain ⟨e0_0, e0_1, e0_2, e0_3, e0_4, e0_5, e0_6, rfl⟩ := list7 ((ExR.good D).len hR); have hW6 : Below V1.heap.size V1 W6 := below_step (by (repeat (first | assumption | exact Below.refl _ _ | apply Below.drew | refine below_alloc (Nat.le_refl _) _ ?_))) (Nat.le_refl _) hb; have HRe0 := hide hR; clear hR hf hb)
      | (go_at_call 41; refine Calls.mono (ee_Ex D x0 _ _ Fx0 Fe0 _ (Hx0_1.out _ (by (repeat (first | assumption | exact Below.refl _ _ | apply Below.drew | refine below_alloc (Nat.le_refl _) _ ?_)))) HRe0.out) ?_; rintro en W7 ⟨rfl, hb⟩; have hW7 : Below V1.heap.size V1 W7 := below_step (by (repeat (first | assumption | exact Below.refl _ _ | apply Below.drew | refine below_alloc (Nat.le_refl _) _ ?_))) (Nat.le_refl _) hb; clear hb))
  clear HRe0
  go_wp2_with fail
  go_ret
  exact ⟨rfl, Hw_1.out _ (by (repeat (first | assumption | exact Below.refl _ _ | apply Below.drew | refine below_alloc (Nat.le_refl _) _ ?_)))⟩
theorem walk (w : World) (D0 : Nat) (x0 : Ex) (cs0 : List Value) (F0 : List Nat) (h0 : ExR D0 w x0 cs0 F0) (hL : laidMet Tryd.prog Rows.fnExactFormatExprRow.laid w) (hsh : w.ShapedOpen Tryd.prog) : Calls Tryd.prog 9 #[.agg cs0.toArray] w fun en w' => en = .returned (.bool true) ∧ Below w.heap.size w w' :=
  walk0 w D0 x0 cs0 F0 h0 (tab_pow10 hL.tail.tail)

/-- The settled world, the listed variables laid: one start that fits. -/
noncomputable def low : Nat := (World.holding Tryd.prog default ⟨#[], #[], []⟩).heap.size
noncomputable def laidWorld (os : Os) : World :=
  { World.holding Tryd.prog os ⟨#[], #[], []⟩ with heap := ((((World.holding Tryd.prog os ⟨#[], #[], []⟩).heap.modify ((Tryd.prog.globalNamed "math/bits.deBruijn32tab").getD 0) (putG (dcells Rows.laid_math_bits_deBruijn32tab))).modify ((Tryd.prog.globalNamed "math/bits.deBruijn64tab").getD 0) (putG (dcells Rows.laid_math_bits_deBruijn64tab))).modify ((Tryd.prog.globalNamed "internal/strconv.uint64pow10").getD 0) (putG (dcells Rows.laid_internal_strconv_uint64pow10))) }
set_option maxRecDepth 100000 in
theorem laid_met (os : Os) (args : Array Value) : laidMet Tryd.prog Rows.fnExactFormatExprRow.laid ((laidWorld os).forCall (fun _ _ => 0) ⟨#[], args, []⟩).memory :=
  laidMet_of_run' 8 (by kernel_rfl) (by kernel_rfl)
set_option maxRecDepth 100000 in
theorem lifted (os : Os) (started : os.Started) (H : Type) (enc : TypeId × Value → H) :
    ReturnsInHanded {} Tryd.checked os 9 .any (fun w args => (Rows.fnExactFormatExprSpec.pre enc Tryd.prog Tryd.f9 Rows.fnExactFormatExprRow.domain false w args ∧ laidMet Tryd.prog Rows.fnExactFormatExprRow.laid w) ∧ sizedMet enc Tryd.prog Tryd.f9 (OpenSpec.ofChange Rows.fnExactFormatExprSpec) false w args) (Rows.fnExactFormatExprSpec.post enc Tryd.prog Tryd.f9 false true false false) := by
  refine returns_laid (C := Tryd.checked) (X := fun w _ => laidMet Tryd.prog Rows.fnExactFormatExprRow.laid w) (fun _ _ _ hh h => h.of_heap hh) own started (by kernel_rfl) Tryd.func9
    (ChangeSpec.witness_at (enc := enc) (C := Tryd.checked) (os := os) (X := fun w _ => laidMet Tryd.prog Rows.fnExactFormatExprRow.laid w) false (laidWorld os) #[.agg #[.int .i64 0, .int .i64 0, .int .i64 0, .int .i64 0, .string ByteArray.empty, .string ByteArray.empty, .slice none 0 0]] 12 rfl (by kernel_rfl) (by kernel_rfl) (by kernel_rfl) (by kernel_rfl) (by kernel_rfl) (laid_met os _)) ?_
  intro W base args ds gs before hval0 hW hL hsh
  have hval : ∀ (j : Nat) t v, Tryd.f9.params[j]? = some t → args[j]? = some v → Value.okWide Tryd.prog W .any base t v := hval0
  have hW' := hW
  obtain ⟨p, q, hA0, hV, rfl, hfz, hnd⟩ := hW
  have hA : DataW.TrodAll enc Tryd.prog W 0 (fun _ => true) true Tryd.f9.params.toList args.toList ds p := hA0
  rw [Tryd.params9] at hA hval
  obtain ⟨v0, vs0, d0, ds0, p0, q0, hargs, rfl, rfl, h0, r0x⟩ := trodAll_cons hA
  obtain ⟨rfl, rfl, rfl⟩ := trodAll_nil r0x
  obtain rfl : args = #[v0] := by cases args; simp_all
  obtain ⟨rfl, rfl⟩ := trodVars_none hV
  obtain ⟨D0, a0, cs0, F0, rfl, w0⟩ := open_Expr (hval 0 62 v0 rfl rfl) h0
  clear hA0 hval0
  refine (walk W D0 a0 cs0 F0 w0 hL hsh).mono fun e W' ⟨he, hb⟩ => ?_
  exact ⟨_, he, law_post (gs := []) hW' hb (by kernel_rfl) (by kernel_rfl) (by kernel_rfl) Tryd.underlying4 rfl rfl⟩

set_option maxHeartbeats 4000000 in
theorem over : Rows.fnExactFormatExprRow.holds Tryd.pinned (OpenSpec.ofChange Rows.fnExactFormatExprSpec) :=
  OpenClaim.holds_of_wide 9 Tryd.f9 rfl rfl rfl rfl rfl rfl rfl ⟨rfl, rfl, rfl, rfl, rfl⟩ rfl rfl rfl rfl rfl (by as_aux_lemma => kernel_rfl) Tryd.func9 (by as_aux_lemma => kernel_rfl)
    (of_decide_eq_true (by as_aux_lemma => kernel_rfl)) (by unfold Func.isWrapper; first | (rw [if_pos (by as_aux_lemma => decide +kernel)]; as_aux_lemma => kernel_rfl) | (rw [if_neg (by as_aux_lemma => decide +kernel)]; exact ⟨rfl, rfl⟩))
    (fun os started H enc _ => lifted os started H enc)

/-- The statement: the tied card. -/
theorem proved : Rows.FnExactFormatExprCardSaid :=
  Claim7.holds_tied_plain_at .later [] [.data, .data, .data] true (true, "bdf918a1d7c683ce6f5ba06d59302ea52027dabb11903bf30625ae58bf8d2de1") true
    over (fun _ h => by cases h) (by kernel_rfl) (fun _ h => by cases h) fnExactFormatExpr_row_tie rfl ⟨rfl, rfl⟩ (by kernel_rfl) rfl
    (fun f fn hf hfn => by
      obtain rfl : f = 9 := Option.some.inj ((show Tryd.prog.funcNamed "loop.example/g00512/laws.FnExactFormatExpr" = some 9 by kernel_rfl).symm.trans hf) |>.symm
      obtain rfl : fn = Tryd.f9 := (Option.some.inj (Tryd.func9.symm.trans hfn)).symm
      exact ⟨by kernel_rfl, fun j t ht => by
        rw [Tryd.params9] at ht
        rcases j with _ | j
        · obtain rfl := Option.some.inj ht
          kernel_rfl
        · simp at ht⟩)
    (by kernel_rfl)
#print axioms proved
end Go.Proofs.YtilibmialekpaaaDoor.fnExactFormatExpr
