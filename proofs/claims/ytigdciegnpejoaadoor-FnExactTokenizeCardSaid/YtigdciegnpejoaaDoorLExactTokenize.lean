/- The law FnExactTokenize: whatever the arguments, the call returns true and leaves the arguments as they were. Conditions: the listed variables of Go's library hold what its text lays (the card ties them). -/
import Derived.Test.YtigdciegnpejoaaDoorRows
import Derived.Test.YtigdciegnpejoaaDoorCards
import Derived.Test.YtigdciegnpejoaaDoorTie
import Derived.Test.YtigdciegnpejoaaDoorKit
import Derived.Test.YtigdciegnpejoaaDoorLaid
import Derived.Test.YtigdciegnpejoaaDoorTokL
import Derived.Test.YtigdciegnpejoaaDoorMarkT
import Derived.SevenTiedAt
namespace Go.Proofs.YtigdciegnpejoaaDoor.fnExactTokenize
set_option maxRecDepth 100000
open Go.ChangeShapes Go.WideShapes Go.ChangeAt Go.RowKit
set_option linter.unusedVariables false

theorem own : ownKnob Tryd.prog.godebug = none := by kernel_rfl

set_option maxRecDepth 100000 in
set_option maxHeartbeats 40000000 in
theorem walk0 (w : World) (x0 : ByteArray) (hx0 : x0.size ≤ maxLen) (hNw : NumW w) : Calls Tryd.prog 5 #[.string x0] w fun en w' => en = .returned (.bool true) ∧ Below w.heap.size w w' := by
  obtain ⟨D, _⟩ : ∃ D : Nat, D = 0 := ⟨0, rfl⟩
  have hw0 : Below w.heap.size w w := Below.refl _ _
  show Calls _ _ #[.string x0] w _
  unfold maxLen at hx0
  by_cases hb0 : x0.size ≤ 1048576
  case neg =>
    go_enter Tryd.func5, Tryd.ntmps5
    go_wp2_with fail
    go_ret
    exact ⟨rfl, hw0⟩
  go_enter Tryd.func5, Tryd.ntmps5
  go_wp2_with fail
  obtain ⟨V0, hV0⟩ : ∃ V0 : World, V0 = w := ⟨w, rfl⟩
  have Hw_0 : Hid (∀ X : World, Below w.heap.size w X → Below w.heap.size w X) := hide fun X h => h
  have hw : Below w.heap.size w w := Below.refl _ _
  have hD0 : ∀ X : World, Below w.heap.size w X → Below w.heap.size w X.drew := fun _ h => h.drew
  have hA0 : ∀ (X : World) (o : Obj), Below w.heap.size w X → Below w.heap.size w (X.alloc o) := fun _ o h => below_alloc (Nat.le_refl _) o h
  have hst := fun (w : World) (a : Addr) (v : Value) (m : Mode) (hv : v.oneCell' = true) => run_store Tryd.prog w a v m hv
  have HNW : Hid (∀ W : World, Below w.heap.size w W → NumW W) := hide fun W h => hNw.below h
  clear hNw
  -- the reference
  refine Calls.mono (s_Tokenize D x0 hb0 _) ?_
  rintro en W1 ⟨vz, Fz, rfl, hR, hf, hb⟩
  have hRk := hide hR
  have hfk := hide hf
  have Hlo_z : Hid (∀ b ∈ Fz, w.heap.size ≤ b) := hide hf.from_
  have Hhi_z : Hid (∀ b ∈ Fz, b < W1.heap.size) := hide hf.lt
  have hW1 : Below w.heap.size w W1 := below_step (by (repeat (first | assumption | exact Below.refl _ _ | apply Below.drew | refine below_alloc (Nat.le_refl _) _ ?_))) (Nat.le_refl _) hb
  have zW1 : w.heap.size ≤ W1.heap.size := hW1.size
  clear hb
  clear hR hf
  have hbb : ∀ X : World, Below W1.heap.size W1 X → Below w.heap.size w X := fun X hX => hW1.trans (hX.mono hW1.size)
  have Hw_1 : Hid (∀ X : World, Below W1.heap.size W1 X → Below w.heap.size w X) := hide fun X hX => Hw_0.out X (hbb X hX)
  clear Hw_0
  have Hz_1 : Hid (∀ X : World, Below W1.heap.size W1 X → SlR 4 (TknR D) X (toksOf x0).1 vz Fz) := hide fun X hX => hRk.out.below (TknR.good D) hX Hhi_z.out
  have Rz_1 : Hid (∀ X : World, Below W1.heap.size W1 X → Fresh (w.heap.size) X Fz) := hide fun X hX => hfk.out.below hX
  clear hbb hRk hfk hw hD0 hA0
  clear hW1
  have hW1 : Below W1.heap.size W1 W1 := Below.refl _ _
  have hD1 : ∀ X : World, Below W1.heap.size W1 X → Below W1.heap.size W1 X.drew := fun _ h => h.drew
  have hA1 : ∀ (X : World) (o : Obj), Below W1.heap.size W1 X → Below W1.heap.size W1 (X.alloc o) := fun _ o h => below_alloc (Nat.le_refl _) o h
  go_wp2_with fail
  -- the program
  refine Calls.mono (i_Tokenize D x0 hb0 _ (HNW.out _ (Hw_1.out _ (by (repeat (first | assumption | exact Below.refl _ _ | apply Below.drew | refine below_alloc (Nat.le_refl _) _ ?_)))))) ?_
  rintro en W2 ⟨vg, Fg, rfl, hR, hf, hb⟩
  have hRk := hide hR
  have hfk := hide hf
  have Hlo_g : Hid (∀ b ∈ Fg, W1.heap.size ≤ b) := hide hf.from_
  have Hhi_g : Hid (∀ b ∈ Fg, b < W2.heap.size) := hide hf.lt
  have hW2 : Below W1.heap.size W1 W2 := below_step (by (repeat (first | assumption | exact Below.refl _ _ | apply Below.drew | refine below_alloc (Nat.le_refl _) _ ?_))) (Nat.le_refl _) hb
  have zW2 : W1.heap.size ≤ W2.heap.size := hW2.size
  clear hb
  clear hR hf
  have hbb : ∀ X : World, Below W2.heap.size W2 X → Below W1.heap.size W1 X := fun X hX => hW2.trans (hX.mono hW2.size)
  have Hz_2 := hide (fun (X : World) (hX : Below W2.heap.size W2 X) => Hz_1.out X (hbb X hX))
  have Rz_2 := hide (fun (X : World) (hX : Below W2.heap.size W2 X) => Rz_1.out X (hbb X hX))
  have Hw_2 : Hid (∀ X : World, Below W2.heap.size W2 X → Below w.heap.size w X) := hide fun X hX => Hw_1.out X (hbb X hX)
  clear Hz_1 Rz_1 Hw_1
  have Hg_2 : Hid (∀ X : World, Below W2.heap.size W2 X → SlR 4 (TknR D) X (toksOf x0).1 vg Fg) := hide fun X hX => hRk.out.below (TknR.good D) hX Hhi_g.out
  have Rg_2 : Hid (∀ X : World, Below W2.heap.size W2 X → Fresh (W1.heap.size) X Fg) := hide fun X hX => hfk.out.below hX
  clear hbb hRk hfk hW1 hD1 hA1
  clear hW2
  have hW2 : Below W2.heap.size W2 W2 := Below.refl _ _
  have hD2 : ∀ X : World, Below W2.heap.size W2 X → Below W2.heap.size W2 X.drew := fun _ h => h.drew
  have hA2 : ∀ (X : World) (o : Obj), Below W2.heap.size W2 X → Below W2.heap.size W2 (X.alloc o) := fun _ o h => below_alloc (Nat.le_refl _) o h
  go_wp2_with fail
  refine Calls.mono (es_Tkn D (toksOf x0).1 _ _ Fg Fz _ (Hg_2.out _ (by (repeat (first | assumption | exact Below.refl _ _ | apply Below.drew | refine below_alloc (Nat.le_refl _) _ ?_)))) (Hz_2.out _ (by (repeat (first | assumption | exact Below.refl _ _ | apply Below.drew | refine below_alloc (Nat.le_refl _) _ ?_))))) ?_
  rintro en W3 ⟨rfl, hb⟩
  have hW3 : Below W2.heap.size W2 W3 := below_step (by (repeat (first | assumption | exact Below.refl _ _ | apply Below.drew | refine below_alloc (Nat.le_refl _) _ ?_))) (Nat.le_refl _) hb
  have zW3 : W2.heap.size ≤ W3.heap.size := hW3.size
  clear hb
  go_wp2_with fail
  have hcnt : 1 + ctL (ct_Tkn D) (toksOf x0).1 ≤ 1099511627776 := by have h : ctL (ct_Tkn D) (toksOf x0).1 ≤ 100000000 := toks_cnt D x0; omega
  have hMr := Hg_2.out _ (by (repeat (first | assumption | exact Below.refl _ _ | apply Below.drew | refine below_alloc (Nat.le_refl _) _ ?_)))
  have hMf := Rg_2.out _ (by (repeat (first | assumption | exact Below.refl _ _ | apply Below.drew | refine below_alloc (Nat.le_refl _) _ ?_)))
  refine Calls.mono (m_Tkn D _ 1 (toksOf x0).1 _ Fg _ hMr hMf (by omega) hcnt) ?_
  rintro en W4 ⟨rfl, hRn, hFn, ha⟩
  have hcur : Below W2.heap.size W2 _ := (by (repeat (first | assumption | exact Below.refl _ _ | apply Below.drew | refine below_alloc (Nat.le_refl _) _ ?_)))
  have zW4 : W2.heap.size ≤ W4.heap.size := Nat.le_trans hcur.size ha.size
  have qz := ((Hz_2.out _ hcur).apart (TknR.good D) ha (fun b h1 h2 => by have := Hlo_z.out b h1; have := Hhi_z.out b h1; have := Hlo_g.out b h2; have := Hhi_g.out b h2; omega))
  have Hz_3 : Hid (∀ X : World, Below W4.heap.size W4 X → SlR 4 (TknR D) X (toksOf x0).1 vz Fz) := hide fun X hX => qz.below (TknR.good D) hX (qz.lt (TknR.good D))
  have fz := (Rz_2.out _ hcur).apart ha (fun b h1 h2 => by have := Hlo_z.out b h1; have := Hhi_z.out b h1; have := Hlo_g.out b h2; have := Hhi_g.out b h2; omega)
  have Rz_3 : Hid (∀ X : World, Below W4.heap.size W4 X → Fresh (w.heap.size) X Fz) := hide fun X hX => fz.below hX
  have qg := hRn
  have Hg_3 : Hid (∀ X : World, Below W4.heap.size W4 X → SlR 4 (TknR D) X (mkL (mk_Tkn D) (ct_Tkn D) 1 (toksOf x0).1) vg Fg) := hide fun X hX => qg.below (TknR.good D) hX (qg.lt (TknR.good D))
  have Rg_3 : Hid (∀ X : World, Below W4.heap.size W4 X → Fresh (W1.heap.size) X Fg) := hide fun X hX => hFn.below hX
  have hapw : Below w.heap.size w W4 := (Hw_2.out _ hcur).trans (ha.below (fun b hb => by have := Hlo_g.out b hb; omega) (by have := (Hw_2.out _ hcur).size; omega))
  have Hw_3 : Hid (∀ X : World, Below W4.heap.size W4 X → Below w.heap.size w X) := hide fun X hX => hapw.trans (hX.mono hapw.size)
  clear Hz_2 Hg_2 Rz_2 Rg_2 Hw_2 hapw hcur ha hMr hMf hRn hFn qz qg fz
  clear hD2 hA2
  have hW4 : Below W4.heap.size W4 W4 := Below.refl _ _
  have hD3 : ∀ X : World, Below W4.heap.size W4 X → Below W4.heap.size W4 X.drew := fun _ h => h.drew
  have hA3 : ∀ (X : World) (o : Obj), Below W4.heap.size W4 X → Below W4.heap.size W4 (X.alloc o) := fun _ o h => below_alloc (Nat.le_refl _) o h
  go_wp2_with fail
  refine Calls.mono (hd_Tkn D 1 (toksOf x0).1 _ Fg _ (Hg_3.out _ (by (repeat (first | assumption | exact Below.refl _ _ | apply Below.drew | refine below_alloc (Nat.le_refl _) _ ?_)))) (by omega) hcnt) ?_
  rintro en W5 ⟨rfl, hb⟩
  have hW5 : Below W4.heap.size W4 W5 := below_step (by (repeat (first | assumption | exact Below.refl _ _ | apply Below.drew | refine below_alloc (Nat.le_refl _) _ ?_))) (Nat.le_refl _) hb
  have zW5 : W4.heap.size ≤ W5.heap.size := hW5.size
  clear hb
  go_wp2_with fail
  -- the program again
  refine Calls.mono (i_Tokenize D x0 hb0 _ (HNW.out _ (Hw_3.out _ (by (repeat (first | assumption | exact Below.refl _ _ | apply Below.drew | refine below_alloc (Nat.le_refl _) _ ?_)))))) ?_
  rintro en W6 ⟨vh, Fh, rfl, hR, hf, hb⟩
  have hRk := hide hR
  have hfk := hide hf
  have Hlo_h : Hid (∀ b ∈ Fh, W5.heap.size ≤ b) := hide hf.from_
  have Hhi_h : Hid (∀ b ∈ Fh, b < W6.heap.size) := hide hf.lt
  have hW6 : Below W4.heap.size W4 W6 := below_step (by (repeat (first | assumption | exact Below.refl _ _ | apply Below.drew | refine below_alloc (Nat.le_refl _) _ ?_))) (Nat.le_refl _) hb
  have zW6 : W4.heap.size ≤ W6.heap.size := hW6.size
  clear hb
  clear hR hf
  have hbb : ∀ X : World, Below W6.heap.size W6 X → Below W4.heap.size W4 X := fun X hX => hW6.trans (hX.mono hW6.size)
  have Hz_4 := hide (fun (X : World) (hX : Below W6.heap.size W6 X) => Hz_3.out X (hbb X hX))
  have Rz_4 := hide (fun (X : World) (hX : Below W6.heap.size W6 X) => Rz_3.out X (hbb X hX))
  have Hg_4 := hide (fun (X : World) (hX : Below W6.heap.size W6 X) => Hg_3.out X (hbb X hX))
  have Rg_4 := hide (fun (X : World) (hX : Below W6.heap.size W6 X) => Rg_3.out X (hbb X hX))
  have Hw_4 : Hid (∀ X : World, Below W6.heap.size W6 X → Below w.heap.size w X) := hide fun X hX => Hw_3.out X (hbb X hX)
  clear Hz_3 Hg_3 Rz_3 Rg_3 Hw_3
  have Hh_4 : Hid (∀ X : World, Below W6.heap.size W6 X → SlR 4 (TknR D) X (toksOf x0).1 vh Fh) := hide fun X hX => hRk.out.below (TknR.good D) hX Hhi_h.out
  have Rh_4 : Hid (∀ X : World, Below W6.heap.size W6 X → Fresh (W5.heap.size) X Fh) := hide fun X hX => hfk.out.below hX
  clear hbb hRk hfk hW4 hD3 hA3
  clear hW6
  have hW6 : Below W6.heap.size W6 W6 := Below.refl _ _
  have hD4 : ∀ X : World, Below W6.heap.size W6 X → Below W6.heap.size W6 X.drew := fun _ h => h.drew
  have hA4 : ∀ (X : World) (o : Obj), Below W6.heap.size W6 X → Below W6.heap.size W6 (X.alloc o) := fun _ o h => below_alloc (Nat.le_refl _) o h
  go_wp2_with fail
  refine Calls.mono (es_Tkn D (toksOf x0).1 _ _ Fh Fz _ (Hh_4.out _ (by (repeat (first | assumption | exact Below.refl _ _ | apply Below.drew | refine below_alloc (Nat.le_refl _) _ ?_)))) (Hz_4.out _ (by (repeat (first | assumption | exact Below.refl _ _ | apply Below.drew | refine below_alloc (Nat.le_refl _) _ ?_))))) ?_
  rintro en W7 ⟨rfl, hb⟩
  have hW7 : Below W6.heap.size W6 W7 := below_step (by (repeat (first | assumption | exact Below.refl _ _ | apply Below.drew | refine below_alloc (Nat.le_refl _) _ ?_))) (Nat.le_refl _) hb
  have zW7 : W6.heap.size ≤ W7.heap.size := hW7.size
  clear hb
  go_wp2_with fail
  refine Calls.mono (hd_Tkn D 1 (toksOf x0).1 _ Fg _ (Hg_4.out _ (by (repeat (first | assumption | exact Below.refl _ _ | apply Below.drew | refine below_alloc (Nat.le_refl _) _ ?_)))) (by omega) hcnt) ?_
  rintro en W8 ⟨rfl, hb⟩
  have hW8 : Below W6.heap.size W6 W8 := below_step (by (repeat (first | assumption | exact Below.refl _ _ | apply Below.drew | refine below_alloc (Nat.le_refl _) _ ?_))) (Nat.le_refl _) hb
  have zW8 : W6.heap.size ≤ W8.heap.size := hW8.size
  clear hb
  go_wp2_with fail
  go_ret
  exact ⟨rfl, Hw_4.out _ (by (repeat (first | assumption | exact Below.refl _ _ | apply Below.drew | refine below_alloc (Nat.le_refl _) _ ?_)))⟩
theorem walk (w : World) (x0 : ByteArray) (hx0 : x0.size ≤ maxLen) (hL : laidMet Tryd.prog Rows.fnExactTokenizeRow.laid w) (hsh : w.ShapedOpen Tryd.prog) : Calls Tryd.prog 5 #[.string x0] w fun en w' => en = .returned (.bool true) ∧ Below w.heap.size w w' :=
  walk0 w x0 hx0 (numW_tail hL.tail.tail)

/-- The settled world, the listed variables laid: one start that fits. -/
noncomputable def low : Nat := (World.holding Tryd.prog default ⟨#[], #[], []⟩).heap.size
noncomputable def laidWorld (os : Os) : World :=
  { World.holding Tryd.prog os ⟨#[Obj.cells #[.string ⟨#[118, 97, 108, 117, 101, 32, 111, 117, 116, 32, 111, 102, 32, 114, 97, 110, 103, 101]⟩] 153, Obj.cells #[.string ⟨#[105, 110, 118, 97, 108, 105, 100, 32, 115, 121, 110, 116, 97, 120]⟩] 153], #[], []⟩ with heap := ((((((World.holding Tryd.prog os ⟨#[Obj.cells #[.string ⟨#[118, 97, 108, 117, 101, 32, 111, 117, 116, 32, 111, 102, 32, 114, 97, 110, 103, 101]⟩] 153, Obj.cells #[.string ⟨#[105, 110, 118, 97, 108, 105, 100, 32, 115, 121, 110, 116, 97, 120]⟩] 153], #[], []⟩).heap.modify ((Tryd.prog.globalNamed "math/bits.deBruijn32tab").getD 0) (putG (dcells Rows.laid_math_bits_deBruijn32tab))).modify ((Tryd.prog.globalNamed "math/bits.deBruijn64tab").getD 0) (putG (dcells Rows.laid_math_bits_deBruijn64tab))).modify ((Tryd.prog.globalNamed "internal/strconv.uint64pow10").getD 0) (putG (dcells Rows.laid_internal_strconv_uint64pow10))).modify ((Tryd.prog.globalNamed "strconv.ErrRange").getD 0) (putG #[.iface 151 (.pointer (some ⟨low + 0, 0, none⟩))])).modify ((Tryd.prog.globalNamed "strconv.ErrSyntax").getD 0) (putG #[.iface 151 (.pointer (some ⟨low + 1, 0, none⟩))])) }
set_option maxRecDepth 100000 in
theorem laid_met (os : Os) (args : Array Value) : laidMet Tryd.prog Rows.fnExactTokenizeRow.laid ((laidWorld os).forCall (fun _ _ => 0) ⟨#[], args, []⟩).memory :=
  laidMet_of_run' 8 (by kernel_rfl) (by kernel_rfl)
set_option maxRecDepth 100000 in
theorem lifted (os : Os) (started : os.Started) (H : Type) (enc : TypeId × Value → H) :
    ReturnsInHanded {} Tryd.checked os 5 .any (fun w args => (Rows.fnExactTokenizeSpec.pre enc Tryd.prog Tryd.f5 Rows.fnExactTokenizeRow.domain false w args ∧ laidMet Tryd.prog Rows.fnExactTokenizeRow.laid w) ∧ sizedMet enc Tryd.prog Tryd.f5 (OpenSpec.ofChange Rows.fnExactTokenizeSpec) false w args) (Rows.fnExactTokenizeSpec.post enc Tryd.prog Tryd.f5 false true false false) := by
  refine returns_laid (C := Tryd.checked) (X := fun w _ => laidMet Tryd.prog Rows.fnExactTokenizeRow.laid w) (fun _ _ _ hh h => h.of_heap hh) own started (by kernel_rfl) Tryd.func5
    (ChangeSpec.witness_at (enc := enc) (C := Tryd.checked) (os := os) (X := fun w _ => laidMet Tryd.prog Rows.fnExactTokenizeRow.laid w) false (laidWorld os) #[.string ByteArray.empty] 12 rfl (by kernel_rfl) (by kernel_rfl) (by kernel_rfl) (by kernel_rfl) (by kernel_rfl) (laid_met os _)) ?_
  intro W base args ds gs before hval0 hW hL hsh
  have hval : ∀ (j : Nat) t v, Tryd.f5.params[j]? = some t → args[j]? = some v → Value.okWide Tryd.prog W .any base t v := hval0
  have hW' := hW
  obtain ⟨p, q, hA0, hV, rfl, hfz, hnd⟩ := hW
  have hA : DataW.TrodAll enc Tryd.prog W 0 (fun _ => true) true Tryd.f5.params.toList args.toList ds p := hA0
  rw [Tryd.params5] at hA hval
  obtain ⟨v0, vs0, d0, ds0, p0, q0, hargs, rfl, rfl, h0, r0x⟩ := trodAll_cons hA
  obtain ⟨rfl, rfl, rfl⟩ := trodAll_nil r0x
  obtain rfl : args = #[v0] := by cases args; simp_all
  obtain ⟨rfl, rfl⟩ := trodVars_none hV
  obtain ⟨a0, rfl, rfl, rfl, w0⟩ := ChangeMaps.open_string Tryd.underlying9 (hval 0 9 v0 rfl rfl) h0
  clear hA0 hval0
  refine (walk W a0 w0 hL hsh).mono fun e W' ⟨he, hb⟩ => ?_
  exact ⟨_, he, law_post (gs := []) hW' hb (by kernel_rfl) (by kernel_rfl) (by kernel_rfl) Tryd.underlying4 rfl rfl⟩

set_option maxHeartbeats 4000000 in
theorem over : Rows.fnExactTokenizeRow.holds Tryd.pinned (OpenSpec.ofChange Rows.fnExactTokenizeSpec) :=
  OpenClaim.holds_of_wide 5 Tryd.f5 rfl rfl rfl rfl rfl rfl rfl ⟨rfl, rfl, rfl, rfl, rfl⟩ rfl rfl rfl rfl rfl (by as_aux_lemma => kernel_rfl) Tryd.func5 (by as_aux_lemma => kernel_rfl)
    (of_decide_eq_true (by as_aux_lemma => kernel_rfl)) (by unfold Func.isWrapper; first | (rw [if_pos (by as_aux_lemma => decide +kernel)]; as_aux_lemma => kernel_rfl) | (rw [if_neg (by as_aux_lemma => decide +kernel)]; exact ⟨rfl, rfl⟩))
    (fun os started H enc _ => lifted os started H enc)

/-- The statement: the tied card. -/
theorem proved : Rows.FnExactTokenizeCardSaid :=
  Claim7.holds_tied_plain_at .later [] [.data, .data, .data, .sentinel, .sentinel] true (true, "355930d0589be338aae0bef9a31ce51361e8c91ffeae62b9f659ec90b138ac02") true
    over (fun _ h => by cases h) (by kernel_rfl) (fun _ h => by cases h) fnExactTokenize_row_tie rfl ⟨rfl, rfl⟩ (by kernel_rfl) rfl
    (fun f fn hf hfn => by
      obtain rfl : f = 5 := Option.some.inj ((show Tryd.prog.funcNamed "loop.example/g00512/laws.FnExactTokenize" = some 5 by kernel_rfl).symm.trans hf) |>.symm
      obtain rfl : fn = Tryd.f5 := (Option.some.inj (Tryd.func5.symm.trans hfn)).symm
      exact ⟨by kernel_rfl, fun j t ht => by
        rw [Tryd.params5] at ht
        rcases j with _ | j
        · obtain rfl := Option.some.inj ht
          kernel_rfl
        · simp at ht⟩)
    (by kernel_rfl)
#print axioms proved
end Go.Proofs.YtigdciegnpejoaaDoor.fnExactTokenize
