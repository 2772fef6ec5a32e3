/- The law FnExactParseSymbol: whatever the arguments, the call returns true and leaves the arguments as they were. Conditions: the listed variables of Go's library hold what its text lays (the card ties them). -/
import Derived.Test.YtigdciegnpejoaaDoorRows
import Derived.Test.YtigdciegnpejoaaDoorCards
import Derived.Test.YtigdciegnpejoaaDoorTie
import Derived.Test.YtigdciegnpejoaaDoorKit
import Derived.Test.YtigdciegnpejoaaDoorLaid
import Derived.Test.YtigdciegnpejoaaDoorVars
import Derived.Test.YtigdciegnpejoaaDoorSymPl
import Derived.Test.YtigdciegnpejoaaDoorLawK2
import Derived.SevenTiedAt
namespace Go.Proofs.YtigdciegnpejoaaDoor.fnExactParseSymbol
set_option maxRecDepth 100000
open Go.ChangeShapes Go.WideShapes Go.ChangeAt Go.RowKit
set_option linter.unusedVariables false

theorem own : ownKnob Tryd.prog.godebug = none := by kernel_rfl

set_option maxRecDepth 100000 in
set_option maxHeartbeats 40000000 in
theorem walk0 (w : World) (x0 : ByteArray) (hx0 : x0.size ≤ maxLen) (hSh : w.ShapedOpen Tryd.prog) (hMw : WordsIs w 0 modeWs) (hTy : WordsIs w 1 typeWs) : Calls Tryd.prog 3 #[.string x0] w fun en w' => en = .returned (.bool true) ∧ Below w.heap.size w w' := by
  obtain ⟨D, _⟩ : ∃ D : Nat, D = 0 := ⟨0, rfl⟩
  have hw0 : Below w.heap.size w w := Below.refl _ _
  show Calls _ _ #[.string x0] w _
  unfold maxLen at hx0
  by_cases hb0 : x0.size ≤ 1048576
  case neg =>
    go_enter Tryd.func3, Tryd.ntmps3
    go_wp2_with fail
    go_ret
    exact ⟨rfl, hw0⟩
  go_enter Tryd.func3, Tryd.ntmps3
  go_wp2_with fail
  obtain ⟨V0, hV0⟩ : ∃ V0 : World, V0 = w := ⟨w, rfl⟩
  have Hw_0 : Hid (∀ X : World, Below w.heap.size w X → Below w.heap.size w X) := hide fun X h => h
  have hw : Below w.heap.size w w := Below.refl _ _
  have hD0 : ∀ X : World, Below w.heap.size w X → Below w.heap.size w X.drew := fun _ h => h.drew
  have hA0 : ∀ (X : World) (o : Obj), Below w.heap.size w X → Below w.heap.size w (X.alloc o) := fun _ o h => below_alloc (Nat.le_refl _) o h
  have hst := fun (w : World) (a : Addr) (v : Value) (m : Mode) (hv : v.oneCell' = true) => run_store Tryd.prog w a v m hv
  have HSh : Hid (∀ W : World, Below w.heap.size w W → W.ShapedOpen Tryd.prog) := hide fun W h => shaped_below2 hSh h
  have HMw := hide (fun (W : World) (hW : Below w.heap.size w W) => hMw.below (hMw.lt (by decide)) hW)
  have HTy := hide (fun (W : World) (hW : Below w.heap.size w W) => hTy.below (hTy.lt (by decide)) hW)
  clear hSh hMw hTy
  -- the reference
  refine Calls.mono (s_ParseSymbol D x0 hb0 _) ?_
  rintro en W1 ⟨us, Fz, rfl, hR, hf, hb⟩
  obtain ⟨zr0, zr1, rfl⟩ := list2 ((SymR.good D).len hR)
  have ho := SymR.one hR
  have ozr0 := ho zr0 (by simp)
  have ozr1 := ho zr1 (by simp)
  have hRk := hide hR
  have hfk := hide hf
  have Hlo_z : Hid (∀ b ∈ Fz, w.heap.size ≤ b) := hide hf.from_
  have Hhi_z : Hid (∀ b ∈ Fz, b < W1.heap.size) := hide hf.lt
  have hW1 : Below w.heap.size w W1 := below_step (by (repeat (first | assumption | exact Below.refl _ _ | apply Below.drew | refine below_alloc (Nat.le_refl _) _ ?_))) (Nat.le_refl _) hb
  have zW1 : w.heap.size ≤ W1.heap.size := hW1.size
  clear hb
  clear ho hR hf
  have hbx := below_alloc (Nat.le_refl _) (Obj.cells #[zr0, zr1] 24) hW1
  go_wp2_with fail
  clear hbx
  have Cx := CellsAt.new W1 [zr0, zr1] 24
  have hz := World.size_alloc W1 (Obj.cells #[zr0, zr1] 24)
  have hst0 : Below W1.heap.size W1 (W1.alloc (Obj.cells #[zr0, zr1] 24)) := (Below.refl _ _).alloc (Nat.le_refl _) _
  generalize W1.alloc (Obj.cells #[zr0, zr1] 24) = V1 at Cx hz hst0 ⊢
  have zV1 : W1.heap.size + 1 ≤ V1.heap.size := Nat.le_of_eq hz.symm
  have hbW : ∀ X : World, Below V1.heap.size V1 X → Below W1.heap.size W1 X := fun X hX => hst0.trans (hX.mono (by omega))
  have hbb : ∀ X : World, Below V1.heap.size V1 X → Below w.heap.size w X := fun X hX => hW1.trans ((hbW X hX).mono hW1.size)
  have Hw_1 : Hid (∀ X : World, Below V1.heap.size V1 X → Below w.heap.size w X) := hide fun X hX => Hw_0.out X (hbb X hX)
  clear Hw_0
  have cz_0_1 := cell_rule Cx (n := V1.heap.size) (by omega) 0 (v := zr0) rfl
  have cz_1_1 := cell_rule Cx (n := V1.heap.size) (by omega) 1 (v := zr1) rfl
  have hV1 : Below V1.heap.size V1 V1 := Below.refl _ _
  have hD1 : ∀ X : World, Below V1.heap.size V1 X → Below V1.heap.size V1 X.drew := fun _ h => h.drew
  have hA1 : ∀ (X : World) (o : Obj), Below V1.heap.size V1 X → Below V1.heap.size V1 (X.alloc o) := fun _ o h => below_alloc (Nat.le_refl _) o h
  clear Cx hz hst0
  have hRv := fun (X : World) (hX : Below V1.heap.size V1 X) => (SymR.good D).below hRk.out (hbW X hX) Hhi_z.out
  have Hz_1 : Hid (∀ X : World, Below V1.heap.size V1 X → SymR D X (parseY x0).1 [zr0, zr1] Fz) := hide hRv
  have Rz_1 : Hid (∀ X : World, Below V1.heap.size V1 X → Fresh (w.heap.size) X Fz) := hide fun X hX => hfk.out.below (hbW X hX)
  clear hRk hfk hRv ozr0 ozr1
  clear hbW hbb hW1 hw hD0 hA0
  -- the program
  refine Calls.mono (i_ParseSymbol D x0 hb0 _ (HSh.out _ (Hw_1.out _ (by (repeat (first | assumption | exact Below.refl _ _ | apply Below.drew | refine below_alloc (Nat.le_refl _) _ ?_))))) (HMw.out _ (Hw_1.out _ (by (repeat (first | assumption | exact Below.refl _ _ | apply Below.drew | refine below_alloc (Nat.le_refl _) _ ?_))))) (HTy.out _ (Hw_1.out _ (by (repeat (first | assumption | exact Below.refl _ _ | apply Below.drew | refine below_alloc (Nat.le_refl _) _ ?_)))))) ?_
  rintro en W2 ⟨us, Fg, rfl, hR, hf, hb⟩
  obtain ⟨gr0, gr1, rfl⟩ := list2 ((SymR.good D).len hR)
  have ho := SymR.one hR
  have ogr0 := ho gr0 (by simp)
  have ogr1 := ho gr1 (by simp)
  have hRk := hide hR
  have hfk := hide hf
  have Hlo_g : Hid (∀ b ∈ Fg, V1.heap.size ≤ b) := hide hf.from_
  have Hhi_g : Hid (∀ b ∈ Fg, b < W2.heap.size) := hide hf.lt
  have hW2 : Below V1.heap.size V1 W2 := below_step (by (repeat (first | assumption | exact Below.refl _ _ | apply Below.drew | refine below_alloc (Nat.le_refl _) _ ?_))) (Nat.le_refl _) hb
  have zW2 : V1.heap.size ≤ W2.heap.size := hW2.size
  clear hb
  clear ho hR hf
  have hbx := below_alloc (Nat.le_refl _) (Obj.cells #[gr0, gr1] 24) hW2
  go_wp2_with fail
  clear hbx
  have Cx := CellsAt.new W2 [gr0, gr1] 24
  have hz := World.size_alloc W2 (Obj.cells #[gr0, gr1] 24)
  have hst0 : Below W2.heap.size W2 (W2.alloc (Obj.cells #[gr0, gr1] 24)) := (Below.refl _ _).alloc (Nat.le_refl _) _
  generalize W2.alloc (Obj.cells #[gr0, gr1] 24) = V2 at Cx hz hst0 ⊢
  have zV2 : W2.heap.size + 1 ≤ V2.heap.size := Nat.le_of_eq hz.symm
  have hbW : ∀ X : World, Below V2.heap.size V2 X → Below W2.heap.size W2 X := fun X hX => hst0.trans (hX.mono (by omega))
  have hbb : ∀ X : World, Below V2.heap.size V2 X → Below V1.heap.size V1 X := fun X hX => hW2.trans ((hbW X hX).mono hW2.size)
  have cz_0_2 := fun (X : World) (hX : Below V2.heap.size V2 X) => cz_0_1 X (hbb X hX)
  have cz_1_2 := fun (X : World) (hX : Below V2.heap.size V2 X) => cz_1_1 X (hbb X hX)
  have Hz_2 := hide (fun (X : World) (hX : Below V2.heap.size V2 X) => Hz_1.out X (hbb X hX))
  have Rz_2 := hide (fun (X : World) (hX : Below V2.heap.size V2 X) => Rz_1.out X (hbb X hX))
  have Hw_2 : Hid (∀ X : World, Below V2.heap.size V2 X → Below w.heap.size w X) := hide fun X hX => Hw_1.out X (hbb X hX)
  clear cz_0_1 cz_1_1 Hz_1 Rz_1 Hw_1
  have cg_0_2 := cell_rule Cx (n := V2.heap.size) (by omega) 0 (v := gr0) rfl
  have cg_1_2 := cell_rule Cx (n := V2.heap.size) (by omega) 1 (v := gr1) rfl
  have hV2 : Below V2.heap.size V2 V2 := Below.refl _ _
  have hD2 : ∀ X : World, Below V2.heap.size V2 X → Below V2.heap.size V2 X.drew := fun _ h => h.drew
  have hA2 : ∀ (X : World) (o : Obj), Below V2.heap.size V2 X → Below V2.heap.size V2 (X.alloc o) := fun _ o h => below_alloc (Nat.le_refl _) o h
  clear Cx hz hst0
  have hRv := fun (X : World) (hX : Below V2.heap.size V2 X) => (SymR.good D).below hRk.out (hbW X hX) Hhi_g.out
  have Hg_2 : Hid (∀ X : World, Below V2.heap.size V2 X → SymR D X (parseY x0).1 [gr0, gr1] Fg) := hide hRv
  have Rg_2 : Hid (∀ X : World, Below V2.heap.size V2 X → Fresh (V1.heap.size) X Fg) := hide fun X hX => hfk.out.below (hbW X hX)
  clear hRk hfk hRv ogr0 ogr1
  clear hbW hbb hW2 hV1 hD1 hA1
  refine Calls.mono (e_Sym D (parseY x0).1 _ _ Fg Fz _ (Hg_2.out _ (by (repeat (first | assumption | exact Below.refl _ _ | apply Below.drew | refine below_alloc (Nat.le_refl _) _ ?_)))) (Hz_2.out _ (by (repeat (first | assumption | exact Below.refl _ _ | apply Below.drew | refine below_alloc (Nat.le_refl _) _ ?_))))) ?_
  rintro en W3 ⟨rfl, hb⟩
  have hW3 : Below V2.heap.size V2 W3 := below_step (by (repeat (first | assumption | exact Below.refl _ _ | apply Below.drew | refine below_alloc (Nat.le_refl _) _ ?_))) (Nat.le_refl _) hb
  have zW3 : V2.heap.size ≤ W3.heap.size := hW3.size
  clear hb
  go_wp2_with fail
  have hcnt : 1 + sc_Sym D (parseY x0).1 ≤ 1099511627776 := by have h : sc_Sym D (parseY x0).1 ≤ 100000000 := parseY_cnt D x0; omega
  have hMr := Hg_2.out _ (by (repeat (first | assumption | exact Below.refl _ _ | apply Below.drew | refine below_alloc (Nat.le_refl _) _ ?_)))
  have hMf := Rg_2.out _ (by (repeat (first | assumption | exact Below.refl _ _ | apply Below.drew | refine below_alloc (Nat.le_refl _) _ ?_)))
  refine Calls.mono (mm_Sym D _ 1 (parseY x0).1 _ Fg _ hMr hMf (by omega) hcnt) ?_
  rintro en W4 ⟨rfl, hRn, hFn, ha⟩
  have hcur : Below V2.heap.size V2 _ := (by (repeat (first | assumption | exact Below.refl _ _ | apply Below.drew | refine below_alloc (Nat.le_refl _) _ ?_)))
  have zW4 : V2.heap.size ≤ W4.heap.size := Nat.le_trans hcur.size ha.size
  have cz_0_3 := cell_apart ha (cz_0_2 _ hcur) (fun hm => by first | (have := Hlo_g.out _ hm; have := Hhi_g.out _ hm; omega) | exact Hnk_g.out _ hm rfl)
  have cz_1_3 := cell_apart ha (cz_1_2 _ hcur) (fun hm => by first | (have := Hlo_g.out _ hm; have := Hhi_g.out _ hm; omega) | exact Hnk_g.out _ hm rfl)
  have cg_0_3 := cell_apart ha (cg_0_2 _ hcur) (fun hm => by first | (have := Hlo_g.out _ hm; have := Hhi_g.out _ hm; omega) | exact Hnk_g.out _ hm rfl)
  have cg_1_3 := cell_apart ha (cg_1_2 _ hcur) (fun hm => by first | (have := Hlo_g.out _ hm; have := Hhi_g.out _ hm; omega) | exact Hnk_g.out _ hm rfl)
  have qz := ((SymR.good D).apart (Hz_2.out _ hcur) ha (fun b h1 h2 => by have := Hlo_z.out b h1; have := Hhi_z.out b h1; have := Hlo_g.out b h2; have := Hhi_g.out b h2; omega))
  have Hz_3 : Hid (∀ X : World, Below W4.heap.size W4 X → SymR D X (parseY x0).1 [zr0, zr1] Fz) := hide fun X hX => (SymR.good D).below qz hX ((SymR.good D).lt qz)
  have fz := (Rz_2.out _ hcur).apart ha (fun b h1 h2 => by have := Hlo_z.out b h1; have := Hhi_z.out b h1; have := Hlo_g.out b h2; have := Hhi_g.out b h2; omega)
  have Rz_3 : Hid (∀ X : World, Below W4.heap.size W4 X → Fresh (w.heap.size) X Fz) := hide fun X hX => fz.below hX
  have qg := hRn
  have Hg_3 : Hid (∀ X : World, Below W4.heap.size W4 X → SymR D X (sk_Sym D 1 (parseY x0).1) [gr0, gr1] Fg) := hide fun X hX => (SymR.good D).below qg hX ((SymR.good D).lt qg)
  have Rg_3 : Hid (∀ X : World, Below W4.heap.size W4 X → Fresh (V1.heap.size) X Fg) := hide fun X hX => hFn.below hX
  have hapw : Below w.heap.size w W4 := (Hw_2.out _ hcur).trans (ha.below (fun b hb => by have := Hlo_g.out b hb; omega) (by have := (Hw_2.out _ hcur).size; omega))
  have Hw_3 : Hid (∀ X : World, Below W4.heap.size W4 X → Below w.heap.size w X) := hide fun X hX => hapw.trans (hX.mono hapw.size)
  clear cz_0_2 cz_1_2 cg_0_2 cg_1_2 Hz_2 Hg_2 Rz_2 Rg_2 Hw_2 hapw hcur ha hMr hMf hRn hFn qz qg fz
  clear hD2 hA2
  have hW4 : Below W4.heap.size W4 W4 := Below.refl _ _
  have hD3 : ∀ X : World, Below W4.heap.size W4 X → Below W4.heap.size W4 X.drew := fun _ h => h.drew
  have hA3 : ∀ (X : World) (o : Obj), Below W4.heap.size W4 X → Below W4.heap.size W4 (X.alloc o) := fun _ o h => below_alloc (Nat.le_refl _) o h
  go_wp2_with fail
  refine Calls.mono (hm_Sym D 1 (parseY x0).1 _ Fg _ (Hg_3.out _ (by (repeat (first | assumption | exact Below.refl _ _ | apply Below.drew | refine below_alloc (Nat.le_refl _) _ ?_)))) (by omega) hcnt) ?_
  rintro en W5 ⟨rfl, hb⟩
  have hW5 : Below W4.heap.size W4 W5 := below_step (by (repeat (first | assumption | exact Below.refl _ _ | apply Below.drew | refine below_alloc (Nat.le_refl _) _ ?_))) (Nat.le_refl _) hb
  have zW5 : W4.heap.size ≤ W5.heap.size := hW5.size
  clear hb
  go_wp2_with fail
  -- the program again
  refine Calls.mono (i_ParseSymbol D x0 hb0 _ (HSh.out _ (Hw_3.out _ (by (repeat (first | assumption | exact Below.refl _ _ | apply Below.drew | refine below_alloc (Nat.le_refl _) _ ?_))))) (HMw.out _ (Hw_3.out _ (by (repeat (first | assumption | exact Below.refl _ _ | apply Below.drew | refine below_alloc (Nat.le_refl _) _ ?_))))) (HTy.out _ (Hw_3.out _ (by (repeat (first | assumption | exact Below.refl _ _ | apply Below.drew | refine below_alloc (Nat.le_refl _) _ ?_)))))) ?_
  rintro en W6 ⟨us, Fh, rfl, hR, hf, hb⟩
  obtain ⟨hr0, hr1, rfl⟩ := list2 ((SymR.good D).len hR)
  have ho := SymR.one hR
  have ohr0 := ho hr0 (by simp)
  have ohr1 := ho hr1 (by simp)
  have hRk := hide hR
  have hfk := hide hf
  have Hlo_h : Hid (∀ b ∈ Fh, W5.heap.size ≤ b) := hide hf.from_
  have Hhi_h : Hid (∀ b ∈ Fh, b < W6.heap.size) := hide hf.lt
  have hW6 : Below W4.heap.size W4 W6 := below_step (by (repeat (first | assumption | exact Below.refl _ _ | apply Below.drew | refine below_alloc (Nat.le_refl _) _ ?_))) (Nat.le_refl _) hb
  have zW6 : W4.heap.size ≤ W6.heap.size := hW6.size
  clear hb
  clear ho hR hf
  have hbx := below_alloc (Nat.le_refl _) (Obj.cells #[hr0, hr1] 24) hW6
  go_wp2_with fail
  clear hbx
  have Cx := CellsAt.new W6 [hr0, hr1] 24
  have hz := World.size_alloc W6 (Obj.cells #[hr0, hr1] 24)
  have hst0 : Below W6.heap.size W6 (W6.alloc (Obj.cells #[hr0, hr1] 24)) := (Below.refl _ _).alloc (Nat.le_refl _) _
  generalize W6.alloc (Obj.cells #[hr0, hr1] 24) = V3 at Cx hz hst0 ⊢
  have zV3 : W6.heap.size + 1 ≤ V3.heap.size := Nat.le_of_eq hz.symm
  have hbW : ∀ X : World, Below V3.heap.size V3 X → Below W6.heap.size W6 X := fun X hX => hst0.trans (hX.mono (by omega))
  have hbb : ∀ X : World, Below V3.heap.size V3 X → Below W4.heap.size W4 X := fun X hX => hW6.trans ((hbW X hX).mono hW6.size)
  have cz_0_4 := fun (X : World) (hX : Below V3.heap.size V3 X) => cz_0_3 X (hbb X hX)
  have cz_1_4 := fun (X : World) (hX : Below V3.heap.size V3 X) => cz_1_3 X (hbb X hX)
  have cg_0_4 := fun (X : World) (hX : Below V3.heap.size V3 X) => cg_0_3 X (hbb X hX)
  have cg_1_4 := fun (X : World) (hX : Below V3.heap.size V3 X) => cg_1_3 X (hbb X hX)
  have Hz_4 := hide (fun (X : World) (hX : Below V3.heap.size V3 X) => Hz_3.out X (hbb X hX))
  have Rz_4 := hide (fun (X : World) (hX : Below V3.heap.size V3 X) => Rz_3.out X (hbb X hX))
  have Hg_4 := hide (fun (X : World) (hX : Below V3.heap.size V3 X) => Hg_3.out X (hbb X hX))
  have Rg_4 := hide (fun (X : World) (hX : Below V3.heap.size V3 X) => Rg_3.out X (hbb X hX))
  have Hw_4 : Hid (∀ X : World, Below V3.heap.size V3 X → Below w.heap.size w X) := hide fun X hX => Hw_3.out X (hbb X hX)
  clear cz_0_3 cz_1_3 cg_0_3 cg_1_3 Hz_3 Hg_3 Rz_3 Rg_3 Hw_3
  have ch_0_4 := cell_rule Cx (n := V3.heap.size) (by omega) 0 (v := hr0) rfl
  have ch_1_4 := cell_rule Cx (n := V3.heap.size) (by omega) 1 (v := hr1) rfl
  have hV3 : Below V3.heap.size V3 V3 := Below.refl _ _
  have hD4 : ∀ X : World, Below V3.heap.size V3 X → Below V3.heap.size V3 X.drew := fun _ h => h.drew
  have hA4 : ∀ (X : World) (o : Obj), Below V3.heap.size V3 X → Below V3.heap.size V3 (X.alloc o) := fun _ o h => below_alloc (Nat.le_refl _) o h
  clear Cx hz hst0
  have hRv := fun (X : World) (hX : Below V3.heap.size V3 X) => (SymR.good D).below hRk.out (hbW X hX) Hhi_h.out
  have Hh_4 : Hid (∀ X : World, Below V3.heap.size V3 X → SymR D X (parseY x0).1 [hr0, hr1] Fh) := hide hRv
  have Rh_4 : Hid (∀ X : World, Below V3.heap.size V3 X → Fresh (W5.heap.size) X Fh) := hide fun X hX => hfk.out.below (hbW X hX)
  clear hRk hfk hRv ohr0 ohr1
  clear hbW hbb hW6 hW4 hD3 hA3
  refine Calls.mono (e_Sym D (parseY x0).1 _ _ Fh Fz _ (Hh_4.out _ (by (repeat (first | assumption | exact Below.refl _ _ | apply Below.drew | refine below_alloc (Nat.le_refl _) _ ?_)))) (Hz_4.out _ (by (repeat (first | assumption | exact Below.refl _ _ | apply Below.drew | refine below_alloc (Nat.le_refl _) _ ?_))))) ?_
  rintro en W7 ⟨rfl, hb⟩
  have hW7 : Below V3.heap.size V3 W7 := below_step (by (repeat (first | assumption | exact Below.refl _ _ | apply Below.drew | refine below_alloc (Nat.le_refl _) _ ?_))) (Nat.le_refl _) hb
  have zW7 : V3.heap.size ≤ W7.heap.size := hW7.size
  clear hb
  go_wp2_with fail
  refine Calls.mono (hm_Sym D 1 (parseY x0).1 _ Fg _ (Hg_4.out _ (by (repeat (first | assumption | exact Below.refl _ _ | apply Below.drew | refine below_alloc (Nat.le_refl _) _ ?_)))) (by omega) hcnt) ?_
  rintro en W8 ⟨rfl, hb⟩
  have hW8 : Below V3.heap.size V3 W8 := below_step (by (repeat (first | assumption | exact Below.refl _ _ | apply Below.drew | refine below_alloc (Nat.le_refl _) _ ?_))) (Nat.le_refl _) hb
  have zW8 : V3.heap.size ≤ W8.heap.size := hW8.size
  clear hb
  go_wp2_with fail
  go_ret
  exact ⟨rfl, Hw_4.out _ (by (repeat (first | assumption | exact Below.refl _ _ | apply Below.drew | refine below_alloc (Nat.le_refl _) _ ?_)))⟩
theorem words_gen (P : Program) {w : World} {r : List (String × DataW Unit)} (h : laidMet P (("loop.example/g00512/impl.modeWords", Rows.laid_loop_example_g00512_impl_modeWords) :: r) w) : laidMet P (("loop.example/g00512/impl.modeWords", .agg ([[105, 110, 104], [115, 121, 110], [99, 111, 108]].map fun z => .lit (.string z))) :: r) w := h
theorem walk (w : World) (x0 : ByteArray) (hx0 : x0.size ≤ maxLen) (hL : laidMet Tryd.prog Rows.fnExactParseSymbolRow.laid w) (hsh : w.ShapedOpen Tryd.prog) : Calls Tryd.prog 3 #[.string x0] w fun en w' => en = .returned (.bool true) ∧ Below w.heap.size w w' := by
  have hm : WordsIs w 0 modeWs := words_of_head (P := Tryd.prog) (zs := [[105, 110, 104], [115, 121, 110], [99, 111, 108]]) (t := 57) (e := 9) (n := 3) (by kernel_rfl) (by kernel_rfl) Tryd.underlying57 Tryd.underlying9 (by kernel_rfl) (by kernel_rfl) hL.tail
  have ht : WordsIs w 1 typeWs := words_of_head (P := Tryd.prog) (zs := [[110, 117, 109], [115, 101, 116], [98, 111, 111, 108], [110, 111, 100, 101]]) (t := 58) (e := 9) (n := 4) (by kernel_rfl) (by kernel_rfl) Tryd.underlying58 Tryd.underlying9 (by kernel_rfl) (by kernel_rfl) hL.tail.tail
  exact walk0 w x0 hx0 hsh hm ht

/-- The settled world, the listed variables laid: one start that fits. -/
noncomputable def low : Nat := (World.holding Tryd.prog default ⟨#[], #[], []⟩).heap.size
noncomputable def laidWorld (os : Os) : World :=
  { World.holding Tryd.prog os ⟨#[], #[], []⟩ with heap := (((((World.holding Tryd.prog os ⟨#[], #[], []⟩).heap.modify ((Tryd.prog.globalNamed "unicode/utf8.acceptRanges").getD 0) (putG (dcells Rows.laid_unicode_utf8_acceptRanges))).modify ((Tryd.prog.globalNamed "loop.example/g00512/impl.modeWords").getD 0) (putG (dcells Rows.laid_loop_example_g00512_impl_modeWords))).modify ((Tryd.prog.globalNamed "loop.example/g00512/impl.typeWords").getD 0) (putG (dcells Rows.laid_loop_example_g00512_impl_typeWords))).modify ((Tryd.prog.globalNamed "unicode/utf8.first").getD 0) (putG (dcells Rows.laid_unicode_utf8_first))) }
set_option maxRecDepth 100000 in
theorem laid_met (os : Os) (args : Array Value) : laidMet Tryd.prog Rows.fnExactParseSymbolRow.laid ((laidWorld os).forCall (fun _ _ => 0) ⟨#[], args, []⟩).memory :=
  laidMet_of_run' 8 (by kernel_rfl) (by kernel_rfl)
set_option maxRecDepth 100000 in
theorem lifted (os : Os) (started : os.Started) (H : Type) (enc : TypeId × Value → H) :
    ReturnsInHanded {} Tryd.checked os 3 .any (fun w args => (Rows.fnExactParseSymbolSpec.pre enc Tryd.prog Tryd.f3 Rows.fnExactParseSymbolRow.domain false w args ∧ laidMet Tryd.prog Rows.fnExactParseSymbolRow.laid w) ∧ sizedMet enc Tryd.prog Tryd.f3 (OpenSpec.ofChange Rows.fnExactParseSymbolSpec) false w args) (Rows.fnExactParseSymbolSpec.post enc Tryd.prog Tryd.f3 false true false false) := by
  refine returns_laid (C := Tryd.checked) (X := fun w _ => laidMet Tryd.prog Rows.fnExactParseSymbolRow.laid w) (fun _ _ _ hh h => h.of_heap hh) own started (by kernel_rfl) Tryd.func3
    (ChangeSpec.witness_at (enc := enc) (C := Tryd.checked) (os := os) (X := fun w _ => laidMet Tryd.prog Rows.fnExactParseSymbolRow.laid w) false (laidWorld os) #[.string ByteArray.empty] 12 rfl (by kernel_rfl) (by kernel_rfl) (by kernel_rfl) (by kernel_rfl) (by kernel_rfl) (laid_met os _)) ?_
  intro W base args ds gs before hval0 hW hL hsh
  have hval : ∀ (j : Nat) t v, Tryd.f3.params[j]? = some t → args[j]? = some v → Value.okWide Tryd.prog W .any base t v := hval0
  have hW' := hW
  obtain ⟨p, q, hA0, hV, rfl, hfz, hnd⟩ := hW
  have hA : DataW.TrodAll enc Tryd.prog W 0 (fun _ => true) true Tryd.f3.params.toList args.toList ds p := hA0
  rw [Tryd.params3] at hA hval
  obtain ⟨v0, vs0, d0, ds0, p0, q0, hargs, rfl, rfl, h0, r0x⟩ := trodAll_cons hA
  obtain ⟨rfl, rfl, rfl⟩ := trodAll_nil r0x
  obtain rfl : args = #[v0] := by cases args; simp_all
  obtain ⟨gv0, gv1, rfl⟩ : ∃ gv0 gv1, gs = [gv0, gv1] := by have h9 := vars_len hV; match gs, h9 with | [gv0, gv1], _ => exact ⟨gv0, gv1, rfl⟩
  obtain ⟨a0, rfl, rfl, rfl, w0⟩ := ChangeMaps.open_string Tryd.underlying9 (hval 0 9 v0 rfl rfl) h0
  clear hA0 hval0
  refine (walk W a0 w0 hL hsh).mono fun e W' ⟨he, hb⟩ => ?_
  exact ⟨_, he, law_postV hW' hb (by kernel_rfl) (by kernel_rfl) (by kernel_rfl) Tryd.underlying4 (by kernel_rfl) rfl⟩

set_option maxHeartbeats 4000000 in
theorem over : Rows.fnExactParseSymbolRow.holds Tryd.pinned (OpenSpec.ofChange Rows.fnExactParseSymbolSpec) :=
  OpenClaim.holds_of_wide 3 Tryd.f3 rfl rfl rfl rfl rfl rfl rfl ⟨rfl, rfl, rfl, rfl, rfl⟩ rfl rfl rfl rfl rfl (by as_aux_lemma => kernel_rfl) Tryd.func3 (by as_aux_lemma => kernel_rfl)
    (of_decide_eq_true (by as_aux_lemma => kernel_rfl)) (by unfold Func.isWrapper; first | (rw [if_pos (by as_aux_lemma => decide +kernel)]; as_aux_lemma => kernel_rfl) | (rw [if_neg (by as_aux_lemma => decide +kernel)]; exact ⟨rfl, rfl⟩))
    (fun os started H enc _ => lifted os started H enc)

/-- The statement: the tied card. -/
theorem proved : Rows.FnExactParseSymbolCardSaid :=
  Claim7.holds_tied_plain_at .later [] [.data, .widerDeep, .widerDeep, .pinned] true (true, "355930d0589be338aae0bef9a31ce51361e8c91ffeae62b9f659ec90b138ac02") true
    over (fun _ h => by cases h) (by kernel_rfl) (fun _ h => by cases h) fnExactParseSymbol_row_tie rfl ⟨rfl, rfl⟩ (by kernel_rfl) rfl
    (fun f fn hf hfn => by
      obtain rfl : f = 3 := Option.some.inj ((show Tryd.prog.funcNamed "loop.example/g00512/laws.FnExactParseSymbol" = some 3 by kernel_rfl).symm.trans hf) |>.symm
      obtain rfl : fn = Tryd.f3 := (Option.some.inj (Tryd.func3.symm.trans hfn)).symm
      exact ⟨by kernel_rfl, fun j t ht => by
        rw [Tryd.params3] at ht
        rcases j with _ | j
        · obtain rfl := Option.some.inj ht
          kernel_rfl
        · simp at ht⟩)
    (by kernel_rfl)
#print axioms proved
end Go.Proofs.YtigdciegnpejoaaDoor.fnExactParseSymbol
